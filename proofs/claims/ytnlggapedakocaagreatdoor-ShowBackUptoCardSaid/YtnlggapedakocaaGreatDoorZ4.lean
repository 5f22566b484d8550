/- ShowBack of the given program, part 4 of 6 of the proof: for all arguments within the bound the law answers true, and each argument reads behind the call as before. Conditions: those of the given card. -/
import Derived.Test.YtnlggapedakocaaGreatDoorZ3
import Derived.Lib.Overlaps
import Derived.Lib.Bytealg
import Derived.Lib.LaidTab
import Derived.Shelf.Strconv.Itoa4
import Derived.Test.YtnlggapedakocaaGreatDoorTie
import Derived.WalkKit
import Derived.OpenShut
import Derived.Deep.DeepHandedRow
import Derived.Below
import Derived.Shelf.Strings.OnBuilder
import Derived.Test.YtnlggapedakocaaGreatDoorProg
import Derived.Shelf.Strings.Builder1
import Derived.Shelf.Strings.FuncGrows
set_option maxHeartbeats 1600000
set_option linter.all false
set_option linter.unusedVariables false
set_option linter.unusedSimpArgs false
set_option linter.unnecessarySimpa false
section
namespace Go.Am
variable {P:Program} {n:Nat} {H:Imm} {μ:Mu} {env:Env} {hp:Hp} {a:Act} {w:World}
def dEnd (P:Program) (k:Nat) (rs:List IOp) (Q:Res->Prop) (rec:Bool) (g:FuncId) (cs:List V):Qs
 | .normal,env,hp|.ret,env,hp=>∃ E h,Wk E h env hp/\lq0 P rec g cs none E h λenv' hp'=>∃ E' h',Wk E' h' env' hp'/\retX k rs Q .ret E' h'
 | .pan p,env,hp=>p.pure=true/\∃ E h,Wk E h env hp/\lq0 P rec g cs (some p) E h λenv' hp'=>match rec with
  | true=>∃ E' h',Wk E' h' env' hp'/\retX k rs Q .ret E' h'
  | false=>retX k rs Q (.pan p) env' hp'
 | .exit _,_,_=>False
theorem mb0 {m:Sz} {fn:Func} {rs:List IOp} {k:Nat} {Q:Res->Prop} {H0:Imm} {μ0:Mu} {hp0:Hp} {w0:World} (k6:g90 P fn.results.toList=some rs) (hS:Sat m H μ env hp a w)
  (hN:Nj H0 μ0 hp0 w0 H μ hp w) (hext:∀ j,j<k->μ (.e j)=μ0 (.e j)) (h:∃ E' h',Wk E' h' env hp/\retX k rs Q .ret E' h') :
  Leaves P fn a.tmps (λe w'=>∃ r H' μ',Q r/\JP H0 μ0 k hp0 w0 r e H' μ' w') [] .returning w:=by
 obtain⟨E,h',hwk,h⟩:=h
 obtain⟨H2,μ2,r1,r2⟩:=hwk m H μ a w hS
 obtain⟨x,x1,x2⟩:=fin_ret k6 r1 (hN.trans r2.toNj) (λj hj=>(r2.ext j).trans (hext j hj)) h
 exact⟨x,x1,x2⟩
theorem J_dfr {f:FuncId} {fc:FCd} {rs:List IOp} {args:List V} {obs:List Ob} {Q:Res->Prop} (rec:Bool) (hf:FnD P f n fc rs) (hlen:args.length<=n)
  (h:vcF P obs.length fc (bV0 0 args) (hpE 0 obs) (wkQ (retX obs.length rs Q)) (dEnd P obs.length rs Q rec)):J P f args obs Q:=by
 intro H μ vs w h1 h2
 obtain⟨fn,c,k1,k2,k3,k4,k5,k6⟩:=hf.ex
 have hrun:(callFunc f vs).run P w=.ok (.enter f vs) w:=by
  have k2':¬ fn.name = "runtime.NumGoroutine":=by simpa using k2
  simp[callFunc,k1,k2',k3]
 unfold ed0
 rw[hrun]
 refine calls_of_wp_defers k1 k3 ?_
 rw[k4]
 have hS:=n90 (w:=w) (hp:=hpE 0 obs) hlen h1 h2
 refine wp_mono (vcF_ok (k:=obs.length) k5 h H μ _ w hS) λe a' w' hpo=>?_
 rcases hpo with hpo|hpo
 ·obtain⟨ex,env',hp',H',μ',q1,q2,q3,q4⟩:=hpo
  have hd:a'.defers=[]:=q4.defers
  have hret:ex=.normal\/ex=.ret->Leaves P fn a'.tmps (λe w'=>∃ r H' μ',Q r/\JP H μ obs.length (hpE 0 obs) w r e H' μ' w') [] .returning w':=by
   intro q
   refine mb0 k6 q4 q3.toNj (λj _=>q3.ext j) ?_
   rcases q with rfl|rfl
   ·obtain⟨E,h,r1,r2⟩:=q1;exact⟨E,h,r1,r2⟩
   ·exact q1
  cases ex with
  | normal=>cases e<;>simp only[Ex.ok] at q2;simp only[bodyPostD,hd];exact hret (.inl rfl)
  | ret=>cases e<;>simp only[Ex.ok] at q2;simp only[bodyPostD,hd];exact hret (.inr rfl)
  | exit i=>exact q1.elim
  | pan v =>
   cases e<;>simp only[Ex.ok] at q2
   obtain⟨x,rfl,hx⟩:=q2
   simp only[bodyPostD,hd]
   exact rV0 (env:=env') (rs:=rs) hx q4.wd q3.toNj (λj _=>q3.ext j) q1
 ·obtain⟨g,cv,dargs,cs,ex,env',hp',H',μ',⟨q0,qe⟩,q1,q2,q3,q5,q4⟩:=hpo
  have hd:a'.defers=[{ target:=.fn (.func g) cv,args:=dargs }]:=q4.defers
  have wk:∀ {E:Env} {h:Hp},Wk E h env' hp'->∃ H2 μ2,Sat ⟨n,[{ target:=.fn (.func g) cv,args:=dargs }]⟩ H2 μ2 E h a' w'/\Nx H' μ' hp' w' H2 μ2 h w'/\RL H2 μ2 cs (dargs++cv):=by
   intro E h hwk
   obtain⟨H2,μ2,r1,r2⟩:=hwk _ H' μ' a' w' q4
   refine⟨H2,μ2,r1,r2,q0.1,λq v hq=>(q0.2 q v hq).mono r2.imm λi hi=>?_⟩
   obtain⟨j,rfl⟩:=V.h90 qe (V.hL0 hq hi)
   exact r2.ext j
  have hinv:(callFunc g (dargs++cv)).run P w'=.ok (.enter g (dargs++cv)) w'->(invoke (.fn (.func g) cv) dargs).run P w'=.ok (.enter g (dargs++cv)) w':=λh=>h
  have hret:(∃ E h,Wk E h env' hp'/\lq0 P rec g cs none E h λenv' hp'=>∃ E' h',Wk E' h' env' hp'/\retX obs.length rs Q .ret E' h') ->
    Leaves P fn a'.tmps (λe w'=>∃ r H' μ',Q r/\JP H μ obs.length (hpE 0 obs) w r e H' μ' w') a'.defers .returning w':=by
   rintro⟨E,h,r1,r2⟩
   obtain⟨H5,μ2,s1,s2,s3⟩:=wk r1
   obtain⟨t1,t2⟩:=ss0 (pv:=none) s1 s3 (u:=.returning) rfl r2
   rw[hd]
   refine leaves_cons (by simp) (hinv t1) (t2.mono λe u' w'' hq=>?_)
   obtain⟨hu,v,rfl,env2,hp2,H2,μ3,p1,p2,p3⟩:=hq
   have:settle u'=.returning:=by rw[hu];cases rec<;>rfl
   simp only[this]
   exact mb0 k6 p2 ((q3.trans s2.toNj).trans p3.toNj) (λj hj=>(p3.ext j).trans ((s2.ext j).trans (q5 j hj))) p1
  cases ex with
  | normal=>cases e<;>simp only[Ex.ok] at q2;exact hret q1
  | ret=>cases e<;>simp only[Ex.ok] at q2;exact hret q1
  | exit i=>exact q1.elim
  | pan p =>
   cases e<;>simp only[Ex.ok] at q2
   obtain⟨x,rfl,hx⟩:=q2
   obtain⟨hp,E,h,r1,r2⟩:=q1
   obtain⟨H5,μ2,s1,s2,s3⟩:=wk r1
   have hx0:R H5 Mu.bot p x:=(hx.pure hp Mu.bot).le s2.imm
   obtain⟨t1,t2⟩:=ss0 (pv:=some p) s1 s3 (u:=.panicking [{ v:=x,recovered:=false }]) ⟨x,rfl,hx0⟩ r2
   simp only[bodyPostD,hd]
   refine leaves_cons (by simp) (hinv t1) (t2.mono λe u' w'' hq=>?_)
   obtain⟨hu,v,rfl,env2,hp2,H2,μ3,p1,p2,p3⟩:=hq
   have hN:=(q3.trans s2.toNj).trans p3.toNj
   have hE:∀ j,j<obs.length->μ3 (.e j)=μ (.e j):=λj hj=>(p3.ext j).trans ((s2.ext j).trans (q5 j hj))
   cases rec with
   | true =>
    have:settle u'=.returning:=by rw[hu];rfl
    simp only[this]
    exact mb0 k6 p2 hN hE p1
   | false =>
    have:settle u'=.panicking [{ v:=x,recovered:=false }]:=by rw[hu];rfl
    simp only[this]
    exact rV0 (env:=env2) (rs:=rs) ((hx0.pure hp μ3).le p3.imm) p2.wd hN hE p1
end Go.Am
end

section
namespace Go.Am
variable {P:Program} {env:Env} {hp:Hp}
@[simp] theorem intO_tmp {t:Nat} {d:Int} {K:Int->Prop}:intO (some (Env.ev env (.tmp t))) d K=bo0 env t (hold λv=>intK v (hold λ_ n=>K n)):=by
 simp only[fg0,hold]
 show intO (some (env.lookup t)) d K=_
 cases h:env.lookup t with
 | none=>simp[intO]
 | some v=>cases v with
  | c x=>cases x<;>simp[intO,intK]
  | _=>simp[intO,intK]
@[simp] theorem intO_const {k:IntKind} {i d:Int} {K:Int->Prop}:intO (some (Env.ev env (.const (.int k i)))) d K=K i:=_root_.id rfl
theorem aV0 {xs:List (List V)} {k:Nat} {e:List V} {K:List V->Prop} (h:xs[k]?=some e):gE0 xs k K=K e:=by simp[gE0,h]
theorem endP {k:Nat} {rs:List IOp} {Q:Res->Prop} {v:V} (h:outV hp (esL 0 k) v (hold λu obs=>Q (.pan u obs))):wkQ (retX k rs Q) (.pan v) env hp:=h
@[simp high] theorem nth_lit0 {α:Type} {x0:α} {l:List α}:(x0::l)[0]?=some x0:=rfl
@[simp high] theorem nth_lit1 {α:Type} {x0 x1:α} {l:List α}:(x0::x1::l)[1]?=some x1:=rfl
@[simp high] theorem nth_lit2 {α:Type} {x0 x1 x2:α} {l:List α}:(x0::x1::x2::l)[2]?=some x2:=rfl
@[simp high] theorem nth_lit3 {α:Type} {x0 x1 x2 x3:α} {l:List α}:(x0::x1::x2::x3::l)[3]?=some x3:=rfl
@[simp high] theorem nth_lit4 {α:Type} {x0 x1 x2 x3 x4:α} {l:List α}:(x0::x1::x2::x3::x4::l)[4]?=some x4:=rfl
@[simp high] theorem nth_lit5 {α:Type} {x0 x1 x2 x3 x4 x5:α} {l:List α}:(x0::x1::x2::x3::x4::x5::l)[5]?=some x5:=rfl
@[simp high] theorem nth_lit6 {α:Type} {x0 x1 x2 x3 x4 x5 x6:α} {l:List α}:(x0::x1::x2::x3::x4::x5::x6::l)[6]?=some x6:=rfl
@[simp high] theorem nth_lit7 {α:Type} {x0 x1 x2 x3 x4 x5 x6 x7:α} {l:List α}:(x0::x1::x2::x3::x4::x5::x6::x7::l)[7]?=some x7:=rfl
@[simp high] theorem nth_lit8 {α:Type} {x0 x1 x2 x3 x4 x5 x6 x7 x8:α} {l:List α}:(x0::x1::x2::x3::x4::x5::x6::x7::x8::l)[8]?=some x8:=rfl
@[simp high] theorem nth_lit9 {α:Type} {x0 x1 x2 x3 x4 x5 x6 x7 x8 x9:α} {l:List α}:(x0::x1::x2::x3::x4::x5::x6::x7::x8::x9::l)[9]?=some x9:=rfl
end Go.Am
end

section
namespace Go.Am
variable {P:Program}
theorem JP.congr {H:Imm} {μ:Mu} {k:Nat} {hp hq:Hp} {w:World} (ho:∀ b,Owns hq μ b ↔ Owns hp μ b) {r:Res} {e:Ending} {H':Imm} {μ':Mu} {w':World} (h:JP H μ k hp w r e H' μ' w'):JP H μ k hq w r e H' μ' w':=by
 have nj:∀ {hp':Hp},Nj H μ hp w H' μ' hp' w'->Nj H μ hq w H' μ' hp' w':=λn =>
  ⟨n.imm,n.os,n.tape,n.output,n.size,λb hb hno=>n.keep b hb λh=>hno ((ho b).2 h),λb h hb=>(ho b).2 (n.own b h hb),λb cs h h0=>(n.fresh b cs h h0).imp id (ho b).2⟩
 cases r with
 | ret v obs=>exact⟨h.1,nj h.2.1,h.2.2⟩
 | pan v obs=>exact⟨h.1,nj h.2.1,h.2.2⟩
def rest (vals:Array Value) (sz k m:Nat):List (List V):=(List.range m).map λj=>(List.range sz).map λq=>V.c (vals.getD ((k+j)*sz+q) undef)
def preO (o' o:Ob):Prop:=o'=o\/∃ ty sz own xs t,o=.row ty sz own (xs++t)/\o'=.row ty sz own xs
theorem preO_row {ty sz:Nat} {own:Bool} {xs t ys:List (List V)} (h:ys=xs++t):preO (.row ty sz own xs) (.row ty sz own ys):=.inr ⟨ty,sz,own,xs,t,by rw[h],rfl⟩
theorem ObOk.pre {H:Imm} {μ:Mu} {w:World} {i:Id} {o o':Ob} (h:ObOk H μ w i o) (hp:preO o' o):ObOk H μ w i o'/\o'.own=o.own:=by
 rcases hp with rfl|⟨ty,sz,own,xs,t,rfl,rfl⟩
 ·exact⟨h,rfl⟩
 ·refine⟨?_,rfl⟩
  rcases h with⟨h1,h2⟩|⟨blk,vals,h1,h2,h3,h4,h5,h6,h7,h8,h9⟩
  ·exact .inl ⟨(List.append_eq_nil_iff.1 h1).1,h2⟩
  ·have get:∀ (k:Nat) (e:List V),xs[k]?=some e->(xs++t)[k]?=some e:=λk e he=>by
    rw[List.getElem?_append_left (List.getElem?_eq_some_iff.1 he).1];exact he
   exact .inr ⟨blk,vals,h1,h2,h3,h4,by simp at h5;omega,λk e he=>h6 k e (get k e he),h7,h8,λk e he=>h9 k e (get k e he)⟩
theorem Wk.pre {env E:Env} {hp h:Hp} (hE:∀ p∈E,bo0 env p.1 (·=p.2)) (hh:∀ p∈h,objK hp p.1 λo=>preO p.2 o):Wk E h env hp:=λn H μ a w hS=>by
 have hob:∀ i o,h.lookup i=some o->∃ o',hp.lookup i=some o'/\preO o o':=by
  intro i o hl
  have:=hh (i,o) (bS0 hl)
  rw[iU0] at this
  exact this
 have hW:=hS.wd
 refine⟨H,μ,⟨hS.defers,hS.size,λs v hs=>?_,⟨λi o hl=>?_,λi j oi oj bi bj hi hoi hj hoj hbi hbj e=>?_,hW.imm,hW.glo⟩⟩,⟨⟨Imm.le_refl H,rfl,rfl,rfl,Nat.le_refl _,λ_ _ _=>rfl,λb hO _=>?_,fr0⟩,λ_=>rfl⟩⟩
 ·have h1:=hE (s,v) (bS0 hs)
  rw[fg0] at h1
  obtain⟨u,h2,rfl⟩:=h1
  exact hS.env s u h2
 ·obtain⟨o',h1,h2⟩:=hob i o hl
  exact ((hW.ob i o' h1).pre h2).1
 ·obtain⟨o1,h1,h2⟩:=hob i oi hi
  obtain⟨o2,k1,k2⟩:=hob j oj hj
  exact hW.inj i j o1 o2 bi bj h1 (by rw[<- ((hW.ob i o1 h1).pre h2).2];exact hoi) k1 (by rw[<- ((hW.ob j o2 k1).pre k2).2];exact hoj) hbi hbj e
 ·obtain⟨i,o,blk,h1,h2,h3,h4⟩:=hO
  obtain⟨o',k1,k2⟩:=hob i o h1
  exact⟨i,o',blk,k1,by rw[<- ((hW.ob i o' k1).pre k2).2];exact h2,h3,h4⟩
end Go.Am
end

section
namespace Go.Am
variable {P:Program} {env:Env} {hp:Hp}
def dfrS (P:Program) (k:Nat) (t:Operand) (args:List Operand) (c:Cd) (QD:FuncId->List V->Qs) (e:Env) (h:Hp):Prop :=
 ∃ g caps vs,Env.ev e t=some (.fn g caps)/\args.mapM (Env.ev e)=some vs/\∃ E h' cs',WkE k E h' cs' e h (vs++caps)/\V.ln0 cs'=true/\vc P c E h' (QD g cs')
theorem fP0 {k c f Q QD}:vcF P k (.seq c f) env hp Q QD=vc P c env hp (hold (mW0 (λe h=>vcF P k f e h Q QD) Q)):=_root_.id rfl
theorem om0 {k v f g Q QD}:vcF P k (.ite v f g) env hp Q QD=evK env v (hold λu=>bQ0 u (hold λt=>(t=true->vcF P k f env hp Q QD)/\(t=false->vcF P k g env hp Q QD))):=by
 simp only[vcF,hold,ca0,ps0]
theorem jZ0 {k c Q QD}:vcF P k (.plain c) env hp Q QD=vc P c env hp Q:=_root_.id rfl
theorem fO0 {k is t args c Q QD}:vcF P k (.dfr is t args c) env hp Q QD=vcIs P env hp is (hold λe h=>dfrS P k t args c QD e h) (hold λv h=>Q (.pan v) [] h):=_root_.id rfl
theorem py0 {k t args c QD} {g:FuncId} {caps vs cs':List V} {E:Env} {h':Hp} (h1:Env.ev env t=some (.fn g caps)) (h2:args.mapM (Env.ev env)=some vs) (hw:WkE k E h' cs' env hp (vs++caps)) (ha:V.ln0 cs'=true)
  (h:vc P c E h' (QD g cs')):dfrS P k t args c QD env hp:=⟨g,caps,vs,h1,h2,E,h',cs',hw,ha,h⟩
theorem JD.mono {rec:Bool} {f:FuncId} {args:List V} {obs:List Ob} {pv:Option V} {Q Q':Res->Prop} (h:JD P rec f args obs pv Q) (hq:∀ r,Q r->Q' r):JD P rec f args obs pv Q':=λH μ vs w u h1 h2 h3=>by
 obtain⟨k1,k2⟩:=h H μ vs w u h1 h2 h3
 refine⟨k1,k2.mono λe u' w' ⟨q1,r,H',μ',q2,q3⟩=>⟨q1,r,H',μ',hq r q2,q3⟩⟩
def dJ (P:Program) (rec:Bool) (g:FuncId) (args:List V) (obs:List Ob) (pv:Option V) (env:Env) (hp:Hp) (ids:List Id) (K:Env->Hp->Prop):Prop :=
 JD P rec g args obs pv λr=>match r with
  | .ret v obs'=>∃ base,gi0 env hp ids base v obs' λ_ env' hp'=>K env' hp'
  | .pan _ _=>False
theorem eE0 {rec:Bool} {g:FuncId} {cs:List V} {pv:Option V} {K:Env->Hp->Prop} (ids:List Id) (hnd:ids.Nodup)
  (h:V.seeL false ids (Hp.frz (.tup (V.bG0 ids (cs++boxes hp ids))) hp) cs (hold λus=>dt0 (toE ids 0) us (hold λargs =>
   fw0 ids (Hp.frz (.tup (V.bG0 ids (cs++boxes hp ids))) hp) ids (hold λobs=>dJ P rec g args obs pv env (Hp.frz (.tup (V.bG0 ids (cs++boxes hp ids))) hp) ids K)))):lq0 P rec g cs pv env hp K :=
 ⟨ids,hnd,h⟩
theorem mx0 {rec:Bool} {g:FuncId} {args:List V} {obs obs':List Ob} {pv:Option V} {ids:List Id} {K:Env->Hp->Prop} {v:V} (h:JD P rec g args obs pv (·=.ret v obs')) (hl:obs'.length<=ids.length)
  (hK:gi0 env hp ids 0 v obs' (hold λ_ env' hp'=>K env' hp')):dJ P rec g args obs pv env hp ids K:=h.mono λr e=>by subst e;exact⟨0,hK⟩
theorem dJ_retB {rec:Bool} {g:FuncId} {args:List V} {obs obs':List Ob} {pv:Option V} {ids:List Id} {K:Env->Hp->Prop} {v:V} (base:Nat) (h:JD P rec g args obs pv (·=.ret v obs'))
  (hK:gi0 env hp ids base v obs' (hold λ_ env' hp'=>K env' hp')):dJ P rec g args obs pv env hp ids K:=h.mono λr e=>by subst e;exact⟨base,hK⟩
theorem mZ0 {k:Nat} {rs:List IOp} {Q:Res->Prop} {rec:Bool} {g:FuncId} {cs:List V} (E:Env) (h:Hp) (hw:Wk E h env hp) (hd:lq0 P rec g cs none E h (wkQ (retX k rs Q) .ret)):dEnd P k rs Q rec g cs .ret env hp:=⟨E,h,hw,hd⟩
theorem dEnd_nrm {k:Nat} {rs:List IOp} {Q:Res->Prop} {rec:Bool} {g:FuncId} {cs:List V} (E:Env) (h:Hp) (hw:Wk E h env hp) (hd:lq0 P rec g cs none E h (wkQ (retX k rs Q) .ret)):dEnd P k rs Q rec g cs .normal env hp:=⟨E,h,hw,hd⟩
theorem mY0 {k:Nat} {rs:List IOp} {Q:Res->Prop} {g:FuncId} {cs:List V} {p:V} (hpu:p.pure=true) (E:Env) (h:Hp) (hw:Wk E h env hp) (hd:lq0 P true g cs (some p) E h (wkQ (retX k rs Q) .ret)):dEnd P k rs Q true g cs (.pan p) env hp:=⟨hpu,E,h,hw,hd⟩
end Go.Am
end

section
namespace Go.Am
set_option maxRecDepth 100000
attribute [local irreducible] vc vcIs vcI vcOp vcD vcDp vcDR vcT vcAR cf0 bb0 panD neG ne pv J bY0 b50 ci0 bo0 evK evsK nthK objK boxK rowK bQ0 intK strK aggK fnK ifcK az0 aA0 ldK ldaK iaK srcK stK appK appD cn0 pvK bT0 a30 b40 bJ0 slAV bX0
abbrev vI (n:Int):V:=.c (.int .i64 n)
abbrev vB (b:Bool):V:=.c (.bool b)
abbrev vS (s:ByteArray):V:=.c (.string s)
abbrev vU (c:UInt8):V:=.c (.int .u8 c.toNat)
theorem kl0 (s:ByteArray) (c:UInt8):Ret prog er0 [vS s,vU c] (vI (Lib.indexByte (sB s) c)) :=
 J_ext (fn:=Go.Proofs.Tryz.f110) Go.Proofs.Tryz.func110 (by kernel_rfl) (by kernel_rfl) (by kernel_rfl) (e:=Extern.BytealgIndexByte.indexByte) (by kernel_rfl) (λH μ us h=>h.two) (λw=>by rw[Lib.run_indexByteString];simp) (λH μ=>.c _)
theorem hu0 (s:ByteArray) (c:UInt8):Ret prog cC0 [vS s,vU c] (vI (Lib.indexByte (sB s) c)):=by
 refine cH0 eL0 (by simp) ?_
 refine rS1 @cp0.eq_1 ?_
 refine ak0 ?_;simp;refine ah0 (kl0 s c) (by simp) ?_
 exact rT0
theorem aQ0 (s:ByteArray) (c:UInt8):Ret prog gU0 [vS s,vU c] (vI (Lib.indexByte (sB s) c)):=by
 refine cH0 ky0 (by simp) ?_
 refine rS1 @ga0.eq_1 ?_
 refine ak0 ?_;simp;refine ah0 (hu0 s c) (by simp) ?_
 exact rT0
theorem jE0 (l:List UInt8) (c:UInt8):Lib.indexByte l c<l.length:=by
 induction l with
 | nil=>simp[Lib.indexByte]
 | cons b l ih =>
  unfold Lib.indexByte
  simp only[List.length_cons]
  split
  ·omega
  ·split<;>omega
theorem cu0 (l:List UInt8) (c:UInt8):0<=Lib.indexByte l c ↔ l.contains c=true:=by
 induction l with
 | nil=>simp[Lib.indexByte]
 | cons b l ih =>
  have hge:=Lib.indexByte_ge l c
  unfold Lib.indexByte
  rw[List.contains_cons,Bool.or_eq_true,<- ih]
  by_cases h1:b=c
  ·subst h1;simp
  ·have h2:¬ c=b:=λhh=>h1 hh.symm
   have h3:(b == c)=false:=by simpa using h1
   have h4:(c == b)=false:=by simpa using h2
   rw[h3,h4]
   by_cases h5:Lib.indexByte l c=-1
   ·rw[h5];simp
   ·have h6:(Lib.indexByte l c == -1)=false:=by simpa using h5
    rw[h6];simp only[Bool.false_eq_true,if_false,false_or];omega
structure LxS where
 s:ByteArray
 at_:Int
 out:List Tok
def LxS.obs (x:LxS):List Ob:=[.box [vS x.s,vI x.at_,.arr (.e 1) 0 x.out.length],.row cg0 4 true (x.out.map Tok.cells)]
theorem a10 (x:LxS) (a e:Int):J prog jb0 [.bp (.e 0) 0,vI a,vI e] x.obs (·=.pan (.ifc lf0 (.agg [vI a,vI e])) x.obs):=by
 refine av0 l70 (by simp[LxS.obs]) ?_
 refine rS4 @ic0.eq_1 @LxS.obs.eq_1 @hpE.eq_1 @hpE.eq_2 ?_
 refine endP ?_
 exact rT0
theorem jG0 (x:LxS) (set:ByteArray) (i:Nat) (hx:x.at_=i) (hs:x.s.size<2 ^ 40) :
  J prog gH0 [.bp (.e 0) 0,vS set] x.obs (·=.ret (vI (bp0 (sB set) (sB x.s) i)) x.obs):=by
 have hz:x.s.size=(sB x.s).length:=rfl
 refine av0 jf0 (by simp[LxS.obs]) ?_
 refine rS5 @fG0.eq_1 @LxS.obs.eq_1 @hpE.eq_1 @hpE.eq_2 hx ?_
 refine aT0 (λj:Nat=>x.s.size-j) (λj=>[(5,vI j),(1,vS set),(0,.bp (.e 0) 0)])
  (λ_=>[(.e 0,.box [vS x.s,vI x.at_,.arr (.e 1) 0 x.out.length]),(.e 1,.row cg0 4 true (x.out.map Tok.cells))])
  (λj=>bp0 (sB set) (sB x.s) j=bp0 (sB set) (sB x.s) i) i rfl (Wk.subs (by simp) (by simp[hx])) ?_
 intro j hj
 refine rS0 ?_
 refine⟨λhl=>?_,λhl=>?_⟩
 ·have hl':j<(sB x.s).length:=by rw[<- hz];exact hl
  refine⟨(sB x.s)[j],by simp[sB],?_⟩
  refine ak0 ?_;simp;refine ah0 (aQ0 set (sB x.s)[j]) (by simp) ?_
  refine rS0 ?_
  refine⟨λhc=>?_,λhc=>?_⟩
  ·have hm:=(cu0 _ _).1 hc
   refine .of (j+1) (by rw[<- hj,m80 hl' hm]) (by omega) (Wk.subs (by simp) (by simp[hx]))
  ·have hm:(sB set).contains (sB x.s)[j]=false:=by
    rw[<- Bool.not_eq_true];intro h;exact hc ((cu0 _ _).2 h)
   rw[n70 hl' hm] at hj
   refine ay0 [] ?_
   exact rT2 hj hx
 ·rw[n60 (by omega)] at hj
  refine ay0 [] ?_
  exact rT2 hj hx
theorem eo0 (s:ByteArray) (i j:Nat):sB (s.extract i j)=((sB s).drop i).take (j-i):=by
 obtain⟨⟨l⟩⟩:=s
 simp[sB,ByteArray.extract,ByteArray.copySlice]
theorem hw0 {s:Bs} {f i:Nat} (h:s[bp0 aH0 s i]?≠some 35):aI0 s (f+1) i=bp0 aH0 s i:=by
 rw[aI0,if_neg h]
theorem mr0 {s:Bs} {f i:Nat} (h:s[bp0 aH0 s i]?=some 35):aI0 s (f+1) i=aI0 s f (if Lib.indexByte (s.drop (bp0 aH0 s i)) 10<0 then s.length else bp0 aH0 s i+(Lib.indexByte (s.drop (bp0 aH0 s i)) 10).toNat):=by
 rw[aI0,if_pos h]
theorem oD0 (x:LxS) (i:Nat) (hx:x.at_=i) (hi:i<=x.s.size) (hs:x.s.size<2 ^ 40) :
  J prog e30 [.bp (.e 0) 0] x.obs (·=.ret (.tup []) ({ x with at_:=aI0 (sB x.s) (x.s.size+1) i }:LxS).obs):=by
 have hz:x.s.size=(sB x.s).length:=rfl
 refine av0 hK0 (by simp[LxS.obs]) ?_
 refine rS4 @ey0.eq_1 @LxS.obs.eq_1 @hpE.eq_1 @hpE.eq_2 ?_
 refine aT0 (λy:Nat × Nat=>y.1) (λy=>[(0,.bp (.e 0) 0)])
  (λy=>[(.e 0,.box [vS x.s,vI y.2,.arr (.e 1) 0 x.out.length]),(.e 1,.row cg0 4 true (x.out.map Tok.cells))])
  (λy=>y.2<=x.s.size/\x.s.size-y.2<y.1/\aI0 (sB x.s) y.1 y.2=aI0 (sB x.s) (x.s.size+1) i) (x.s.size+1,i) ⟨hi,by show x.s.size-i<x.s.size+1;omega,rfl⟩ (Wk.subs (by simp) (by simp[hx])) ?_
 rintro⟨f,j⟩ ⟨hj,hf,hb⟩
 dsimp only at hj hf hb
 obtain⟨f,rfl⟩:∃ f',f=f'+1:=⟨f-1,by omega⟩
 have hge:=kd0 aH0 (sB x.s) j
 have hle:bp0 aH0 (sB x.s) j<=x.s.size:=ke0 hj
 refine rS0 ?_
 refine aa0 [.e 0,.e 1] ?_
 simp
 have hO:=jG0 { x with at_:=j } ⟨⟨[32,10,9]⟩⟩ j rfl hs
 try simp[LxS.obs] at hO
 refine ab0 5 hO ?_
 rw[show sB ⟨⟨[32,10,9]⟩⟩=aH0 from rfl]
 generalize hp:bp0 aH0 (sB x.s) j=p at *
 refine rS0 ?_
 refine⟨λhl=>?_,λhl=>?_⟩
 ·rw[hw0 (by rw[hp,List.getElem?_eq_none (by omega)];simp),hp] at hb
  refine ay0 [] ?_
  simp +contextual (maxSteps:=2000000) (disch:=omega) [-Int.not_lt,-Int.not_le,-Nat.not_lt,-Nat.not_le,sx,<- hb]
 have hl':p<(sB x.s).length:=by omega
 refine⟨(sB x.s)[p],by simp[sB],λhc=>?_,λhc=>?_⟩
 ·rw[hw0 (by rw[hp,List.getElem?_eq_getElem hl'];intro h;apply hc;injection h with h;rw[h];rfl),hp] at hb
  refine ay0 [] ?_
  simp +contextual (maxSteps:=2000000) (disch:=omega) [-Int.not_lt,-Int.not_le,-Nat.not_lt,-Nat.not_le,sx,<- hb]
 have hc':(sB x.s)[p]=35:=by
  apply UInt8.toNat_inj.1;exact_mod_cast hc
 refine ak0 ?_;simp;refine ah0 (aQ0 (x.s.extract p x.s.size) 10) (by simp) ?_
 rw[eo0,List.take_of_length_le (by simp)]
 have hlt:=jE0 ((sB x.s).drop p) 10
 have h0:0<(Lib.indexByte ((sB x.s).drop p) 10)\/(Lib.indexByte ((sB x.s).drop p) 10)<0:=by
  rw[List.drop_eq_getElem_cons hl',hc']
  have hge:=Lib.indexByte_ge ((sB x.s).drop (p+1)) 10
  unfold Lib.indexByte
  by_cases h5:Lib.indexByte ((sB x.s).drop (p+1)) 10=-1
  ·rw[h5];right;decide
  ·left
   have h6:(Lib.indexByte ((sB x.s).drop (p+1)) 10 == -1)=false:=by simpa using h5
   rw[h6,show ((35:UInt8) == 10)=false from rfl]
   simp only[Bool.false_eq_true,if_false];omega
 rw[mr0 (by rw[hp,List.getElem?_eq_getElem hl',hc']),hp] at hb
 generalize hq:Lib.indexByte ((sB x.s).drop p) 10=q at *
 simp only[List.length_drop] at hlt
 refine rS0 ?_
 refine⟨λhq0=>?_,λhq0=>?_⟩
 ·obtain⟨m,rfl⟩:=Int.eq_ofNat_of_zero_le hq0
  rw[if_neg (by omega)] at hb
  refine .of (f,p+m) ⟨by dsimp only;omega,by dsimp only;omega,hb⟩ (by simp) (Wk.subs (by simp) (by simp))
 ·rw[if_pos (by omega)] at hb
  refine .of (f,x.s.size) ⟨by dsimp only;omega,by dsimp only;omega,hb⟩ (by simp) (Wk.subs (by simp) (by simp))
def LxS.obs' (x:LxS):List Ob:=[.box [vS x.s,vI x.at_,.arr (.e 2) 0 x.out.length],.gone,.row cg0 4 true (x.out.map Tok.cells)]
theorem e90 (x:LxS) (t:Tok) (e:Int) (hn:x.out.length<4096) :
  J prog gG0 [.bp (.e 0) 0,t.V,vI e] x.obs (·=.ret (.tup []) ({ x with out:=x.out++[{ t with at_:=x.at_ }],at_:=e }:LxS).obs'):=by
 refine av0 je0 (by simp[LxS.obs]) ?_
 refine rS4 @fF0.eq_1 @LxS.obs.eq_1 @hpE.eq_1 @hpE.eq_2 ?_
 refine ch0 [.l 30 0] ?_
 exact rT2 @LxS.obs'.eq_1 @Tok.ac0
theorem eb0 (x:LxS) (t:Tok) (e:Int) (hn:4096<=x.out.length) (hl:x.out.length<2 ^ 40) :
  J prog gG0 [.bp (.e 0) 0,t.V,vI e] x.obs (·=.pan (.ifc lf0 (.agg [vI x.at_,vI 36])) x.obs):=by
 refine av0 je0 (by simp[LxS.obs]) ?_
 refine rS4 @fF0.eq_1 @LxS.obs.eq_1 @hpE.eq_1 @hpE.eq_2 ?_
 refine aa0 [.e 0,.e 1] ?_
 simp
 have hO:=a10 x x.at_ 36
 try simp[LxS.obs] at hO
 refine af0 hO ?_
 refine rS0 ?_
 refine endP ?_
 exact rT0
end Go.Am
end

section
namespace Go.Am
open Go
open Go.Proofs.YtnlggapedakocaaGreatDoor (Rows.uptoBulk Rows.uptoBulkAll)
set_option maxRecDepth 100000
section
variable {H:Type} {enc:TypeId × Value->H} {W:World} {sp:Nat->Bool} {held:Bool}
theorem c4:Go.Proofs.Tryz.prog.cellsOf 4=1:=by kernel_rfl
theorem wd_imW (hl:∀ p∈qP0,imW W p.1=some p.2):Wd (imW W) Mu.bot (hpE 0 []) W:=by
 refine⟨λi o h=>absurd h (by simp[hpE]),λi j oi oj bi bj h=>absurd h (by simp[hpE]),λb cs h=>?_,hl⟩
 unfold imW at h
 split at h
 ·rename_i c t f hb
  injection h with h;subst h
  exact⟨t,f,hb⟩
 ·cases h
end
end Go.Am
end

section
namespace Go.Am
variable {P:Program}
theorem J_calls {f:FuncId} {fn:Func} {c:Code} {args:List V} {vs:Array Value} {v:V} {x:Value} (hf:P.funcs[f]?=some fn) (hn:(fn.name == "runtime.NumGoroutine")=false) (hb:fn.body=some c)
  (hargs:∀ H μ us,RL H μ args us->us=vs) (hx:∀ H μ,R H μ v x)
  (hc:∀ w,(∀ p∈qP0,∃ ty fz,w.heap[p.1]?=some (.cells p.2 ty fz))->Calls P f vs w λe w'=>e=.returned x/\∃ k os,w'=Sort.grow (w.drewN k) os):Ret P f args v:=by
 intro H μ us w h3 hW
 have:=hargs H μ us h3
 subst this
 have hn':¬ fn.name = "runtime.NumGoroutine":=by simpa using hn
 have hrun:(callFunc f us).run P w=.ok (.enter f us) w:=by simp[callFunc,hf,hn',hb]
 unfold ed0
 rw[hrun]
 have hl:∀ p∈qP0,∃ ty fz,w.heap[p.1]?=some (.cells p.2 ty fz):=λp hp=>hW.imm _ _ (hW.glo p hp)
 refine Calls.mono (hc w hl) ?_
 rintro e w' ⟨rfl,k,os,rfl⟩
 have hheap:∀ b,b<w.heap.size->(Sort.grow (w.drewN k) os).heap[b]?=w.heap[b]?:=by
  intro b hb
  show (w.heap++os)[b]?=w.heap[b]?
  rw[Array.getElem?_append_left hb]
 have hno:∀ b,¬ Owns (hpE 0 []) μ b:=by rintro b ⟨i,o,blk,h,_⟩;simp[hpE] at h
 refine⟨_,H,μ,rfl,⟨x,rfl,hx H μ⟩,⟨Imm.le_refl H,rfl,rfl,rfl,?_,λb hb _=>hheap b hb,λb h _=>h,fr0⟩,⟨λi o hl=>by simp[hpE] at hl,λi j oi oj bi bj hi=>by simp[hpE] at hi,λb cs h=>?_,hW.glo⟩,Nat.le_refl _,λj o hj=>by simp at hj⟩
 ·show w.heap.size<=(w.heap++os).size
  simp
 ·obtain⟨ty,fz,h1⟩:=hW.imm b cs h
  exact⟨ty,fz,by rw[hheap b (Array.getElem?_eq_some_iff.1 h1).1];exact h1⟩
theorem tO0 {w:World} {name:String} (hg:P.globalNamed name=some laidB) (hl:∀ p∈qP0,∃ ty fz,w.heap[p.1]?=some (.cells p.2 ty fz)):Lib.TabIs P w name .u64 Lib.pow10Tab:=by
 obtain⟨ty,fz,h⟩:=hl _ (List.mem_singleton.2 rfl)
 unfold Lib.TabIs World.var?
 rw[hg]
 simp only[Option.bind_some]
 rw[h]
 rfl
end Go.Am
end

section
namespace Go.Proofs.YtnlggapedakocaaGreatDoor
open Go.ChangeShapes Go.WideShapes Go.ChangeAt Go.RowKit
open Go.Am (imW qP0)
set_option maxRecDepth 100000
theorem own:ownKnob Tryz.prog.godebug=none:=by kernel_rfl
theorem gTab:Tryz.prog.globalNamed "internal/strconv.uint64pow10"=some 0:=by kernel_rfl
theorem gTabType:(Tryz.prog.globals[0]?).map (·.type)=some 151:=by kernel_rfl
theorem u151:∃ e,Tryz.prog.underlying 151=some (.array 20 e)/\Tryz.prog.underlying e=some (.int .u64)/\Tryz.prog.cellsOf e=1:=⟨_,Tryz.underlying151,by kernel_rfl,by kernel_rfl⟩
theorem c151:Tryz.prog.cellsOf 151=20:=by kernel_rfl
theorem table {W:World} (h:laidMetH Tryz.prog Rows.showTypesRow.laid W):∀ p∈qP0,imW W p.1=some p.2:=by
 have h':laidMet Tryz.prog Rows.showTypesRow.laid W:=h
 obtain⟨ps,⟨_,_,_,_,_,_,_,_,_,_,⟨_,_,_,_,_,_,_,_,_,_,⟨g,t,cs,fuel,p,q,hg,ht,hv,hd,_⟩,_⟩,_⟩,_⟩:=h'
 obtain rfl:=Option.some.inj (gTab.symm.trans hg)
 obtain rfl:=Option.some.inj (gTabType.symm.trans ht)
 obtain⟨e,u1,u2,u3⟩:=u151
 have hd':DataW.trod (λ_=>()) Tryz.prog W 0 (λ_=>true) false fuel 151 cs.toList=some (Lib.tabData .u64 Lib.pow10Tab,p):=hd
 have hc:=Lib.cells_of_tab u1 u2 u3 c151 hd'
 intro x hx
 obtain rfl:=List.mem_singleton.1 hx
 unfold World.var? at hv
 rw[gTab] at hv
 simp only[Option.bind_some] at hv
 show imW W 0=_
 unfold imW
 split at hv
 ·rename_i c t f hb
  rw[hb]
  injection hv with hv
  subst hv
  have:c=(Lib.pow10Tab.map λz=>Value.int .u64 z).toArray:=by
   rw[<- hc]
  rw[this]
  rfl
 ·cases hv
end Go.Proofs.YtnlggapedakocaaGreatDoor
end

section
namespace Go.Am
variable {P:Program} {H:Imm} {μ:Mu} {hp:Hp} {w:World}
theorem ObOk.below {i:Id} {o:Ob} {w':World} (h:ObOk H μ w i o) (hk:∀ b,b<w.heap.size->w'.heap[b]?=w.heap[b]?):ObOk H μ w' i o:=by
 have hs:∀ {b:Nat} {x:Obj},w.heap[b]?=some x->w'.heap[b]?=some x:=λ{b x} e=>by rw[hk b (Array.getElem?_eq_some_iff.1 e).1];exact e
 cases o with
 | gone=>trivial
 | box cs =>
  obtain⟨blk,vals,ty,h1,h2,h3⟩:=h
  exact⟨blk,vals,ty,h1,hs h2,h3⟩
 | row ty sz own xs =>
  rcases h with h|⟨blk,vals,h1,h2,h3,h4⟩
  ·exact .inl h
  ·exact .inr ⟨blk,vals,h1,h2,hs h3,h4⟩
 | mpo kd kvs =>
  obtain⟨blk,es,clk,h1,h2,h3⟩:=h
  exact⟨blk,es,clk,h1,hs h2,h3⟩
theorem Wd.below {w':World} (hW:Wd H μ hp w) (hk:∀ b,b<w.heap.size->w'.heap[b]?=w.heap[b]?):Wd H μ hp w' :=
 ⟨λi o hl=>(hW.ob i o hl).below hk,hW.inj,λb cs h=>by
  obtain⟨ty,fz,e⟩:=hW.imm b cs h
  exact⟨ty,fz,by rw[hk b (Array.getElem?_eq_some_iff.1 e).1];exact e⟩,hW.glo⟩
theorem rF0 {f:FuncId} {fn:Func} {c:Code} {args:List V} {obs:List Ob} {v:V} (hf:P.funcs[f]?=some fn) (hn:(fn.name == "runtime.NumGoroutine")=false) (hb:fn.body=some c)
  (hc:∀ H μ us w,RL H μ args us->Wd H μ (hpE 0 obs) w->Calls P f us w λe w'=>(∃ x,e=.returned x/\R H μ v x)/\Go.RowKit.Below w.heap.size w w'):J P f args obs (·=.ret v obs):=by
 intro H μ us w h3 hW
 have hn':¬ fn.name = "runtime.NumGoroutine":=by simpa using hn
 have hrun:(callFunc f us).run P w=.ok (.enter f us) w:=by simp[callFunc,hf,hn',hb]
 unfold ed0
 rw[hrun]
 refine Calls.mono (hc H μ us w h3 hW) ?_
 rintro e w' ⟨⟨x,rfl,hx⟩,hB⟩
 exact⟨_,H,μ,rfl,⟨x,rfl,hx⟩,⟨Imm.le_refl H,hB.os,hB.tape,hB.output,hB.size,λb hb _=>hB.block b hb,λb h _=>h,fr0⟩,hW.below hB.block,Nat.le_refl _,λ_ _ _ _ _=>rfl⟩
end Go.Am
end

section
namespace Go.Proofs
open Go.Shelf
def Tryz.nK0:Go.Shelf.Ren:=⟨fun|156=>26|165=>50|166=>46|169=>29|240=>69|241=>73|276=>85|277=>98|n=>n,fun|31=>35|9=>9|3=>3|4=>4|0=>0|20=>20|72=>67|76=>104|70=>64|37=>65|75=>103|127=>108|164=>125|5=>5|80=>80|n=>n,fun|n=>n⟩
theorem Tryz.lays156:Go.Proofs.Lays.n156 Tryz.prog Tryz.nK0:={
 mixed:=by kernel_rfl
 f156:=Tryz.func26.trans (congrArg some (by kernel_rfl))
 f165:=Tryz.func50.trans (congrArg some (by kernel_rfl))
 f166:=Tryz.func46.trans (congrArg some (by kernel_rfl))
 f169:=Tryz.func29.trans (congrArg some (by kernel_rfl))
 f240:=Tryz.func69.trans (congrArg some (by kernel_rfl))
 f241:=Tryz.func73.trans (congrArg some (by kernel_rfl))
 f276:=Tryz.func85.trans (congrArg some (by kernel_rfl))
 f277:=Tryz.func98.trans (congrArg some (by kernel_rfl))
 t0:=Tryz.underlying0
 a0:=Tryz.isAgg0
 z0:=Tryz.sizeOf0
 v0:=Tryz.zeroValue0
 t3:=Tryz.underlying3
 a3:=Tryz.isAgg3
 z3:=Tryz.sizeOf3
 v3:=Tryz.zeroValue3
 t4:=Tryz.underlying4
 a4:=Tryz.isAgg4
 z4:=Tryz.sizeOf4
 v4:=Tryz.zeroValue4
 t9:=Tryz.underlying9
 a9:=Tryz.isAgg9
 z9:=Tryz.sizeOf9
 v9:=Tryz.zeroValue9
 t20:=Tryz.underlying20
 a20:=Tryz.isAgg20
 z20:=Tryz.sizeOf20
 v20:=Tryz.zeroValue20
 t31:=Tryz.underlying35
 a31:=Tryz.isAgg35
 z31:=Tryz.sizeOf35
 v31:=Tryz.zeroValue35
 t37:=Tryz.underlying65
 a37:=Tryz.isAgg65
 z37:=Tryz.sizeOf65
 v37:=Tryz.zeroValue65
 t70:=Tryz.underlying64
 a70:=Tryz.isAgg64
 z70:=Tryz.sizeOf64
 v70:=Tryz.zeroValue64
 t72:=Tryz.underlying67
 a72:=Tryz.isAgg67
 z72:=Tryz.sizeOf67
 v72:=Tryz.zeroValue67
 t75:=Tryz.underlying103
 a75:=Tryz.isAgg103
 z75:=Tryz.sizeOf103
 v75:=Tryz.zeroValue103
 t76:=Tryz.underlying104
 a76:=Tryz.isAgg104
 z76:=Tryz.sizeOf104
 v76:=Tryz.zeroValue104
 t127:=Tryz.underlying108
 a127:=Tryz.isAgg108
 z127:=Tryz.sizeOf108
 v127:=Tryz.zeroValue108
 t164:=Tryz.underlying125
 a164:=Tryz.isAgg125
 z164:=Tryz.sizeOf125
 v164:=Tryz.zeroValue125 }
theorem Tryz.bx156:Builder.Extra Tryz.prog Tryz.nK0:=⟨⟨by kernel_rfl,by kernel_rfl⟩,Tryz.underlying5,Tryz.isAgg5,Tryz.sizeOf5,Tryz.zeroValue5,by kernel_rfl,by kernel_rfl,by kernel_rfl,by decide⟩
end Go.Proofs
end

section
namespace Go.Am
set_option maxRecDepth 100000
attribute [local irreducible] vc vcIs vcI vcOp vcD vcDp vcDR vcT vcAR cf0 bb0 panD neG ne pv J bY0 b50 ci0 bo0 evK evsK nthK objK boxK rowK bQ0 intK strK aggK fnK ifcK az0 aA0 ldK ldaK iaK srcK stK appK appD cn0 pvK bT0 a30 b40 bJ0 slAV bX0
abbrev jJ0 (ts:List Tok) (n:Int) (e:Int):V:=.ifc lV0 (.agg [vI (tk ts n.toNat).at_,vI e])
def pObs (ts:List Tok) (n:Int):List Ob:=[.box [.lst (ts.map Tok.cells),vI n]]
def pAns {α:Type} (ts:List Tok) (g:α->V):PR α->Res
 | .ok (a,n)=>.ret (g a) (pObs ts n)
 | .bad n e=>.pan (jJ0 ts n e) (pObs ts n)
def at0 (ts:List Tok):LxR Nat->Res
 | .ok n=>.ret (.tup []) (pObs ts n)
 | .bad n e=>.pan (jJ0 ts n e) (pObs ts n)
theorem tk_get {ts:List Tok} {n:Nat} (h:n<ts.length):ts[n]=tk ts n:=by
 unfold tk;rw[List.getD_eq_getElem?_getD,List.getElem?_eq_getElem h];rfl
def jX0 (l:List ByteArray) (s:ByteArray):Int:=match l.findIdx? (λx=>decide (s=x)) with|some i=>(i:Int)|none=>-1
theorem jY0 (l:List ByteArray) (s:ByteArray) (hl:l.length<2 ^ 40) :
  Ret prog bR0 [.lst (l.map fM0),vS s] (vI (jX0 l s)):=by
 refine cH0 fu0 (by simp) ?_
 refine rS1 @cM0.eq_1 ?_
 refine aT0 (λi:Nat=>l.length-i) (λi=>[(8,vI i),(7,vI l.length),(0,.lst (l.map fM0)),(1,vS s)]) (λ_=>[]) (λi=>i<=l.length/\∀ (j:Nat) (h:j<l.length),j<i->¬ s=l[j]) 0 (by simp) (Wk.subs (by simp) (by simp)) ?_
 rintro i ⟨hi,ho⟩
 by_cases hlt:i<l.length
 ·have hlt':(i:Int)<l.length:=by omega
  by_cases he:s=l[i]
  ·have:l.findIdx? (λx=>decide (s=x))=some i:=by
    rw[List.findIdx?_eq_some_iff_getElem]
    exact⟨hlt,by simpa using he,λj hj=>by simpa using ho j (by omega) hj⟩
   have hx:jX0 l s=i:=by rw[jX0,this]
   simp +contextual (maxSteps:=2000000) (disch:=omega) [-Int.not_lt,-Int.not_le,-Nat.not_lt,-Nat.not_le,sx,hlt',<- he,hx]
  ·refine rS2 hlt' he ?_
   refine .of (i+1) ⟨by omega,λj h1 h2=>?_⟩ (by omega) (Wk.subs (by simp) (by simp))
   by_cases hj:j=i
   ·subst hj;exact he
   ·exact ho j h1 (by omega)
 ·have hge':¬ (i:Int)<l.length:=by omega
  have:l.findIdx? (λx=>decide (s=x))=none:=by
   rw[List.findIdx?_eq_none_iff]
   intro x hx
   obtain⟨j,hj,rfl⟩:=List.getElem_of_mem hx
   simpa using ho j hj (by omega)
  have hx:jX0 l s=-1:=by rw[jX0,this]
  exact rT2 hge' hx
theorem strIdx_in (l:List ByteArray) (s:ByteArray):0<=jX0 l s ↔ s∈l:=by
 unfold jX0
 cases h:l.findIdx? (λx=>decide (s=x)) with
 | none =>
  rw[List.findIdx?_eq_none_iff] at h
  simp only[show ¬ (0:Int)<=-1 from by omega,false_iff]
  intro hm
  have:=h s hm
  simp at this
 | some i =>
  obtain⟨h1,h2,_⟩:=List.findIdx?_eq_some_iff_getElem.1 h
  have h3:s=l[i]:=by simpa using h2
  simp only[show (0:Int)<=(i:Int) from by omega,true_iff]
  rw[h3];exact List.getElem_mem h1
theorem hR0 (l:List ByteArray) (s:ByteArray) (hl:l.length<2 ^ 40):Ret prog bv0 [.lst (l.map fM0),vS s] (vB (decide (0<=jX0 l s))):=by
 refine cH0 eM0 (by simp) ?_
 refine rS1 @cq0.eq_1 ?_
 refine ak0 ?_;simp;refine ah0 (jY0 l s hl) (by simp) ?_
 exact rT0
theorem nr0 (l:List Bs) (s:ByteArray):decide (0<=jX0 (l.map bS) s)=l.contains (sB s):=by
 rw[Bool.eq_iff_iff,decide_eq_true_eq,strIdx_in,List.contains_iff_mem,List.mem_map]
 constructor
 ·rintro⟨x,h,rfl⟩;exact h
 ·intro h;exact⟨_,h,rfl⟩
theorem g50 (s:ByteArray):Ret prog jd0 [vS s] (vB (bt0 s)):=by
 refine cH0 l90 (by simp) ?_
 refine rS1 @ie0.eq_1 ?_
 have h:=hR0 (mQ0.map bS) s (by decide)
 rw[nr0] at h
 refine ak0 ?_;simp;refine ah0 (h) (by simp) ?_
 exact rT1 @bt0.eq_1
variable {ts:List Tok} {n:Nat}
theorem bk0 (hn:n<ts.length):J prog gL0 [.bp (.e 0) 0] (pObs ts n) (·=.ret (tk ts n).V (pObs ts n)):=by
 refine av0 kq0 (by simp[pObs]) ?_
 refine rS4 @fT0.eq_1 @pObs.eq_1 @hpE.eq_1 @hpE.eq_2 ?_
 refine ay0 [] ?_
 exact rT1 @tk_get
theorem ba0 (hn:n<ts.length) (e:Int):J prog gK0 [.bp (.e 0) 0,vI e] (pObs ts n) (·=.pan (jJ0 ts n e) (pObs ts n)):=by
 refine av0 kp0 (by simp[pObs]) ?_
 refine rS4 @fS0.eq_1 @pObs.eq_1 @hpE.eq_1 @hpE.eq_2 ?_
 refine aa0 [.e 0] ?_
 simp
 have hO:=bk0 hn
 try simp[pObs] at hO
 refine ab0 5 hO ?_
 refine rS0 ?_
 refine endP ?_
 exact rT0
theorem lO0 (hn:n<ts.length) (k:Int) (t:Bs):J prog ik0 [.bp (.e 0) 0,vI k,vS (bS t)] (pObs ts n) (·=.ret (vB (isT ts n k t)) (pObs ts n)):=by
 refine av0 ly0 (by simp[pObs]) ?_
 refine rS4 @hC0.eq_1 @pObs.eq_1 @hpE.eq_1 @hpE.eq_2 ?_
 refine aa0 [.e 0] ?_
 simp
 have hO:=bk0 hn
 try simp[pObs] at hO
 refine ab0 9 hO ?_
 by_cases hk:(tk ts n).kind=k
 ·refine rS1 hk ?_
  refine ay0 [] ?_
  exact rT3 @isT.eq_1 hk @eqS.eq_1
 ·refine rS1 hk ?_
  refine ay0 [] ?_
  exact rT2 @isT.eq_1 hk
theorem al0 (hn:n<ts.length) (hl:ts.length<2 ^ 40) (k:Int) (t:Bs):J prog gP0 [.bp (.e 0) 0,vI k,vS (bS t)] (pObs ts n) (·=.ret (vB (isT ts n k t)) (pObs ts (if isT ts n k t then n+1 else n:Nat))):=by
 refine av0 ku0 (by simp[pObs]) ?_
 refine rS4 @fX0.eq_1 @pObs.eq_1 @hpE.eq_1 @hpE.eq_2 ?_
 refine aa0 [.e 0] ?_
 simp
 have hO:=lO0 hn k t
 try simp[pObs] at hO
 refine ab0 10 hO ?_
 cases h:isT ts n k t with
 | true =>
  refine rS0 ?_
  refine ay0 [] ?_
  exact rT0
 | false =>
  refine rS0 ?_
  refine ay0 [] ?_
  exact rT0
theorem as0 (hn:n<ts.length) (hl:ts.length<2 ^ 40) (t:Bs):J prog gN0 [.bp (.e 0) 0,vS (bS t)] (pObs ts n) (·=at0 ts (aX0 ts n t)):=by
 refine av0 kr0 (by simp[pObs]) ?_
 refine rS4 @fU0.eq_1 @pObs.eq_1 @hpE.eq_1 @hpE.eq_2 ?_
 refine aa0 [.e 0] ?_
 simp
 have hO:=al0 hn hl 4 t
 try simp[pObs] at hO
 refine ab0 6 hO ?_
 cases h:isT ts n 4 t with
 | true =>
  refine rS0 ?_
  refine ch0 [] ?_
  exact rT5 @aX0.eq_1 h @at0.eq_1 @at0.eq_2 @pObs.eq_1
 | false =>
  refine rS0 ?_
  refine aa0 [.e 0] ?_
  simp
  have hO:=ba0 hn 31
  try simp[pObs] at hO
  refine af0 hO ?_
  refine rS0 ?_
  refine endP ?_
  exact rT6 @aX0.eq_1 h @at0.eq_1 @at0.eq_2 @pObs.eq_1 @eS0.eq_1
def pX0 (ts:List Tok) (n:Nat) (k:Int):PR Tok:=if (tk ts n).kind=k/\¬ (k=1/\bt0 (tk ts n).text=true) then .ok (tk ts n,n+1) else eS0 ts n 31
theorem pNext_1:pX0 ts n 1=df0 ts n:=by
 unfold pX0 df0
 cases bt0 (tk ts n).text<;>simp
theorem pNext_2:pX0 ts n 2=pInt ts n:=by
 unfold pX0 pInt
 simp
theorem jL0 (hn:n<ts.length) (hl:ts.length<2 ^ 40) (k:Int):J prog cQ0 [.bp (.e 0) 0,vI k] (pObs ts n) (·=pAns ts Tok.V (pX0 ts n k)):=by
 refine av0 ks0 (by simp[pObs]) ?_
 refine rS4 @fV0.eq_1 @pObs.eq_1 @hpE.eq_1 @hpE.eq_2 ?_
 refine aa0 [.e 0] ?_
 simp
 have hO:=bk0 hn
 try simp[pObs] at hO
 refine ab0 7 hO ?_
 by_cases hk:(tk ts n).kind=k
 ·by_cases hk1:k=1
  ·subst hk1
   refine rS1 hk ?_
   refine ak0 ?_;simp;refine ah0 (g50 (tk ts n).text) (by simp) ?_
   cases hr:bt0 (tk ts n).text with
   | true =>
    refine rS0 ?_
    refine aa0 [.e 0] ?_
    simp
    have hO:=ba0 hn 31
    try simp[pObs] at hO
    refine af0 hO ?_
    refine rS0 ?_
    refine endP ?_
    exact rT7 @pX0.eq_1 hk hr @pAns.eq_1 @pAns.eq_2 @pObs.eq_1 @eS0.eq_1
   | false =>
    refine rS0 ?_
    refine ay0 [] ?_
    exact rT6 @pX0.eq_1 hk hr @pAns.eq_1 @pAns.eq_2 @pObs.eq_1
  ·refine rS2 hk hk1 ?_
   refine ay0 [] ?_
   exact rT6 @pX0.eq_1 hk hk1 @pAns.eq_1 @pAns.eq_2 @pObs.eq_1
 ·refine rS1 hk ?_
  refine aa0 [.e 0] ?_
  simp
  have hO:=ba0 hn 31
  try simp[pObs] at hO
  refine af0 hO ?_
  refine rS0 ?_
  refine endP ?_
  exact rT6 @pX0.eq_1 hk @pAns.eq_1 @pAns.eq_2 @pObs.eq_1 @eS0.eq_1
theorem cL0 (hn:n<ts.length) (d:Nat):J prog gJ0 [.bp (.e 0) 0,vI d] (pObs ts n) (·=match hs0 ts n d with|.ok _=>.ret (.tup []) (pObs ts n)|.bad n e=>.pan (jJ0 ts n e) (pObs ts n)):=by
 refine av0 kn0 (by simp[pObs]) ?_
 by_cases h:24<d
 ·have h':(24:Int)<d:=by omega
  refine rS5 @dK0.eq_1 @pObs.eq_1 @hpE.eq_1 @hpE.eq_2 h' ?_
  refine aa0 [.e 0] ?_
  simp
  have hO:=ba0 hn 32
  try simp[pObs] at hO
  refine af0 hO ?_
  refine rS0 ?_
  refine endP ?_
  exact rT4 @hs0.eq_1 h @eS0.eq_1 @pObs.eq_1
 ·have h':¬ (24:Int)<d:=by omega
  refine rS5 @dK0.eq_1 @pObs.eq_1 @hpE.eq_1 @hpE.eq_2 h' ?_
  refine ch0 [] ?_
  exact rT3 @hs0.eq_1 h @pObs.eq_1
theorem prefix_eq {s p:ByteArray} (h:p.size<=s.size):eqS (s.extract 0 p.size) p=(sB p).isPrefixOf (sB s):=by
 unfold eqS
 rw[Bool.eq_iff_iff,decide_eq_true_eq,List.isPrefixOf_iff_prefix,List.prefix_iff_eq_take]
 have h1:sB (s.extract 0 p.size)=(sB s).take (sB p).length:=by rw[eo0];simp
 constructor
 ·intro h2;rw[<- h1,h2]
 ·intro h2;rw[<- h1] at h2
  obtain⟨⟨p⟩⟩:=p
  generalize s.extract 0 _=q at h2
  obtain⟨⟨q⟩⟩:=q
  simp[sB] at h2;rw[h2]
theorem prefix_no {s p:ByteArray} (h:¬ p.size<=s.size):(sB p).isPrefixOf (sB s)=false:=by
 rw[<- Bool.not_eq_true,List.isPrefixOf_iff_prefix]
 intro h2
 exact h h2.length_le
theorem dI0 (s p:ByteArray):Ret prog cB0 [vS s,vS p] (vB ((sB p).isPrefixOf (sB s))):=by
 refine cH0 eK0 (by simp) ?_
 by_cases h:p.size<=s.size
 ·have h':(p.size:Int)<=s.size:=by omega
  refine rS3 @br0.eq_1 h h' ?_
  simpa[eqS,sB] using prefix_eq h
 ·have h':¬ (p.size:Int)<=s.size:=by omega
  simp +contextual (maxSteps:=2000000) (disch:=omega) [-Int.not_lt,-Int.not_le,-Nat.not_lt,-Nat.not_le,sx,br0,h,h',prefix_no h]
theorem jn0 (s p:ByteArray):Ret prog gT0 [vS s,vS p] (vB ((sB p).isPrefixOf (sB s))):=by
 refine cH0 kx0 (by simp) ?_
 refine rS1 @f00.eq_1 ?_
 refine ak0 ?_;simp;refine ah0 (dI0 s p) (by simp) ?_
 exact rT0
end Go.Am
end

section
namespace Go.Proofs
open Go.Shelf
def Tryz.r00:Go.Shelf.Ren:=⟨fun|246=>70|283=>86|284=>87|285=>88|286=>89|129=>115|317=>114|318=>116|319=>117|320=>118|337=>134|338=>135|n=>n,fun|2=>2|3=>3|9=>9|4=>4|171=>127|0=>0|53=>128|37=>65|5=>5|173=>131|212=>151|51=>152|20=>20|213=>153|46=>52|232=>186|233=>187|n=>n,fun|17=>0|18=>2|19=>3|n=>n⟩
theorem Tryz.lays246:Go.Proofs.LaysM.n246 Tryz.prog Tryz.r00:={
 mixed:=by kernel_rfl
 f129:=Tryz.func115.trans (congrArg some (by kernel_rfl))
 f246:=Tryz.func70.trans (congrArg some (by kernel_rfl))
 f283:=Tryz.func86.trans (congrArg some (by kernel_rfl))
 f284:=Tryz.func87.trans (congrArg some (by kernel_rfl))
 f285:=Tryz.func88.trans (congrArg some (by kernel_rfl))
 f286:=Tryz.func89.trans (congrArg some (by kernel_rfl))
 f317:=Tryz.func114.trans (congrArg some (by kernel_rfl))
 f318:=Tryz.func116.trans (congrArg some (by kernel_rfl))
 f319:=Tryz.func117.trans (congrArg some (by kernel_rfl))
 f320:=Tryz.func118.trans (congrArg some (by kernel_rfl))
 f337:=Tryz.func134.trans (congrArg some (by kernel_rfl))
 f338:=Tryz.func135.trans (congrArg some (by kernel_rfl))
 t0:=Tryz.underlying0
 a0:=Tryz.isAgg0
 z0:=Tryz.sizeOf0
 v0:=Tryz.zeroValue0
 t2:=Tryz.underlying2
 a2:=Tryz.isAgg2
 z2:=Tryz.sizeOf2
 v2:=Tryz.zeroValue2
 t3:=Tryz.underlying3
 a3:=Tryz.isAgg3
 z3:=Tryz.sizeOf3
 v3:=Tryz.zeroValue3
 t4:=Tryz.underlying4
 a4:=Tryz.isAgg4
 z4:=Tryz.sizeOf4
 v4:=Tryz.zeroValue4
 t5:=Tryz.underlying5
 a5:=Tryz.isAgg5
 z5:=Tryz.sizeOf5
 v5:=Tryz.zeroValue5
 t9:=Tryz.underlying9
 a9:=Tryz.isAgg9
 z9:=Tryz.sizeOf9
 v9:=Tryz.zeroValue9
 t20:=Tryz.underlying20
 a20:=Tryz.isAgg20
 z20:=Tryz.sizeOf20
 v20:=Tryz.zeroValue20
 t37:=Tryz.underlying65
 a37:=Tryz.isAgg65
 z37:=Tryz.sizeOf65
 v37:=Tryz.zeroValue65
 t46:=Tryz.underlying52
 a46:=Tryz.isAgg52
 z46:=Tryz.sizeOf52
 v46:=Tryz.zeroValue52
 t51:=Tryz.underlying152
 a51:=Tryz.isAgg152
 z51:=Tryz.sizeOf152
 v51:=Tryz.zeroValue152
 t53:=Tryz.underlying128
 a53:=Tryz.isAgg128
 z53:=Tryz.sizeOf128
 v53:=Tryz.zeroValue128
 t171:=Tryz.underlying127
 a171:=Tryz.isAgg127
 z171:=Tryz.sizeOf127
 v171:=Tryz.zeroValue127
 t173:=Tryz.underlying131
 a173:=Tryz.isAgg131
 z173:=Tryz.sizeOf131
 v173:=Tryz.zeroValue131
 t212:=Tryz.underlying151
 a212:=Tryz.isAgg151
 z212:=Tryz.sizeOf151
 v212:=Tryz.zeroValue151
 t213:=Tryz.underlying153
 a213:=Tryz.isAgg153
 z213:=Tryz.sizeOf153
 t232:=Tryz.underlying186
 a232:=Tryz.isAgg186
 z232:=Tryz.sizeOf186
 v232:=Tryz.zeroValue186
 t233:=Tryz.underlying187
 a233:=Tryz.isAgg187
 z233:=Tryz.sizeOf187
 v233:=Tryz.zeroValue187
 g17:=by kernel_rfl
 g18:=by kernel_rfl
 g19:=by kernel_rfl
 i0:=by kernel_rfl
 i2:=by kernel_rfl
 i3:=by kernel_rfl
 i4:=by kernel_rfl
 i5:=by kernel_rfl
 i9:=by kernel_rfl
 i20:=by kernel_rfl
 i37:=by kernel_rfl
 i46:=by kernel_rfl
 i51:=by kernel_rfl
 i53:=by kernel_rfl
 i171:=by kernel_rfl
 i173:=by kernel_rfl
 i212:=by kernel_rfl
 i232:=by kernel_rfl
 i233:=by kernel_rfl
 m17:=by kernel_rfl
 m18:=by kernel_rfl
 m19:=by kernel_rfl }
end Go.Proofs
end

section
namespace Go.Am
set_option maxRecDepth 100000
attribute [local irreducible] vc vcIs vcI vcOp vcD vcDp vcDR vcT vcAR cf0 bb0 panD neG ne pv J bY0 b50 ci0 bo0 evK evsK nthK objK boxK rowK bQ0 intK strK aggK fnK ifcK az0 aA0 ldK ldaK iaK srcK stK appK appD cn0 pvK bT0 a30 b40 bJ0 slAV bX0
def tL0 (n:Int):ByteArray:=⟨(Lib.itoa n).toArray⟩
theorem oq0 (n:Int) (h0:-9223372036854775808<=n) (h1:n<9223372036854775808):Ret prog gl0 [vI n,vI 10] (vS (tL0 n)):=by
 obtain⟨c,hc⟩:∃ c,Go.Proofs.Tryz.f70.body=some c:=⟨_,rfl⟩
 exact J_calls (fn:=Go.Proofs.Tryz.f70) (c:=c) (vs:=#[.int .i64 n,.int .i64 10]) (x:=.string (tL0 n)) Go.Proofs.Tryz.func70 (by kernel_rfl) hc (λH μ us h=>h.two) (λH μ=>.c _)
  λw hl=>Go.Proofs.Any.internal_strconv_FormatInt_10 Go.Proofs.Tryz.lays246 n h0 (by omega) w (tO0 (by kernel_rfl) hl)
theorem lD0 (n:Int) (h0:-9223372036854775808<=n) (h1:n<9223372036854775808):Ret prog eF0 [vI n] (vS (tL0 n)):=by
 refine cH0 im0 (by simp) ?_
 refine rS1 @ee0.eq_1 ?_
 refine ak0 ?_;simp;refine ah0 (oq0 n h0 h1) (by simp) ?_
 exact rT0
theorem ix0 (n:Int) (h0:-9223372036854775808<=n) (h1:n<9223372036854775808):Ret prog kK0 [vI n] (vS (tL0 n)):=by
 refine cH0 nD0 (by simp) ?_
 refine rS1 @ju0.eq_1 ?_
 refine ak0 ?_;simp;refine ah0 (lD0 n h0 h1) (by simp) ?_
 exact rT0
theorem jp0 (b:Bool):Ret prog gc0 [vB b] (vS (bS (if b then ge0 else dN0))):=by
 have h:Ret prog c20 [vB b] (vS (bS (if b then ge0 else dN0))):=by
  refine cH0 fs0 (by simp) ?_
  cases b
  ·exact rT3 @bD0.eq_1 @ge0.eq_1 @dN0.eq_1
  ·exact rT3 @bD0.eq_1 @ge0.eq_1 @dN0.eq_1
 refine cH0 jA0 (by simp) ?_
 refine rS1 @fk0.eq_1 ?_
 refine ak0 ?_;simp;refine ah0 (h) (by simp) ?_
 exact rT0
def cutP (s p:ByteArray):V:=if (sB p).isPrefixOf (sB s) then .tup [vS (s.extract p.size s.size),vB true] else .tup [vS s,vB false]
theorem ht0 (s p:ByteArray):Ret prog cA0 [vS s,vS p] (cutP s p):=by
 refine cH0 eJ0 (by simp) ?_
 refine rS1 @co0.eq_1 ?_
 refine ak0 ?_;simp;refine ah0 (dI0 s p) (by simp) ?_
 unfold cutP
 cases h:(sB p).isPrefixOf (sB s) with
 | true =>
  have hle:p.size<=s.size:=(List.isPrefixOf_iff_prefix.1 h).length_le
  exact rT0
 | false=>simp +contextual (maxSteps:=2000000) (disch:=omega) [-Int.not_lt,-Int.not_le,-Nat.not_lt,-Nat.not_le,sx]
@[simp] theorem cutP_pure (s p:ByteArray):(cutP s p).pure=true:=by unfold cutP;split<;>simp
theorem dg0 (s p:ByteArray):Ret prog gS0 [vS s,vS p] (cutP s p):=by
 refine cH0 kw0 (by simp) ?_
 refine rS1 @fZ0.eq_1 ?_
 refine ak0 ?_;simp;refine ah0 (ht0 s p) (by simp) ?_
 cases h:(sB p).isPrefixOf (sB s) with
 | true=>simp +contextual (maxSteps:=2000000) (disch:=omega) [-Int.not_lt,-Int.not_le,-Nat.not_lt,-Nat.not_le,sx,cutP,h]
 | false=>simp +contextual (maxSteps:=2000000) (disch:=omega) [-Int.not_lt,-Int.not_le,-Nat.not_lt,-Nat.not_le,sx,cutP,h]
def TEnd (ts:List Tok):Prop:=∀ n,n<ts.length->(tk ts n).kind≠5->n+1<ts.length
variable {ts:List Tok} {n:Nat}
theorem ax0 (hE:TEnd ts) (hn:n<ts.length) {k:Int} {t:Bs} (h:isT ts n k t=true) (hk:k≠5):n+1<ts.length:=by
 unfold isT at h
 simp only[Bool.and_eq_true,decide_eq_true_eq] at h
 exact hE n hn (by rw[h.1];exact hk)
theorem am0 (hE:TEnd ts) (hn:n<ts.length) {t:Bs} {m:Nat} (h:aX0 ts n t=.ok m):n<m/\m<ts.length:=by
 unfold aX0 at h
 split at h
 ·rename_i hi;injection h with h;subst h;exact⟨by omega,ax0 hE hn hi (by decide)⟩
 ·cases h
theorem lL0 (hE:TEnd ts) (hn:n<ts.length) {t:Bs} {m:Nat} (h:kA0 ts n t=.ok m):n<m/\m<ts.length:=by
 unfold kA0 at h
 split at h
 ·rename_i hi;injection h with h;subst h;exact⟨by omega,ax0 hE hn hi (by decide)⟩
 ·cases h
theorem bh0 (hE:TEnd ts) (hn:n<ts.length) {a:Tok} {m:Nat} (h:df0 ts n=.ok (a,m)):n<m/\m<ts.length:=by
 unfold df0 at h
 split at h
 ·rename_i hi;injection h with h;injection h with h1 h2;subst h2;exact⟨by omega,hE n hn (by rw[hi.1];decide)⟩
 ·cases h
theorem r50 (hE:TEnd ts) (hn:n<ts.length) {a:Tok} {m:Nat} (h:pInt ts n=.ok (a,m)):n<m/\m<ts.length:=by
 unfold pInt at h
 split at h
 ·rename_i hi;injection h with h;injection h with h1 h2;subst h2;exact⟨by omega,hE n hn (by rw[hi];decide)⟩
 ·cases h
theorem r60 (hE:TEnd ts) (hn:n<ts.length) {a:Bs} {m:Nat} (h:pKey ts n=.ok (a,m)):n<m/\m<ts.length/\a.length<=4:=by
 unfold pKey at h
 split at h
 ·rename_i hi;injection h with h;injection h with h1 h2;subst h1;subst h2;exact⟨by omega,ax0 hE hn hi (by decide),by decide⟩
 split at h
 ·rename_i hi;injection h with h;injection h with h1 h2;subst h1;subst h2;exact⟨by omega,ax0 hE hn hi (by decide),by decide⟩
 ·cases h
theorem ag0 {α β:Type} {r:LxR α} {f:α->LxR β} {b:β} (h:r.bind f=.ok b):∃ a,r=.ok a/\f a=.ok b:=by
 cases r with
 | ok a=>exact⟨a,rfl,h⟩
 | bad a e=>cases h
theorem fh0 (hE:TEnd ts):∀ {r n:Nat},n<ts.length->∀ {a:Bs} {m:Nat},cV0 ts r n=.ok (a,m)->n<m/\m<ts.length/\a.length<=4+7*r
 | 0,n,hn,a,m,h=>by simp[cV0,eS0] at h
 | r+1,n,hn,a,m,h=>by
  rw[cV0] at h
  split at h
  ·rename_i hi;injection h with h;injection h with h1 h2;subst h1;subst h2;exact⟨by omega,ax0 hE hn hi (by decide),by simp[ek0]⟩
  split at h
  ·rename_i hi
   have h0:=ax0 hE hn hi (by decide)
   obtain⟨⟨t,n1⟩,e1,h⟩:=ag0 h
   obtain⟨n2,e2,h⟩:=ag0 h
   injection h with h;injection h with h1 h2;subst h1;subst h2
   have:=fh0 hE h0 e1
   have:=am0 hE this.2.1 e2
   dsimp only at *
   refine⟨by omega,by omega,by simp;omega⟩
  split at h
  ·rename_i hi
   have h0:=ax0 hE hn hi (by decide)
   obtain⟨⟨k,n0⟩,e0,h⟩:=ag0 h
   obtain⟨n1,e1,h⟩:=ag0 h
   obtain⟨⟨t,n2⟩,e2,h⟩:=ag0 h
   obtain⟨n3,e3,h⟩:=ag0 h
   injection h with h;injection h with h1 h2;subst h1;subst h2
   have q0:=r60 hE h0 e0
   have q1:=am0 hE q0.2.1 e1
   have q2:=fh0 hE q1.2 e2
   have q3:=am0 hE q2.2.1 e3
   dsimp only at *
   refine⟨by omega,by omega,by simp;omega⟩
  ·have:=r60 hE hn h;omega
theorem iV0 (hE:TEnd ts) (hn:n<ts.length) {a:Slo} {m:Nat} (h:iv0 ts n=.ok (a,m)):n<m/\m<ts.length:=by
 unfold iv0 at h
 obtain⟨⟨t,n1⟩,e1,h⟩:=ag0 h
 obtain⟨n2,e2,h⟩:=ag0 h
 obtain⟨⟨t,n3⟩,e3,h⟩:=ag0 h
 injection h with h;injection h with h1 h2;subst h2
 have q1:=bh0 hE hn e1
 have q2:=am0 hE q1.2 e2
 have q3:=fh0 hE q2.2 e3
 dsimp only at *
 omega
abbrev bsV (b:Bs):V:=vS (bS b)
theorem gy0 (a b:Bs):bS a++bS b=bS (a++b):=by
 apply ByteArray.ext;apply Array.ext';simp
theorem dJ0 (l:Bs):(ByteArray.mk (Array.mk l)).size=l.length:=rfl
theorem kT0 (hE:TEnd ts) (hl:ts.length<2 ^ 40) (hn:n<ts.length):J prog hF0 [.bp (.e 0) 0] (pObs ts n) (·=pAns ts bsV (pKey ts n)):=by
 refine av0 k30 (by simp[pObs]) ?_
 refine rS4 @gB0.eq_1 @pObs.eq_1 @hpE.eq_1 @hpE.eq_2 ?_
 refine aT0 (λy:Nat=>2-y) (λy=>[(7,vI y),(6,vI 2),(5,.arr (.l 5 0) 0 2),(0,.bp (.e 0) 0)])
  (λ_=>[(.e 0,.box [.lst (ts.map Tok.cells),vI n]),(.l 5 0,.row 9 1 true [[vS (bS eu0)],[vS (bS ck0)]])])
  (λy=>y<=2/\(0<y->isT ts n 1 eu0=false)/\(1<y->isT ts n 1 ck0=false)) 0 (by simp) (Wk.subs (by simp) (by simp[eu0,ck0])) ?_
 rintro y ⟨hy,h1,h2⟩
 have:y=0\/y=1\/y=2:=by omega
 rcases this with rfl|rfl|rfl
 ·refine rS0 ?_
  rw[aV0 (e:=[vS (bS eu0)]) rfl]
  refine rS0 ?_
  refine aa0 [.e 0] ?_
  simp
  have hO:=al0 hn hl 1 eu0
  try simp[pObs] at hO
  refine ab0 13 hO ?_
  cases h:isT ts n 1 eu0 with
  | true =>
   refine rS0 ?_
   refine ay0 [] ?_
   exact rT5 @pKey.eq_1 h @pAns.eq_1 @pAns.eq_2 @pObs.eq_1
  | false =>
   refine rS0 ?_
   refine .of 1 ⟨by omega,λq=>absurd q (by omega)⟩ (by omega) (Wk.subs (by simp) (by simp))
 ·have h1:=h1 (by omega)
  refine rS0 ?_
  rw[aV0 (e:=[vS (bS ck0)]) rfl]
  refine rS0 ?_
  refine aa0 [.e 0] ?_
  simp
  have hO:=al0 hn hl 1 ck0
  try simp[pObs] at hO
  refine ab0 13 hO ?_
  cases h:isT ts n 1 ck0 with
  | true =>
   refine rS0 ?_
   refine ay0 [] ?_
   exact rT6 @pKey.eq_1 h h1 @pAns.eq_1 @pAns.eq_2 @pObs.eq_1
  | false =>
   refine rS0 ?_
   refine .of 2 ⟨by omega,λ_=>h1⟩ (by omega) (Wk.subs (by simp) (by simp))
 ·have h1:=h1 (by omega)
  have h2:=h2 (by omega)
  refine rS0 ?_
  refine aa0 [.e 0] ?_
  simp
  have hO:=ba0 hn 31
  try simp[pObs] at hO
  refine af0 hO ?_
  refine rS0 ?_
  refine endP ?_
  exact rT7 @pKey.eq_1 h1 h2 @pAns.eq_1 @pAns.eq_2 @pObs.eq_1 @eS0.eq_1
theorem du0 (hE:TEnd ts) (hl:ts.length<2 ^ 40):∀ (r d n:Nat),d+r=5->n<ts.length->J prog gM0 [.bp (.e 0) 0,vI d] (pObs ts n) (·=pAns ts bsV (cV0 ts r n))
 | 0,d,n,hd,hn=>by
  have hd':(4:Int)<d:=by omega
  refine av0 gd0 (by simp[pObs]) ?_
  refine rS5 @dL0.eq_1 @pObs.eq_1 @hpE.eq_1 @hpE.eq_2 hd' ?_
  refine aa0 [.e 0] ?_
  simp
  have hO:=ba0 hn 32
  try simp[pObs] at hO
  refine af0 hO ?_
  refine rS0 ?_
  refine endP ?_
  exact rT6 @cV0.eq_1 @cV0.eq_2 @eS0.eq_1 @pAns.eq_1 @pAns.eq_2 @pObs.eq_1
 | r+1,d,n,hd,hn=>by
  have hd':¬ (4:Int)<d:=by omega
  have hw:cV0 ts (r+1) n=cV0 ts (r+1) n:=rfl
  conv at hw=>rhs;rw[cV0]
  refine av0 gd0 (by simp[pObs]) ?_
  refine rS5 @dL0.eq_1 @pObs.eq_1 @hpE.eq_1 @hpE.eq_2 hd' ?_
  refine aa0 [.e 0] ?_
  simp
  have hO:=al0 hn hl 1 ek0
  try simp[pObs] at hO
  refine ab0 14 hO ?_
  cases h1:isT ts n 1 ek0 with
  | true =>
   rw[h1] at hw
   simp only[if_true] at hw
   refine rS0 ?_
   refine ay0 [] ?_
   exact rT5 hw @pAns.eq_1 @pAns.eq_2 @pObs.eq_1 @ek0.eq_1
  | false =>
  rw[h1] at hw
  refine rS0 ?_
  refine aa0 [.e 0] ?_
  simp
  have hO:=al0 hn hl 4 [91]
  try simp[pObs] at hO
  refine ab0 17 hO ?_
  cases h2:isT ts n 4 [91] with
  | true =>
   have h0:=ax0 hE hn h2 (by decide)
   rw[h2] at hw
   simp only[Bool.false_eq_true,if_false,if_true] at hw
   refine rS0 ?_
   have hJ:=du0 hE hl r (d+1) (n+1) (by omega) h0
   rcases hR21:cV0 ts r (n+1) with⟨t,n1⟩|⟨aa,ae⟩
   rotate_left
   ·rw[hR21] at hJ hw
    try simp only[LxR.bind] at hw
    simp only[pAns,at0] at hJ
    refine aa0 [.e 0] ?_
    simp
    have hO:=hJ
    try simp[pObs] at hO
    refine af0 hO ?_
    refine rS0 ?_
    refine endP ?_
    exact rT6 hw @pAns.eq_1 @pAns.eq_2 @at0.eq_1 @at0.eq_2 @pObs.eq_1
   rw[hR21] at hJ hw
   try simp only[LxR.bind] at hw
   simp only[pAns,at0] at hJ
   refine aa0 [.e 0] ?_
   simp
   have hO:=hJ
   try simp[pObs] at hO
   refine ab0 21 hO ?_
   have q1:=fh0 hE h0 hR21
   refine rS0 ?_
   have hJ:=as0 q1.2.1 hl [93]
   rcases hR23:aX0 ts n1 [93] with n2|⟨aa,ae⟩
   rotate_left
   ·rw[hR23] at hJ hw
    try simp only[LxR.bind] at hw
    simp only[pAns,at0] at hJ
    refine aa0 [.e 0] ?_
    simp
    have hO:=hJ
    try simp[pObs] at hO
    refine af0 hO ?_
    refine rS0 ?_
    refine endP ?_
    exact rT6 hw @pAns.eq_1 @pAns.eq_2 @at0.eq_1 @at0.eq_2 @pObs.eq_1
   rw[hR23] at hJ hw
   try simp only[LxR.bind] at hw
   simp only[pAns,at0] at hJ
   refine aa0 [.e 0] ?_
   simp
   have hO:=hJ
   try simp[pObs] at hO
   refine ab0 23 hO ?_
   refine rS2 @gy0 @dJ0 ?_
   refine ay0 [] ?_
   exact rT4 hw @pAns.eq_1 @pAns.eq_2 @pObs.eq_1
  | false =>
  rw[h2] at hw
  refine rS0 ?_
  refine aa0 [.e 0] ?_
  simp
  have hO:=al0 hn hl 4 [123]
  try simp[pObs] at hO
  refine ab0 29 hO ?_
  cases h3:isT ts n 4 [123] with
  | true =>
   have h0:=ax0 hE hn h3 (by decide)
   rw[h3] at hw
   simp only[Bool.false_eq_true,if_false,if_true] at hw
   refine rS0 ?_
   have hJ:=kT0 hE hl h0
   rcases hR31:pKey ts (n+1) with⟨k,n0⟩|⟨aa,ae⟩
   rotate_left
   ·rw[hR31] at hJ hw
    try simp only[LxR.bind] at hw
    simp only[pAns,at0] at hJ
    refine aa0 [.e 0] ?_
    simp
    have hO:=hJ
    try simp[pObs] at hO
    refine af0 hO ?_
    refine rS0 ?_
    refine endP ?_
    exact rT6 hw @pAns.eq_1 @pAns.eq_2 @at0.eq_1 @at0.eq_2 @pObs.eq_1
   rw[hR31] at hJ hw
   try simp only[LxR.bind] at hw
   simp only[pAns,at0] at hJ
   refine aa0 [.e 0] ?_
   simp
   have hO:=hJ
   try simp[pObs] at hO
   refine ab0 31 hO ?_
   have q0:=r60 hE h0 hR31
   refine rS0 ?_
   have hJ:=as0 q0.2.1 hl [58]
   rcases hR33:aX0 ts n0 [58] with n1|⟨aa,ae⟩
   rotate_left
   ·rw[hR33] at hJ hw
    try simp only[LxR.bind] at hw
    simp only[pAns,at0] at hJ
    refine aa0 [.e 0] ?_
    simp
    have hO:=hJ
    try simp[pObs] at hO
    refine af0 hO ?_
    refine rS0 ?_
    refine endP ?_
    exact rT6 hw @pAns.eq_1 @pAns.eq_2 @at0.eq_1 @at0.eq_2 @pObs.eq_1
   rw[hR33] at hJ hw
   try simp only[LxR.bind] at hw
   simp only[pAns,at0] at hJ
   refine aa0 [.e 0] ?_
   simp
   have hO:=hJ
   try simp[pObs] at hO
   refine ab0 33 hO ?_
   have q1:=am0 hE q0.2.1 hR33
   refine rS0 ?_
   have hJ:=du0 hE hl r (d+1) n1 (by omega) q1.2
   rcases hR37:cV0 ts r n1 with⟨t,n2⟩|⟨aa,ae⟩
   rotate_left
   ·rw[hR37] at hJ hw
    try simp only[LxR.bind] at hw
    simp only[pAns,at0] at hJ
    refine aa0 [.e 0] ?_
    simp
    have hO:=hJ
    try simp[pObs] at hO
    refine af0 hO ?_
    refine rS0 ?_
    refine endP ?_
    exact rT6 hw @pAns.eq_1 @pAns.eq_2 @at0.eq_1 @at0.eq_2 @pObs.eq_1
   rw[hR37] at hJ hw
   try simp only[LxR.bind] at hw
   simp only[pAns,at0] at hJ
   refine aa0 [.e 0] ?_
   simp
   have hO:=hJ
   try simp[pObs] at hO
   refine ab0 37 hO ?_
   have q2:=fh0 hE q1.2 hR37
   refine rS0 ?_
   have hJ:=as0 q2.2.1 hl [125]
   rcases hR39:aX0 ts n2 [125] with n3|⟨aa,ae⟩
   rotate_left
   ·rw[hR39] at hJ hw
    try simp only[LxR.bind] at hw
    simp only[pAns,at0] at hJ
    refine aa0 [.e 0] ?_
    simp
    have hO:=hJ
    try simp[pObs] at hO
    refine af0 hO ?_
    refine rS0 ?_
    refine endP ?_
    exact rT6 hw @pAns.eq_1 @pAns.eq_2 @at0.eq_1 @at0.eq_2 @pObs.eq_1
   rw[hR39] at hJ hw
   try simp only[LxR.bind] at hw
   simp only[pAns,at0] at hJ
   refine aa0 [.e 0] ?_
   simp
   have hO:=hJ
   try simp[pObs] at hO
   refine ab0 39 hO ?_
   refine rS2 @gy0 @dJ0 ?_
   refine ay0 [] ?_
   exact rT4 hw @pAns.eq_1 @pAns.eq_2 @pObs.eq_1
  | false =>
  rw[h3] at hw
  simp only[Bool.false_eq_true,if_false,if_true] at hw
  refine rS0 ?_
  have hJ:=kT0 hE hl hn
  rcases hR47:pKey ts n with⟨k,n0⟩|⟨aa,ae⟩
  rotate_left
  ·rw[hR47] at hJ hw
   try simp only[LxR.bind] at hw
   simp only[pAns,at0] at hJ
   refine aa0 [.e 0] ?_
   simp
   have hO:=hJ
   try simp[pObs] at hO
   refine af0 hO ?_
   refine rS0 ?_
   refine endP ?_
   exact rT6 hw @pAns.eq_1 @pAns.eq_2 @at0.eq_1 @at0.eq_2 @pObs.eq_1
  rw[hR47] at hJ hw
  try simp only[LxR.bind] at hw
  simp only[pAns,at0] at hJ
  refine aa0 [.e 0] ?_
  simp
  have hO:=hJ
  try simp[pObs] at hO
  refine ab0 47 hO ?_
  refine rS0 ?_
  refine ay0 [] ?_
  exact rT4 hw @pAns.eq_1 @pAns.eq_2 @pObs.eq_1
def hasB (l:Bs) (c:UInt8):Bool:=l.contains c
def asV (l:Bs):List V:=(List.range 256).map λb=>vB (l.contains (UInt8.ofNat b))
@[simp] theorem asV_len (l:Bs):(asV l).length=256:=by simp[asV]
theorem pq0 (l:Bs) {j:Nat} (h:j<256):(asV l)[j]?=some (vB (l.contains (UInt8.ofNat j))):=by
 unfold asV
 rw[List.getElem?_map,List.getElem?_range h];rfl
theorem j00 (l:Bs):lu0 (asV l)=true:=by
 unfold asV lu0
 rw[List.all_eq_true]
 intro v hv
 obtain⟨b,_,rfl⟩:=List.mem_map.1 hv
 rfl
section
variable {l:Bs} {K:V->Prop} {Ks:List V->Prop} {hp:Hp}
@[simp] theorem asV_has0 {i:Id}:V.hasL i (asV l)=false:=gm0 (j00 l) i
@[simp] theorem asV_scalars0:scalars (asV l)=true:=cs0 (j00 l)
@[simp] theorem asV_pure0:V.bK0 (asV l)=true:=eI0 (j00 l)
@[simp] theorem asV_see0 {nl:Bool} {ks:List Id}:V.seeL nl ks hp (asV l) Ks=Ks (asV l):=hJ0 (j00 l) nl ks Ks
@[simp] theorem asV_map0 {f:Id->Option Id}:dt0 f (asV l) Ks=Ks (asV l):=hI0 (j00 l) f Ks
@[simp] theorem asV_hide0 {ks:List Id}:V.bG0 ks (asV l)=asV l:=fq0 (j00 l) ks
@[simp] theorem asV_take:(asV l).take 256=asV l:=List.take_of_length_le (by simp)
@[simp] theorem asV_drop:(asV l).drop 256=[]:=List.drop_of_length_le (by simp)
theorem asV_nth {c:UInt8}:nthK (asV l) c.toNat K=K (vB (hasB l c)):=by
 unfold hasB
 have h:=c.toNat_lt
 rw[jI0,pq0 l h]
 apply propext
 constructor
 ·rintro⟨v,e,hk⟩;injection e with e;subst e;simpa using hk
 ·intro hk;exact⟨_,rfl,by simpa using hk⟩
end
theorem asV_set (l:Bs) (c:UInt8):setAt (asV l) c.toNat [vB true]=asV (l++[c]):=by
 have hc:=c.toNat_lt
 unfold setAt
 apply List.ext_getElem?
 intro j
 by_cases hj:j<256
 ·rw[pq0 _ hj]
  rcases Nat.lt_trichotomy j c.toNat with h|h|h
  ·rw[List.append_assoc,List.getElem?_append_left (by simp;omega),List.getElem?_take,if_pos h,pq0 _ hj]
   have hne:¬ UInt8.ofNat j=c:=λe=>by
    have:=congrArg UInt8.toNat e
    simp at this;omega
   have:(l++[c]).contains (UInt8.ofNat j)=l.contains (UInt8.ofNat j):=by
    rw[Bool.eq_iff_iff];simp[hne]
   rw[this]
  ·subst h
   rw[List.append_assoc,List.getElem?_append_right (by simp;omega)]
   simp[Nat.min_eq_left (Nat.le_of_lt hc)]
  ·rw[List.append_assoc,List.getElem?_append_right (by simp;omega),List.getElem?_append_right (by simp;omega),List.getElem?_drop]
   have e:c.toNat+[vB true].length+(j-((asV l).take c.toNat).length-[vB true].length)=j:=by simp;omega
   rw[e,pq0 _ hj]
   have hne:¬ UInt8.ofNat j=c:=λe=>by
    have:=congrArg UInt8.toNat e
    simp at this;omega
   have:(l++[c]).contains (UInt8.ofNat j)=l.contains (UInt8.ofNat j):=by
    rw[Bool.eq_iff_iff];simp[hne]
   rw[this]
 ·rw[List.getElem?_eq_none (by simp;omega),List.getElem?_eq_none (by simp;omega)]
theorem asV_set' (l:Bs) (c:UInt8):(asV l).take c.toNat++vB true::(asV l).drop (c.toNat+1)=asV (l++[c]):=by
 rw[<- asV_set];simp[setAt]
def iA0 (l:Bs):List Ob:=[.box (asV l)]
theorem eT0 (l:Bs) (c:UInt8):J prog dq0 [.bp (.e 0) 0,vU c] (iA0 l) (·=.ret (vB (hasB l c)) (iA0 l)):=by
 have hc:=c.toNat_lt
 have hc':(c.toNat:Int)<256:=by omega
 refine av0 gn0 (by simp[iA0]) ?_
 refine rS5 @dh0.eq_1 @iA0.eq_1 @hpE.eq_1 @hpE.eq_2 hc' ?_
 rw[asV_nth]
 refine rS0 ?_
 refine ay0 [] ?_
 exact rT0
theorem c60 (l:Bs) (i j:Nat):(bS l).extract i j=bS ((l.drop i).take (j-i)):=by
 have h:=eo0 (bS l) i j
 generalize (bS l).extract i j=x at h
 obtain⟨⟨x⟩⟩:=x
 exact congrArg bS h
def jo0 (set s:Bs):Bs:=(s.reverse.dropWhile set.contains).reverse
def lh0 (set s:Bs):Bs:=s.dropWhile set.contains
theorem trimR_nil (set:Bs):jo0 set []=[]:=rfl
theorem ui0 (set s:Bs) (c:UInt8):jo0 set (s++[c])=if hasB set c then jo0 set s else s++[c]:=by
 unfold jo0 hasB
 rw[List.reverse_append]
 simp only[List.reverse_cons,List.reverse_nil,List.nil_append,List.singleton_append,List.dropWhile_cons]
 split
 ·rfl
 ·simp
theorem uh0 (set s:Bs) (c:UInt8):lh0 set (c::s)=if hasB set c then lh0 set s else c::s:=by
 unfold lh0 hasB
 rw[List.dropWhile_cons]
theorem li0 (l s:Bs) (hs:s.length<2 ^ 40):J prog ej0 [vS (bS s),.bp (.e 0) 0] (iA0 l) (·=.ret (vS (bS (jo0 l s))) (iA0 l)):=by
 refine av0 hY0 (by simp[iA0]) ?_
 refine rS4 @dS0.eq_1 @iA0.eq_1 @hpE.eq_1 @hpE.eq_2 ?_
 refine aT0 (λr:Bs=>r.length) (λr=>[(0,vS (bS r)),(1,.bp (.e 0) 0)]) (λ_=>[(.e 0,.box (asV l))]) (λr=>r.length<=s.length/\jo0 l r=jo0 l s) s ⟨Nat.le_refl _,rfl⟩ (Wk.subs (by simp) (by simp)) ?_
 rintro r ⟨hr,ht⟩
 rcases List.eq_nil_or_concat r with rfl|⟨r',c,rfl⟩
 ·rw[<- ht]
  refine rS1 @dJ0 ?_
  refine ay0 [] ?_
  exact rT1 @trimR_nil
 ·rw[List.concat_eq_append] at *
  have hsz:(bS (r'++[c])).size=r'.length+1:=by rw[dJ0];simp
  have hpos:(0:Int)<(r'.length:Int)+1:=by omega
  have hr':r'.length+1<=s.length:=by simpa using hr
  have hget:(r'++[c])[r'.length]?=some c:=by simp
  refine rS3 hsz hpos hget ?_
  refine aa0 [.e 0] ?_
  simp
  have hO:=eT0 l c
  try simp[iA0] at hO
  refine ab0 14 hO ?_
  rw[ui0] at ht
  cases h:hasB l c with
  | true =>
   rw[h,if_pos rfl] at ht
   refine rS2 hsz @c60 ?_
   refine .of r' ⟨by omega,ht⟩ (by simp) (Wk.subs (by simp) (by simp))
  | false =>
   rw[h,if_neg (by simp)] at ht
   rw[<- ht]
   refine rS0 ?_
   refine ay0 [] ?_
   exact rT0
theorem lW0 (l s:Bs) (hs:s.length<2 ^ 40):J prog eH0 [vS (bS s),.bp (.e 0) 0] (iA0 l) (·=.ret (vS (bS (lh0 l s))) (iA0 l)):=by
 refine av0 io0 (by simp[iA0]) ?_
 refine rS4 @eg0.eq_1 @iA0.eq_1 @hpE.eq_1 @hpE.eq_2 ?_
 refine aT0 (λr:Bs=>r.length) (λr=>[(0,vS (bS r)),(1,.bp (.e 0) 0)]) (λ_=>[(.e 0,.box (asV l))]) (λr=>r.length<=s.length/\lh0 l r=lh0 l s) s ⟨Nat.le_refl _,rfl⟩ (Wk.subs (by simp) (by simp)) ?_
 rintro r ⟨hr,ht⟩
 cases r with
 | nil =>
  rw[<- ht]
  refine rS1 @dJ0 ?_
  refine ay0 [] ?_
  exact rT1 @lh0.eq_1
 | cons c r' =>
  have hsz:(bS (c::r')).size=r'.length+1:=by rw[dJ0];simp
  have hpos:(0:Int)<(r'.length:Int)+1:=by omega
  have hr':r'.length+1<=s.length:=by simpa using hr
  refine rS2 hsz hpos ?_
  refine aa0 [.e 0] ?_
  simp
  have hO:=eT0 l c
  try simp[iA0] at hO
  refine ab0 11 hO ?_
  rw[uh0] at ht
  cases h:hasB l c with
  | true =>
   rw[h,if_pos rfl] at ht
   refine rS2 hsz @c60 ?_
   refine .of r' ⟨by omega,ht⟩ (by simp) (Wk.subs (by simp) (by simp))
  | false =>
   rw[h,if_neg (by simp)] at ht
   rw[<- ht]
   refine rS0 ?_
   refine ay0 [] ?_
   exact rT0
end Go.Am
end

section
namespace Go.Am
def c50 (s:Bs):Bool:=decide (s=eu0)||decide (s=ek0)||decide (s=ck0)
def cl0:Bs:=[123,105,110,116,58]
def bz0:Bs:=[123,116,101,120,116,58]
def tyB:Nat->Bs->Bool
 | 0,s=>c50 s
 | r+1,s =>
  if c50 s then true
  else if s.length<2 then false
  else if [91].isPrefixOf s.dropLast then decide (s.getLast?=some 93)&&tyB r (s.dropLast.drop 1)
  else if cl0.isPrefixOf s.dropLast then decide (s.getLast?=some 125)&&tyB r (s.dropLast.drop 5)
  else if bz0.isPrefixOf s.dropLast then decide (s.getLast?=some 125)&&tyB r (s.dropLast.drop 6)
  else false
inductive IsTy:Nat->Bs->Prop
 | base {s:Bs} (h:c50 s=true):IsTy 1 s
 | list {d:Nat} {s:Bs} (h:IsTy d s):IsTy (d+1) ([91]++s++[93])
 | mapI {d:Nat} {s:Bs} (h:IsTy d s):IsTy (d+1) (cl0++s++[125])
 | mapT {d:Nat} {s:Bs} (h:IsTy d s):IsTy (d+1) (bz0++s++[125])
theorem fD0 {s:Bs} (h:c50 s=true):s=eu0\/s=ek0\/s=ck0:=by
 simpa[c50,or_assoc] using h
theorem ok0 {s:Bs} (h:c50 s=true):s.head?=some 105\/s.head?=some 98\/s.head?=some 116:=by
 rcases fD0 h with rfl|rfl|rfl<;>simp[eu0,ek0,ck0]
theorem ol0 (s:Bs):c50 ([91]++s)=false:=by
 rw[<- Bool.not_eq_true];intro h;have:=ok0 h;simp at this
theorem kj0 (s:Bs):c50 (123::s)=false:=by
 rw[<- Bool.not_eq_true];intro h;have:=ok0 h;simp at this
theorem pf0 {d:Nat} {s:Bs} (h:IsTy d s):0<d:=by cases h<;>omega
theorem tyB_list (r:Nat) (s:Bs):tyB (r+1) ([91]++s++[93])=tyB r s:=by
 rw[tyB]
 have h0:c50 ([91]++s++[93])=false:=by rw[List.append_assoc];exact ol0 _
 have h1:([91]++s++[93]:Bs).dropLast=[91]++s:=List.dropLast_concat
 have h2:([91]++s++[93]:Bs).getLast?=some 93:=List.getLast?_concat
 rw[h0,h1,h2]
 simp
theorem tyB_mapI (r:Nat) (s:Bs):tyB (r+1) (cl0++s++[125])=tyB r s:=by
 rw[tyB]
 have h0:c50 (cl0++s++[125])=false:=kj0 _
 have h1:(cl0++s++[125]:Bs).dropLast=cl0++s:=List.dropLast_concat
 have h2:(cl0++s++[125]:Bs).getLast?=some 125:=List.getLast?_concat
 rw[h0,h1,h2]
 simp[cl0]
theorem tyB_mapT (r:Nat) (s:Bs):tyB (r+1) (bz0++s++[125])=tyB r s:=by
 rw[tyB]
 have h0:c50 (bz0++s++[125])=false:=kj0 _
 have h1:(bz0++s++[125]:Bs).dropLast=bz0++s:=List.dropLast_concat
 have h2:(bz0++s++[125]:Bs).getLast?=some 125:=List.getLast?_concat
 rw[h0,h1,h2]
 simp[bz0,cl0]
theorem tyB_ty {d:Nat} {s:Bs} (h:IsTy d s):∀ r,tyB r s=decide (d<=r+1):=by
 induction h with
 | base h=>intro r;cases r<;>simp[tyB,h]
 | list h ih=>intro r;cases r with
  | zero=>simp[tyB,c50];have:=pf0 h;simp[eu0,ek0,ck0];omega
  | succ r=>rw[tyB_list,ih];simp
 | mapI h ih=>intro r;cases r with
  | zero=>simp[tyB,c50];have:=pf0 h;simp[eu0,ek0,ck0,cl0];omega
  | succ r=>rw[tyB_mapI,ih];simp
 | mapT h ih=>intro r;cases r with
  | zero=>simp[tyB,c50];have:=pf0 h;simp[eu0,ek0,ck0,bz0];omega
  | succ r=>rw[tyB_mapT,ih];simp
theorem iF0 {s:Bs} {c:UInt8} (h:s.getLast?=some c):s=s.dropLast++[c]:=by
 have hne:s≠[]:=by rintro rfl;simp at h
 rw[List.getLast?_eq_some_getLast hne] at h
 injection h with h
 conv=>lhs;rw[<- List.dropLast_concat_getLast hne,h]
theorem tyB_is {r:Nat} {s:Bs} (h:tyB r s=true):∃ d,IsTy d s/\d<=r+1:=by
 induction r generalizing s with
 | zero=>exact⟨1,.base (by simpa[tyB] using h),by omega⟩
 | succ r ih =>
  rw[tyB] at h
  split at h
  ·exact⟨1,.base ‹_›,by omega⟩
  split at h
  ·cases h
  split at h
  ·rename_i hp
   obtain⟨t,ht⟩:=List.isPrefixOf_iff_prefix.1 hp
   simp only[Bool.and_eq_true,decide_eq_true_eq] at h
   rw[<- ht] at h
   change _/\tyB r t=true at h
   obtain⟨d,hd,hle⟩:=ih h.2
   have e:=iF0 h.1
   rw[<- ht] at e
   rw[e];exact⟨d+1,.list hd,by omega⟩
  split at h
  ·rename_i hp
   obtain⟨t,ht⟩:=List.isPrefixOf_iff_prefix.1 hp
   simp only[Bool.and_eq_true,decide_eq_true_eq] at h
   rw[<- ht] at h
   change _/\tyB r t=true at h
   obtain⟨d,hd,hle⟩:=ih h.2
   have e:=iF0 h.1
   rw[<- ht] at e
   rw[e];exact⟨d+1,.mapI hd,by omega⟩
  split at h
  ·rename_i hp
   obtain⟨t,ht⟩:=List.isPrefixOf_iff_prefix.1 hp
   simp only[Bool.and_eq_true,decide_eq_true_eq] at h
   rw[<- ht] at h
   change _/\tyB r t=true at h
   obtain⟨d,hd,hle⟩:=ih h.2
   have e:=iF0 h.1
   rw[<- ht] at e
   rw[e];exact⟨d+1,.mapT hd,by omega⟩
  ·cases h
end Go.Am
end

section
namespace Go.Am
def cT0 (s:Bs):Bool:=decide (s≠[])&&decide (s.length<=16)&&!(aj0.contains (s.headD 0))&&s.all (λc=>(an0++aj0).contains c)&&!(mQ0.contains s)
def sk0 (s:Bs):Bool:=tyB 3 s
def g70 (s:Bs):Bool:=decide (s.length<=256)&&s.all (λc=>decide (32<=c/\c<=126))
def jh0 (s:Bs):Bs:=[34]++s.flatMap (λc=>if c=92 then [92,92] else if c=34 then [92,34] else [c])++[34]
def numB (n:Int):Bs:=Lib.itoa n
def sepB (ts:List Bs):Bs:=(ts.mapIdx λi t=>(if i=0 then [] else [44,32])++t).flatten
def opOk (op:Int):Bool:=decide (1<=op/\op<=13)
def lvl (op:Int):Int:=if op<=2 then op else if op<=8 then 3 else if op<=10 then 4 else 5
def opB (op:Int):Bs:=pOps.getD (op.toNat-1) []
def within (s:Bs) (b:Bool):Bs:=if b then [40]++s++[41] else s
def cj0 (x:Exq) (n:Int):Bool:=decide (x.kind=15)&&decide (lvl x.op<n)
def kz0 (x:Exq):Bool:=decide (x.kind=15\/x.kind=13\/x.kind=14)
mutual
def shE:Exq->Option Bs
 | .mk k op num text slot type args at_ =>
  if k=1 then (if args=[]/\0<=num then some (numB num) else none)
  else if k=2 then (if args=[]/\(num=0\/num=1) then some (if num=1 then ge0 else dN0) else none)
  else if k=3 then (if args=[]/\g70 (sB text)=true then some (jh0 (sB text)) else none)
  else if k=6 then (if args=[]/\cT0 (sB text)=true then some (sB text) else none)
  else if k=7 then (if cT0 (sB text)=true then (shL args).map λl=>sB text++[40]++sepB l++[41] else none)
  else if k=12 then (match args,shL args with
   | [x,y],some [a,b]=>some (within a (kz0 x)++[91]++b++[93])
   | _,_=>none)
  else if k=13\/k=14 then (match args,shL args with
   | [x],some [a]=>some ((if k=13 then [45] else [33])++within a (decide (x.kind=15)))
   | _,_=>none)
  else if k=15 then (match args,shL args with
   | [x,y],some [a,b]=>if opOk op then some (within a (cj0 x (if lvl op=3 then 4 else lvl op))++[32]++opB op++[32]++within b (cj0 y (lvl op+1))) else none
   | _,_=>none)
  else none
def shL:List Exq->Option (List Bs)
 | []=>some []
 | x::l=>match shE x,shL l with
  | some a,some b=>some (a::b)
  | _,_=>none
end
mutual
def plE:Exq->Bool
 | .mk k op num text slot type args at_=>decide (num<9223372036854775808/\args.length<1073741824)&&plL args
def plL:List Exq->Bool
 | []=>true
 | x::l=>plE x&&plL l
end
def tabs (n:Nat):Bs:=List.replicate n 9
mutual
def shS (n:Nat):Stm->Option Bs
 | .mk k name slot state num e body els at_ =>
  if k=1 then (match shL e with
   | some [a]=>if cT0 (sB name)=true then some (ev0++[32]++sB name++[32,61,32]++a++[59]) else none
   | _=>none)
  else if k=2 then (match shL e with
   | some [a]=>if cT0 (sB name)=true then some (cS0++[32]++sB name++[32,61,32]++a++[59]) else none
   | some [a,b]=>if cT0 (sB name)=true then some (cS0++[32]++sB name++[91]++a++[93]++[32,61,32]++b++[59]) else none
   | _=>none)
  else if k=3 then (match shL e with
   | some [a]=>if cT0 (sB name)=true then some (es0++[32]++sB name++[91]++a++[93,59]) else none
   | _=>none)
  else if k=4 then (match shL e,shB n body,shB n els with
   | some [a],some b,some c=>some (kwIf++[32]++a++[32]++b++(if els=[] then [] else [32]++bs0++[32]++c))
   | _,_,_=>none)
  else if k=5 then (match shL e,shB n body with
   | some [a],some b=>if cT0 (sB name)=true then some (et0++[32]++sB name++[32]++kwTo++[32]++a++[32]++b) else none
   | _,_=>none)
  else if k=6 then (match shL e with
   | some [a]=>some (ew0++[32]++a++[59])
   | _=>none)
  else none
def shB (n:Nat):List Stm->Option Bs
 | []=>some [123,125]
 | x::l=>match shS (n+1) x,shT n l with
  | some a,some b=>some ([123,10]++(tabs (n+1)++a++[10]++b)++tabs n++[125])
  | _,_=>none
def shT (n:Nat):List Stm->Option Bs
 | []=>some []
 | x::l=>match shS (n+1) x,shT n l with
  | some a,some b=>some (tabs (n+1)++a++[10]++b)
  | _,_=>none
end
theorem lS0 (n:Nat) (x:Stm) (l:List Stm):shB n (x::l)=(shT n (x::l)).map λt=>[123,10]++t++tabs n++[125]:=by
 rw[shB.eq_def,shT.eq_def]
 dsimp only
 cases shS (n+1) x<;>cases shT n l<;>rfl
mutual
def plS:Stm->Bool
 | .mk k name slot state num e body els at_=>plL e&&decide (e.length<1073741824/\body.length<1073741824/\els.length<1073741824)&&plB body&&plB els
def plB:List Stm->Bool
 | []=>true
 | x::l=>plS x&&plB l
end
def fB0 (s:Slo):Option Bs:=if sk0 (sB s.type)&&cT0 (sB s.name) then some (sB s.name++[58,32]++sB s.type) else none
def bA0:List Slo->Option (List Bs)
 | []=>some []
 | s::l=>match fB0 s,bA0 l with
  | some a,some b=>some (a::b)
  | _,_=>none
def bC0:List Slo->Option Bs
 | []=>some []
 | s::l=>match fB0 s,bC0 l with
  | some a,some b=>some (dO0++[32]++a++[59,10]++b)
  | _,_=>none
def ml0 (f:Fun):Option Bs :=
 match bA0 f.params,shB 0 f.body with
 | some ps,some b=>if sk0 (sB f.result)&&cT0 (sB f.name) then some ((if f.on then kwOn else kwFn)++[32]++sB f.name++[40]++sepB ps++[41,58,32]++sB f.result++[32]++b++[10]) else none
 | _,_=>none
def dX0:List Fun->Option Bs
 | []=>some []
 | f::l=>match ml0 f,dX0 l with
  | some a,some b=>some (a++b)
  | _,_=>none
def shP (p:Prg):Option Bs :=
 if 0<=p.version then match bC0 p.states,dX0 p.fns with
  | some a,some b=>some (cv0++[32]++numB p.version++[59,10]++a++b)
  | _,_=>none
 else none
end Go.Am
end

section
namespace Go.Am
set_option maxRecDepth 100000
attribute [local irreducible] vc vcIs vcI vcOp vcD vcDp vcDR vcT vcAR cf0 bb0 panD neG ne pv J bY0 b50 ci0 bo0 evK evsK nthK objK boxK rowK bQ0 intK strK aggK fnK ifcK az0 aA0 ldK ldaK iaK srcK stK appK appD cn0 pvK bT0 a30 b40 bJ0 slAV bX0
set_option maxHeartbeats 3200000 in
theorem mc0 (s:Bs) (hs:s.length<2 ^ 20) (ha:∀ c∈s,c.toNat<128):Ret prog e00 [vS (bS s)] (.tup [.agg (asV s),vB true]):=by
 have hsz:(bS s).size=s.length:=rfl
 refine av0 iP0 (by simp) ?_
 refine rS1 @eD0.eq_1 ?_
 refine aS0 s.length (λi=>[(4,vI i),(2,.bp (.l 2 0) 0),(0,vS (bS s))]) (λi=>[(.l 2 0,.box (asV (s.take i)))]) (Wk.subs (by simp) (by simp;rfl)) ?_
 intro i hi
 by_cases hlt:i<s.length
 ·have hlt':(i:Int)<s.length:=by omega
  have hc:=ha _ (List.getElem_mem hlt)
  have hget:s[i]?=some s[i]:=List.getElem?_eq_getElem hlt
  have htk:s.take (i+1)=s.take i++[s[i]]:=by rw[List.take_add_one,hget];rfl
  have hset:=asV_set' (s.take i) s[i]
  rw[<- htk] at hset
  have hc':¬ (128:Int)<=(s[i].toNat:Int):=by omega
  have hc2:(s[i].toNat:Int)<256:=by omega
  refine rS5 hsz hlt' hget hc' hc2 ?_
  refine .of hlt (Wk.subs (by simp) (by simp[hset]))
 ·have hge':¬ (i:Int)<s.length:=by omega
  have:i=s.length:=by omega
  subst this
  refine rS2 hsz hge' ?_
  refine ay0 [] ?_
  exact rT0
set_option maxHeartbeats 3200000 in
theorem mo0 (s cut:Bs) (hs:s.length<2 ^ 40) (h1:1<cut.length) (h2:cut.length<2 ^ 20) (ha:∀ c∈cut,c.toNat<128):Ret prog kL0 [vS (bS s),vS (bS cut)] (vS (bS (lh0 cut (jo0 cut s)))):=by
 have hsz:(bS cut).size=cut.length:=rfl
 have hne:¬ cut=[]:=by rintro rfl;simp at h1
 have h1':¬ (cut.length:Int)=1:=by omega
 refine av0 nF0 (by simp) ?_
 by_cases he:s=[]
 ·subst he
  refine rS1 @gD0.eq_1 ?_
  refine ay0 [] ?_
  exact rT2 @lh0.eq_1 @jo0.eq_1
 refine rS5 @gD0.eq_1 he hne hsz h1' ?_
 refine ak0 ?_;simp;refine ah0 (mc0 cut h2 ha) (by simp) ?_
 refine rS0 ?_
 have hr:(jo0 cut s).length<2 ^ 40:=by
  unfold jo0
  have:=(List.dropWhile_sublist (l:=s.reverse) cut.contains).length_le
  rw[List.length_reverse] at this ⊢;omega
 refine aa0 [.l 5 0] ?_
 simp
 have hO:=li0 cut s hs
 try simp[iA0] at hO
 refine ab0 36 hO ?_
 refine rS0 ?_
 refine aa0 [.l 5 0] ?_
 simp
 have hO:=lW0 cut (jo0 cut s) hr
 try simp[iA0] at hO
 refine ab0 37 hO ?_
 refine rS0 ?_
 refine ay0 [] ?_
 exact rT0
theorem pz0 (p:UInt8->Bool) (r:Bs):(r.dropWhile p).all p=r.all p:=by
 induction r with
 | nil=>rfl
 | cons a r ih =>
  rw[List.dropWhile_cons]
  split
  ·rename_i h;rw[ih,List.all_cons,h];rfl
  ·rfl
theorem dropWhile_nil (p:UInt8->Bool) (r:Bs):r.dropWhile p=[] ↔ r.all p=true:=by
 induction r with
 | nil=>simp
 | cons a r ih =>
  rw[List.dropWhile_cons,List.all_cons]
  cases p a with
  | true=>simpa using ih
  | false=>simp
theorem trim_nil (set s:Bs):lh0 set (jo0 set s)=[] ↔ s.all set.contains=true:=by
 unfold lh0
 rw[dropWhile_nil]
 unfold jo0
 rw[List.all_reverse,pz0,List.all_reverse]
def qj0 (s:Bs):Bool:=decide (s≠[])&&decide (s.length<=16)&&!(aj0.contains (s.headD 0))&&s.all (λc=>(an0++aj0).contains c)
theorem nameB_eq (s:Bs):cT0 s=(qj0 s&&!(mQ0.contains s)):=rfl
theorem pJ0 (s:Bs) (hs:s.length<2 ^ 40):Ret prog oQ0 [vS (bS s)] (vB (qj0 s)):=by
 have hsz:(bS s).size=s.length:=rfl
 refine cH0 rX0 (by simp) ?_
 cases s with
 | nil=>simp +contextual (maxSteps:=2000000) (disch:=omega) [-Int.not_lt,-Int.not_le,-Nat.not_lt,-Nat.not_le,sx,iB0,qj0]
 | cons c s =>
 by_cases h16:s.length+1<=16
 rotate_left
 ·have h16':¬ (s.length:Int)+1<=16:=by omega
  exact rT5 @iB0.eq_1 hsz h16' @qj0.eq_1 h16
 have h16':(s.length:Int)+1<=16:=by omega
 refine rS3 @iB0.eq_1 hsz h16' ?_
 refine ak0 ?_;simp;refine ah0 (aQ0 ⟨⟨aj0⟩⟩ c) (by simp) ?_
 rw[show sB ⟨⟨aj0⟩⟩=aj0 from rfl]
 have hm:=cu0 aj0 c
 cases hd:aj0.contains c with
 | true =>
  have hI:¬ Lib.indexByte aj0 c<0:=by have:=hm.2 hd;omega
  have hw:qj0 (c::s)=false:=by
   unfold qj0
   rw[show List.headD (c::s) 0=c from rfl,hd];simp
  exact rT2 hI hw
 | false =>
  have hI:Lib.indexByte aj0 c<0:=by
   have:¬ 0<=Lib.indexByte aj0 c:=λh=>by rw[hm.1 h] at hd;cases hd
   omega
  refine rS1 hI ?_
  refine ak0 ?_;simp;refine ah0 (mo0 (c::s) (an0++aj0) hs (by decide) (by decide) (by decide)) (by simp) ?_
  have ht:=trim_nil (an0++aj0) (c::s)
  have hb:eqS (bS (lh0 (an0++aj0) (jo0 (an0++aj0) (c::s)))) (bS [])=qj0 (c::s):=by
   unfold eqS qj0
   rw[Bool.eq_iff_iff,decide_eq_true_eq]
   have h3:bS (lh0 (an0++aj0) (jo0 (an0++aj0) (c::s)))=bS [] ↔ lh0 (an0++aj0) (jo0 (an0++aj0) (c::s))=[]:=⟨λh=>congrArg sB h,λh=>by rw[h]⟩
   rw[h3,ht]
   have h4:(List.headD (c::s) 0)=c:=rfl
   rw[h4,hd]
   simp[h16]
  generalize lh0 (an0++aj0) (jo0 (an0++aj0) (c::s))=x at *
  rw[<- hb]
  exact rT1 @eqS.eq_1
abbrev noneV:V:=.ifc 61 (.agg [])
def mRes (b:Bool) (v:V):Res:=if b then .ret v [] else .pan noneV []
theorem kV0 (b:Bool):J prog iI0 [vB b] [] (·=mRes b (.tup [])):=by
 refine av0 qI0 (by simp) ?_
 cases b with
 | true =>
  refine rS1 @jt0.eq_1 ?_
  refine ch0 [] ?_
  exact rT1 @mRes.eq_1
 | false =>
  refine rS1 @jt0.eq_1 ?_
  refine endP ?_
  exact rT1 @mRes.eq_1
theorem ao0:J prog iI0 [vB true] [] (·=.ret (.tup []) []):=kV0 true
theorem jV0:J prog iI0 [vB false] [] (·=.pan noneV []):=kV0 false
theorem oK0 (s:Bs) (hs:s.length<2 ^ 40):J prog e40 [vS (bS s)] [] (·=mRes (cT0 s) (vS (bS s))):=by
 refine av0 qJ0 (by simp) ?_
 generalize hn:cT0 s=nb
 rw[nameB_eq] at hn
 refine rS1 @mu0.eq_1 ?_
 refine ak0 ?_;simp;refine ah0 (pJ0 s hs) (by simp) ?_
 cases h1:qj0 s with
 | false =>
  rw[h1] at hn;subst hn
  refine rS0 ?_
  refine aa0 [] ?_
  simp
  have hO:=jV0
  try simp[iA0] at hO
  refine af0 hO ?_
  refine rS0 ?_
  refine endP ?_
  exact rT1 @mRes.eq_1
 | true =>
  refine rS0 ?_
  refine ak0 ?_;simp;refine ah0 (g50 (bS s)) (by simp) ?_
  have hr:bt0 (bS s)=mQ0.contains s:=rfl
  rw[hr]
  cases h2:mQ0.contains s with
  | true =>
   rw[h1,h2] at hn;subst hn
   refine rS0 ?_
   refine aa0 [] ?_
   simp
   have hO:=jV0
   try simp[iA0] at hO
   refine af0 hO ?_
   refine rS0 ?_
   refine endP ?_
   exact rT1 @mRes.eq_1
  | false =>
   rw[h1,h2] at hn;subst hn
   refine rS0 ?_
   refine aa0 [] ?_
   simp
   have hO:=ao0
   try simp[iA0] at hO
   refine ab0 10 hO ?_
   refine rS0 ?_
   refine ay0 [] ?_
   exact rT1 @mRes.eq_1
theorem tyB_snoc {r:Nat} {l:Bs} {c:UInt8} (hb:c50 (l++[c])=false) (hl:l≠[]):tyB (r+1) (l++[c]) =
  (if [91].isPrefixOf l then decide (c=93)&&tyB r (l.drop 1)
  else if cl0.isPrefixOf l then decide (c=125)&&tyB r (l.drop 5)
  else if bz0.isPrefixOf l then decide (c=125)&&tyB r (l.drop 6)
  else false):=by
 have h2:¬ (l++[c]).length<2:=by
  have:=List.length_pos_iff.2 hl
  simp;omega
 rw[tyB,hb,List.dropLast_concat,List.getLast?_concat]
 simp only[Bool.false_eq_true,if_false,if_neg h2,Option.some.injEq]
theorem ki0 {r:Nat} {s:Bs} (h:c50 s=true):tyB r s=true:=by cases r<;>simp[tyB,h]
theorem oJ0:∀ (r d:Nat) (s:Bs),d+r=4->s.length<2 ^ 40->Ret prog ny0 [vS (bS s),vI d] (vB (tyB r s)):=by
 intro r
 induction r with
 | zero =>
  intro d s hd hs
  have hd4:d=4:=by omega
  subst hd4
  refine av0 mF0 (by simp) ?_
  by_cases h1:s=eu0
  ·subst h1
   refine rS2 @bE0.eq_1 @eu0.eq_1 ?_
   refine ay0 [] ?_
   simp +contextual (maxSteps:=2000000) (disch:=omega) [-Int.not_lt,-Int.not_le,-Nat.not_lt,-Nat.not_le,sx,ki0 (s:=[105,110,116]) (by decide)]
  by_cases h2:s=ek0
  ·subst h2
   refine rS2 @bE0.eq_1 @ek0.eq_1 ?_
   refine ay0 [] ?_
   simp +contextual (maxSteps:=2000000) (disch:=omega) [-Int.not_lt,-Int.not_le,-Nat.not_lt,-Nat.not_le,sx,ki0 (s:=[98,111,111,108]) (by decide)]
  by_cases h3:s=ck0
  ·subst h3
   refine rS2 @bE0.eq_1 @ck0.eq_1 ?_
   refine ay0 [] ?_
   simp +contextual (maxSteps:=2000000) (disch:=omega) [-Int.not_lt,-Int.not_le,-Nat.not_lt,-Nat.not_le,sx,ki0 (s:=[116,101,120,116]) (by decide)]
  have hb:tyB 0 s=false:=by simp[tyB,c50,h1,h2,h3]
  rw[hb]
  have h1':¬ s=[105,110,116]:=h1
  have h2':¬ s=[98,111,111,108]:=h2
  have h3':¬ s=[116,101,120,116]:=h3
  have hsz:(bS s).size=s.length:=rfl
  by_cases hl:s.length<2
  ·have hl':(s.length:Int)<2:=by omega
   refine rS6 @bE0.eq_1 h1' h2' h3' hsz hl' ?_
   refine ay0 [] ?_
   exact rT0
  ·have hl':¬ (s.length:Int)<2:=by omega
   refine rS6 @bE0.eq_1 h1' h2' h3' hsz hl' ?_
   refine ay0 [] ?_
   exact rT0
 | succ r ih =>
  intro d s hd hs
  have hd3:d<=3:=by omega
  have hd4:(d:Int)<=4:=by omega
  have hd4':¬ (4:Int)<=d:=by omega
  refine av0 mF0 (by simp) ?_
  by_cases h1:s=eu0
  ·subst h1
   refine rS3 @bE0.eq_1 @eu0.eq_1 hd4 ?_
   refine ay0 [] ?_
   simp +contextual (maxSteps:=2000000) (disch:=omega) [-Int.not_lt,-Int.not_le,-Nat.not_lt,-Nat.not_le,sx,ki0 (s:=[105,110,116]) (by decide),hd4]
  by_cases h2:s=ek0
  ·subst h2
   refine rS3 @bE0.eq_1 @ek0.eq_1 hd4 ?_
   refine ay0 [] ?_
   simp +contextual (maxSteps:=2000000) (disch:=omega) [-Int.not_lt,-Int.not_le,-Nat.not_lt,-Nat.not_le,sx,ki0 (s:=[98,111,111,108]) (by decide),hd4]
  by_cases h3:s=ck0
  ·subst h3
   refine rS3 @bE0.eq_1 @ck0.eq_1 hd4 ?_
   refine ay0 [] ?_
   simp +contextual (maxSteps:=2000000) (disch:=omega) [-Int.not_lt,-Int.not_le,-Nat.not_lt,-Nat.not_le,sx,ki0 (s:=[116,101,120,116]) (by decide),hd4]
  have hb:c50 s=false:=by simp[c50,h1,h2,h3]
  have h1':¬ s=[105,110,116]:=h1
  have h2':¬ s=[98,111,111,108]:=h2
  have h3':¬ s=[116,101,120,116]:=h3
  have hsz:(bS s).size=s.length:=rfl
  generalize hw:tyB (r+1) s=R
  by_cases hl:s.length<2
  ·have hl':(s.length:Int)<2:=by omega
   rw[tyB,hb,if_neg (by simp),if_pos hl] at hw
   subst hw
   refine rS6 @bE0.eq_1 h1' h2' h3' hsz hl' ?_
   refine ay0 [] ?_
   exact rT0
  have hl':¬ (s.length:Int)<2:=by omega
  rcases List.eq_nil_or_concat s with rfl|⟨l,c,rfl⟩
  ·exact absurd (by simp) hl
  rw[List.concat_eq_append] at *
  have hne:l≠[]:=by rintro rfl;simp at hl
  rw[tyB_snoc hb hne] at hw
  have hsz':(bS (l++[c])).size=l.length+1:=by rw[hsz];simp
  have hl2:¬ ((l.length:Int)+1<2):=by simp at hl';omega
  have hls:l.length+1<2 ^ 40:=by simpa using hs
  have hx:(bS (l++[c])).extract 0 l.length=bS l:=by rw[c60];simp
  have hgc:(l++[c])[l.length]?=some c:=by simp
  clear hsz hs hl hl'
  refine rS8 @bE0.eq_1 h1' h2' h3' hsz' hl2 hd4' hx ?_
  refine ak0 ?_;simp;refine ah0 (dg0 (bS l) (bS [91])) (by simp) ?_
  unfold cutP
  rw[show sB (bS l)=l from rfl,show sB (bS [91])=[91] from rfl]
  cases hp1:[91].isPrefixOf l with
  | true =>
   have hx1:(bS l).extract (bS [91]).size (bS l).size=bS (l.drop 1):=by
    rw[c60,List.take_of_length_le (by rw[List.length_drop];exact Nat.le_refl _)];rfl
   rw[hp1,if_pos rfl] at hw
   rw[hx1]
   by_cases hc:c=93
   ·subst hc
    refine rS2 hsz' hgc ?_
    refine ak0 ?_;simp;refine ah0 (ih (d+1) l.tail (by omega) (by rw[List.length_tail];omega)) (by simp) ?_
    rw[List.drop_one] at hw
    simp only[decide_true,Bool.true_and] at hw
    rw[hw]
    refine rS0 ?_
    refine ay0 [] ?_
    exact rT0
   ·have hc':¬ (c.toNat:Int)=93:=λh=>hc (UInt8.toNat_inj.1 (by exact_mod_cast h))
    simp only[hc,decide_false,Bool.false_and] at hw
    subst hw
    refine rS3 hsz' hgc hc' ?_
    refine ay0 [] ?_
    exact rT0
  | false =>
  rw[hp1,if_neg (by simp)] at hw
  refine rS0 ?_
  refine aT0 (λy:Nat=>2-y) (λy=>[(49,vI y),(48,vI 2),(47,.arr (.l 47 0) 0 2),(0,vS (bS (l++[c]))),(1,vI d)])
   (λ_=>[(.l 47 0,.row 9 1 true [[vS (bS cl0)],[vS (bS bz0)]])])
   (λy=>y<=2/\(0<y->cl0.isPrefixOf l=false)/\(1<y->bz0.isPrefixOf l=false)) 0 (by simp) (Wk.subs (by simp) (by simp[cl0,bz0])) ?_
  rintro y ⟨hy,g1,g2⟩
  have:y=0\/y=1\/y=2:=by omega
  rcases this with rfl|rfl|rfl
  ·refine rS0 ?_
   rw[aV0 (e:=[vS (bS cl0)]) rfl]
   refine rS3 hsz' hl2 hx ?_
   refine ak0 ?_;simp;refine ah0 (dg0 (bS l) (bS cl0)) (by simp) ?_
   unfold cutP
   rw[show sB (bS l)=l from rfl,show sB (bS cl0)=cl0 from rfl]
   cases hp2:cl0.isPrefixOf l with
   | true =>
    have hx1:(bS l).extract (bS cl0).size (bS l).size=bS (l.drop 5):=by
     rw[c60,List.take_of_length_le (by rw[List.length_drop];exact Nat.le_refl _)];rfl
    rw[hp2,if_pos rfl] at hw
    rw[hx1]
    by_cases hc:c=125
    ·subst hc
     refine rS2 hsz' hgc ?_
     refine ak0 ?_;simp;refine ah0 (ih (d+1) (l.drop 5) (by omega) (by simp;omega)) (by simp) ?_
     simp only[decide_true,Bool.true_and] at hw
     rw[hw]
     refine rS0 ?_
     refine ay0 [] ?_
     exact rT0
    ·have hc':¬ (c.toNat:Int)=125:=λh=>hc (UInt8.toNat_inj.1 (by exact_mod_cast h))
     simp only[hc,decide_false,Bool.false_and] at hw
     subst hw
     refine rS3 hsz' hgc hc' ?_
     refine ay0 [] ?_
     exact rT0
   | false =>
    refine rS0 ?_
    refine .of 1 ⟨by omega,λq=>absurd q (by omega)⟩ (by omega) (Wk.subs (by simp) (by simp))
  ·have g1:=g1 (by omega)
   rw[g1,if_neg (by simp)] at hw
   refine rS0 ?_
   rw[aV0 (e:=[vS (bS bz0)]) rfl]
   refine rS3 hsz' hl2 hx ?_
   refine ak0 ?_;simp;refine ah0 (dg0 (bS l) (bS bz0)) (by simp) ?_
   unfold cutP
   rw[show sB (bS l)=l from rfl,show sB (bS bz0)=bz0 from rfl]
   cases hp2:bz0.isPrefixOf l with
   | true =>
    have hx1:(bS l).extract (bS bz0).size (bS l).size=bS (l.drop 6):=by
     rw[c60,List.take_of_length_le (by rw[List.length_drop];exact Nat.le_refl _)];rfl
    rw[hp2,if_pos rfl] at hw
    rw[hx1]
    by_cases hc:c=125
    ·subst hc
     refine rS2 hsz' hgc ?_
     refine ak0 ?_;simp;refine ah0 (ih (d+1) (l.drop 6) (by omega) (by simp;omega)) (by simp) ?_
     simp only[decide_true,Bool.true_and] at hw
     rw[hw]
     refine rS0 ?_
     refine ay0 [] ?_
     exact rT0
    ·have hc':¬ (c.toNat:Int)=125:=λh=>hc (UInt8.toNat_inj.1 (by exact_mod_cast h))
     simp only[hc,decide_false,Bool.false_and] at hw
     subst hw
     refine rS3 hsz' hgc hc' ?_
     refine ay0 [] ?_
     exact rT0
   | false =>
    refine rS0 ?_
    refine .of 2 ⟨by omega,λ_=>g1⟩ (by omega) (Wk.subs (by simp) (by simp))
  ·have g1:=g1 (by omega)
   have g2:=g2 (by omega)
   rw[g1,g2] at hw
   simp only[Bool.false_eq_true,if_false] at hw
   subst hw
   refine rS0 ?_
   refine ay0 [] ?_
   exact rT0
theorem h70 (s:Bs) (hs:s.length<2 ^ 40):Ret prog nx0 [vS (bS s)] (vB (sk0 s)):=by
 have h:=oJ0 3 1 s rfl hs
 refine cH0 qH0 (by simp) ?_
 refine rS1 @mt0.eq_1 ?_
 refine ak0 ?_;simp;refine ah0 (h) (by simp) ?_
 exact rT1 @sk0.eq_1
abbrev sw0 (a e:Int):V:=.ifc lf0 (.agg [vI a,vI e])
def LxS.after (x:LxS):LxR (Int × Bs × Int × Nat)->Res
 | .bad a e=>.pan (sw0 a e) x.obs
 | .ok (k,t,n,j)=>if 4096<=x.out.length then .pan (sw0 x.at_ 36) x.obs else .ret (.tup []) ({ x with out:=x.out++[⟨k,bS t,n,x.at_⟩],at_:=j }:LxS).obs'
theorem UInt8.sub48 {c:UInt8} (h:aj0.contains c=true):48<=c.toNat/\c.toNat<=57:=by
 simp[aj0] at h
 rcases h with h|h|h|h|h|h|h|h|h|h<;>subst h<;>decide
def numR (s:Bs) (i:Nat):LxR (Int × Bs × Int × Nat) :=
 if bp0 aj0 s i-i > 1/\s[i]?=some 48 then .bad i 30 else match numV ((s.drop i).take (bp0 aj0 s i-i)) 0 with
  | none=>.bad i 3
  | some n=>.ok (2,(s.drop i).take (bp0 aj0 s i-i),n,bp0 aj0 s i)
theorem runTo_all (set s:Bs) (i:Nat):∀ c∈(s.drop i).take (bp0 set s i-i),set.contains c=true:=by
 unfold bp0
 rw[Nat.add_sub_cancel_left]
 intro c hc
 rw[<- List.prefix_iff_eq_take.1 (List.takeWhile_prefix _)] at hc
 generalize s.drop i=l at hc
 induction l with
 | nil=>simp at hc
 | cons a l ih =>
  rw[List.takeWhile_cons] at hc
  split at hc
  ·rcases List.mem_cons.1 hc with rfl|hc
   ·assumption
   ·exact ih hc
  ·simp at hc
theorem nN0 (x:LxS) (i:Nat) (hx:x.at_=i) (hi:i<x.s.size) (hs:x.s.size<2 ^ 40) (ho:x.out.length<=4096) :
  J prog hE0 [.bp (.e 0) 0] x.obs (·=x.after (numR (sB x.s) i)):=by
 obtain⟨s,a,out⟩:=x
 dsimp only at hx hi hs ho ⊢
 subst hx
 have hz:s.size=(sB s).length:=rfl
 have hge:=kd0 aj0 (sB s) i
 have hle:bp0 aj0 (sB s) i<=s.size:=ke0 (by omega)
 have hall:=runTo_all aj0 (sB s) i
 have hget:(sB s)[i]?=some (sB s)[i]:=List.getElem?_eq_getElem (by omega)
 refine av0 k20 (by simp[LxS.obs]) ?_
 refine rS4 @gA0.eq_1 @LxS.obs.eq_1 @hpE.eq_1 @hpE.eq_2 ?_
 refine aa0 [.e 0,.e 1] ?_
 simp
 have hO:=jG0 ⟨s,i,out⟩ ⟨⟨[48,49,50,51,52,53,54,55,56,57]⟩⟩ i rfl hs
 try simp[LxS.obs,LxS.obs',Tok.ac0] at hO
 refine ab0 9 hO ?_
 rw[show sB ⟨⟨[48,49,50,51,52,53,54,55,56,57]⟩⟩=aj0 from rfl]
 unfold numR
 generalize hp:bp0 aj0 (sB s) i=p at *
 have hlen:(sB (s.extract i p)).length=p-i:=by rw[eo0];simp;omega
 by_cases h0:1<p-i/\(sB s)[i]=48
 ·obtain⟨h1,h2⟩:=h0
  rw[if_pos ⟨h1,by rw[hget,h2]⟩]
  refine rS0 ?_
  refine⟨(sB s)[i],by simp[sB],λ_=>?_,λh=>absurd (by rw[h2];rfl) h⟩
  refine aa0 [.e 0,.e 1] ?_
  simp
  have hO:=a10 ⟨s,i,out⟩ i 30
  try simp[LxS.obs,LxS.obs',Tok.ac0] at hO
  refine af0 hO ?_
  refine rS0 ?_
  refine endP ?_
  exact rT3 @LxS.after.eq_1 @LxS.after.eq_2 @LxS.obs.eq_1
 rw[if_neg (λh=>h0 ⟨h.1,by rw[hget] at h;exact Option.some.inj h.2⟩)]
 have hll:((sB s).drop i).take (p-i)=sB (s.extract i p):=(eo0 s i p).symm
 rw[hll] at hall ⊢
 have hsz:(s.extract i p).size=p-i:=hlen
 generalize hT:s.extract i p=T at *
 refine rS0 ?_
 rw[hT]
 refine⟨λh1=>⟨(sB s)[i],by simp[sB],λh2=>?_,λh2=>?_⟩,λh1=>?_⟩
 ·exact absurd ⟨by omega,UInt8.toNat_inj.1 (by exact_mod_cast h2)⟩ h0
 all_goals
  refine aT0 (λy:Nat × Int=>(sB T).length-y.1) (λy=>[(37,vI y.1),(36,vI (sB T).length),(35,.lst (bi0 T)),(4,vI y.2),(3,vS T),(2,vI p),(0,.bp (.e 0) 0)])
   (λ_=>[(.e 0,.box [vS s,vI i,.arr (.e 1) 0 out.length]),(.e 1,.row cg0 4 true (out.map Tok.cells))])
   (λy=>y.1<=(sB T).length/\0<=y.2/\y.2<=9223372036854775807/\numV ((sB T).drop y.1) y.2=numV (sB T) 0) (0,0) ⟨by simp,by simp,by simp,rfl⟩ (Wk.subs (by simp[bi0]) (by simp)) ?_
  rintro⟨j,m⟩ ⟨hj,hm0,hm1,hv⟩
  dsimp only at hj hm0 hm1 hv
  refine rS1 @bi0.eq_1 ?_
  refine⟨λhl=>?_,λhl=>?_⟩
  ·have hl':j<(sB T).length:=hl
   have hc:=hall _ (List.getElem_mem hl')
   obtain⟨c0,c1⟩:=UInt8.sub48 hc
   have e:(List.map (λb=>[V.c (Value.int IntKind.u8 ↑b.toNat)]) T.data.toList)[j]?=some [vU (sB T)[j]]:=by
    rw[List.getElem?_map,show T.data.toList=sB T from rfl,List.getElem?_eq_getElem hl'];rfl
   rw[aV0 e]
   rw[List.drop_eq_getElem_cons hl',numV] at hv
   generalize (sB T)[j]=c at *
   have w1:IntKind.u8.wrap ((c.toNat:Int)-48)=c.toNat-48:=by
    simp[IntKind.wrap,IntKind.signed,IntKind.bits];omega
   have w2:IntKind.i64.wrap ((c.toNat:Int)-48)=c.toNat-48:=by
    simp[IntKind.wrap,IntKind.signed,IntKind.bits];omega
   have w3:IntKind.i64.wrap (9223372036854775807-((c.toNat:Int)-48))=9223372036854775807-((c.toNat:Int)-48):=by
    simp[IntKind.wrap,IntKind.signed,IntKind.bits];omega
   have q1:(9223372036854775807-((c.toNat:Int)-48)).tdiv 10=(9223372036854775807-((c.toNat:Int)-48)) / 10:=Int.tdiv_eq_ediv_of_nonneg (by omega)
   rw[q1] at hv
   refine rS4 w1 w2 w3 q1 ?_
   refine⟨λhb=>?_,λhb=>?_⟩
   ·rw[if_pos (by omega)] at hv
    rw[<- hv]
    refine aa0 [.e 0,.e 1] ?_
    simp
    have hO:=a10 ⟨s,i,out⟩ i 3
    try simp[LxS.obs,LxS.obs',Tok.ac0] at hO
    refine af0 hO ?_
    refine rS0 ?_
    refine endP ?_
    exact rT3 @LxS.after.eq_1 @LxS.after.eq_2 @LxS.obs.eq_1
   ·rw[if_neg (by omega)] at hv
    refine .of (j+1,m*10+((c.toNat:Int)-48)) ⟨by dsimp only;omega,by dsimp only;omega,by dsimp only;omega,hv⟩ (by dsimp only;omega) (Wk.subs (by simp[bi0]) (by simp))
  ·rw[List.drop_of_length_le (by show T.size<=j;omega),numV] at hv
   rw[<- hv]
   by_cases hfull:4096<=out.length
   ·refine aa0 [.e 0,.e 1] ?_
    simp
    have hO:=eb0 ⟨s,i,out⟩ ⟨2,T,m,0⟩ p hfull (by dsimp only;omega)
    try simp[LxS.obs,LxS.obs',Tok.ac0] at hO
    refine af0 hO ?_
    refine rS0 ?_
    refine endP ?_
    exact rT4 @LxS.after.eq_1 @LxS.after.eq_2 @LxS.obs.eq_1 hfull
   ·refine aa0 [.e 0,.e 1] ?_
    simp
    have hO:=e90 ⟨s,i,out⟩ ⟨2,T,m,0⟩ p (by dsimp only;omega)
    try simp[LxS.obs,LxS.obs',Tok.ac0] at hO
    refine ab0 65 hO ?_
    refine rS0 ?_
    refine ch0 [.l 65 0] ?_
    exact rT5 @LxS.after.eq_1 @LxS.after.eq_2 @LxS.obs'.eq_1 hfull @Tok.ac0
end Go.Am
end

section
namespace Go.Proofs
open Go.Shelf
def Tryz.nM0:Go.Shelf.Ren:=⟨fun|240=>69|276=>85|n=>n,fun|70=>64|72=>67|37=>65|164=>125|n=>n,fun|n=>n⟩
theorem Tryz.lays240:Go.Proofs.Lays.n240 Tryz.prog Tryz.nM0:={
 mixed:=by kernel_rfl
 f240:=Tryz.func69.trans (congrArg some (by kernel_rfl))
 f276:=Tryz.func85.trans (congrArg some (by kernel_rfl))
 t0:=Tryz.underlying0
 a0:=Tryz.isAgg0
 z0:=Tryz.sizeOf0
 v0:=Tryz.zeroValue0
 t4:=Tryz.underlying4
 a4:=Tryz.isAgg4
 z4:=Tryz.sizeOf4
 v4:=Tryz.zeroValue4
 t9:=Tryz.underlying9
 a9:=Tryz.isAgg9
 z9:=Tryz.sizeOf9
 v9:=Tryz.zeroValue9
 t20:=Tryz.underlying20
 a20:=Tryz.isAgg20
 z20:=Tryz.sizeOf20
 v20:=Tryz.zeroValue20
 t70:=Tryz.underlying64
 a70:=Tryz.isAgg64
 z70:=Tryz.sizeOf64
 v70:=Tryz.zeroValue64
 t72:=Tryz.underlying67
 a72:=Tryz.isAgg67
 z72:=Tryz.sizeOf67
 v72:=Tryz.zeroValue67
 t164:=Tryz.underlying125
 a164:=Tryz.isAgg125
 z164:=Tryz.sizeOf125
 v164:=Tryz.zeroValue125 }
theorem Tryz.bx72:Builder.X72 Tryz.prog Tryz.nM0:=⟨by kernel_rfl,by kernel_rfl⟩
variable {P:Program} {ρ:Ren}
set_option maxHeartbeats 1000000 in
set_option maxRecDepth 100000 in
theorem ns0 (L:Lays.n240 P ρ) (X:Builder.X72 P ρ) (b e cells:Nat) (w:World) (h0:w.cell? ⟨b,0,none⟩=some (.pointer none)) (hsh:w.shape? b=some (e,cells)) (hc:0<cells)
  (hlies:liesAt P P.depth e (cells / P.cellsOf e) 0 (ρ.t 72) 1=true) (hfz:w.frozen? ⟨b,0,none⟩=false) :
  Calls P (ρ.f 240) #[.pointer (some ⟨b,0,none⟩)] w λe w'=>e=.returned (.tuple #[])/\w'=w.setCell ⟨b,0,none⟩ (.pointer (some ⟨b,0,none⟩)):=by
 obtain⟨j,hj,hjs⟩:=Option.map_eq_some_iff.1 X.sizeBuilder
 have mixed:=L.mixed
 have t72:=L.t72;have a72:=L.a72;have z72:=L.z72;have v72:=L.v72;have u72:=run_underlying L.t72
 have t70:=L.t70;have a70:=L.a70;have z70:=L.z70;have v70:=L.v70;have u70:=run_underlying L.t70
 have t9:=L.t9;have a9:=L.a9;have z9:=L.z9;have v9:=L.v9;have u9:=run_underlying L.t9
 have t4:=L.t4;have a4:=L.a4;have z4:=L.z4;have v4:=L.v4;have u4:=run_underlying L.t4
 have t164:=L.t164;have a164:=L.a164;have z164:=L.z164;have v164:=L.v164;have u164:=run_underlying L.t164
 go_enter L.f240,Body.n240_ntmps ρ
 go_wp2
 rw[Lib.run_to_unsafe w ⟨b,0,none⟩ L.t70 L.t164 hj (by rw[hjs];decide) hsh hc]
 simp only[Result.andThen]
 rw[Oper.upon_value]
 go_wp2
 rw[run_callFunc_extern L.f276 (by kernel_rfl) (by kernel_rfl) (by kernel_rfl) (e:=Extern.AbiNoEscape.same) (by kernel_rfl)]
 rw[Lib.run_noEscape]
 simp only[Result.andThen]
 rw[Oper.upon_value]
 go_wp2
 rw[Lib.run_from_unsafe w ⟨b,0,none⟩ L.t164 L.t70 hj hsh hlies]
 simp only[Result.andThen]
 rw[Oper.upon_value]
 go_wp2
 go_end0
 exact⟨rfl,rfl⟩
end Go.Proofs
end

section
namespace Go.Am
set_option maxRecDepth 100000
theorem hpE_set {o:Ob}:∀ {l:List Ob} {k:Nat},0<k->Hp.set (.e 0) o (hpE k l)=hpE k l
 | [],k,h=>rfl
 | x::l,k,h=>by
  have:=hpE_set (o:=o) (l:=l) (k:=k+1) (by omega)
  simp only[Hp.set] at this ⊢
  simp only[hpE,List.map_cons,this]
  rw[if_neg (by simp;omega)]
theorem hpE_set0 {o:Ob} {l:List Ob}:Hp.set (.e 0) o (hpE 0 (o::l))=hpE 0 (o::l):=by
 have:=hpE_set (o:=o) (l:=l) (k:=1) (by omega)
 simp only[Hp.set] at this ⊢
 simp only[hpE,List.map_cons,if_true,this]
theorem hS0 {T:Nat} {x:V} {more:List Ob} (hT:liesAt prog prog.depth T (2 / prog.cellsOf T) 0 67 1=true) :
  J prog ce0 [.bp (.e 0) 0] (.box [.self (.e 0) T,x]::more) (·=.ret (.tup []) (.box [.self (.e 0) T,x]::more)):=by
 intro H μ vs w hv hW
 have r0:=hv.2 0 _ rfl
 have hvs:vs=#[vs.getD 0 undef]:=by
  apply Array.ext
  ·have:=hv.1;simpa using this
  ·intro i h1 h2
   have h3:i=0:=by simp at h2;omega
   have hs:vs.size=1:=by have:=hv.1;simpa using this
   subst h3;simp[Array.getD,hs]
 rw[hvs]
 generalize vs.getD 0 undef=p at r0
 cases r0 with
 | bp _ _ blk hb =>
 have hl0:(hpE 0 (.box [.self (.e 0) T,x]::more)).lookup (.e 0)=some (.box [.self (.e 0) T,x]):=rfl
 obtain⟨blk',vals,ty,k1,k2,k3,⟨k4,k6⟩,k5⟩:=hW.ob _ _ hl0
 rw[hb] at k1;injection k1 with k1;subst k1
 obtain⟨c0,q1,q2⟩:=k5 0 _ rfl
 cases q2 with
 | self _ _ a blk2 h2 ht ha =>
 rw[hb] at h2;injection h2 with h2;subst h2
 have hty:ty=T:=by rw[k6,ht]
 subst hty
 have hcell:w.cell? ⟨blk.b,0,none⟩=some (.pointer a):=by simpa[World.cell?,k2] using q1
 have hshape:w.shape? blk.b=some (ty,2):=by simp[World.shape?,k2,k3]
 have hfroz:w.frozen? ⟨blk.b,0,none⟩=false:=by simp[World.frozen?,k2]
 have hgo:(callFunc ce0 #[.pointer (some ⟨blk.b,0,none⟩)]).run prog w=.ok (.enter ce0 #[.pointer (some ⟨blk.b,0,none⟩)]) w:=by
  have hf:=Go.Proofs.Tryz.func69
  obtain⟨c,hc⟩:∃ c,Go.Proofs.Tryz.f69.body=some c:=⟨_,rfl⟩
  have hn:(Go.Proofs.Tryz.f69.name == "runtime.NumGoroutine")=false:=by kernel_rfl
  have hn':¬ Go.Proofs.Tryz.f69.name = "runtime.NumGoroutine":=by simpa using hn
  simp[callFunc,hf,hn',hc]
 unfold ed0
 rw[hgo]
 rcases ha with rfl|rfl
 ·refine Calls.mono (Go.Proofs.ns0 Go.Proofs.Tryz.lays240 Go.Proofs.Tryz.bx72 blk.b ty 2 w hcell hshape (by omega) hT hfroz) ?_
  rintro e w' ⟨rfl,rfl⟩
  rw[setCell_eq_setRow w blk.b 0 vals ty (0,0) _ k2]
  have hO:ObOk H μ (w.setRow blk.b (vals.setIfInBounds 0 (.pointer (some ⟨blk.b,0,none⟩)))) (.e 0) (.box [.self (.e 0) ty,x]):=by
   refine⟨blk,_,ty,hb,setRow_heap w blk.b vals _ ty _ k2,by simpa using k3,⟨k4,k6⟩,λj v hj=>?_⟩
   cases j with
   | zero =>
    simp at hj;subst hj
    refine⟨.pointer (some ⟨blk.b,0,none⟩),?_,.self _ _ _ blk hb ht (.inr rfl)⟩
    have:0<vals.size:=by rw[k3];simp
    simp[this]
   | succ j =>
    obtain⟨y,g1,g2⟩:=k5 (j+1) v hj
    exact⟨y,by simpa using g1,g2⟩
  obtain⟨g1,g2⟩:=hW.write hl0 rfl hb k2 rfl hO
  rw[hpE_set0] at g1 g2
  exact⟨_,H,μ,rfl,⟨_,rfl,.tup [] #[] rfl (λj v h=>by simp at h)⟩,g2.toNj,g1,Nat.le_refl _,λ_ _ _ _ _=>rfl⟩
 ·refine Calls.mono (Go.Proofs.Any.Builder_copyCheck_used Go.Proofs.Tryz.lays240 Go.Proofs.Tryz.bx72 blk.b _ hcell) ?_
  rintro e w' ⟨rfl,rfl⟩
  exact⟨_,H,μ,rfl,⟨_,rfl,.tup [] #[] rfl (λj v h=>by simp at h)⟩,(Nx.refl H μ _ _).toNj,hW,Nat.le_refl _,λ_ _ _ _ _=>rfl⟩
end Go.Am
end

section
namespace Go.Am
set_option maxRecDepth 100000
attribute [local irreducible] vc vcIs vcI vcOp vcD vcDp vcDR vcT vcAR cf0 bb0 panD neG ne pv J bY0 b50 ci0 bo0 evK evsK nthK objK boxK rowK bQ0 intK strK aggK fnK ifcK az0 aA0 ldK ldaK iaK srcK stK appK appD cn0 pvK bT0 a30 b40 bJ0 slAV bX0
theorem bH0:ofConst .nilIface=.c .nilIface:=_root_.id rfl
def aq0 (b:UInt8):List V:=[vU b]
def ae0 (T:Nat) (bs:List UInt8):List Ob:=[.box [.self (.e 0) T,.arr (.e 1) 0 bs.length],.row 5 1 true (bs.map aq0)]
def ad0 (T:Nat) (bs:List UInt8):List Ob:=[.box [.self (.e 0) T,.arr (.e 2) 0 bs.length],.gone,.row 5 1 true (bs.map aq0)]
theorem iZ0 (T:Nat) (bs:List UInt8):J prog dp0 [.bp (.e 0) 0] (ae0 T bs) (·=.ret (vI bs.length) (ae0 T bs)):=by
 refine av0 e20 (by simp[ae0]) ?_
 refine rS4 @dd0.eq_1 @ae0.eq_1 @hpE.eq_1 @hpE.eq_2 ?_
 refine ay0 [] ?_
 exact rT0
theorem da0 (T:Nat) (bs:List UInt8) (c:UInt8) (hT:liesAt prog prog.depth T (2 / prog.cellsOf T) 0 67 1=true) (hl:bs.length<2 ^ 40) :
  J prog cc0 [.bp (.e 0) 0,vU c] (ae0 T bs) (·=.ret (.c .nilIface) (ad0 T (bs++[c]))):=by
 refine av0 dk0 (by simp[ae0]) ?_
 refine rS4 @bZ0.eq_1 @ae0.eq_1 @hpE.eq_1 @hpE.eq_2 ?_
 refine aa0 [.e 0,.e 1] ?_
 simp
 have hO:=hS0 (T:=T) (x:=.arr (.e 1) 0 bs.length) (more:=[.row 5 1 true (bs.map aq0)]) hT
 try simp[ae0,ad0] at hO
 refine ab0 6 hO ?_
 refine rS1 @bH0 ?_
 refine ay0 [.l 14 0] ?_
 exact rT3 @ad0.eq_1 @aq0.eq_1 @bH0
def aC0 (T:Nat):List Ob:=[.box [.self (.e 0) T,.nil]]
theorem nd0 (T:Nat):J prog dp0 [.bp (.e 0) 0] (aC0 T) (·=.ret (vI 0) (aC0 T)):=by
 refine av0 e20 (by simp[aC0]) ?_
 refine rS4 @dd0.eq_1 @aC0.eq_1 @hpE.eq_1 @hpE.eq_2 ?_
 refine ay0 [] ?_
 exact rT0
theorem dl0 (T:Nat) (c:UInt8) (hT:liesAt prog prog.depth T (2 / prog.cellsOf T) 0 67 1=true) :
  J prog cc0 [.bp (.e 0) 0,vU c] (aC0 T) (·=.ret (.c .nilIface) (ae0 T [c])):=by
 refine av0 dk0 (by simp[aC0]) ?_
 refine rS4 @bZ0.eq_1 @aC0.eq_1 @hpE.eq_1 @hpE.eq_2 ?_
 refine aa0 [.e 0] ?_
 simp
 have hO:=hS0 (T:=T) (x:=.nil) (more:=[]) hT
 try simp[ae0,ad0] at hO
 refine ab0 6 hO ?_
 refine rS1 @bH0 ?_
 refine ay0 [.l 14 0] ?_
 exact rT3 @ae0.eq_1 @aq0.eq_1 @bH0
end Go.Am
end

section
namespace Go.Proofs
open Go.Shelf
def Tryz.nL0:Go.Shelf.Ren:=⟨fun|169=>29|n=>n,fun|70=>64|9=>9|0=>0|72=>67|37=>65|127=>108|3=>3|5=>5|n=>n,fun|n=>n⟩
theorem Tryz.lays169:Go.Proofs.Lays.n169 Tryz.prog Tryz.nL0:={
 mixed:=by kernel_rfl
 f169:=Tryz.func29.trans (congrArg some (by kernel_rfl))
 t0:=Tryz.underlying0
 a0:=Tryz.isAgg0
 z0:=Tryz.sizeOf0
 v0:=Tryz.zeroValue0
 t3:=Tryz.underlying3
 a3:=Tryz.isAgg3
 z3:=Tryz.sizeOf3
 v3:=Tryz.zeroValue3
 t9:=Tryz.underlying9
 a9:=Tryz.isAgg9
 z9:=Tryz.sizeOf9
 v9:=Tryz.zeroValue9
 t37:=Tryz.underlying65
 a37:=Tryz.isAgg65
 z37:=Tryz.sizeOf65
 v37:=Tryz.zeroValue65
 t70:=Tryz.underlying64
 a70:=Tryz.isAgg64
 z70:=Tryz.sizeOf64
 v70:=Tryz.zeroValue64
 t72:=Tryz.underlying67
 a72:=Tryz.isAgg67
 z72:=Tryz.sizeOf67
 v72:=Tryz.zeroValue67
 t127:=Tryz.underlying108
 a127:=Tryz.isAgg108
 z127:=Tryz.sizeOf108
 v127:=Tryz.zeroValue108 }
theorem Tryz.bx169:Builder.Extra Tryz.prog Tryz.nL0:=⟨⟨by kernel_rfl,by kernel_rfl⟩,Tryz.underlying5,Tryz.isAgg5,Tryz.sizeOf5,Tryz.zeroValue5,by kernel_rfl,by kernel_rfl,by kernel_rfl,by decide⟩
variable {P:Program} {ρ:Ren}
set_option maxHeartbeats 1000000 in
set_option maxRecDepth 100000 in
theorem pu0 (L:Lays.n169 P ρ) (X:Builder.Extra P ρ) (T b g cap:Nat) (p:Value) (l:List UInt8) (cur:Array Value) (w:World) (h0:l≠[]) (hbk:w.heap[b]?=some (.cells #[p,.slice (some ⟨g,0,none⟩) l.length cap] T (0,0)))
  (hg:w.heap[g]?=some (.cells cur (ρ.t 5) (0,0))) (hnc:l.length<=cap) (hcm:cap<=maxLen) (hcs:cur.size=cap) (hcell:∀ (j:Nat) (x:UInt8),l[j]?=some x->w.cell? ⟨g,j,none⟩=some (.int .u8 x.toNat)) :
  Calls P (ρ.f 169) #[.pointer (some ⟨b,0,none⟩)] w λe w'=>e=.returned (.string ⟨l.toArray⟩)/\w'=w.drew.freeze ⟨g,0,none⟩ l.length:=by
 have hl0:l.length≠0:=by simpa using h0
 have c1:w.drew.cell? ⟨b,1,none⟩=some (.slice (some ⟨g,0,none⟩) l.length cap):=by
  have:w.drew.heap[b]?=some (.cells #[p,.slice (some ⟨g,0,none⟩) l.length cap] T (0,0)):=hbk
  rw[Lib.cell_of_heap this];rfl
 have hSD:(Builtin.unsafeSliceData_ #[(ρ.t 37)] (ρ.t 127) #[.slice (some ⟨g,0,none⟩) l.length cap]).run P w.drew=.ok (.pointer (some ⟨g,0,none⟩)) w.drew :=
  Lib.run_unsafeSliceData_row _ _ _ _ _ _ (by omega)
 have hUS:(Builtin.unsafeString_ #[(ρ.t 127),(ρ.t 3)] (ρ.t 9) #[.pointer (some ⟨g,0,none⟩),.int .i64 l.length]).run P w.drew=.ok (.string ⟨l.toArray⟩) (w.drew.freeze ⟨g,0,none⟩ l.length):=by
  refine Lib.run_unsafeString_row w.drew (ρ.t 127) (ρ.t 3) (ρ.t 9) (ρ.t 5) L.t127 X.cellsByte g cur.size (by have hg':w.drew.heap[g]?=some (.cells cur (ρ.t 5) (0,0)):=hg;simp[World.shape?,hg']) l h0 (by omega) (by unfold maxLen at hcm;omega) ?_
  intro j x hx
  have h1:=hcell j x hx
  have h2:Addr.add ⟨g,0,none⟩ j=⟨g,j,none⟩:=by simp[Addr.add];omega
  rw[h2];exact h1
 have mixed:=L.mixed
 have t72:=L.t72;have a72:=L.a72;have z72:=L.z72;have v72:=L.v72;have u72:=run_underlying L.t72
 have t70:=L.t70;have a70:=L.a70;have z70:=L.z70;have v70:=L.v70;have u70:=run_underlying L.t70
 have t37:=L.t37;have a37:=L.a37;have z37:=L.z37;have v37:=L.v37;have u37:=run_underlying L.t37
 have t127:=L.t127;have a127:=L.a127;have z127:=L.z127;have v127:=L.v127;have u127:=run_underlying L.t127
 have t3:=L.t3;have a3:=L.a3;have z3:=L.z3;have v3:=L.v3;have u3:=run_underlying L.t3
 have t9:=L.t9;have a9:=L.a9;have z9:=L.z9;have v9:=L.v9;have u9:=run_underlying L.t9
 have t5:=X.t5;have a5:=X.a5;have z5:=X.z5;have v5:=X.v5;have u5:=run_underlying X.t5
 go_enter L.f169,Body.n169_ntmps ρ
 go_wp2
 go_region_o
 all_goals (go_wp2;go_ret;exact⟨rfl,rfl⟩)
set_option maxHeartbeats 2000000 in
set_option maxRecDepth 100000 in
theorem lZ0 (L:Lays.n169 P ρ) (X:Builder.Extra P ρ) (T b:Nat) (p:Value) (w:World) (hbk:w.heap[b]?=some (.cells #[p,.slice none 0 0] T (0,0))) :
  Calls P (ρ.f 169) #[.pointer (some ⟨b,0,none⟩)] w λe w'=>e=.returned (.string ⟨#[]⟩)/\w'=w.drew:=by
 have hUS:=Any.unsafeString_none L X
 have c1:w.drew.cell? ⟨b,1,none⟩=some (.slice none 0 0):=by
  have:w.drew.heap[b]?=some (.cells #[p,.slice none 0 0] T (0,0)):=hbk
  rw[Lib.cell_of_heap this];rfl
 have hSD:(Builtin.unsafeSliceData_ #[(ρ.t 37)] (ρ.t 127) #[.slice none 0 0]).run P w.drew=.ok (.pointer none) w.drew:=rfl
 have mixed:=L.mixed
 have t72:=L.t72;have a72:=L.a72;have z72:=L.z72;have v72:=L.v72;have u72:=run_underlying L.t72
 have t70:=L.t70;have a70:=L.a70;have z70:=L.z70;have v70:=L.v70;have u70:=run_underlying L.t70
 have t37:=L.t37;have a37:=L.a37;have z37:=L.z37;have v37:=L.v37;have u37:=run_underlying L.t37
 have t127:=L.t127;have a127:=L.a127;have z127:=L.z127;have v127:=L.v127;have u127:=run_underlying L.t127
 have t3:=L.t3;have a3:=L.a3;have z3:=L.z3;have v3:=L.v3;have u3:=run_underlying L.t3
 have t9:=L.t9;have a9:=L.a9;have z9:=L.z9;have v9:=L.v9;have u9:=run_underlying L.t9
 have t5:=X.t5;have a5:=X.a5;have z5:=X.z5;have v5:=X.v5;have u5:=run_underlying X.t5
 go_enter L.f169,Body.n169_ntmps ρ
 go_wp2
 go_region_o
 all_goals (go_wp2;go_ret;exact⟨rfl,rfl⟩)
end Go.Proofs
end

section
namespace Go.Am
set_option maxRecDepth 100000
theorem one_arg {H:Imm} {μ:Mu} {v:V} {vs:Array Value} (hv:RL H μ [v] vs):vs=#[vs.getD 0 undef]:=by
 apply Array.ext
 ·have:=hv.1;simpa using this
 ·intro i h1 h2
  have h3:i=0:=by simp at h2;omega
  have hs:vs.size=1:=by have:=hv.1;simpa using this
  subst h3;simp[Array.getD,hs]
theorem ni0 (p:Value) (w:World):(callFunc bM0 #[p]).run prog w=.ok (.enter bM0 #[p]) w:=by
 have hf:=Go.Proofs.Tryz.func29
 obtain⟨c,hc⟩:∃ c,Go.Proofs.Tryz.f29.body=some c:=⟨_,rfl⟩
 have hn:(Go.Proofs.Tryz.f29.name == "runtime.NumGoroutine")=false:=by kernel_rfl
 have hn':¬ Go.Proofs.Tryz.f29.name = "runtime.NumGoroutine":=by simpa using hn
 simp[callFunc,hf,hn',hc]
theorem vals2 {vals:Array Value} {c0 c1:Value} (hs:vals.size=2) (h0:vals[0+0]?=some c0) (h1:vals[0+1]?=some c1):vals=#[c0,c1]:=by
 apply Array.ext_getElem?
 intro i
 match i with
 | 0=>simpa using h0
 | 1=>simpa using h1
 | i+2=>simp[hs]
theorem Builder_String_nil (T:Nat):J prog bM0 [.bp (.e 0) 0] (aC0 T) (·=.ret (vS (bS [])) (aC0 T)):=by
 intro H μ vs w hv hW
 have r0:=hv.2 0 _ rfl
 rw[one_arg hv]
 generalize vs.getD 0 undef=p at r0
 cases r0 with
 | bp _ _ blk hb =>
 have hl0:(hpE 0 (aC0 T)).lookup (.e 0)=some (.box [.self (.e 0) T,.nil]):=rfl
 obtain⟨blk',vals,ty,k1,k2,k3,k4,k5⟩:=hW.ob _ _ hl0
 rw[hb] at k1;injection k1 with k1;subst k1
 obtain⟨c0,q1,q2⟩:=k5 0 _ rfl
 obtain⟨c1,p1,p2⟩:=k5 1 _ rfl
 cases p2
 rw[vals2 k3 q1 p1] at k2
 unfold ed0
 rw[ni0]
 refine Calls.mono (Go.Proofs.lZ0 Go.Proofs.Tryz.lays169 Go.Proofs.Tryz.bx169 ty blk.b c0 w k2) ?_
 rintro e w' ⟨rfl,rfl⟩
 exact⟨_,H,μ,rfl,⟨_,rfl,.c _⟩,(Nx.drew H μ _ w).toNj,hW.drew,Nat.le_refl _,λ_ _ _ _ _=>rfl⟩
def aR0 (T:Nat):List Ob:=[.box [.self (.e 0) T,.any],.gone]
theorem gv0 (T:Nat) (bs:List UInt8) (h0:bs≠[]):J prog bM0 [.bp (.e 0) 0] (ae0 T bs) (·=.ret (vS (bS bs)) (aR0 T)):=by
 intro H μ vs w hv hW
 have r0:=hv.2 0 _ rfl
 rw[one_arg hv]
 generalize vs.getD 0 undef=p at r0
 cases r0 with
 | bp _ _ blk hb =>
 have hl0:(hpE 0 (ae0 T bs)).lookup (.e 0)=some (.box [.self (.e 0) T,.arr (.e 1) 0 bs.length]):=rfl
 have hl1:(hpE 0 (ae0 T bs)).lookup (.e 1)=some (.row 5 1 true (bs.map aq0)):=rfl
 obtain⟨blk',vals,ty,k1,k2,k3,k4,k5⟩:=hW.ob _ _ hl0
 rw[hb] at k1;injection k1 with k1;subst k1
 obtain⟨c0,q1,q2⟩:=k5 0 _ rfl
 obtain⟨c1,p1,p2⟩:=k5 1 _ rfl
 have hl:bs.length≠0:=by simpa using h0
 cases p2 with
 | arr _ _ _ a cap hc ha =>
 obtain⟨bg,g1,g2,g3⟩:=ha.resolve_left (by omega)
 subst g2
 rw[vals2 k3 q1 p1] at k2
 rcases hW.ob _ _ hl1 with⟨z,_⟩|⟨bg',cur,m1,⟨m2,m3,m4⟩,m5,m6,m7,m8,m9,m10,m11⟩
 ·exact absurd (by simpa using z) h0
 rw[g1] at m1;injection m1 with m1;subst m1
 have hne:blk.b≠bg.b:=λe=>by
  have:=hW.inj _ _ _ _ blk bg hl0 rfl hl1 rfl hb g1 e
  cases this
 unfold ed0
 rw[ni0]
 refine Calls.mono (Go.Proofs.pu0 Go.Proofs.Tryz.lays169 Go.Proofs.Tryz.bx169 ty blk.b bg.b cap c0 bs cur w h0 (by simpa using k2) m5 hc (by omega) (by rw[m6];omega) (λj x hx=>?_)) ?_
 ·obtain⟨y,y1,y2⟩:=m11 j (aq0 x) (by rw[List.getElem?_map,hx];rfl) 0 (vU x) rfl
  cases y2
  simpa[World.cell?,m5] using y1
 rintro e w' ⟨rfl,rfl⟩
 have hoth:∀ b,b≠bg.b->(w.drew.freeze ⟨bg.b,0,none⟩ bs.length).heap[b]?=w.heap[b]?:=by
  intro b h
  simp[World.freeze,World.drew,-World.drew_eq,h0,Array.getElem?_modify,Ne.symm h]
 have hlk:∀ (i:Id) (o:Ob),(hpE 0 (aR0 T)).lookup i=some o->(i=.e 0/\o=.box [.self (.e 0) T,.any])\/o=.gone:=by
  intro i o h
  simp only[hpE,aR0,List.lookup_cons] at h
  split at h
  ·rename_i hh;exact .inl ⟨by simpa using hh,by injection h with h;exact h.symm⟩
  ·split at h
   ·injection h with h;exact .inr h.symm
   ·cases h
 refine⟨_,H,μ,rfl,⟨_,rfl,.c _⟩,⟨Imm.le_refl H,by simp[World.freeze,World.drew,-World.drew_eq,h0],by simp[World.freeze,World.drew,-World.drew_eq,h0],by simp[World.freeze,World.drew,-World.drew_eq,h0],?_,λb hb' hno=>hoth b λe=>hno ⟨.e 1,_,bg,hl1,rfl,g1,e.symm⟩,λb ho hb'=>?_,fr0⟩,⟨λi o h=>?_,λi j oi oj bi bj hi hio hj hjo _ _ _=>?_,λb cs h=>?_,hW.glo⟩,Nat.le_refl _,λ_ _ _ _ _=>rfl⟩
 ·simp[World.freeze,World.drew,-World.drew_eq,h0]
 ·obtain⟨i,o,bq,o1,o2,o3,o4⟩:=ho
  rcases hlk i o o1 with⟨rfl,rfl⟩|rfl
  ·exact⟨.e 0,_,bq,hl0,rfl,o3,o4⟩
  ·cases o2
 ·rcases hlk i o h with⟨rfl,rfl⟩|rfl
  ·refine⟨blk,_,ty,hb,by rw[hoth _ hne];exact k2,rfl,k4,λj v hj=>?_⟩
   match j with
   | 0=>simp at hj;subst hj;exact⟨c0,rfl,q2⟩
   | 1=>simp at hj;subst hj;exact⟨_,rfl,.any _⟩
   | j+2=>simp at hj
  ·trivial
 ·rcases hlk i oi hi with⟨rfl,rfl⟩|rfl
  ·rcases hlk j oj hj with⟨rfl,rfl⟩|rfl
   ·rfl
   ·cases hjo
  ·cases hio
 ·obtain⟨ty',fz,hh⟩:=hW.imm b cs h
  exact⟨ty',fz,by rw[hoth b λe=>by subst e;rw[m9 rfl] at h;cases h];exact hh⟩
end Go.Am
end

section
namespace Go.Am
set_option maxRecDepth 100000
attribute [local irreducible] vc vcIs vcI vcOp vcD vcDp vcDR vcT vcAR cf0 bb0 panD neG ne pv J bY0 b50 ci0 bo0 evK evsK nthK objK boxK rowK bQ0 intK strK aggK fnK ifcK az0 aA0 ldK ldaK iaK srcK stK appK appD cn0 pvK bT0 a30 b40 bJ0 slAV bX0
variable {ts:List Tok} {n:Nat}
theorem eQ0 (hn:n<ts.length) (hl:ts.length<2 ^ 40):J prog cQ0 [.bp (.e 0) 0,vI 1] (pObs ts n) (·=pAns ts Tok.V (df0 ts n)):=by
 rw[<- pNext_1];exact jL0 hn hl 1
theorem oG0 (hn:n<ts.length) (hl:ts.length<2 ^ 40):J prog cQ0 [.bp (.e 0) 0,vI 2] (pObs ts n) (·=pAns ts Tok.V (pInt ts n)):=by
 rw[<- pNext_2];exact jL0 hn hl 2
theorem jM0 (hE:TEnd ts) (hl:ts.length<2 ^ 40) (hn:n<ts.length):J prog gO0 [.bp (.e 0) 0] (pObs ts n) (·=pAns ts Slo.V (iv0 ts n)):=by
 have hw:iv0 ts n=iv0 ts n:=rfl
 conv at hw=>rhs;rw[iv0]
 refine av0 kt0 (by simp[pObs]) ?_
 refine rS4 @fW0.eq_1 @pObs.eq_1 @hpE.eq_1 @hpE.eq_2 ?_
 have hJ:=eQ0 hn hl
 rcases hR5:df0 ts n with⟨t,n1⟩|⟨aa,ae⟩
 rotate_left
 ·rw[hR5] at hJ hw
  try simp only[LxR.bind] at hw
  simp only[pAns,at0] at hJ
  refine aa0 [.e 0] ?_
  simp
  have hO:=hJ
  try simp[pObs] at hO
  refine af0 hO ?_
  refine rS0 ?_
  refine endP ?_
  exact rT6 hw @pAns.eq_1 @pAns.eq_2 @at0.eq_1 @at0.eq_2 @pObs.eq_1
 rw[hR5] at hJ hw
 try simp only[LxR.bind] at hw
 simp only[pAns,at0] at hJ
 refine aa0 [.e 0] ?_
 simp
 have hO:=hJ
 try simp[pObs] at hO
 refine ab0 5 hO ?_
 have q1:=bh0 hE hn hR5
 refine rS0 ?_
 have hJ:=as0 q1.2 hl [58]
 rcases hR7:aX0 ts n1 [58] with n2|⟨aa,ae⟩
 rotate_left
 ·rw[hR7] at hJ hw
  try simp only[LxR.bind] at hw
  simp only[pAns,at0] at hJ
  refine aa0 [.e 0] ?_
  simp
  have hO:=hJ
  try simp[pObs] at hO
  refine af0 hO ?_
  refine rS0 ?_
  refine endP ?_
  exact rT6 hw @pAns.eq_1 @pAns.eq_2 @at0.eq_1 @at0.eq_2 @pObs.eq_1
 rw[hR7] at hJ hw
 try simp only[LxR.bind] at hw
 simp only[pAns,at0] at hJ
 refine aa0 [.e 0] ?_
 simp
 have hO:=hJ
 try simp[pObs] at hO
 refine ab0 7 hO ?_
 have q2:=am0 hE q1.2 hR7
 refine rS0 ?_
 have hJ:=du0 hE hl 4 1 n2 rfl q2.2
 rcases hR11:cV0 ts 4 n2 with⟨k,n3⟩|⟨aa,ae⟩
 rotate_left
 ·rw[hR11] at hJ hw
  try simp only[LxR.bind] at hw
  simp only[pAns,at0] at hJ
  refine bw0 [.e 0] ?_
  simp
  have hO:=hJ
  try simp[pObs] at hO
  refine c70 hO ?_
  refine rS0 ?_
  refine endP ?_
  exact rT6 hw @pAns.eq_1 @pAns.eq_2 @at0.eq_1 @at0.eq_2 @pObs.eq_1
 rw[hR11] at hJ hw
 try simp only[LxR.bind] at hw
 simp only[pAns,at0] at hJ
 refine bw0 [.e 0] ?_
 simp
 have hO:=hJ
 try simp[pObs] at hO
 refine c00 11 hO ?_
 refine rS0 ?_
 refine ay0 [] ?_
 exact rT5 hw @pAns.eq_1 @pAns.eq_2 @pObs.eq_1 @Slo.ac0
def hM0 (L:List (List Bs)):List V:=L.map λl=>.lst (l.map λm=>[vS (bS m)])
theorem iR0 (L:List (List Bs)):lu0 (hM0 L)=true:=by
 unfold hM0 lu0
 rw[List.all_eq_true]
 intro v hv
 obtain⟨l,_,rfl⟩:=List.mem_map.1 hv
 rfl
@[simp] theorem lCells_len (L:List (List Bs)):(hM0 L).length=L.length:=by simp[hM0]
section
variable {L:List (List Bs)} {K:V->Prop} {Ks:List V->Prop} {hp:Hp}
@[simp] theorem lCells_has0 {i:Id}:V.hasL i (hM0 L)=false:=gm0 (iR0 L) i
@[simp] theorem lCells_hasS0 {ss:List Nat}:V.go0 ss (hM0 L)=false:=fp0 (iR0 L) ss
@[simp] theorem lCells_scalars0:scalars (hM0 L)=true:=cs0 (iR0 L)
@[simp] theorem lCells_pure0:V.bK0 (hM0 L)=true:=eI0 (iR0 L)
end
theorem oW0 {L:List (List Bs)} {K:V->Prop} {i:Nat} (h:i<L.length):nthK (hM0 L) i K=K (.lst (L[i].map λm=>[vS (bS m)])):=by
 rw[jI0]
 apply propext
 constructor
 ·rintro⟨v,h1,h2⟩
  simp only[hM0,List.getElem?_map,List.getElem?_eq_getElem h,Option.map_some,Option.some.injEq] at h1
  subst h1;exact h2
 ·intro h2
  exact⟨_,by simp only[hM0,List.getElem?_map,List.getElem?_eq_getElem h,Option.map_some],h2⟩
theorem dE0:Ret prog kJ0 [] (.agg (hM0 a90)):=by
 refine cH0 nC0 (by simp) ?_
 exact rT3 @js0.eq_1 @hM0.eq_1 @a90.eq_1
theorem qd0 (k:Nat) (hk:0<k) (hk2:k<2 ^ 40):J prog dj0 [.nil,vI k] [] (·=.ret (.arr (.e 0) 0 0) [.row 9 1 true (List.replicate k [vS (bS [])])]):=by
 have hk':(0:Int)<k:=by omega
 refine av0 fJ0 (by simp) ?_
 refine rS2 @c10.eq_1 hk' ?_
 refine ay0 [.l 22 0] ?_
 exact rT0
abbrev aW0 (m:Bs):List V:=[vS (bS m)]
abbrev tN0 (l:List Bs):List V:=[.lst (l.map aW0)]
def sumL (L:List (List Bs)):Nat:=(L.map List.length).sum
theorem ry0 {L:List (List Bs)} {i:Nat} (h:i<L.length):sumL (L.take (i+1))=sumL (L.take i)+L[i].length:=by
 unfold sumL
 rw[List.take_add_one,List.getElem?_eq_getElem h]
 simp only[List.map_append,List.sum_append,Option.toList_some,List.map_cons,List.map_nil,List.sum_cons,List.sum_nil,Nat.add_zero]
theorem sumL_flat (L:List (List Bs)):L.flatten.length=sumL L:=by
 unfold sumL;simp[List.length_flatten]
theorem qe0 (L:List (List Bs)) (i:Nat):sumL (L.take i)<=sumL L:=by
 have h:=List.take_append_drop i L
 unfold sumL
 conv=>rhs;rw[<- h]
 simp only[List.map_append,List.sum_append];omega
def lw0 (L:List (List Bs)) (i:Nat):List (List V):=(L.take i).flatten.map aW0
@[simp] theorem flatT_zero (L:List (List Bs)):lw0 L 0=[]:=by simp[lw0]
@[simp] theorem qD0 (L:List (List Bs)) (i:Nat):(lw0 L i).length=sumL (L.take i):=by rw[lw0,List.length_map,sumL_flat]
theorem tC0 {L:List (List Bs)} {i:Nat} (h:i<L.length):lw0 L (i+1)=lw0 L i++L[i].map aW0:=by
 unfold lw0
 rw[List.take_add_one,List.getElem?_eq_getElem h]
 simp only[Option.toList_some,List.flatten_append,List.map_append,List.flatten_cons,List.flatten_nil,List.append_nil]
theorem flatT_all (L:List (List Bs)):lw0 L L.length=L.flatten.map aW0:=by rw[lw0,List.take_length]
@[simp] theorem flatT_take (L:List (List Bs)) (i:Nat):(lw0 L i).take (sumL (L.take i))=lw0 L i:=List.take_of_length_le (by rw[qD0];exact Nat.le_refl _)
@[simp ↓] theorem mCell_head {l:List Bs}:(l.map aW0=[]\/∃ e,(l.map aW0)[0]?=some e/\e.length=1)=True:=head_map λx=>rfl
theorem mV0 (L:List (List Bs)) (h0:0<sumL L) (h1:sumL L<2 ^ 20) (h2:L.length<2 ^ 20):Ret prog cO0 [.lst (L.map tN0)] (.lst (L.flatten.map aW0)):=by
 rw[<- flatT_all]
 refine av0 e70 (by simp) ?_
 refine rS1 @cI0.eq_1 ?_
 refine aS0 L.length (λi=>[(11,vI i),(10,vI L.length),(9,.lst (L.map tN0)),(3,vI (sumL (L.take i))),(0,.lst (L.map tN0))]) (λi=>[]) (Wk.subs (by simp[sumL]) (by simp)) ?_
 intro i hi
 have hle:=qe0 L i
 by_cases hlt:i<L.length
 ·have hlt':(i:Int)<L.length:=by omega
  have hst:=ry0 hlt
  have hle2:=qe0 L (i+1)
  have hnn:¬ ((sumL (L.take i):Int)+(L[i].length:Int)<0):=by omega
  refine rS2 hlt' hnn ?_
  refine .of hlt (Wk.subs (by simp[hst]) (by simp))
 ·have hge':¬ (i:Int)<L.length:=by omega
  have hi:i=L.length:=by omega
  subst hi
  rw[List.take_length] at *
  refine rS1 hge' ?_
  refine ts0 [] rfl rfl (by simp) ?_
  simp
  have hO:=qd0 (sumL L) h0 (by omega)
  try simp[pObs] at hO
  refine ab0 24 hO ?_
  refine rS0 ?_
  refine aS0 L.length (λi=>[(27,vI i),(26,vI L.length),(25,.lst (L.map tN0)),(6,.arr (.l 999 0) 0 (sumL (L.take i)))]) (λi=>[(.l 999 0,.row 9 1 true (lw0 L i))])
   (Wk.trans (Wk.pre (by simp[sumL]) ?_) (Wk.rens (.l 24 0) (.l 999 0) rfl (by simp) (E:=[(27,vI 0),(26,vI L.length),(25,.lst (L.map tN0)),(6,.arr (.l 999 0) 0 0)]) (h:=[(.l 999 0,.row 9 1 true (List.replicate (sumL L) [vS (bS [])]))]) (by simp[renF]) (by simp[renF,b70]))) ?_
  ·simp
   exact preO_row (t:=List.replicate (sumL L) [vS (bS [])]) rfl
  intro i hi
  have hle:=qe0 L i
  by_cases hlt:i<L.length
  ·have hlt':(i:Int)<L.length:=by omega
   have hst:=ry0 hlt
   have hle2:=qe0 L (i+1)
   refine rS1 hlt' ?_
   refine .of hlt (Wk.rens (.l 33 0) (.l 999 0) rfl (by simp) (by simp[renF,hst]) (by simp[renF,b70,tC0 hlt]))
  ·have hge':¬ (i:Int)<L.length:=by omega
   have hi:i=L.length:=by omega
   subst hi
   have hfl:(lw0 L L.length).length=sumL L:=by rw[qD0,List.take_length]
   rw[List.take_length] at *
   refine rS2 hge' hfl ?_
   refine ay0 [] ?_
   generalize lw0 L L.length=X at *
   simp +contextual (maxSteps:=2000000) (disch:=omega) [-Int.not_lt,-Int.not_le,-Nat.not_lt,-Nat.not_le,sx,<- hfl]
theorem kB0:Ret prog ij0 [] (.lst (pOps.map aW0)):=by
 have hl5:a90.length=5:=rfl
 have hc:chunk 5 1 (hM0 a90)=a90.map tN0:=rfl
 refine cH0 lx0 (by simp) ?_
 refine rS1 @hy0.eq_1 ?_
 refine ak0 ?_;simp;refine ah0 (dE0) (by simp) ?_
 refine rS2 hl5 hc ?_
 refine ak0 ?_;simp;refine ah0 (mV0 a90 (by decide) (by decide) (by decide)) (by simp) ?_
 exact rT1 @pOps.eq_1
theorem l00 (s:Bs):bi0 (bS s)=s.map aq0:=rfl
theorem fE0 (T:Nat) (bs s:Bs) (hT:liesAt prog prog.depth T (2 / prog.cellsOf T) 0 67 1=true) (hl:bs.length+s.length<2 ^ 40) :
  J prog c30 [.bp (.e 0) 0,vS (bS s)] (ae0 T bs) (·=.ret (.tup [vI s.length,.c .nilIface]) (ad0 T (bs++s))):=by
 have hsz:(bS s).size=s.length:=rfl
 refine av0 fv0 (by simp[ae0]) ?_
 refine rS4 @cN0.eq_1 @ae0.eq_1 @hpE.eq_1 @hpE.eq_2 ?_
 refine aa0 [.e 0,.e 1] ?_
 simp
 have hO:=hS0 (T:=T) (x:=.arr (.e 1) 0 bs.length) (more:=[.row 5 1 true (bs.map aq0)]) hT
 try simp[ae0,ad0] at hO
 refine ab0 7 hO ?_
 refine rS3 @bH0 @l00 hsz ?_
 refine ay0 [.l 14 0] ?_
 exact rT2 @ad0.eq_1 @bH0
theorem hT69:liesAt prog prog.depth 69 (2 / prog.cellsOf 69) 0 67 1=true:=by kernel_rfl
def be0 (L:List Bs) (i:Nat):Bs:=(L.take i).flatten
theorem e50 {L:List Bs} {i:Nat} (h:i<L.length):be0 L (i+1)=be0 L i++L[i]:=by
 unfold be0
 rw[List.take_add_one,List.getElem?_eq_getElem h]
 simp only[Option.toList_some,List.flatten_append,List.flatten_cons,List.flatten_nil,List.append_nil]
theorem cr0 (L:List Bs):be0 L L.length=L.flatten:=by rw[be0,List.take_length]
theorem bu0 (L:List Bs):be0 L 0=[]:=by simp[be0]
theorem iK0 (L:List Bs) (i:Nat):(be0 L i).length<=L.flatten.length:=by
 have h:(L.take i++L.drop i).flatten.length=L.flatten.length:=by rw[List.take_append_drop]
 rw[List.flatten_append,List.length_append] at h
 unfold be0;omega
theorem au0 (bs:Bs) (L:List Bs) (hl:bs.length+L.flatten.length<2 ^ 40) (hL:L.length<2 ^ 30) :
  J prog di0 [.bp (.e 0) 0,.lst (L.map aW0)] (ae0 69 bs) (·=.ret (.tup []) (ad0 69 (bs++L.flatten))):=by
 rw[<- cr0] at *
 refine av0 d00 (by simp[ae0]) ?_
 refine rS4 @cP0.eq_1 @ae0.eq_1 @hpE.eq_1 @hpE.eq_2 ?_
 refine aS0 L.length (λi=>[(8,vI i),(7,vI L.length),(6,.lst (L.map aW0)),(0,.bp (.e 0) 0)])
  (λi=>[(.e 0,.box [.self (.e 0) 69,.arr (.l 999 0) 0 (bs++be0 L i).length]),(.l 999 0,.row 5 1 true ((bs++be0 L i).map aq0))])
  (Wk.rens (.e 1) (.l 999 0) rfl (by simp) (by simp[renF,bu0]) (by simp[renF,b70,bu0])) ?_
 intro i hi
 by_cases hlt:i<L.length
 ·have hlt':(i:Int)<L.length:=by omega
  have hle:=iK0 L (i+1)
  rw[<- cr0] at hle
  have hsucc:=e50 hlt
  have hlen:(be0 L (i+1)).length=(be0 L i).length+L[i].length:=by rw[hsucc,List.length_append]
  refine rS1 hlt' ?_
  refine aa0 [.e 0,.l 999 0] ?_
  simp
  have hO:=fE0 69 (bs++be0 L i) L[i] hT69 (by rw[List.length_append];omega)
  try simp[ae0,ad0] at hO
  refine ab0 16 hO ?_
  refine rS0 ?_
  refine .of hlt (Wk.rens (.l 16 0) (.l 999 0) rfl (by simp) (by simp[renF,hsucc]) (by simp[renF,b70,hsucc]))
 ·have hge':¬ (i:Int)<L.length:=by omega
  have:i=L.length:=by omega
  subst this
  refine rS1 hge' ?_
  refine ch0 [.l 999 0] ?_
  exact rT1 @ad0.eq_1
theorem put_JD (bs:Bs) (L:List Bs) (hl:bs.length+L.flatten.length<2 ^ 40) (hL:L.length<2 ^ 30) :
  JD prog false di0 [.bp (.e 0) 0,.lst (L.map aW0)] (ae0 69 bs) none (·=.ret (.tup []) (ad0 69 (bs++L.flatten))):=by
 rw[<- cr0] at *
 refine JD_of d00 (by simp[ae0]) ?_
 refine rS4 @cP0.eq_1 @ae0.eq_1 @hpE.eq_1 @hpE.eq_2 ?_
 refine aS0 L.length (λi=>[(8,vI i),(7,vI L.length),(6,.lst (L.map aW0)),(0,.bp (.e 0) 0)])
  (λi=>[(.e 0,.box [.self (.e 0) 69,.arr (.l 999 0) 0 (bs++be0 L i).length]),(.l 999 0,.row 5 1 true ((bs++be0 L i).map aq0))])
  (Wk.rens (.e 1) (.l 999 0) rfl (by simp) (by simp[renF,bu0]) (by simp[renF,b70,bu0])) ?_
 intro i hi
 by_cases hlt:i<L.length
 ·have hlt':(i:Int)<L.length:=by omega
  have hle:=iK0 L (i+1)
  rw[<- cr0] at hle
  have hsucc:=e50 hlt
  have hlen:(be0 L (i+1)).length=(be0 L i).length+L[i].length:=by rw[hsucc,List.length_append]
  refine rS1 hlt' ?_
  refine aa0 [.e 0,.l 999 0] ?_
  simp
  have hO:=fE0 69 (bs++be0 L i) L[i] hT69 (by rw[List.length_append];omega)
  try simp[ae0,ad0] at hO
  refine ab0 16 hO ?_
  refine rS0 ?_
  refine .of hlt (Wk.rens (.l 16 0) (.l 999 0) rfl (by simp) (by simp[renF,hsucc]) (by simp[renF,b70,hsucc]))
 ·have hge':¬ (i:Int)<L.length:=by omega
  have:i=L.length:=by omega
  subst this
  refine rS1 hge' ?_
  refine ch0 [.l 999 0] ?_
  exact rT1 @ad0.eq_1
theorem jU0:Ret prog mC0 [] (.lst (pOps.map aW0)):=by
 refine cH0 pG0 (by simp) ?_
 exact rT3 @lp0.eq_1 @pOps.eq_1 @a90.eq_1
theorem jT0 (op:Int) (h:opOk op=true):Ret prog mB0 [vI op] (vI (lvl op)):=by
 unfold opOk at h
 simp only[decide_eq_true_eq] at h
 obtain⟨h1,h2⟩:=h
 refine av0 pF0 (by simp) ?_
 refine rS1 @lo0.eq_1 ?_
 refine aa0 [] ?_
 simp
 have hO:=ao0
 try simp[ae0,ad0] at hO
 refine ab0 9 hO ?_
 by_cases a:op<=2
 ·refine rS1 a ?_
  refine ay0 [] ?_
  exact rT2 @lvl.eq_1 a
 by_cases b:op<=8
 ·refine rS2 a b ?_
  refine ay0 [] ?_
  exact rT3 @lvl.eq_1 a b
 by_cases c:op<=10
 ·refine rS3 a b c ?_
  refine ay0 [] ?_
  exact rT4 @lvl.eq_1 a b c
 ·refine rS3 a b c ?_
  refine ay0 [] ?_
  exact rT4 @lvl.eq_1 a b c
theorem eR0 (x:Exq) (n:Int) (h:x.kind=15->opOk x.op=true):Ret prog mA0 [x.V,vI n] (vB (cj0 x n)):=by
 refine av0 pE0 (by simp) ?_
 by_cases hk:x.kind=15
 ·refine rS2 @iC0.eq_1 hk ?_
  refine ak0 ?_;simp;refine ah0 (jT0 x.op (h hk)) (by simp) ?_
  refine rS0 ?_
  refine ay0 [] ?_
  exact rT2 @cj0.eq_1 hk
 ·refine rS2 @iC0.eq_1 hk ?_
  refine ay0 [] ?_
  exact rT2 @cj0.eq_1 hk
attribute [local irreducible] vcF dfrS dEnd lq0 dJ JD
def dx0 (x:Exq) (t:Bs):Prop:=∀ bs:Bs,bs.length+t.length<2 ^ 40->J prog gQ0 [.bp (.e 0) 0,x.V] (ae0 69 bs) (·=.ret (.tup []) (ad0 69 (bs++t)))
theorem cy0 {x:Exq} {t:Bs} (h:dx0 x t) (b:Bool) (bs:Bs) (hl:bs.length+(within t b).length<2 ^ 40) :
  J prog fn0 [.bp (.e 0) 0,x.V,vB b] (ae0 69 bs) (·=.ret (.tup []) (ad0 69 (bs++within t b))):=by
 refine J_dfr false jl0 (by simp[ae0]) ?_
 refine rS8 @e10.eq_1 @fP0 @fO0 @om0 @jZ0 @ae0.eq_1 @hpE.eq_1 @hpE.eq_2 ?_
 cases b with
 | false =>
  have hl':bs.length+t.length<2 ^ 40:=hl
  refine rS4 @fP0 @fO0 @om0 @jZ0 ?_
  refine aa0 [.e 0,.e 1] ?_
  simp
  have hO:=h bs hl'
  try simp[ae0,ad0] at hO
  refine ab0 14 hO ?_
  refine rS4 @fP0 @fO0 @om0 @jZ0 ?_
  refine ch0 [.l 14 0] ?_
  exact rT2 @ad0.eq_1 @within.eq_1
 | true =>
  have hl':bs.length+(t.length+2)<2 ^ 40:=by simp[within] at hl;omega
  refine rS4 @fP0 @fO0 @om0 @jZ0 ?_
  refine aa0 [.e 0,.e 1] ?_
  simp
  have hO:=au0 bs [[40]] (by simp;omega) (by simp)
  try simp[ae0,ad0] at hO
  refine ab0 9 hO ?_
  refine rS4 @fP0 @fO0 @om0 @jZ0 ?_
  refine py0 rfl rfl (.ren (.l 11 0) 2 (by simp) (by simp) (E:=[(0,.bp (.e 0) 0),(4,.bp (.l 4 0) 0)])
   (h:=[(.e 2,.row 9 1 true [[vS (bS [41])]]),(.e 0,.box [.self (.e 0) 69,.arr (.l 9 0) 0 (bs.length+1)]),(.l 9 0,.row 5 1 true (bs.map aq0++[aq0 40])),(.l 4 0,.box x.cells)])
   (cs':=[.bp (.e 0) 0,.arr (.e 2) 0 1]) (by simp[renF]) (by simp[renF,b70]) (by simp[renF])) rfl ?_
  refine rS0 ?_
  refine aa0 [.e 0,.l 9 0] ?_
  simp
  have hO:=h (bs++[40]) (by simp;omega)
  try simp[ae0,ad0] at hO
  refine ab0 14 hO ?_
  refine rS0 ?_
  refine dEnd_nrm _ _ (Wk.refl _ _) (eE0 [.e 0,.l 14 0] (by simp) ?_)
  simp
  have hp:=put_JD (bs++[40]++t) [[41]] (by simp;omega) (by simp)
  simp[ae0,ad0] at hp
  refine dJ_retB 900 hp ?_
  simp
  refine ay0 [.l 900 0] ?_
  exact rT2 @ad0.eq_1 @within.eq_1
end Go.Am
end

section
namespace Go.Am
theorem nb0 {H:Imm} {μ:Mu} {v v':V} {vs:Array Value} (hv:RL H μ [v,v'] vs):vs=#[vs.getD 0 undef,vs.getD 1 undef]:=by
 have hs:vs.size=2:=by have:=hv.1;simpa using this
 apply Array.ext
 ·simp[hs]
 ·intro i h1 h2
  have h3:i<2:=by simpa using h2
  match i,h3 with
  | 0,_=>simp[Array.getD,hs]
  | 1,_=>simp[Array.getD,hs]
end Go.Am
end

section
namespace Go.Am
variable {ts:List Tok}
structure GoesX (ts:List Tok) (f:Nat):Prop where
 ex:∀ {d n:Nat} {a:Exq} {m:Nat},n<ts.length->by0 ts f d n=.ok (a,m)->n<m/\m<ts.length
 bin:∀ {l d n:Nat} {a:Exq} {m:Nat},n<ts.length->pBin ts f l d n=.ok (a,m)->n<m/\m<ts.length
 loop:∀ {l d:Nat} {out:Exq} {n:Nat} {a:Exq} {m:Nat},n<ts.length->ex0 ts f l d out n=.ok (a,m)->n<=m/\m<ts.length
 un:∀ {d n:Nat} {a:Exq} {m:Nat},n<ts.length->pUn ts f d n=.ok (a,m)->n<m/\m<ts.length
 post:∀ {d:Nat} {out:Exq} {n:Nat} {a:Exq} {m:Nat},n<ts.length->fc0 ts f d out n=.ok (a,m)->n<=m/\m<ts.length
 prim:∀ {d n:Nat} {a:Exq} {m:Nat},n<ts.length->ec0 ts f d n=.ok (a,m)->n<m/\m<ts.length
 args:∀ {d:Nat} {out:List Exq} {n:Nat} {a:List Exq} {m:Nat},n<ts.length->eP0 ts f d out n=.ok (a,m)->n<m/\m<ts.length
theorem jD0 {l:Nat} {t:Tok} (h:cK0 l t=true):t.kind=4:=by
 unfold cK0 at h
 simp only[Bool.and_eq_true,decide_eq_true_eq] at h
 exact h.1
theorem k50 (hE:TEnd ts):∀ f,GoesX ts f
 | 0=>⟨λ_ h=>by simp[by0] at h,λ_ h=>by simp[pBin] at h,λ_ h=>by simp[ex0] at h,λ_ h=>by simp[pUn] at h,λ_ h=>by simp[fc0] at h,λ_ h=>by simp[ec0] at h,λ_ h=>by simp[eP0] at h⟩
 | f+1=>by
  have ih:=k50 hE f
  refine⟨λhn h=>?_,λhn h=>?_,λhn h=>?_,λhn h=>?_,λhn h=>?_,λhn h=>?_,λhn h=>?_⟩
  ·rw[by0] at h
   obtain⟨_,_,h⟩:=ag0 h
   exact ih.bin hn h
  ·rw[pBin] at h
   split at h
   ·exact ih.un hn h
   ·obtain⟨⟨b,n1⟩,e1,h⟩:=ag0 h
    have q1:=ih.bin hn e1
    have q2:=ih.loop q1.2 h
    dsimp only at *;omega
  ·rw[ex0] at h
   split at h
   ·rename_i hi
    have h0:=hE _ hn (by rw[jD0 hi];decide)
    obtain⟨⟨b,n1⟩,e1,h⟩:=ag0 h
    have q1:=ih.bin h0 e1
    dsimp only at *
    split at h
    ·split at h
     ·cases h
     ·injection h with h;injection h with h1 h2;subst h2;omega
    ·have q2:=ih.loop q1.2 h;omega
   ·injection h with h;injection h with h1 h2;subst h2;omega
  ·rw[pUn] at h
   split at h
   ·rename_i hi
    have h0:=ax0 hE hn hi (by decide)
    obtain⟨_,_,h⟩:=ag0 h
    obtain⟨⟨b,n1⟩,e1,h⟩:=ag0 h
    have q1:=ih.un h0 e1
    injection h with h;injection h with h1 h2;subst h2
    dsimp only at *;omega
   split at h
   ·rename_i hi
    have h0:=ax0 hE hn hi (by decide)
    obtain⟨_,_,h⟩:=ag0 h
    obtain⟨⟨b,n1⟩,e1,h⟩:=ag0 h
    have q1:=ih.un h0 e1
    injection h with h;injection h with h1 h2;subst h2
    dsimp only at *;omega
   ·obtain⟨⟨b,n1⟩,e1,h⟩:=ag0 h
    have q1:=ih.prim hn e1
    have q2:=ih.post q1.2 h
    dsimp only at *;omega
  ·rw[fc0] at h
   split at h
   ·rename_i hi
    have h0:=ax0 hE hn hi (by decide)
    obtain⟨⟨b,n1⟩,e1,h⟩:=ag0 h
    obtain⟨n2,e2,h⟩:=ag0 h
    have q1:=ih.ex h0 e1
    have q2:=am0 hE q1.2 e2
    have q3:=ih.post q2.2 h
    dsimp only at *;omega
   ·injection h with h;injection h with h1 h2;subst h2;omega
  ·rw[ec0] at h
   split at h
   ·rename_i hi;have:=hE _ hn (by rw[hi];decide);injection h with h;injection h with h1 h2;subst h2;omega
   split at h
   ·rename_i hi;have:=hE _ hn (by rw[hi];decide);injection h with h;injection h with h1 h2;subst h2;omega
   split at h
   ·rename_i hi;have:=ax0 hE hn hi (by decide);injection h with h;injection h with h1 h2;subst h2;omega
   split at h
   ·rename_i hi;have:=ax0 hE hn hi (by decide);injection h with h;injection h with h1 h2;subst h2;omega
   split at h
   ·rename_i hi
    have h0:=ax0 hE hn hi (by decide)
    obtain⟨⟨b,n1⟩,e1,h⟩:=ag0 h
    obtain⟨n2,e2,h⟩:=ag0 h
    have q1:=ih.ex h0 e1
    have q2:=am0 hE q1.2 e2
    injection h with h;injection h with h1 h2;subst h2
    dsimp only at *;omega
   ·obtain⟨⟨b,n1⟩,e1,h⟩:=ag0 h
    have q1:=bh0 hE hn e1
    have e1':=e1
    unfold df0 at e1'
    split at e1'
    ·rename_i hk
     injection e1' with e1';injection e1' with e2 e3;subst e3
     split at h
     ·rename_i hi
      have h0:=ax0 hE q1.2 hi (by decide)
      split at h
      ·rename_i hi2
       have h00:=ax0 hE h0 hi2 (by decide)
       injection h with h;injection h with h1 h2;subst h2;omega
      ·obtain⟨⟨b,n2⟩,e4,h⟩:=ag0 h
       have q2:=ih.args h0 e4
       injection h with h;injection h with h1 h2;subst h2
       dsimp only at *;omega
     ·injection h with h;injection h with h1 h2;subst h2;omega
    ·cases e1'
  ·rw[eP0] at h
   obtain⟨⟨b,n1⟩,e1,h⟩:=ag0 h
   have q1:=ih.ex hn e1
   dsimp only at *
   split at h
   ·rename_i hi
    have h0:=ax0 hE q1.2 hi (by decide)
    injection h with h;injection h with h1 h2;subst h2;omega
   ·obtain⟨n2,e2,h⟩:=ag0 h
    have q2:=am0 hE q1.2 e2
    have q3:=ih.args q2.2 h
    omega
end Go.Am
end

section
namespace Go.Am
set_option maxRecDepth 100000
attribute [local irreducible] vc vcIs vcI vcOp vcD vcDp vcDR vcT vcAR cf0 bb0 panD neG ne pv J bY0 b50 ci0 bo0 evK evsK nthK objK boxK rowK bQ0 intK strK aggK fnK ifcK az0 aA0 ldK ldaK iaK srcK stK appK appD cn0 pvK bT0 a30 b40 bJ0 slAV bX0
variable {ts:List Tok} {n:Nat}
def ar0 (text:ByteArray) (args:V) (at_:Int):Ob:=.box [vI 7,vI 0,vI 0,vS text,vI 0,vS (bS []),args,vI at_]
def ia0 (ts:List Tok) (n:Int) (text:ByteArray) (at_:Int) (d:Nat) (out:List Exq):List Ob :=
 [ar0 text (.arr (.e 4) 0 out.length) at_,.box [.bp (.e 3) 0],.box [vI d],.box [.lst (ts.map Tok.cells),vI n],.row ep0 8 true (out.map Exq.cells)]
def gx0 (ts:List Tok) (n:Int) (text:ByteArray) (at_:Int) (d:Nat) (out:List Exq):List Ob :=
 [ar0 text (.arr (.e 5) 0 out.length) at_,.box [.bp (.e 3) 0],.box [vI d],.box [.lst (ts.map Tok.cells),vI n],.gone,.row ep0 8 true (out.map Exq.cells)]
@[simp] theorem elemK_last {α:Type} {g:α->List V} {l:List α} {e:List V} {K:List V->Prop}:gE0 (l.map g++[e]) l.length K=K e :=
 aV0 (by rw[List.getElem?_append_right (by simp)];simp)
@[simp] theorem set_last {α:Type} {g:α->List V} {l:List α} {e e':List V}:(l.map g++[e]).set l.length e'=l.map g++[e']:=by
 rw[List.set_append_right _ _ (by simp)];simp
theorem ld0 {e us:List V} (h:us.length=e.length):setAt e 0 us=us:=by
 unfold setAt
 rw[List.take_zero,Nat.zero_add,h,List.drop_length];simp
theorem r90 (f d:Nat) (hd:d<=24) (text:ByteArray) (at_:Int) (out:List Exq) (hl:ts.length<2 ^ 40) (ho:out.length<2 ^ 40)
  (hx:J prog bl0 [.bp (.e 0) 0,vI (d+1:Nat)] (pObs ts n) (·=pAns ts Exq.V (by0 ts f (d+1) n))) :
  J prog bn0 [.bp (.e 0) 0,.bp (.e 1) 0,.bp (.e 2) 0] (ia0 ts n text at_ d out) (λr=>r=match by0 ts f (d+1) n with
   | .ok (x,m)=>.ret (.tup []) (gx0 ts m text at_ d (out++[x]))
   | .bad a e=>.pan (jJ0 ts a e) (ia0 ts a text at_ d out)):=by
 have hw:by0 ts f (d+1) n=by0 ts f (d+1) n:=rfl
 refine av0 hU0 (by simp[ia0]) ?_
 refine rS5 @dP0.eq_1 @ia0.eq_1 @ar0.eq_1 @hpE.eq_1 @hpE.eq_2 ?_
 have hJ:=hx
 rcases hR8:by0 ts f (d+1) n with⟨x,m⟩|⟨aa,ae⟩
 rotate_left
 ·rw[hR8] at hJ hw
  try simp only[LxR.bind] at hw
  simp only[pAns,at0] at hJ
  refine bw0 [.e 3] ?_
  simp
  have hO:=hJ
  try simp[pObs,ar0,ia0,gx0] at hO
  refine c70 hO ?_
  refine rS0 ?_
  refine endP ?_
  exact rT6 hw @pAns.eq_1 @pAns.eq_2 @at0.eq_1 @at0.eq_2 @pObs.eq_1
 rw[hR8] at hJ hw
 try simp only[LxR.bind] at hw
 simp only[pAns,at0] at hJ
 refine bw0 [.e 3] ?_
 simp
 have hO:=hJ
 try simp[pObs,ar0,ia0,gx0] at hO
 refine c00 8 hO ?_
 refine rS1 @ld0 ?_
 refine ch0 [.l 11 0] ?_
 exact rT2 @gx0.eq_1 @ar0.eq_1
end Go.Am
end

section
namespace Go.Am
set_option maxRecDepth 100000
theorem c80 {P:Program} {env:Env} {hp:Hp} {α:Type} {g:Nat} {args:List V} {obs:List Ob} {obs':α->List Ob} {ids:List Id} {d:Option Nat} {K:Env->Hp->Prop} {Kp:V->Hp->Prop} {v:V} (h:J P g args obs (λr=>∃ y,r=.pan v (obs' y)))
  (hK:∀ y,gi0 env hp ids 0 v (obs' y) λv' _ hp'=>Kp v' hp'):bT0 P g args obs env hp ids d K Kp:=J.mono h λr e=>by obtain⟨y,e⟩:=e;subst e;exact hK y
attribute [local irreducible] vc vcIs vcI vcOp vcD vcDp vcDR vcT vcAR cf0 bb0 panD neG ne pv J bY0 b50 ci0 bo0 evK evsK nthK objK boxK rowK bQ0 intK strK aggK fnK ifcK az0 aA0 ldK ldaK iaK srcK stK appK appD cn0 pvK bT0 a30 b40 bJ0 slAV bX0
variable {ts:List Tok} {n:Nat}
def aw0 (ts:List Tok) (n:Int) (text:ByteArray) (args:V) (at_:Int) (d:Nat):List Ob :=
 [.box [.lst (ts.map Tok.cells),vI n],ar0 text args at_,.box [.bp (.e 0) 0],.box [vI d]]
theorem ou0 (hl:ts.length<2 ^ 40) (hn:n<ts.length) (h:isT ts n 4 [41]=true) (text:ByteArray) (at_:Int) (d:Nat) :
  J prog cb0 [.bp (.e 0) 0,vS (bS [41]),.fn bn0 [.bp (.e 1) 0,.bp (.e 2) 0,.bp (.e 3) 0]] (aw0 ts n text .nil at_ d) (·=.ret (.tup []) (aw0 ts (n+1:Nat) text .nil at_ d)):=by
 refine av0 cG0 (by simp[aw0]) ?_
 refine rS5 @bU0.eq_1 @aw0.eq_1 @ar0.eq_1 @hpE.eq_1 @hpE.eq_2 ?_
 refine aa0 [.e 0] ?_
 simp
 have hO:=al0 hn hl 4 [41]
 try simp[pObs,ar0,ia0,gx0,aw0] at hO
 refine ab0 8 hO ?_
 refine rS1 h ?_
 refine ay0 [] ?_
 exact rT0
theorem ov0 (hE:TEnd ts) (hl:ts.length<2 ^ 40) (hn:n<ts.length) (h:isT ts n 4 [41]=false) (text:ByteArray) (at_:Int) (d:Nat) (hd:d<=24) (F:Nat)
  (IH:∀ g,g<F->∀ n,n<ts.length->(by0 ts g (d+1) n).live->J prog bl0 [.bp (.e 0) 0,vI (d+1:Nat)] (pObs ts n) (·=pAns ts Exq.V (by0 ts g (d+1) n)))
  (hlive:(eP0 ts F (d+1) [] n).live) :
  J prog cb0 [.bp (.e 0) 0,vS (bS [41]),.fn bn0 [.bp (.e 1) 0,.bp (.e 2) 0,.bp (.e 3) 0]] (aw0 ts n text .nil at_ d) (λr=>match eP0 ts F (d+1) [] n with
   | .ok (xs,m)=>r=.ret (.tup []) (aw0 ts m text (.arr (.e 4) 0 xs.length) at_ d++[.row ep0 8 true (xs.map Exq.cells)])
   | .bad a e=>∃ y:List (List V),r=.pan (jJ0 ts a e) (aw0 ts a text (.lst y) at_ d)):=by
 generalize hR:eP0 ts F (d+1) [] n=R at *
 refine av0 cG0 (by simp[aw0]) ?_
 refine rS5 @bU0.eq_1 @aw0.eq_1 @ar0.eq_1 @hpE.eq_1 @hpE.eq_2 ?_
 refine aa0 [.e 0] ?_
 simp
 have hO:=al0 hn hl 4 [41]
 try simp[pObs,ar0,ia0,gx0,aw0] at hO
 refine ab0 8 hO ?_
 refine rS1 h ?_
 refine aT0 (λy:Nat × Nat × List Exq=>y.1) (λy=>[(0,.bp (.e 0) 0),(1,vS (bS [41])),(2,.fn bn0 [.bp (.e 1) 0,.bp (.e 2) 0,.bp (.e 3) 0])])
  (λy=>[(.e 0,.box [.lst (ts.map Tok.cells),vI y.2.1]),(.e 1,ar0 text (.arr (.l 999 0) 0 y.2.2.length) at_),(.e 2,.box [.bp (.e 0) 0]),(.e 3,.box [vI d]),(.l 999 0,.row ep0 8 true (y.2.2.map Exq.cells))])
  (λy=>y.1<=F/\y.2.1<ts.length/\y.2.2.length<=y.2.1/\eP0 ts y.1 (d+1) y.2.2 y.2.1=R) (F,n,[]) ⟨Nat.le_refl _,hn,by simp,hR⟩
  (Wk.trans (Wk.subs (by simp) (by simp[ar0])) (Wk.rowB (b:=.e 1) (id:=.l 999 0) (off:=6) (ty:=ep0) (sz:=8) rfl rfl (by simp) (by simp))) ?_
 rintro⟨g,n',out⟩ ⟨hg,hn',ho,hw⟩
 dsimp only at hg hn' ho hw
 obtain _|g:=g
 ·rw[eP0] at hw;subst hw;exact absurd rfl hlive
 rw[eP0] at hw
 have hlv:=hlive
 rw[<- hw] at hlv
 obtain⟨hlx,hcont⟩:=LxR.aN0 hlv
 have hJ:=r90 g d hd text at_ out hl (by omega) (IH g (by omega) n' hn' hlx)
 rcases hx:by0 ts g (d+1) n' with⟨x,m⟩|⟨a,e⟩
 ·rw[hx] at hJ hw
  simp only[LxR.bind] at hw
  have q1:=(k50 hE g).ex hn' hx
  refine rS1 @ar0.eq_1 ?_
  refine aa0 [.e 1,.e 2,.e 3,.e 0,.l 999 0] ?_
  simp
  have hO:=hJ
  try simp[pObs,ar0,ia0,gx0,aw0] at hO
  refine ab0 10 hO ?_
  refine rS0 ?_
  refine aa0 [.e 0] ?_
  simp
  have hO:=al0 q1.2 hl 4 [41]
  try simp[pObs,ar0,ia0,gx0,aw0] at hO
  refine ab0 13 hO ?_
  cases h2:isT ts m 4 [41] with
  | true =>
   rw[h2,if_pos rfl] at hw
   subst hw
   refine rS0 ?_
   refine ay0 [.l 10 0] ?_
   exact rT0
  | false =>
   rw[h2,if_neg (by simp)] at hw
   refine rS0 ?_
   rcases h3:aX0 ts m [44] with m2|⟨a,e⟩
   ·have q2:=am0 hE q1.2 h3
    have hJ2:=as0 q1.2 hl [44]
    rw[h3] at hJ2 hw
    simp only[LxR.bind] at hw
    simp only[at0] at hJ2
    refine aa0 [.e 0] ?_
    simp
    have hO:=hJ2
    try simp[pObs,ar0,ia0,gx0,aw0] at hO
    refine ab0 15 hO ?_
    refine rS0 ?_
    refine .of (g,m2,out++[x]) ⟨by dsimp only;omega,q2.2,by simp;omega,hw⟩ (by dsimp only;omega) (Wk.rens (.l 10 0) (.l 999 0) rfl (by simp) (by simp[renF,ar0]) (by simp[renF,b70,ar0]))
   ·have hJ2:=as0 q1.2 hl [44]
    rw[h3] at hJ2 hw
    simp only[LxR.bind] at hw
    simp only[at0] at hJ2
    subst hw
    refine aa0 [.e 0] ?_
    simp
    have hO:=hJ2
    try simp[pObs,ar0,ia0,gx0,aw0] at hO
    refine af0 hO ?_
    refine rS0 ?_
    refine endP ?_
    exact rT0
 ·rw[hx] at hJ hw
  simp only[LxR.bind] at hw
  subst hw
  refine rS1 @ar0.eq_1 ?_
  refine aa0 [.e 1,.e 2,.e 3,.e 0,.l 999 0] ?_
  simp
  have hO:=hJ
  try simp[pObs,ar0,ia0,gx0,aw0] at hO
  refine af0 hO ?_
  refine rS0 ?_
  refine endP ?_
  exact rT0
end Go.Am
end

section
namespace Go.Am
set_option maxRecDepth 100000
attribute [local irreducible] vc vcIs vcI vcOp vcD vcDp vcDR vcT vcAR cf0 bb0 panD neG ne pv J bY0 b50 ci0 bo0 evK evsK nthK objK boxK rowK bQ0 intK strK aggK fnK ifcK az0 aA0 ldK ldaK iaK srcK stK appK appD cn0 pvK bT0 a30 b40 bJ0 slAV bX0
variable {ts:List Tok} {n:Nat}
theorem lP0 (hE:TEnd ts) (hl:ts.length<2 ^ 40) (F d:Nat) (hd:d<=24)
  (IH:∀ g,g<F->∀ n,n<ts.length->(by0 ts g (d+1) n).live->J prog bl0 [.bp (.e 0) 0,vI (d+1:Nat)] (pObs ts n) (·=pAns ts Exq.V (by0 ts g (d+1) n)))
  (hn:n<ts.length) (hlive:(ec0 ts F d n).live):J prog eW0 [.bp (.e 0) 0,vI d] (pObs ts n) (·=pAns ts Exq.V (ec0 ts F d n)):=by
 obtain _|F:=F
 ·rw[ec0] at hlive;exact absurd rfl hlive
 have hw:ec0 ts (F+1) d n=ec0 ts (F+1) d n:=rfl
 conv at hw=>rhs;rw[ec0]
 rw[hw] at hlive ⊢
 clear hw
 refine av0 iL0 (by simp[pObs]) ?_
 refine rS4 @ez0.eq_1 @pObs.eq_1 @hpE.eq_1 @hpE.eq_2 ?_
 refine aa0 [.e 0] ?_
 simp
 have hO:=bk0 hn
 try simp[pObs,ar0,aw0] at hO
 refine ab0 9 hO ?_
 by_cases k2:(tk ts n).kind=2
 ·rw[if_pos k2]
  refine rS1 k2 ?_
  refine ay0 [] ?_
  simp +contextual (maxSteps:=2000000) (disch:=omega) [-Int.not_lt,-Int.not_le,-Nat.not_lt,-Nat.not_le,sx,pAns,pObs,Exq.ac0,Exq.kind,Exq.op,Exq.num,Exq.text,Exq.slot,Exq.type,Exq.args,Exq.at_]
 rw[if_neg k2] at hlive ⊢
 by_cases k3:(tk ts n).kind=3
 ·rw[if_pos k3]
  refine rS2 k2 k3 ?_
  refine ay0 [] ?_
  simp +contextual (maxSteps:=2000000) (disch:=omega) [-Int.not_lt,-Int.not_le,-Nat.not_lt,-Nat.not_le,sx,pAns,pObs,Exq.ac0,Exq.kind,Exq.op,Exq.num,Exq.text,Exq.slot,Exq.type,Exq.args,Exq.at_]
 rw[if_neg k3] at hlive ⊢
 refine rS2 k2 k3 ?_
 refine aa0 [.e 0] ?_
 simp
 have hO:=al0 hn hl 1 ge0
 try simp[pObs,ar0,aw0] at hO
 refine ab0 44 hO ?_
 cases h1:isT ts n 1 ge0 with
 | true =>
  refine rS0 ?_
  refine ay0 [] ?_
  simp +contextual (maxSteps:=2000000) (disch:=omega) [-Int.not_lt,-Int.not_le,-Nat.not_lt,-Nat.not_le,sx,pAns,pObs,Exq.ac0,Exq.kind,Exq.op,Exq.num,Exq.text,Exq.slot,Exq.type,Exq.args,Exq.at_]
 | false =>
 rw[h1] at hlive
 simp only[Bool.false_eq_true,if_false] at hlive ⊢
 refine rS0 ?_
 refine aa0 [.e 0] ?_
 simp
 have hO:=al0 hn hl 1 dN0
 try simp[pObs,ar0,aw0] at hO
 refine ab0 50 hO ?_
 cases h2:isT ts n 1 dN0 with
 | true =>
  refine rS0 ?_
  refine ay0 [] ?_
  simp +contextual (maxSteps:=2000000) (disch:=omega) [-Int.not_lt,-Int.not_le,-Nat.not_lt,-Nat.not_le,sx,pAns,pObs,Exq.ac0,Exq.kind,Exq.op,Exq.num,Exq.text,Exq.slot,Exq.type,Exq.args,Exq.at_]
 | false =>
 rw[h2] at hlive
 simp only[Bool.false_eq_true,if_false] at hlive ⊢
 refine rS0 ?_
 refine aa0 [.e 0] ?_
 simp
 have hO:=al0 hn hl 4 [40]
 try simp[pObs,ar0,aw0] at hO
 refine ab0 56 hO ?_
 cases h3:isT ts n 4 [40] with
 | true =>
  have h0:=ax0 hE hn h3 (by decide)
  rw[h3] at hlive
  simp only[if_true] at hlive ⊢
  obtain⟨hlx,_⟩:=LxR.aN0 hlive
  have hJ:=IH F (by omega) (n+1) h0 hlx
  refine rS0 ?_
  rcases hx:by0 ts F (d+1) (n+1) with⟨x,m⟩|⟨a,e⟩
  ·rw[hx] at hJ
   have q1:=(k50 hE F).ex h0 hx
   simp only[pAns,LxR.bind] at hJ ⊢
   refine aa0 [.e 0] ?_
   simp
   have hO:=hJ
   try simp[pObs,ar0,aw0] at hO
   refine ab0 60 hO ?_
   refine rS0 ?_
   have hJ2:=as0 q1.2 hl [41]
   rcases h4:aX0 ts m [41] with m2|⟨a,e⟩
   ·rw[h4] at hJ2
    simp only[at0] at hJ2
    refine aa0 [.e 0] ?_
    simp
    have hO:=hJ2
    try simp[pObs,ar0,aw0] at hO
    refine ab0 62 hO ?_
    refine rS0 ?_
    refine ay0 [] ?_
    exact rT1 @pObs.eq_1
   ·rw[h4] at hJ2
    simp only[at0] at hJ2
    refine aa0 [.e 0] ?_
    simp
    have hO:=hJ2
    try simp[pObs,ar0,aw0] at hO
    refine af0 hO ?_
    refine rS0 ?_
    refine endP ?_
    exact rT1 @pObs.eq_1
  ·rw[hx] at hJ
   simp only[pAns,LxR.bind] at hJ ⊢
   refine aa0 [.e 0] ?_
   simp
   have hO:=hJ
   try simp[pObs,ar0,aw0] at hO
   refine af0 hO ?_
   refine rS0 ?_
   refine endP ?_
   exact rT1 @pObs.eq_1
 | false =>
 rw[h3] at hlive
 simp only[Bool.false_eq_true,if_false] at hlive ⊢
 refine rS0 ?_
 have hJ:=eQ0 hn hl
 rcases hN:df0 ts n with⟨t,n1⟩|⟨a,e⟩
 rotate_left
 ·rw[hN] at hJ
  simp only[pAns,LxR.bind] at hJ ⊢
  refine aa0 [.e 0] ?_
  simp
  have hO:=hJ
  try simp[pObs,ar0,aw0] at hO
  refine af0 hO ?_
  refine rS0 ?_
  refine endP ?_
  exact rT1 @pObs.eq_1
 have hlt:=bh0 hE hn hN
 have hnn:t=tk ts n/\n1=n+1:=by
  unfold df0 at hN
  split at hN
  ·injection hN with hN;injection hN with h5 h6;exact⟨h5.symm,h6.symm⟩
  ·cases hN
 obtain⟨rfl,rfl⟩:=hnn
 rw[hN] at hJ hlive
 simp only[pAns,LxR.bind] at hJ hlive ⊢
 refine aa0 [.e 0] ?_
 simp
 have hO:=hJ
 try simp[pObs,ar0,aw0] at hO
 refine ab0 65 hO ?_
 refine rS0 ?_
 refine aa0 [.e 0] ?_
 simp
 have hO:=al0 hlt.2 hl 4 [40]
 try simp[pObs,ar0,aw0] at hO
 refine ab0 67 hO ?_
 cases h4:isT ts (n+1) 4 [40] with
 | false =>
  refine rS0 ?_
  refine ay0 [] ?_
  simp +contextual (maxSteps:=2000000) (disch:=omega) [-Int.not_lt,-Int.not_le,-Nat.not_lt,-Nat.not_le,sx,pObs,Exq.ac0,Exq.kind,Exq.op,Exq.num,Exq.text,Exq.slot,Exq.type,Exq.args,Exq.at_]
 | true =>
 have h5:=ax0 hE hlt.2 h4 (by decide)
 rw[h4] at hlive
 simp only[if_true] at hlive ⊢
 refine rS0 ?_
 cases h6:isT ts (n+2) 4 [41] with
 | true =>
  refine aa0 [.e 0,.l 7 0,.l 2 0,.l 3 0] ?_
  simp
  have hO:=ou0 hl h5 h6 (tk ts n).text (tk ts n).at_ d
  try simp[pObs,ar0,aw0] at hO
  refine ab0 81 hO ?_
  refine rS0 ?_
  refine ay0 [] ?_
  simp +contextual (maxSteps:=2000000) (disch:=omega) [-Int.not_lt,-Int.not_le,-Nat.not_lt,-Nat.not_le,sx,pObs,Exq.ac0,Exq.kind,Exq.op,Exq.num,Exq.text,Exq.slot,Exq.type,Exq.args,Exq.at_]
  omega
 | false =>
  rw[h6] at hlive
  simp only[Bool.false_eq_true,if_false] at hlive ⊢
  have hla:=(LxR.aN0 hlive).1
  have hJ2:=ov0 hE hl h5 h6 (tk ts n).text (tk ts n).at_ d hd F (λg hg=>IH g (by omega)) hla
  rcases hA:eP0 ts F (d+1) [] (n+2) with⟨xs,m⟩|⟨a,e⟩
  ·rw[hA] at hJ2
   simp only[LxR.bind] at hJ2 ⊢
   refine aa0 [.e 0,.l 7 0,.l 2 0,.l 3 0] ?_
   simp
   have hO:=hJ2
   try simp[pObs,ar0,aw0] at hO
   refine ab0 81 hO ?_
   refine rS0 ?_
   refine ay0 [] ?_
   simp +contextual (maxSteps:=2000000) (disch:=omega) [-Int.not_lt,-Int.not_le,-Nat.not_lt,-Nat.not_le,sx,pObs,Exq.ac0,Exq.kind,Exq.op,Exq.num,Exq.text,Exq.slot,Exq.type,Exq.args,Exq.at_]
  ·rw[hA] at hJ2
   simp only[LxR.bind] at hJ2 ⊢
   refine dm0 [.e 0,.l 7 0,.l 2 0,.l 3 0] rfl rfl (by simp) ?_
   simp
   have hpO:=hJ2
   try simp[pObs,ar0,aw0] at hpO
   refine c80 hpO ?_
   clear hpO
   intro y
   refine rS0 ?_
   refine endP ?_
   exact rT3 @pObs.eq_1 @pAns.eq_1 @pAns.eq_2
end Go.Am
end

section
namespace Go.Am
variable {P:Program} {n:Sz} {H:Imm} {μ:Mu} {env:Env} {hp:Hp} {a:Act} {w:World}
def V.fz (i:Id) (xs:List (List V)):V->V
 | .arr j o m=>if j=i then (if o+m<=xs.length then .lst ((xs.drop o).take m) else .any) else .arr j o m
 | v=>v
def Ob.fz (i:Id) (xs:List (List V)):Ob->Ob
 | .box cs=>.box (cs.map (V.fz i xs))
 | o=>o
theorem fz_ok {i:Id} {ty sz:Nat} {xs:List (List V)} (hW:Wd H μ hp w) (hl:hp.lookup i=some (.row ty sz false xs)) {v:V} {x:Value} (h:R H μ v x):R H μ (V.fz i xs v) x:=by
 unfold V.fz
 split
 ·rename_i j o m
  split
  ·rename_i e;subst e
   split
   ·rename_i hle;exact nm0 hW hl hle h μ
   ·exact .any x
  ·exact h
 ·exact h
theorem Ob.fz_own {i:Id} {xs:List (List V)} (o:Ob):(o.fz i xs).own=o.own:=by cases o<;>rfl
theorem Wk.frz {E:Env} {h:Hp} (i:Id) {ty sz:Nat} {xs:List (List V)} (hi:hp.lookup i=some (.row ty sz true xs)) (hE:∀ p∈E,bo0 env p.1 λv=>V.fz i xs v=p.2)
  (hh:∀ p∈h,p.1≠i/\objK hp p.1 λo=>Ob.fz i xs o=p.2):Wk E h env hp:=λn H μ a w hS=>by
 obtain⟨H1,hle,hS1,hx1⟩:=hS.frz (.arr i 0 0)
 have hl1:(Hp.frz (.arr i 0 0) hp).lookup i=some (.row ty sz false xs):=by rw[ir0,hi];simp[V.has,Ob.frz]
 have hoth:∀ j,j≠i->(Hp.frz (.arr i 0 0) hp).lookup j=hp.lookup j:=by
  intro j hj
  rw[ir0]
  have:V.has j (.arr i 0 0)=false:=by simp[V.has,Ne.symm hj]
  rw[this]
  cases hp.lookup j<;>rfl
 have hW:=hS1.wd
 have hob:∀ j o,h.lookup j=some o->∃ o',(Hp.frz (.arr i 0 0) hp).lookup j=some o'/\o=o'.fz i xs:=by
  intro j o hl
  obtain⟨h1,h2⟩:=hh (j,o) (bS0 hl)
  rw[iU0] at h2
  obtain⟨o',h3,h4⟩:=h2
  exact⟨o',by rw[hoth j h1];exact h3,h4.symm⟩
 refine⟨H1,μ,⟨hS1.defers,hS1.size,λs v hs=>?_,⟨λj o hl=>?_,λj k oj ok bj bk hj hoj hk hok hbj hbk heq=>?_,hW.imm,hW.glo⟩⟩,hx1.trans ⟨⟨Imm.le_refl _,rfl,rfl,rfl,Nat.le_refl _,λ_ _ _=>rfl,λb hO hb=>?_,fr0⟩,λ_=>rfl⟩⟩
 ·have h1:=hE (s,v) (bS0 hs)
  rw[fg0] at h1
  obtain⟨u,h2,rfl⟩:=h1
  exact fz_ok hW hl1 (hS1.env s u h2)
 ·obtain⟨o',h1,rfl⟩:=hob j o hl
  have hO:=hW.ob j o' h1
  cases o' with
  | box cs =>
   obtain⟨blk,vals,ty',k1,k2,k3,k4,k5⟩:=hO
   refine⟨blk,vals,ty',k1,k2,by rw[k3];simp,k4,λq v hq=>?_⟩
   rw[List.getElem?_map] at hq
   obtain⟨u,h3,rfl⟩:=Option.map_eq_some_iff.1 hq
   obtain⟨x,r1,r2⟩:=k5 q u h3
   exact⟨x,r1,fz_ok hW hl1 r2⟩
  | gone=>exact hO
  | row ty' sz' own ys=>exact hO
  | mpo kd kvs=>exact hO
 ·obtain⟨o1,h1,rfl⟩:=hob j oj hj
  obtain⟨o2,h2,rfl⟩:=hob k ok hk
  exact hW.inj j k o1 o2 bj bk h1 (by rw[<- Ob.fz_own];exact hoj) h2 (by rw[<- Ob.fz_own];exact hok) hbj hbk heq
 ·obtain⟨j,o,blk,h1,h2,h3,h4⟩:=hO
  obtain⟨o',k1,rfl⟩:=hob j o h1
  exact⟨j,o',blk,k1,by rw[<- Ob.fz_own];exact h2,h3,h4⟩
end Go.Am
end

section
namespace Go.Am
set_option maxRecDepth 100000
attribute [local irreducible] vc vcIs vcI vcOp vcD vcDp vcDR vcT vcAR cf0 bb0 panD neG ne pv J bY0 b50 ci0 bo0 evK evsK nthK objK boxK rowK bQ0 intK strK aggK fnK ifcK az0 aA0 ldK ldaK iaK srcK stK appK appD cn0 pvK bT0 a30 b40 bJ0 slAV bX0
variable {ts:List Tok} {n:Nat}
abbrev zE:List V:=[vI 0,vI 0,vI 0,vS (bS []),vI 0,vS (bS []),.nil,vI 0]
theorem px0 {d:Nat} (h:d<=24):hs0 ts n d=.ok ():=by rw[hs0,if_neg (by omega)]
theorem m00 {d:Nat} (h:¬ d<=24):hs0 ts n d=.bad n 32:=by rw[hs0,if_pos (by omega)];rfl
set_option maxHeartbeats 1600000 in
theorem mT0 (hE:TEnd ts) (hl:ts.length<2 ^ 40) (F d:Nat) (hd:d<=24)
  (IHx:∀ g,g<F->∀ d n,d<=25->n<ts.length->(by0 ts g d n).live->J prog bl0 [.bp (.e 0) 0,vI d] (pObs ts n) (·=pAns ts Exq.V (by0 ts g d n)))
  (IHu:∀ g,g<F->∀ d n,d<=24->n<ts.length->(pUn ts g d n).live->J prog bW0 [.bp (.e 0) 0,vI d] (pObs ts n) (·=pAns ts Exq.V (pUn ts g d n)))
  (hn:n<ts.length) (hlive:(pUn ts F d n).live):J prog bW0 [.bp (.e 0) 0,vI d] (pObs ts n) (·=pAns ts Exq.V (pUn ts F d n)):=by
 obtain _|F:=F
 ·rw[pUn] at hlive;exact absurd rfl hlive
 generalize hw:pUn ts (F+1) d n=R at *
 rw[pUn] at hw
 refine av0 jz0 (by simp[pObs]) ?_
 refine rS4 @fj0.eq_1 @pObs.eq_1 @hpE.eq_1 @hpE.eq_2 ?_
 refine aa0 [.e 0] ?_
 simp
 have hO:=bk0 hn
 try simp[pObs,ar0,aw0] at hO
 refine ab0 12 hO ?_
 refine rS0 ?_
 refine aT0 (λy:Nat=>2-y) (λy=>[(15,vI y),(14,vI 2),(13,.arr (.l 13 0) 0 2),(5,.bp (.l 5 0) 0),(4,.bp (.l 4 0) 0),(0,.bp (.e 0) 0),(1,vI d)])
  (λ_=>[(.e 0,.box [.lst (ts.map Tok.cells),vI n]),(.l 13 0,.row 9 1 true [[vS (bS [45])],[vS (bS [33])]]),(.l 5 0,.box (tk ts n).cells),(.l 4 0,.box zE)])
  (λy=>y<=2/\(0<y->isT ts n 4 [45]=false)/\(1<y->isT ts n 4 [33]=false)) 0 (by simp) (Wk.subs (by simp) (by simp)) ?_
 rintro y ⟨hy,h1,h2⟩
 have:y=0\/y=1\/y=2:=by omega
 rcases this with rfl|rfl|rfl
 ·refine rS0 ?_
  rw[aV0 (e:=[vS (bS [45])]) rfl]
  refine rS0 ?_
  refine aa0 [.e 0] ?_
  simp
  have hO:=al0 hn hl 4 [45]
  try simp[pObs,ar0,aw0] at hO
  refine ab0 22 hO ?_
  cases h:isT ts n 4 [45] with
  | true =>
   have h0:=ax0 hE hn h (by decide)
   rw[h] at hw
   simp only[if_true] at hw
   refine rS0 ?_
   by_cases hd1:d+1<=24
   ·have hJ:=cL0 h0 (d+1)
    rw[px0 hd1] at hJ hw
    simp only[LxR.bind] at hJ hw
    refine aa0 [.e 0] ?_
    simp
    have hO:=hJ
    try simp[pObs,ar0,aw0] at hO
    refine ab0 26 hO ?_
    refine rS0 ?_
    have hlv:=hlive
    rw[<- hw] at hlv
    have hJ2:=IHu F (by omega) (d+1) (n+1) hd1 h0 (LxR.aN0 hlv).1
    rcases hx:pUn ts F (d+1) (n+1) with⟨x,m⟩|⟨a,e⟩
    ·rw[hx] at hJ2 hw
     simp only[pAns,LxR.bind] at hJ2 hw
     subst hw
     refine bw0 [.e 0] ?_
     simp
     have hO:=hJ2
     try simp[pObs,ar0,aw0] at hO
     refine c00 32 hO ?_
     refine rS0 ?_
     refine ay0 [] ?_
     rw[pAns,Exq.V,Exq.ac0 (.mk _ _ _ _ _ _ _ _)]
     simp +contextual (maxSteps:=2000000) (disch:=omega) [-Int.not_lt,-Int.not_le,-Nat.not_lt,-Nat.not_le,sx,pObs,Exq.kind,Exq.op,Exq.num,Exq.text,Exq.slot,Exq.type,Exq.args,Exq.at_]
    ·rw[hx] at hJ2 hw
     simp only[pAns,LxR.bind] at hJ2 hw
     subst hw
     refine bw0 [.e 0] ?_
     simp
     have hO:=hJ2
     try simp[pObs,ar0,aw0] at hO
     refine c70 hO ?_
     refine rS0 ?_
     refine endP ?_
     exact rT3 @pObs.eq_1 @pAns.eq_1 @pAns.eq_2
   ·have hJ:=cL0 h0 (d+1)
    rw[m00 hd1] at hJ hw
    simp only[LxR.bind] at hJ hw
    subst hw
    refine aa0 [.e 0] ?_
    simp
    have hO:=hJ
    try simp[pObs,ar0,aw0] at hO
    refine af0 hO ?_
    refine rS0 ?_
    refine endP ?_
    exact rT3 @pObs.eq_1 @pAns.eq_1 @pAns.eq_2
  | false =>
   refine rS0 ?_
   refine .of 1 ⟨by omega,λq=>absurd q (by omega)⟩ (by omega) (Wk.subs (by simp) (by simp))
 ·have h1:=h1 (by omega)
  rw[h1] at hw
  simp only[Bool.false_eq_true,if_false] at hw
  refine rS0 ?_
  rw[aV0 (e:=[vS (bS [33])]) rfl]
  refine rS0 ?_
  refine aa0 [.e 0] ?_
  simp
  have hO:=al0 hn hl 4 [33]
  try simp[pObs,ar0,aw0] at hO
  refine ab0 22 hO ?_
  cases h:isT ts n 4 [33] with
  | true =>
   have h0:=ax0 hE hn h (by decide)
   rw[h] at hw
   simp only[if_true] at hw
   refine rS0 ?_
   by_cases hd1:d+1<=24
   ·have hJ:=cL0 h0 (d+1)
    rw[px0 hd1] at hJ hw
    simp only[LxR.bind] at hJ hw
    refine aa0 [.e 0] ?_
    simp
    have hO:=hJ
    try simp[pObs,ar0,aw0] at hO
    refine ab0 26 hO ?_
    refine rS0 ?_
    have hlv:=hlive
    rw[<- hw] at hlv
    have hJ2:=IHu F (by omega) (d+1) (n+1) hd1 h0 (LxR.aN0 hlv).1
    rcases hx:pUn ts F (d+1) (n+1) with⟨x,m⟩|⟨a,e⟩
    ·rw[hx] at hJ2 hw
     simp only[pAns,LxR.bind] at hJ2 hw
     subst hw
     refine bw0 [.e 0] ?_
     simp
     have hO:=hJ2
     try simp[pObs,ar0,aw0] at hO
     refine c00 32 hO ?_
     refine rS0 ?_
     refine ay0 [] ?_
     rw[pAns,Exq.V,Exq.ac0 (.mk _ _ _ _ _ _ _ _)]
     simp +contextual (maxSteps:=2000000) (disch:=omega) [-Int.not_lt,-Int.not_le,-Nat.not_lt,-Nat.not_le,sx,pObs,Exq.kind,Exq.op,Exq.num,Exq.text,Exq.slot,Exq.type,Exq.args,Exq.at_]
    ·rw[hx] at hJ2 hw
     simp only[pAns,LxR.bind] at hJ2 hw
     subst hw
     refine bw0 [.e 0] ?_
     simp
     have hO:=hJ2
     try simp[pObs,ar0,aw0] at hO
     refine c70 hO ?_
     refine rS0 ?_
     refine endP ?_
     exact rT3 @pObs.eq_1 @pAns.eq_1 @pAns.eq_2
   ·have hJ:=cL0 h0 (d+1)
    rw[m00 hd1] at hJ hw
    simp only[LxR.bind] at hJ hw
    subst hw
    refine aa0 [.e 0] ?_
    simp
    have hO:=hJ
    try simp[pObs,ar0,aw0] at hO
    refine af0 hO ?_
    refine rS0 ?_
    refine endP ?_
    exact rT3 @pObs.eq_1 @pAns.eq_1 @pAns.eq_2
  | false =>
   refine rS0 ?_
   refine .of 2 ⟨by omega,λ_=>h1⟩ (by omega) (Wk.subs (by simp) (by simp))
 ·have h1:=h1 (by omega)
  have h2:=h2 (by omega)
  rw[h1,h2] at hw
  simp only[Bool.false_eq_true,if_false] at hw
  have hlv:=hlive
  rw[<- hw] at hlv
  refine rS0 ?_
  have hJ:=lP0 hE hl F d hd (λg hg n=>IHx g (by omega) (d+1) n (by omega)) hn (LxR.aN0 hlv).1
  rcases hx:ec0 ts F d n with⟨x,m⟩|⟨a,e⟩
  rotate_left
  ·rw[hx] at hJ hw
   simp only[pAns,LxR.bind] at hJ hw
   subst hw
   refine aa0 [.e 0] ?_
   simp
   have hO:=hJ
   try simp[pObs,ar0,aw0] at hO
   refine af0 hO ?_
   refine rS0 ?_
   refine endP ?_
   exact rT3 @pObs.eq_1 @pAns.eq_1 @pAns.eq_2
  have q1:=(k50 hE F).prim hn hx
  rw[hx] at hJ hw
  simp only[pAns,LxR.bind] at hJ hw
  refine aa0 [.e 0] ?_
  simp
  have hO:=hJ
  try simp[pObs,ar0,aw0] at hO
  refine ab0 40 hO ?_
  refine rS0 ?_
  refine aT0 (λy:Nat × Nat × Exq=>y.1) (λy=>[(8,.bp (.l 8 0) 0),(4,.bp (.l 4 0) 0),(0,.bp (.e 0) 0),(1,vI d)])
   (λy=>[(.e 0,.box [.lst (ts.map Tok.cells),vI y.2.1]),(.l 8 0,.box y.2.2.cells),(.l 4 0,.box zE)])
   (λy=>y.1<=F/\y.2.1<ts.length/\fc0 ts y.1 d y.2.2 y.2.1=R) (F,m,x) ⟨Nat.le_refl _,q1.2,hw⟩ (Wk.subs (by simp) (by simp)) ?_
  rintro⟨g,n',out⟩ ⟨hg,hn',hw⟩
  dsimp only at hg hn' hw
  obtain _|g:=g
  ·rw[fc0] at hw;subst hw;exact absurd rfl hlive
  rw[fc0] at hw
  refine rS0 ?_
  refine aa0 [.e 0] ?_
  simp
  have hO:=lO0 hn' 4 [91]
  try simp[pObs,ar0,aw0] at hO
  refine ab0 42 hO ?_
  cases h3:isT ts n' 4 [91] with
  | false =>
   rw[h3] at hw
   simp only[Bool.false_eq_true,if_false] at hw
   subst hw
   refine rS0 ?_
   refine ay0 [] ?_
   exact rT3 @pObs.eq_1 @pAns.eq_1 @pAns.eq_2
  | true =>
   have h0:=ax0 hE hn' h3 (by decide)
   rw[h3] at hw
   simp only[if_true] at hw
   have hlv:=hlive
   rw[<- hw] at hlv
   have hJ:=IHx g (by omega) (d+1) (n'+1) (by omega) h0 (LxR.aN0 hlv).1
   refine rS0 ?_
   refine aa0 [.e 0] ?_
   simp
   have hO:=bk0 hn'
   try simp[pObs,ar0,aw0] at hO
   refine ab0 44 hO ?_
   refine rS0 ?_
   rcases hx2:by0 ts g (d+1) (n'+1) with⟨p,m2⟩|⟨a,e⟩
   ·rw[hx2] at hJ hw
    simp only[pAns,LxR.bind] at hJ hw
    have q2:=(k50 hE g).ex h0 hx2
    refine aa0 [.e 0] ?_
    simp
    have hO:=hJ
    try simp[pObs,ar0,aw0] at hO
    refine ab0 56 hO ?_
    refine rS0 ?_
    have hJ2:=as0 q2.2 hl [93]
    rcases hm:aX0 ts m2 [93] with m3|⟨a,e⟩
    ·rw[hm] at hJ2 hw
     simp only[at0] at hJ2 hw
     have q3:=am0 hE q2.2 hm
     refine aa0 [.e 0] ?_
     simp
     have hO:=hJ2
     try simp[pObs,ar0,aw0] at hO
     refine ab0 58 hO ?_
     refine rS0 ?_
     refine .of (g,m3,.mk 12 0 0 (bS []) 0 (bS []) [out,p] (tk ts n').at_) ⟨by dsimp only;omega,q3.2,hw⟩ (by dsimp only;omega) (Wk.frz (.l 61 0) rfl (by simp[V.fz]) ?_)
     rw[Exq.ac0 (.mk _ _ _ _ _ _ _ _)]
     simp[Ob.fz,V.fz,Exq.kind,Exq.op,Exq.num,Exq.text,Exq.slot,Exq.type,Exq.args,Exq.at_]
    ·rw[hm] at hJ2 hw
     simp only[at0] at hJ2 hw
     subst hw
     refine aa0 [.e 0] ?_
     simp
     have hO:=hJ2
     try simp[pObs,ar0,aw0] at hO
     refine af0 hO ?_
     refine rS0 ?_
     refine endP ?_
     exact rT3 @pObs.eq_1 @pAns.eq_1 @pAns.eq_2
   ·rw[hx2] at hJ hw
    simp only[pAns,LxR.bind] at hJ hw
    subst hw
    refine aa0 [.e 0] ?_
    simp
    have hO:=hJ
    try simp[pObs,ar0,aw0] at hO
    refine af0 hO ?_
    refine rS0 ?_
    refine endP ?_
    exact rT3 @pObs.eq_1 @pAns.eq_1 @pAns.eq_2
variable {ts:List Tok} {n:Nat}
theorem rx0 (l:List Bs) (s:ByteArray) (h:l.contains (sB s)=true):jX0 (l.map bS) s=(l.idxOf (sB s):Nat):=by
 rw[List.contains_iff_mem] at h
 have hlt:l.idxOf (sB s)<l.length:=List.idxOf_lt_length_iff.2 h
 have hge:l[l.idxOf (sB s)]=sB s:=List.getElem_idxOf hlt
 have:(l.map bS).findIdx? (λx=>decide (s=x))=some (l.idxOf (sB s)):=by
  rw[List.findIdx?_eq_some_iff_getElem]
  refine⟨by simpa using hlt,by simp[hge],λj hj=>?_⟩
  have hne:=List.not_of_lt_findIdx (p:=(· == sB s)) (xs:=l) hj
  simp only[List.getElem_map,decide_eq_true_eq]
  intro e
  have h3:sB s=l[j]:=congrArg sB e
  have h4:(l[j] == sB s)=true:=by rw[beq_iff_eq];exact h3.symm
  rw[h4] at hne;cases hne
 rw[jX0,this]
theorem level_op {l:Nat} (hl5:l<5) {b:Bs} (h:(a90[l]'hl5).contains b=true):pOps.contains b=true:=by
 rw[List.contains_iff_mem] at h ⊢
 exact List.mem_flatten.2 ⟨_,List.getElem_mem hl5,h⟩
theorem oU0 {l:Nat} (hl5:l<5) {t:Tok} (hk:t.kind=4):cK0 l t=(a90[l]'hl5).contains (sB t.text):=by
 unfold cK0
 rw[hk,List.getD_eq_getElem?_getD,List.getElem?_eq_getElem hl5]
 simp
theorem oV0 {l:Nat} {t:Tok} (hk:¬ t.kind=4):cK0 l t=false:=by
 unfold cK0
 simp[hk]
theorem pW0:∀ x∈a90,x.length<2 ^ 40:=by decide
theorem kP0 {l:Nat} (hl5:l<5) (s:ByteArray):Ret prog bv0 [.lst ((a90[l]'hl5).map λm=>[vS (bS m)]),vS s] (vB ((a90[l]'hl5).contains (sB s))):=by
 have h:=hR0 ((a90[l]'hl5).map bS) s (by rw[List.length_map];exact pW0 _ (List.getElem_mem _))
 rw[nr0,List.map_map] at h
 exact h
theorem ops_Index (s:ByteArray) (h:pOps.contains (sB s)=true):Ret prog bR0 [.lst (pOps.map aW0),vS s] (vI (pOps.idxOf (sB s):Nat)):=by
 have h2:=jY0 (pOps.map bS) s (by decide)
 rw[rx0 _ _ h,List.map_map] at h2
 exact h2
set_option maxHeartbeats 1600000 in
theorem mf0 (hE:TEnd ts) (hl:ts.length<2 ^ 40) (F l d:Nat) (hl5:l<=5) (hd:d<=24)
  (IHb:∀ g,g<F->∀ l n,l<=5->n<ts.length->(pBin ts g l d n).live->J prog bF0 [.bp (.e 0) 0,vI l,vI d] (pObs ts n) (·=pAns ts Exq.V (pBin ts g l d n)))
  (IHu:∀ g,g<F->∀ n,n<ts.length->(pUn ts g d n).live->J prog bW0 [.bp (.e 0) 0,vI d] (pObs ts n) (·=pAns ts Exq.V (pUn ts g d n)))
  (hn:n<ts.length) (hlive:(pBin ts F l d n).live):J prog bF0 [.bp (.e 0) 0,vI l,vI d] (pObs ts n) (·=pAns ts Exq.V (pBin ts F l d n)):=by
 obtain _|F:=F
 ·rw[pBin] at hlive;exact absurd rfl hlive
 generalize hw:pBin ts (F+1) l d n=R at *
 rw[pBin] at hw
 refine av0 jj0 (by simp[pObs]) ?_
 refine rS4 @eU0.eq_1 @pObs.eq_1 @hpE.eq_1 @hpE.eq_2 ?_
 refine ak0 ?_;simp;refine ah0 (dE0) (by simp) ?_
 by_cases h5:l=5
 ·subst h5
  rw[if_pos rfl] at hw
  subst hw
  have hJ:=IHu F (by omega) n hn hlive
  rcases hx:pUn ts F d n with⟨x,m⟩|⟨a,e⟩
  ·rw[hx] at hJ
   simp only[pAns] at hJ
   refine rS0 ?_
   refine aa0 [.e 0] ?_
   simp
   have hO:=hJ
   try simp[pObs,ar0,aw0] at hO
   refine ab0 17 hO ?_
   refine rS0 ?_
   refine ay0 [] ?_
   exact rT3 @pObs.eq_1 @pAns.eq_1 @pAns.eq_2
  ·rw[hx] at hJ
   simp only[pAns] at hJ
   refine rS0 ?_
   refine aa0 [.e 0] ?_
   simp
   have hO:=hJ
   try simp[pObs,ar0,aw0] at hO
   refine af0 hO ?_
   refine rS0 ?_
   refine endP ?_
   exact rT3 @pObs.eq_1 @pAns.eq_1 @pAns.eq_2
 rw[if_neg h5] at hw
 have hlt5:l<5:=by omega
 have h5':¬ (l:Int)=5:=by omega
 have hlv:=hlive
 rw[<- hw] at hlv
 have hJ:=IHb F (by omega) (l+1) n (by omega) hn (LxR.aN0 hlv).1
 refine rS1 h5' ?_
 rcases hx:pBin ts F (l+1) d n with⟨x,m⟩|⟨a,e⟩
 rotate_left
 ·rw[hx] at hJ hw
  simp only[pAns,LxR.bind] at hJ hw
  subst hw
  refine aa0 [.e 0] ?_
  simp
  have hO:=hJ
  try simp[pObs,ar0,aw0] at hO
  refine af0 hO ?_
  refine rS0 ?_
  refine endP ?_
  exact rT3 @pObs.eq_1 @pAns.eq_1 @pAns.eq_2
 have q1:=(k50 hE F).bin hn hx
 rw[hx] at hJ hw
 simp only[pAns,LxR.bind] at hJ hw
 refine aa0 [.e 0] ?_
 simp
 have hO:=hJ
 try simp[pObs,ar0,aw0] at hO
 refine ab0 22 hO ?_
 refine rS0 ?_
 refine aT0 (λy:Nat × Nat × Exq=>y.1) (λy=>[(7,.bp (.l 7 0) 0),(6,.bp (.l 6 0) 0),(0,.bp (.e 0) 0),(1,vI l),(2,vI d)])
  (λy=>[(.e 0,.box [.lst (ts.map Tok.cells),vI y.2.1]),(.l 7 0,.box y.2.2.cells),(.l 6 0,.box zE)])
  (λy=>y.1<=F/\y.2.1<ts.length/\ex0 ts y.1 l d y.2.2 y.2.1=R) (F,m,x) ⟨Nat.le_refl _,q1.2,hw⟩ (Wk.subs (by simp) (by simp)) ?_
 rintro⟨g,n',out⟩ ⟨hg,hn',hw⟩
 dsimp only at hg hn' hw
 obtain _|g:=g
 ·rw[ex0] at hw;subst hw;exact absurd rfl hlive
 rw[ex0] at hw
 refine rS0 ?_
 refine aa0 [.e 0] ?_
 simp
 have hO:=bk0 hn'
 try simp[pObs,ar0,aw0] at hO
 refine ab0 24 hO ?_
 have done:cK0 l (tk ts n')=false->R=.ok (out,n'):=λh=>by rw[h] at hw;simpa using hw.symm
 by_cases hk:(tk ts n').kind=4
 rotate_left
 ·have hR:=done (oV0 hk)
  rw[hR]
  refine rS1 hk ?_
  refine ay0 [] ?_
  exact rT3 @pObs.eq_1 @pAns.eq_1 @pAns.eq_2
 have hin:=oU0 hlt5 hk
 refine rS1 hk ?_
 refine dz0 ?_;simp;refine ah0 (dE0) (by simp) ?_
 refine rS0 ?_
 rw[oW0 hlt5]
 refine rS0 ?_
 refine ak0 ?_;simp;refine ah0 (kP0 hlt5 (tk ts n').text) (by simp) ?_
 rw[<- hin]
 cases hi:cK0 l (tk ts n') with
 | false =>
  rw[done hi]
  refine rS0 ?_
  refine ay0 [] ?_
  exact rT3 @pObs.eq_1 @pAns.eq_1 @pAns.eq_2
 | true =>
 have hop:pOps.contains (sB (tk ts n').text)=true:=level_op hlt5 (by rw[<- hin];exact hi)
 rw[hi] at hw
 simp only[if_true] at hw
 have h0:=hE n' hn' (by rw[hk];decide)
 have hlv:=hlive
 rw[<- hw] at hlv
 have hJ2:=IHb g (by omega) (l+1) (n'+1) (by omega) h0 (LxR.aN0 hlv).1
 refine rS0 ?_
 rcases hx2:pBin ts g (l+1) d (n'+1) with⟨p,m2⟩|⟨a,e⟩
 rotate_left
 ·rw[hx2] at hJ2 hw
  simp only[pAns,LxR.bind] at hJ2 hw
  subst hw
  refine aa0 [.e 0] ?_
  simp
  have hO:=hJ2
  try simp[pObs,ar0,aw0] at hO
  refine af0 hO ?_
  refine rS0 ?_
  refine endP ?_
  exact rT3 @pObs.eq_1 @pAns.eq_1 @pAns.eq_2
 rw[hx2] at hJ2 hw
 simp only[pAns,LxR.bind] at hJ2 hw
 have q2:=(k50 hE g).bin h0 hx2
 refine aa0 [.e 0] ?_
 simp
 have hO:=hJ2
 try simp[pObs,ar0,aw0] at hO
 refine ab0 49 hO ?_
 refine rS0 ?_
 refine dz0 ?_;simp;refine ah0 (kB0) (by simp) ?_
 refine rS0 ?_
 refine dz0 ?_;simp;refine ah0 (ops_Index (tk ts n').text hop) (by simp) ?_
 have hq:pOps.idxOf (sB (tk ts n').text)<13:=List.idxOf_lt_length_iff.2 (List.contains_iff_mem.1 hop)
 generalize pOps.idxOf (sB (tk ts n').text)=q at *
 by_cases h2:l=2
 ·subst h2
  rw[if_pos rfl] at hw
  refine rS0 ?_
  refine aa0 [.e 0] ?_
  simp
  have hO:=bk0 q2.2
  try simp[pObs,ar0,aw0] at hO
  refine ab0 64 hO ?_
  have ends:cK0 2 (tk ts m2)=false->R=.ok (.mk 15 ((q:Nat)+1) 0 (bS []) 0 (bS []) [out,p] (tk ts n').at_,m2):=λh=>by rw[h] at hw;simpa using hw.symm
  by_cases hk2:(tk ts m2).kind=4
  rotate_left
  ·rw[ends (oV0 hk2)]
   refine rS1 hk2 ?_
   refine ay0 [] ?_
   rw[pAns,Exq.V,Exq.ac0 (.mk _ _ _ _ _ _ _ _)]
   simp +contextual (maxSteps:=2000000) (disch:=omega) [-Int.not_lt,-Int.not_le,-Nat.not_lt,-Nat.not_le,sx,pObs,Exq.kind,Exq.op,Exq.num,Exq.text,Exq.slot,Exq.type,Exq.args,Exq.at_]
  have hin2:=oU0 hlt5 hk2
  refine rS1 hk2 ?_
  refine dz0 ?_;simp;refine ah0 (dE0) (by simp) ?_
  refine rS0 ?_
  rw[oW0 hlt5]
  refine rS0 ?_
  refine ak0 ?_;simp;refine ah0 (kP0 hlt5 (tk ts m2).text) (by simp) ?_
  rw[<- hin2]
  cases hi2:cK0 2 (tk ts m2) with
  | false =>
   rw[ends hi2]
   refine rS0 ?_
   refine ay0 [] ?_
   rw[pAns,Exq.V,Exq.ac0 (.mk _ _ _ _ _ _ _ _)]
   simp +contextual (maxSteps:=2000000) (disch:=omega) [-Int.not_lt,-Int.not_le,-Nat.not_lt,-Nat.not_le,sx,pObs,Exq.kind,Exq.op,Exq.num,Exq.text,Exq.slot,Exq.type,Exq.args,Exq.at_]
  | true =>
   rw[hi2] at hw
   simp only[if_true,eS0] at hw
   subst hw
   refine rS0 ?_
   refine aa0 [.e 0] ?_
   simp
   have hO:=ba0 q2.2 31
   try simp[pObs,ar0,aw0] at hO
   refine af0 hO ?_
   refine rS0 ?_
   refine endP ?_
   exact rT3 @pObs.eq_1 @pAns.eq_1 @pAns.eq_2
 ·rw[if_neg h2] at hw
  have h2':¬ (l:Int)=2:=by omega
  refine rS1 h2' ?_
  refine .of (g,m2,.mk 15 ((q:Nat)+1) 0 (bS []) 0 (bS []) [out,p] (tk ts n').at_) ⟨by dsimp only;omega,q2.2,hw⟩ (by dsimp only;omega) (Wk.frz (.l 57 0) rfl (by simp[V.fz]) ?_)
  rw[Exq.ac0 (.mk _ _ _ _ _ _ _ _)]
  simp[Ob.fz,V.fz,Exq.kind,Exq.op,Exq.num,Exq.text,Exq.slot,Exq.type,Exq.args,Exq.at_]
variable {ts:List Tok}
structure DoesX (ts:List Tok) (f:Nat):Prop where
 ex:∀ d n,d<=25->n<ts.length->(by0 ts f d n).live->J prog bl0 [.bp (.e 0) 0,vI d] (pObs ts n) (·=pAns ts Exq.V (by0 ts f d n))
 bin:∀ l d n,l<=5->d<=24->n<ts.length->(pBin ts f l d n).live->J prog bF0 [.bp (.e 0) 0,vI l,vI d] (pObs ts n) (·=pAns ts Exq.V (pBin ts f l d n))
 un:∀ d n,d<=24->n<ts.length->(pUn ts f d n).live->J prog bW0 [.bp (.e 0) 0,vI d] (pObs ts n) (·=pAns ts Exq.V (pUn ts f d n))
theorem expr_step {F d n:Nat} (hd:d<=25) (hn:n<ts.length)
  (IHb:∀ g,g<F->∀ l d n,l<=5->d<=24->n<ts.length->(pBin ts g l d n).live->J prog bF0 [.bp (.e 0) 0,vI l,vI d] (pObs ts n) (·=pAns ts Exq.V (pBin ts g l d n)))
  (hlive:(by0 ts F d n).live):J prog bl0 [.bp (.e 0) 0,vI d] (pObs ts n) (·=pAns ts Exq.V (by0 ts F d n)):=by
 obtain _|F:=F
 ·rw[by0] at hlive;exact absurd rfl hlive
 generalize hw:by0 ts (F+1) d n=R at *
 rw[by0] at hw
 have hJ:=cL0 hn d
 refine av0 ko0 (by simp[pObs]) ?_
 refine rS4 @fR0.eq_1 @pObs.eq_1 @hpE.eq_1 @hpE.eq_2 ?_
 by_cases h:d<=24
 ·rw[px0 h] at hJ hw
  simp only[LxR.bind] at hJ hw
  subst hw
  have hJ2:=IHb F (by omega) 0 d n (by omega) h hn hlive
  refine aa0 [.e 0] ?_
  simp
  have hO:=hJ
  try simp[pObs,ar0,aw0] at hO
  refine ab0 7 hO ?_
  refine rS0 ?_
  rcases hx:pBin ts F 0 d n with⟨x,m⟩|⟨a,e⟩
  ·rw[hx] at hJ2
   simp only[pAns] at hJ2
   refine aa0 [.e 0] ?_
   simp
   have hO:=hJ2
   try simp[pObs,ar0,aw0] at hO
   refine ab0 10 hO ?_
   refine rS0 ?_
   refine ay0 [] ?_
   exact rT3 @pObs.eq_1 @pAns.eq_1 @pAns.eq_2
  ·rw[hx] at hJ2
   simp only[pAns] at hJ2
   refine aa0 [.e 0] ?_
   simp
   have hO:=hJ2
   try simp[pObs,ar0,aw0] at hO
   refine af0 hO ?_
   refine rS0 ?_
   refine endP ?_
   exact rT3 @pObs.eq_1 @pAns.eq_1 @pAns.eq_2
 ·rw[m00 h] at hJ hw
  simp only[LxR.bind] at hJ hw
  subst hw
  refine aa0 [.e 0] ?_
  simp
  have hO:=hJ
  try simp[pObs,ar0,aw0] at hO
  refine af0 hO ?_
  refine rS0 ?_
  refine endP ?_
  exact rT3 @pObs.eq_1 @pAns.eq_1 @pAns.eq_2
theorem doesX (hE:TEnd ts) (hl:ts.length<2 ^ 40) (f:Nat):DoesX ts f:=by
 induction f using Nat.strongRecOn with
 | ind f ih =>
  refine⟨λd n hd hn h=>expr_step hd hn (λg hg l d n=>(ih g hg).bin l d n) h,
   λl d n hl5 hd hn h=>mf0 hE hl f l d hl5 hd (λg hg l n h1 h2=>(ih g hg).bin l d n h1 hd h2) (λg hg n h2=>(ih g hg).un d n hd h2) hn h,
   λd n hd hn h=>mT0 hE hl f d hd (λg hg=>(ih g hg).ex) (λg hg=>(ih g hg).un) hn h⟩
variable {ts:List Tok} {n:Nat}
structure GoesS (ts:List Tok) (f:Nat):Prop where
 block:∀ {d n:Nat} {a:List Stm} {m:Nat},n<ts.length->bc0 ts f d n=.ok (a,m)->n<m/\m<ts.length
 stms:∀ {d:Nat} {out:List Stm} {n:Nat} {a:List Stm} {m:Nat},n<ts.length->g40 ts f d out n=.ok (a,m)->n<m/\m<ts.length
 stm:∀ {d n:Nat} {a:Stm} {m:Nat},n<ts.length->pStm ts f d n=.ok (a,m)->n<m/\m<ts.length
theorem nG0 (hE:TEnd ts):∀ f,GoesS ts f
 | 0=>⟨λ_ h=>by simp[bc0] at h,λ_ h=>by simp[g40] at h,λ_ h=>by simp[pStm] at h⟩
 | f+1=>by
  have ih:=nG0 hE f
  have ix:=k50 hE f
  refine⟨λhn h=>?_,λhn h=>?_,λhn h=>?_⟩
  ·rw[bc0] at h
   obtain⟨_,_,h⟩:=ag0 h
   obtain⟨n1,e1,h⟩:=ag0 h
   have q1:=am0 hE hn e1
   have q2:=ih.stms q1.2 h
   omega
  ·rw[g40] at h
   split at h
   ·rename_i hi
    have h0:=ax0 hE hn hi (by decide)
    injection h with h;injection h with h1 h2;subst h2;omega
   ·obtain⟨⟨s,n1⟩,e1,h⟩:=ag0 h
    have q1:=ih.stm hn e1
    have q2:=ih.stms q1.2 h
    dsimp only at *;omega
  ·rw[pStm] at h
   split at h
   ·rename_i hi
    have h0:=ax0 hE hn hi (by decide)
    obtain⟨⟨t,n1⟩,e1,h⟩:=ag0 h
    obtain⟨n2,e2,h⟩:=ag0 h
    obtain⟨⟨x,n3⟩,e3,h⟩:=ag0 h
    obtain⟨n4,e4,h⟩:=ag0 h
    have q1:=bh0 hE h0 e1
    have q2:=am0 hE q1.2 e2
    have q3:=ix.ex q2.2 e3
    have q4:=am0 hE q3.2 e4
    injection h with h;injection h with h1 h2;subst h2
    dsimp only at *;omega
   split at h
   ·rename_i hi
    have h0:=ax0 hE hn hi (by decide)
    obtain⟨⟨t,n1⟩,e1,h⟩:=ag0 h
    have q1:=bh0 hE h0 e1
    split at h
    ·rename_i hi2
     have h00:=ax0 hE q1.2 hi2 (by decide)
     obtain⟨⟨x,n3⟩,e3,h⟩:=ag0 h
     obtain⟨n4,e4,h⟩:=ag0 h
     obtain⟨n5,e5,h⟩:=ag0 h
     obtain⟨⟨y,n6⟩,e6,h⟩:=ag0 h
     obtain⟨n7,e7,h⟩:=ag0 h
     have q3:=ix.ex h00 e3
     have q4:=am0 hE q3.2 e4
     have q5:=am0 hE q4.2 e5
     have q6:=ix.ex q5.2 e6
     have q7:=am0 hE q6.2 e7
     injection h with h;injection h with h1 h2;subst h2
     dsimp only at *;omega
    ·obtain⟨n2,e2,h⟩:=ag0 h
     obtain⟨⟨x,n3⟩,e3,h⟩:=ag0 h
     obtain⟨n4,e4,h⟩:=ag0 h
     have q2:=am0 hE q1.2 e2
     have q3:=ix.ex q2.2 e3
     have q4:=am0 hE q3.2 e4
     injection h with h;injection h with h1 h2;subst h2
     dsimp only at *;omega
   split at h
   ·rename_i hi
    have h0:=ax0 hE hn hi (by decide)
    obtain⟨⟨t,n1⟩,e1,h⟩:=ag0 h
    obtain⟨n2,e2,h⟩:=ag0 h
    obtain⟨⟨x,n3⟩,e3,h⟩:=ag0 h
    obtain⟨n4,e4,h⟩:=ag0 h
    obtain⟨n5,e5,h⟩:=ag0 h
    have q1:=bh0 hE h0 e1
    have q2:=am0 hE q1.2 e2
    have q3:=ix.ex q2.2 e3
    have q4:=am0 hE q3.2 e4
    have q5:=am0 hE q4.2 e5
    injection h with h;injection h with h1 h2;subst h2
    dsimp only at *;omega
   split at h
   ·rename_i hi
    have h0:=ax0 hE hn hi (by decide)
    obtain⟨⟨x,n1⟩,e1,h⟩:=ag0 h
    obtain⟨⟨b,n2⟩,e2,h⟩:=ag0 h
    have q1:=ix.ex h0 e1
    have q2:=ih.block q1.2 e2
    split at h
    ·rename_i hi2
     have h00:=ax0 hE q2.2 hi2 (by decide)
     obtain⟨⟨c,n3⟩,e3,h⟩:=ag0 h
     have q3:=ih.block h00 e3
     injection h with h;injection h with h1 h2;subst h2
     dsimp only at *;omega
    ·injection h with h;injection h with h1 h2;subst h2
     dsimp only at *;omega
   split at h
   ·rename_i hi
    have h0:=ax0 hE hn hi (by decide)
    obtain⟨⟨t,n1⟩,e1,h⟩:=ag0 h
    obtain⟨n2,e2,h⟩:=ag0 h
    obtain⟨⟨x,n3⟩,e3,h⟩:=ag0 h
    obtain⟨⟨b,n4⟩,e4,h⟩:=ag0 h
    have q1:=bh0 hE h0 e1
    have q2:=lL0 hE q1.2 e2
    have q3:=ix.ex q2.2 e3
    have q4:=ih.block q3.2 e4
    injection h with h;injection h with h1 h2;subst h2
    dsimp only at *;omega
   split at h
   ·rename_i hi
    have h0:=ax0 hE hn hi (by decide)
    obtain⟨⟨x,n3⟩,e3,h⟩:=ag0 h
    obtain⟨n4,e4,h⟩:=ag0 h
    have q3:=ix.ex h0 e3
    have q4:=am0 hE q3.2 e4
    injection h with h;injection h with h1 h2;subst h2
    dsimp only at *;omega
   ·cases h
def aP0 (kind:Int) (name:ByteArray) (e body els:V) (at_:Int):Ob:=.box [vI kind,vS name,vI 0,vB false,vI 0,e,body,els,vI at_]
def bq0 (ts:List Tok) (n:Int) (kind:Int) (name:ByteArray) (at_:Int):List Ob :=
 [.box [.bp (.e 2) 0],aP0 kind name .nil .nil .nil at_,.box [.lst (ts.map Tok.cells),vI n]]
theorem gs0 (hl:ts.length<2 ^ 40) (hn:n<ts.length) (k:Int) (at_:Int) :
  J prog dH0 [vI k,.bp (.e 0) 0,.bp (.e 1) 0] (bq0 ts n 0 (bS []) at_) (λr=>r=match df0 ts n with
   | .ok (t,m)=>.ret (.tup []) (bq0 ts m k t.text at_)
   | .bad a e=>.pan (jJ0 ts a e) (bq0 ts a 0 (bS []) at_)):=by
 have hJ:=eQ0 hn hl
 refine av0 gX0 (by simp[bq0]) ?_
 refine rS5 @dn0.eq_1 @bq0.eq_1 @aP0.eq_1 @hpE.eq_1 @hpE.eq_2 ?_
 rcases hx:df0 ts n with⟨t,m⟩|⟨a,e⟩
 ·rw[hx] at hJ
  simp only[pAns] at hJ
  refine aa0 [.e 2] ?_
  simp
  have hO:=hJ
  try simp[pObs,bq0,aP0] at hO
  refine ab0 6 hO ?_
  refine rS0 ?_
  refine ch0 [] ?_
  exact rT2 @bq0.eq_1 @aP0.eq_1
 ·rw[hx] at hJ
  simp only[pAns] at hJ
  refine aa0 [.e 2] ?_
  simp
  have hO:=hJ
  try simp[pObs,bq0,aP0] at hO
  refine af0 hO ?_
  refine rS0 ?_
  refine endP ?_
  exact rT2 @bq0.eq_1 @aP0.eq_1
def optV:Option (List (List V))->V
 | none=>.nil
 | some l=>.lst l
def pVal (ts:List Tok) (f d:Nat) (mark:Bs) (n:Nat):PR Exq:=(by0 ts f (d+1) n).bind λp=>if mark=[] then .ok p else (aX0 ts p.2 mark).bind λm=>.ok (p.1,m)
def aO0 (ts:List Tok) (n:Int) (kind:Int) (name:ByteArray) (e:V) (at_:Int) (d:Nat):List Ob :=
 [aP0 kind name e .nil .nil at_,.box [.bp (.e 3) 0],.box [vI d],.box [.lst (ts.map Tok.cells),vI n]]
theorem cW0 (hE:TEnd ts) (hl:ts.length<2 ^ 40) (hn:n<ts.length) (f d:Nat) (hd:d<=24) (mark:Bs) (kind:Int) (name:ByteArray) (at_:Int) (hlive:(pVal ts f d mark n).live) :
  J prog cm0 [vS (bS mark),.bp (.e 0) 0,.bp (.e 1) 0,.bp (.e 2) 0] (aO0 ts n kind name .nil at_ d) (λr=>match pVal ts f d mark n with
   | .ok (x,m)=>r=.ret (.tup []) (aO0 ts m kind name (.arr (.e 4) 0 1) at_ d++[.row ep0 8 true [x.cells]])
   | .bad a e=>∃ y,r=.pan (jJ0 ts a e) (aO0 ts a kind name (optV y) at_ d)):=by
 generalize hw:pVal ts f d mark n=R at *
 unfold pVal at hw
 have hlv:=hlive
 rw[<- hw] at hlv
 have hJ:=(doesX hE hl f).ex (d+1) n (by omega) hn (LxR.aN0 hlv).1
 refine av0 dr0 (by simp[aO0]) ?_
 refine rS5 @b90.eq_1 @aO0.eq_1 @aP0.eq_1 @hpE.eq_1 @hpE.eq_2 ?_
 rcases hx:by0 ts f (d+1) n with⟨x,m⟩|⟨a,e⟩
 ·rw[hx] at hJ hw
  simp only[pAns,LxR.bind] at hJ hw
  have q1:=(k50 hE f).ex hn hx
  refine bw0 [.e 3] ?_
  simp
  have hO:=hJ
  try simp[pObs,bq0,aP0,aO0] at hO
  refine c00 10 hO ?_
  refine rS0 ?_
  rw[aV0 (e:=[vI 0,vI 0,vI 0,vS (bS []),vI 0,vS (bS []),.lst [],vI 0]) rfl]
  refine rS1 @ld0 ?_
  by_cases hm:mark=[]
  ·subst hm
   rw[if_pos rfl] at hw
   subst hw
   refine rS0 ?_
   refine ch0 [.l 13 0] ?_
   exact rT2 @aO0.eq_1 @aP0.eq_1
  ·rw[if_neg hm] at hw
   have hm':¬ bS mark=bS []:=λh=>hm (congrArg sB h)
   have hm2:¬ bS mark=⟨⟨[]⟩⟩:=hm'
   refine rS1 hm ?_
   have hJ2:=as0 q1.2 hl mark
   rcases hx2:aX0 ts m mark with m2|⟨a,e⟩
   ·rw[hx2] at hJ2 hw
    simp only[at0,LxR.bind] at hJ2 hw
    subst hw
    refine aa0 [.e 3] ?_
    simp
    have hO:=hJ2
    try simp[pObs,bq0,aP0,aO0] at hO
    refine ab0 20 hO ?_
    refine rS0 ?_
    refine ch0 [.l 13 0] ?_
    exact rT2 @aO0.eq_1 @aP0.eq_1
   ·rw[hx2] at hJ2 hw
    simp only[at0,LxR.bind] at hJ2 hw
    subst hw
    refine aa0 [.e 3] ?_
    simp
    have hO:=hJ2
    try simp[pObs,bq0,aP0,aO0] at hO
    refine af0 hO ?_
    refine rS0 ?_
    refine endP ?_
    refine rS2 @aO0.eq_1 @aP0.eq_1 ?_
    exact⟨some [x.cells],rfl⟩
 ·rw[hx] at hJ hw
  simp only[pAns,LxR.bind] at hJ hw
  subst hw
  refine bw0 [.e 3] ?_
  simp
  have hO:=hJ
  try simp[pObs,bq0,aP0,aO0] at hO
  refine c70 hO ?_
  refine rS0 ?_
  refine endP ?_
  refine rS2 @aO0.eq_1 @aP0.eq_1 ?_
  exact⟨none,rfl⟩
variable {ts:List Tok} {n:Nat}
theorem bind_assoc {α β γ:Type} (r:LxR α) (f:α->LxR β) (g:β->LxR γ):(r.bind f).bind g=r.bind λa=>(f a).bind g:=by cases r<;>rfl
theorem bind_okk {α β:Type} (a:α) (f:α->LxR β):(LxR.ok a).bind f=f a:=rfl
theorem bind_ok_r {α:Type} (r:LxR α):r.bind .ok=r:=by cases r<;>rfl
theorem jK0 (hE:TEnd ts) (hn:n<ts.length) {f d:Nat} {mark:Bs} {x:Exq} {m:Nat} (h:pVal ts f d mark n=.ok (x,m)):n<m/\m<ts.length:=by
 unfold pVal at h
 obtain⟨⟨y,n1⟩,e1,h⟩:=ag0 h
 have q1:=(k50 hE f).ex hn e1
 split at h
 ·injection h with h;injection h with h1 h2;subst h2;exact q1
 ·obtain⟨n2,e2,h⟩:=ag0 h
  have q2:=am0 hE q1.2 e2
  injection h with h;injection h with h1 h2;subst h2
  dsimp only at *;omega
def pStmV (ts:List Tok) (f d n:Nat):PR Stm :=
  if isT ts n 1 ev0 then (df0 ts (n+1)).bind λt=>(aX0 ts t.2 [61]).bind λn1=>(pVal ts f d [59] n1).bind λp=>.ok (stm0 1 t.1.text [p.1] [] [] (tk ts n).at_,p.2)
  else if isT ts n 1 cS0 then (df0 ts (n+1)).bind λt =>
   if isT ts t.2 4 [91] then (pVal ts f d [93] (t.2+1)).bind λp=>(aX0 ts p.2 [61]).bind λn2=>(pVal ts f d [59] n2).bind λq=>.ok (stm0 2 t.1.text [p.1,q.1] [] [] (tk ts n).at_,q.2)
   else (aX0 ts t.2 [61]).bind λn1=>(pVal ts f d [59] n1).bind λp=>.ok (stm0 2 t.1.text [p.1] [] [] (tk ts n).at_,p.2)
  else if isT ts n 1 es0 then (df0 ts (n+1)).bind λt=>(aX0 ts t.2 [91]).bind λn1=>(pVal ts f d [93] n1).bind λp=>(aX0 ts p.2 [59]).bind λn3=>.ok (stm0 3 t.1.text [p.1] [] [] (tk ts n).at_,n3)
  else if isT ts n 1 kwIf then (pVal ts f d [] (n+1)).bind λp=>(bc0 ts f (d+1) p.2).bind λb =>
   if isT ts b.2 1 bs0 then (bc0 ts f (d+1) (b.2+1)).bind λc=>.ok (stm0 4 (bS []) [p.1] b.1 c.1 (tk ts n).at_,c.2) else .ok (stm0 4 (bS []) [p.1] b.1 [] (tk ts n).at_,b.2)
  else if isT ts n 1 et0 then (df0 ts (n+1)).bind λt=>(kA0 ts t.2 kwTo).bind λn1=>(pVal ts f d [] n1).bind λp=>(bc0 ts f (d+1) p.2).bind λb=>.ok (stm0 5 t.1.text [p.1] b.1 [] (tk ts n).at_,b.2)
  else if isT ts n 1 ew0 then (pVal ts f d [59] (n+1)).bind λp=>.ok (stm0 6 (bS []) [p.1] [] [] (tk ts n).at_,p.2)
  else eS0 ts n 31
theorem pVal_nil (f d:Nat):pVal ts f d [] n=by0 ts f (d+1) n:=by
 unfold pVal
 simp only[if_true]
 exact bind_ok_r _
theorem pVal_mark (f d:Nat) (c:UInt8):pVal ts f d [c] n=(by0 ts f (d+1) n).bind λp=>(aX0 ts p.2 [c]).bind λm=>.ok (p.1,m):=by
 unfold pVal
 simp only[List.cons_ne_nil,if_false]
theorem pStm_eq (f d:Nat):pStm ts (f+1) d n=pStmV ts f d n:=by
 rw[pStm,pStmV]
 simp only[pVal_nil,pVal_mark,bind_assoc,bind_okk]
def aF0 (ts:List Tok) (n:Int) (kind:Int) (name:ByteArray) (at_:Int) (d:Nat) (y:Exq):List Ob :=
 aO0 ts n kind name (.arr (.e 4) 0 1) at_ d++[.row ep0 8 true [y.cells]]
def fQ0 (ts:List Tok) (n:Int) (kind:Int) (name:ByteArray) (at_:Int) (d:Nat) (y:Exq):Option (List (List V))->List Ob
 | none=>aF0 ts n kind name at_ d y
 | some l=>aO0 ts n kind name (.lst l) at_ d++[.gone]
theorem qc0 (hE:TEnd ts) (hl:ts.length<2 ^ 40) (hn:n<ts.length) (f d:Nat) (hd:d<=24) (mark:Bs) (kind:Int) (name:ByteArray) (at_:Int) (y:Exq) (hlive:(pVal ts f d mark n).live) :
  J prog cm0 [vS (bS mark),.bp (.e 0) 0,.bp (.e 1) 0,.bp (.e 2) 0] (aF0 ts n kind name at_ d y) (λr=>match pVal ts f d mark n with
   | .ok (x,m)=>r=.ret (.tup []) (aO0 ts m kind name (.arr (.e 5) 0 2) at_ d++[.gone,.row ep0 8 true [y.cells,x.cells]])
   | .bad a e=>∃ z,r=.pan (jJ0 ts a e) (fQ0 ts a kind name at_ d y z)):=by
 generalize hw:pVal ts f d mark n=R at *
 unfold pVal at hw
 have hlv:=hlive
 rw[<- hw] at hlv
 have hJ:=(doesX hE hl f).ex (d+1) n (by omega) hn (LxR.aN0 hlv).1
 refine av0 dr0 (by simp[aO0,aF0]) ?_
 refine rS6 @b90.eq_1 @aO0.eq_1 @aF0.eq_1 @aP0.eq_1 @hpE.eq_1 @hpE.eq_2 ?_
 rcases hx:by0 ts f (d+1) n with⟨x,m⟩|⟨a,e⟩
 ·rw[hx] at hJ hw
  simp only[pAns,LxR.bind] at hJ hw
  have q1:=(k50 hE f).ex hn hx
  refine bw0 [.e 3] ?_
  simp
  have hO:=hJ
  try simp[pObs,bq0,aP0,aO0,aF0] at hO
  refine c00 10 hO ?_
  refine rS0 ?_
  rw[aV0 (e:=[vI 0,vI 0,vI 0,vS (bS []),vI 0,vS (bS []),.lst [],vI 0]) rfl]
  refine rS1 @ld0 ?_
  by_cases hm:mark=[]
  ·subst hm
   rw[if_pos rfl] at hw
   subst hw
   refine rS0 ?_
   refine ch0 [.l 13 0] ?_
   exact rT3 @aO0.eq_1 @aF0.eq_1 @aP0.eq_1
  ·rw[if_neg hm] at hw
   refine rS1 hm ?_
   have hJ2:=as0 q1.2 hl mark
   rcases hx2:aX0 ts m mark with m2|⟨a,e⟩
   ·rw[hx2] at hJ2 hw
    simp only[at0,LxR.bind] at hJ2 hw
    subst hw
    refine aa0 [.e 3] ?_
    simp
    have hO:=hJ2
    try simp[pObs,bq0,aP0,aO0,aF0] at hO
    refine ab0 20 hO ?_
    refine rS0 ?_
    refine ch0 [.l 13 0] ?_
    exact rT3 @aO0.eq_1 @aF0.eq_1 @aP0.eq_1
   ·rw[hx2] at hJ2 hw
    simp only[at0,LxR.bind] at hJ2 hw
    subst hw
    refine aa0 [.e 3] ?_
    simp
    have hO:=hJ2
    try simp[pObs,bq0,aP0,aO0,aF0] at hO
    refine af0 hO ?_
    refine rS0 ?_
    refine endP ?_
    refine rS3 @aO0.eq_1 @aF0.eq_1 @aP0.eq_1 ?_
    exact⟨some [y.cells,x.cells],rfl⟩
 ·rw[hx] at hJ hw
  simp only[pAns,LxR.bind] at hJ hw
  subst hw
  refine bw0 [.e 3] ?_
  simp
  have hO:=hJ
  try simp[pObs,bq0,aP0,aO0,aF0] at hO
  refine c70 hO ?_
  refine rS0 ?_
  refine endP ?_
  refine rS3 @aO0.eq_1 @aF0.eq_1 @aP0.eq_1 ?_
  exact⟨none,rfl⟩
variable {ts:List Tok} {n:Nat}
abbrev stmsV (l:List Stm):V:=.lst (l.map Stm.cells)
set_option maxHeartbeats 3200000 in
theorem kC0 (hE:TEnd ts) (hl:ts.length<2 ^ 40) (F d:Nat) (hd:d<=24)
  (IHk:∀ g,g<F->∀ d n,d<=25->n<ts.length->(bc0 ts g d n).live->J prog cF0 [.bp (.e 0) 0,vI d] (pObs ts n) (·=pAns ts stmsV (bc0 ts g d n)))
  (hn:n<ts.length) (hlive:(pStm ts F d n).live):J prog bL0 [.bp (.e 0) 0,vI d] (pObs ts n) (·=pAns ts Stm.V (pStm ts F d n)):=by
 obtain _|F:=F
 ·rw[pStm] at hlive;exact absurd rfl hlive
 generalize hw:pStm ts (F+1) d n=R at *
 rw[pStm_eq,pStmV] at hw
 refine av0 hV0 (by simp[pObs]) ?_
 refine rS4 @dQ0.eq_1 @pObs.eq_1 @hpE.eq_1 @hpE.eq_2 ?_
 refine aa0 [.e 0] ?_
 simp
 have hO:=bk0 hn
 try simp[pObs,bq0,aP0,aO0,aF0] at hO
 refine ab0 9 hO ?_
 refine rS0 ?_
 refine aa0 [.e 0] ?_
 simp
 have hO:=al0 hn hl 1 ev0
 try simp[pObs,bq0,aP0,aO0,aF0] at hO
 refine ab0 18 hO ?_
 cases hkwLet:isT ts n 1 ev0 with
 | true =>
  have h0:=ax0 hE hn hkwLet (by decide)
  rw[hkwLet] at hw
  simp only[if_true] at hw
  refine rS0 ?_
  have hJ:=gs0 hl h0 1 (tk ts n).at_
  rcases hx1:df0 ts (n+1) with⟨t1,n1⟩|⟨a,e⟩
  rotate_left
  ·rw[hx1] at hJ hw
   simp only[pAns,at0,LxR.bind] at hJ hw
   subst hw
   refine aa0 [.l 2 0,.l 5 0,.e 0] ?_
   simp
   have hO:=hJ
   try simp[pObs,bq0,aP0,aO0,aF0] at hO
   refine af0 hO ?_
   refine rS0 ?_
   refine endP ?_
   exact rT3 @pObs.eq_1 @pAns.eq_1 @pAns.eq_2
  have q1:=bh0 hE h0 hx1
  rw[hx1] at hJ hw
  simp only[pAns,at0,LxR.bind] at hJ hw
  refine aa0 [.l 2 0,.l 5 0,.e 0] ?_
  simp
  have hO:=hJ
  try simp[pObs,bq0,aP0,aO0,aF0] at hO
  refine ab0 20 hO ?_
  refine rS0 ?_
  have hJ:=as0 q1.2 hl [61]
  rcases hx2:aX0 ts n1 [61] with n2|⟨a,e⟩
  rotate_left
  ·rw[hx2] at hJ hw
   simp only[pAns,at0,LxR.bind] at hJ hw
   subst hw
   refine aa0 [.e 0] ?_
   simp
   have hO:=hJ
   try simp[pObs,bq0,aP0,aO0,aF0] at hO
   refine af0 hO ?_
   refine rS0 ?_
   refine endP ?_
   exact rT3 @pObs.eq_1 @pAns.eq_1 @pAns.eq_2
  have q2:=am0 hE q1.2 hx2
  rw[hx2] at hJ hw
  simp only[pAns,at0,LxR.bind] at hJ hw
  refine aa0 [.e 0] ?_
  simp
  have hO:=hJ
  try simp[pObs,bq0,aP0,aO0,aF0] at hO
  refine ab0 22 hO ?_
  refine rS0 ?_
  have hlv:=hlive
  rw[<- hw] at hlv
  have hJ:=cW0 hE hl q2.2 F d hd [59] 1 t1.text (tk ts n).at_ (LxR.aN0 hlv).1
  rcases hx3:pVal ts F d [59] n2 with⟨x3,n3⟩|⟨a,e⟩
  rotate_left
  ·rw[hx3] at hJ hw
   simp only[pAns,at0,LxR.bind] at hJ hw
   subst hw
   refine dm0 [.l 5 0,.l 2 0,.l 3 0,.e 0] rfl rfl (by simp) ?_
   simp
   have hpO:=hJ
   try simp[pObs,aO0,aF0,fQ0,aP0] at hpO
   refine c80 hpO ?_
   clear hpO hJ
   intro y
   rcases y with _|y
   all_goals
    refine rS6 @optV.eq_1 @optV.eq_2 @fQ0.eq_1 @fQ0.eq_2 @aO0.eq_1 @aP0.eq_1 ?_
    refine endP ?_
    exact rT3 @pObs.eq_1 @pAns.eq_1 @pAns.eq_2
  have q3:=jK0 hE q2.2 hx3
  rw[hx3] at hJ hw
  simp only[pAns,at0,LxR.bind] at hJ hw
  refine aa0 [.l 5 0,.l 2 0,.l 3 0,.e 0] ?_
  simp
  have hO:=hJ
  try simp[pObs,bq0,aP0,aO0,aF0] at hO
  refine ab0 24 hO ?_
  refine rS0 ?_
  subst hw
  refine ay0 [] ?_
  rw[pAns,stm0,Stm.V,Stm.ac0 (.mk _ _ _ _ _ _ _ _ _)]
  simp +contextual (maxSteps:=2000000) (disch:=omega) [-Int.not_lt,-Int.not_le,-Nat.not_lt,-Nat.not_le,sx,pObs,Stm.kind,Stm.name,Stm.slot,Stm.state,Stm.num,Stm.e,Stm.body,Stm.els,Stm.at_]
 | false =>
 rw[hkwLet] at hw
 simp only[Bool.false_eq_true,if_false] at hw
 refine rS0 ?_
 refine aa0 [.e 0] ?_
 simp
 have hO:=al0 hn hl 1 cS0
 try simp[pObs,bq0,aP0,aO0,aF0] at hO
 refine ab0 27 hO ?_
 cases hkwSet:isT ts n 1 cS0 with
 | true =>
  have h0:=ax0 hE hn hkwSet (by decide)
  rw[hkwSet] at hw
  simp only[if_true] at hw
  refine rS0 ?_
  have hJ:=gs0 hl h0 2 (tk ts n).at_
  rcases hx1:df0 ts (n+1) with⟨t1,n1⟩|⟨a,e⟩
  rotate_left
  ·rw[hx1] at hJ hw
   simp only[pAns,at0,LxR.bind] at hJ hw
   subst hw
   refine aa0 [.l 2 0,.l 5 0,.e 0] ?_
   simp
   have hO:=hJ
   try simp[pObs,bq0,aP0,aO0,aF0] at hO
   refine af0 hO ?_
   refine rS0 ?_
   refine endP ?_
   exact rT3 @pObs.eq_1 @pAns.eq_1 @pAns.eq_2
  have q1:=bh0 hE h0 hx1
  rw[hx1] at hJ hw
  simp only[pAns,at0,LxR.bind] at hJ hw
  refine aa0 [.l 2 0,.l 5 0,.e 0] ?_
  simp
  have hO:=hJ
  try simp[pObs,bq0,aP0,aO0,aF0] at hO
  refine ab0 29 hO ?_
  refine rS0 ?_
  refine aa0 [.e 0] ?_
  simp
  have hO:=al0 q1.2 hl 4 [91]
  try simp[pObs,bq0,aP0,aO0,aF0] at hO
  refine ab0 31 hO ?_
  cases hb:isT ts n1 4 [91] with
  | true =>
   have h00:=ax0 hE q1.2 hb (by decide)
   rw[hb] at hw
   simp only[if_true] at hw
   refine rS0 ?_
   have hlv:=hlive
   rw[<- hw] at hlv
   have hJ:=cW0 hE hl h00 F d hd [93] 2 t1.text (tk ts n).at_ (LxR.aN0 hlv).1
   rcases hx2:pVal ts F d [93] (n1+1) with⟨x2,n2⟩|⟨a,e⟩
   rotate_left
   ·rw[hx2] at hJ hw
    simp only[pAns,at0,LxR.bind] at hJ hw
    subst hw
    refine dm0 [.l 5 0,.l 2 0,.l 3 0,.e 0] rfl rfl (by simp) ?_
    simp
    have hpO:=hJ
    try simp[pObs,aO0,aF0,fQ0,aP0] at hpO
    refine c80 hpO ?_
    clear hpO hJ
    intro y
    rcases y with _|y
    all_goals
     refine rS6 @optV.eq_1 @optV.eq_2 @fQ0.eq_1 @fQ0.eq_2 @aO0.eq_1 @aP0.eq_1 ?_
     refine endP ?_
     exact rT3 @pObs.eq_1 @pAns.eq_1 @pAns.eq_2
   have q2:=jK0 hE h00 hx2
   rw[hx2] at hJ hw
   simp only[pAns,at0,LxR.bind] at hJ hw
   refine aa0 [.l 5 0,.l 2 0,.l 3 0,.e 0] ?_
   simp
   have hO:=hJ
   try simp[pObs,bq0,aP0,aO0,aF0] at hO
   refine ab0 33 hO ?_
   refine rS0 ?_
   have hJ:=as0 q2.2 hl [61]
   rcases hx3:aX0 ts n2 [61] with n3|⟨a,e⟩
   rotate_left
   ·rw[hx3] at hJ hw
    simp only[pAns,at0,LxR.bind] at hJ hw
    subst hw
    refine aa0 [.e 0] ?_
    simp
    have hO:=hJ
    try simp[pObs,bq0,aP0,aO0,aF0] at hO
    refine af0 hO ?_
    refine rS0 ?_
    refine endP ?_
    exact rT3 @pObs.eq_1 @pAns.eq_1 @pAns.eq_2
   have q3:=am0 hE q2.2 hx3
   rw[hx3] at hJ hw
   simp only[pAns,at0,LxR.bind] at hJ hw
   refine aa0 [.e 0] ?_
   simp
   have hO:=hJ
   try simp[pObs,bq0,aP0,aO0,aF0] at hO
   refine ab0 35 hO ?_
   refine rS0 ?_
   have hlv:=hlive
   rw[<- hw] at hlv
   have hJ:=qc0 hE hl q3.2 F d hd [59] 2 t1.text (tk ts n).at_ x2 (LxR.aN0 hlv).1
   rcases hx4:pVal ts F d [59] n3 with⟨x4,n4⟩|⟨a,e⟩
   rotate_left
   ·rw[hx4] at hJ hw
    simp only[pAns,at0,LxR.bind] at hJ hw
    subst hw
    refine dm0 [.l 5 0,.l 2 0,.l 3 0,.e 0,.l 33 0] rfl rfl (by simp) ?_
    simp
    have hpO:=hJ
    try simp[pObs,aO0,aF0,fQ0,aP0] at hpO
    refine c80 hpO ?_
    clear hpO hJ
    intro y
    rcases y with _|y
    all_goals
     refine rS6 @optV.eq_1 @optV.eq_2 @fQ0.eq_1 @fQ0.eq_2 @aO0.eq_1 @aP0.eq_1 ?_
     refine endP ?_
     exact rT3 @pObs.eq_1 @pAns.eq_1 @pAns.eq_2
   have q4:=jK0 hE q3.2 hx4
   rw[hx4] at hJ hw
   simp only[pAns,at0,LxR.bind] at hJ hw
   refine aa0 [.l 5 0,.l 2 0,.l 3 0,.e 0,.l 33 0] ?_
   simp
   have hO:=hJ
   try simp[pObs,bq0,aP0,aO0,aF0] at hO
   refine ab0 37 hO ?_
   refine rS0 ?_
   subst hw
   refine ay0 [] ?_
   rw[pAns,stm0,Stm.V,Stm.ac0 (.mk _ _ _ _ _ _ _ _ _)]
   simp +contextual (maxSteps:=2000000) (disch:=omega) [-Int.not_lt,-Int.not_le,-Nat.not_lt,-Nat.not_le,sx,pObs,Stm.kind,Stm.name,Stm.slot,Stm.state,Stm.num,Stm.e,Stm.body,Stm.els,Stm.at_]
  | false =>
  rw[hb] at hw
  simp only[Bool.false_eq_true,if_false] at hw
  refine rS0 ?_
  have hJ:=as0 q1.2 hl [61]
  rcases hx2:aX0 ts n1 [61] with n2|⟨a,e⟩
  rotate_left
  ·rw[hx2] at hJ hw
   simp only[pAns,at0,LxR.bind] at hJ hw
   subst hw
   refine aa0 [.e 0] ?_
   simp
   have hO:=hJ
   try simp[pObs,bq0,aP0,aO0,aF0] at hO
   refine af0 hO ?_
   refine rS0 ?_
   refine endP ?_
   exact rT3 @pObs.eq_1 @pAns.eq_1 @pAns.eq_2
  have q2:=am0 hE q1.2 hx2
  rw[hx2] at hJ hw
  simp only[pAns,at0,LxR.bind] at hJ hw
  refine aa0 [.e 0] ?_
  simp
  have hO:=hJ
  try simp[pObs,bq0,aP0,aO0,aF0] at hO
  refine ab0 35 hO ?_
  refine rS0 ?_
  have hlv:=hlive
  rw[<- hw] at hlv
  have hJ:=cW0 hE hl q2.2 F d hd [59] 2 t1.text (tk ts n).at_ (LxR.aN0 hlv).1
  rcases hx3:pVal ts F d [59] n2 with⟨x3,n3⟩|⟨a,e⟩
  rotate_left
  ·rw[hx3] at hJ hw
   simp only[pAns,at0,LxR.bind] at hJ hw
   subst hw
   refine dm0 [.l 5 0,.l 2 0,.l 3 0,.e 0] rfl rfl (by simp) ?_
   simp
   have hpO:=hJ
   try simp[pObs,aO0,aF0,fQ0,aP0] at hpO
   refine c80 hpO ?_
   clear hpO hJ
   intro y
   rcases y with _|y
   all_goals
    refine rS6 @optV.eq_1 @optV.eq_2 @fQ0.eq_1 @fQ0.eq_2 @aO0.eq_1 @aP0.eq_1 ?_
    refine endP ?_
    exact rT3 @pObs.eq_1 @pAns.eq_1 @pAns.eq_2
  have q3:=jK0 hE q2.2 hx3
  rw[hx3] at hJ hw
  simp only[pAns,at0,LxR.bind] at hJ hw
  refine aa0 [.l 5 0,.l 2 0,.l 3 0,.e 0] ?_
  simp
  have hO:=hJ
  try simp[pObs,bq0,aP0,aO0,aF0] at hO
  refine ab0 37 hO ?_
  refine rS0 ?_
  subst hw
  refine ay0 [] ?_
  rw[pAns,stm0,Stm.V,Stm.ac0 (.mk _ _ _ _ _ _ _ _ _)]
  simp +contextual (maxSteps:=2000000) (disch:=omega) [-Int.not_lt,-Int.not_le,-Nat.not_lt,-Nat.not_le,sx,pObs,Stm.kind,Stm.name,Stm.slot,Stm.state,Stm.num,Stm.e,Stm.body,Stm.els,Stm.at_]
 | false =>
 rw[hkwSet] at hw
 simp only[Bool.false_eq_true,if_false] at hw
 refine rS0 ?_
 refine aa0 [.e 0] ?_
 simp
 have hO:=al0 hn hl 1 es0
 try simp[pObs,bq0,aP0,aO0,aF0] at hO
 refine ab0 40 hO ?_
 cases hkwDel:isT ts n 1 es0 with
 | true =>
  have h0:=ax0 hE hn hkwDel (by decide)
  rw[hkwDel] at hw
  simp only[if_true] at hw
  refine rS0 ?_
  have hJ:=gs0 hl h0 3 (tk ts n).at_
  rcases hx1:df0 ts (n+1) with⟨t1,n1⟩|⟨a,e⟩
  rotate_left
  ·rw[hx1] at hJ hw
   simp only[pAns,at0,LxR.bind] at hJ hw
   subst hw
   refine aa0 [.l 2 0,.l 5 0,.e 0] ?_
   simp
   have hO:=hJ
   try simp[pObs,bq0,aP0,aO0,aF0] at hO
   refine af0 hO ?_
   refine rS0 ?_
   refine endP ?_
   exact rT3 @pObs.eq_1 @pAns.eq_1 @pAns.eq_2
  have q1:=bh0 hE h0 hx1
  rw[hx1] at hJ hw
  simp only[pAns,at0,LxR.bind] at hJ hw
  refine aa0 [.l 2 0,.l 5 0,.e 0] ?_
  simp
  have hO:=hJ
  try simp[pObs,bq0,aP0,aO0,aF0] at hO
  refine ab0 42 hO ?_
  refine rS0 ?_
  have hJ:=as0 q1.2 hl [91]
  rcases hx2:aX0 ts n1 [91] with n2|⟨a,e⟩
  rotate_left
  ·rw[hx2] at hJ hw
   simp only[pAns,at0,LxR.bind] at hJ hw
   subst hw
   refine aa0 [.e 0] ?_
   simp
   have hO:=hJ
   try simp[pObs,bq0,aP0,aO0,aF0] at hO
   refine af0 hO ?_
   refine rS0 ?_
   refine endP ?_
   exact rT3 @pObs.eq_1 @pAns.eq_1 @pAns.eq_2
  have q2:=am0 hE q1.2 hx2
  rw[hx2] at hJ hw
  simp only[pAns,at0,LxR.bind] at hJ hw
  refine aa0 [.e 0] ?_
  simp
  have hO:=hJ
  try simp[pObs,bq0,aP0,aO0,aF0] at hO
  refine ab0 44 hO ?_
  refine rS0 ?_
  have hlv:=hlive
  rw[<- hw] at hlv
  have hJ:=cW0 hE hl q2.2 F d hd [93] 3 t1.text (tk ts n).at_ (LxR.aN0 hlv).1
  rcases hx3:pVal ts F d [93] n2 with⟨x3,n3⟩|⟨a,e⟩
  rotate_left
  ·rw[hx3] at hJ hw
   simp only[pAns,at0,LxR.bind] at hJ hw
   subst hw
   refine dm0 [.l 5 0,.l 2 0,.l 3 0,.e 0] rfl rfl (by simp) ?_
   simp
   have hpO:=hJ
   try simp[pObs,aO0,aF0,fQ0,aP0] at hpO
   refine c80 hpO ?_
   clear hpO hJ
   intro y
   rcases y with _|y
   all_goals
    refine rS6 @optV.eq_1 @optV.eq_2 @fQ0.eq_1 @fQ0.eq_2 @aO0.eq_1 @aP0.eq_1 ?_
    refine endP ?_
    exact rT3 @pObs.eq_1 @pAns.eq_1 @pAns.eq_2
  have q3:=jK0 hE q2.2 hx3
  rw[hx3] at hJ hw
  simp only[pAns,at0,LxR.bind] at hJ hw
  refine aa0 [.l 5 0,.l 2 0,.l 3 0,.e 0] ?_
  simp
  have hO:=hJ
  try simp[pObs,bq0,aP0,aO0,aF0] at hO
  refine ab0 46 hO ?_
  refine rS0 ?_
  have hJ:=as0 q3.2 hl [59]
  rcases hx4:aX0 ts n3 [59] with n4|⟨a,e⟩
  rotate_left
  ·rw[hx4] at hJ hw
   simp only[pAns,at0,LxR.bind] at hJ hw
   subst hw
   refine aa0 [.e 0] ?_
   simp
   have hO:=hJ
   try simp[pObs,bq0,aP0,aO0,aF0] at hO
   refine af0 hO ?_
   refine rS0 ?_
   refine endP ?_
   exact rT3 @pObs.eq_1 @pAns.eq_1 @pAns.eq_2
  have q4:=am0 hE q3.2 hx4
  rw[hx4] at hJ hw
  simp only[pAns,at0,LxR.bind] at hJ hw
  refine aa0 [.e 0] ?_
  simp
  have hO:=hJ
  try simp[pObs,bq0,aP0,aO0,aF0] at hO
  refine ab0 48 hO ?_
  refine rS0 ?_
  subst hw
  refine ay0 [] ?_
  rw[pAns,stm0,Stm.V,Stm.ac0 (.mk _ _ _ _ _ _ _ _ _)]
  simp +contextual (maxSteps:=2000000) (disch:=omega) [-Int.not_lt,-Int.not_le,-Nat.not_lt,-Nat.not_le,sx,pObs,Stm.kind,Stm.name,Stm.slot,Stm.state,Stm.num,Stm.e,Stm.body,Stm.els,Stm.at_]
 | false =>
 rw[hkwDel] at hw
 simp only[Bool.false_eq_true,if_false] at hw
 refine rS0 ?_
 refine aa0 [.e 0] ?_
 simp
 have hO:=al0 hn hl 1 kwIf
 try simp[pObs,bq0,aP0,aO0,aF0] at hO
 refine ab0 51 hO ?_
 cases hkwIf:isT ts n 1 kwIf with
 | true =>
  have h0:=ax0 hE hn hkwIf (by decide)
  rw[hkwIf] at hw
  simp only[if_true] at hw
  refine rS0 ?_
  have hlv:=hlive
  rw[<- hw] at hlv
  have hJ:=cW0 hE hl h0 F d hd [] 4 (bS []) (tk ts n).at_ (LxR.aN0 hlv).1
  rcases hx1:pVal ts F d [] (n+1) with⟨x1,n1⟩|⟨a,e⟩
  rotate_left
  ·rw[hx1] at hJ hw
   simp only[pAns,at0,LxR.bind] at hJ hw
   subst hw
   refine dm0 [.l 5 0,.l 2 0,.l 3 0,.e 0] rfl rfl (by simp) ?_
   simp
   have hpO:=hJ
   try simp[pObs,aO0,aF0,fQ0,aP0] at hpO
   refine c80 hpO ?_
   clear hpO hJ
   intro y
   rcases y with _|y
   all_goals
    refine rS6 @optV.eq_1 @optV.eq_2 @fQ0.eq_1 @fQ0.eq_2 @aO0.eq_1 @aP0.eq_1 ?_
    refine endP ?_
    exact rT3 @pObs.eq_1 @pAns.eq_1 @pAns.eq_2
  have q1:=jK0 hE h0 hx1
  rw[hx1] at hJ hw
  simp only[pAns,at0,LxR.bind] at hJ hw
  refine aa0 [.l 5 0,.l 2 0,.l 3 0,.e 0] ?_
  simp
  have hO:=hJ
  try simp[pObs,bq0,aP0,aO0,aF0] at hO
  refine ab0 54 hO ?_
  refine rS0 ?_
  have hlv:=hlive
  rw[<- hw] at hlv
  have hJ:=IHk F (by omega) (d+1) n1 (by omega) q1.2 (LxR.aN0 hlv).1
  rcases hx2:bc0 ts F (d+1) n1 with⟨b2,n2⟩|⟨a,e⟩
  rotate_left
  ·rw[hx2] at hJ hw
   simp only[pAns,at0,LxR.bind] at hJ hw
   subst hw
   refine aa0 [.e 0] ?_
   simp
   have hO:=hJ
   try simp[pObs,bq0,aP0,aO0,aF0] at hO
   refine af0 hO ?_
   refine rS0 ?_
   refine endP ?_
   exact rT3 @pObs.eq_1 @pAns.eq_1 @pAns.eq_2
  have q2:=(nG0 hE F).block q1.2 hx2
  rw[hx2] at hJ hw
  simp only[pAns,at0,LxR.bind] at hJ hw
  refine aa0 [.e 0] ?_
  simp
  have hO:=hJ
  try simp[pObs,bq0,aP0,aO0,aF0] at hO
  refine ab0 58 hO ?_
  refine rS0 ?_
  refine aa0 [.e 0] ?_
  simp
  have hO:=al0 q2.2 hl 1 bs0
  try simp[pObs,bq0,aP0,aO0,aF0] at hO
  refine ab0 61 hO ?_
  cases hb:isT ts n2 1 bs0 with
  | true =>
   have h00:=ax0 hE q2.2 hb (by decide)
   rw[hb] at hw
   simp only[if_true] at hw
   refine rS0 ?_
   have hlv:=hlive
   rw[<- hw] at hlv
   have hJ:=IHk F (by omega) (d+1) (n2+1) (by omega) h00 (LxR.aN0 hlv).1
   rcases hx3:bc0 ts F (d+1) (n2+1) with⟨b3,n3⟩|⟨a,e⟩
   rotate_left
   ·rw[hx3] at hJ hw
    simp only[pAns,at0,LxR.bind] at hJ hw
    subst hw
    refine aa0 [.e 0] ?_
    simp
    have hO:=hJ
    try simp[pObs,bq0,aP0,aO0,aF0] at hO
    refine af0 hO ?_
    refine rS0 ?_
    refine endP ?_
    exact rT3 @pObs.eq_1 @pAns.eq_1 @pAns.eq_2
   have q3:=(nG0 hE F).block h00 hx3
   rw[hx3] at hJ hw
   simp only[pAns,at0,LxR.bind] at hJ hw
   refine aa0 [.e 0] ?_
   simp
   have hO:=hJ
   try simp[pObs,bq0,aP0,aO0,aF0] at hO
   refine ab0 65 hO ?_
   refine rS0 ?_
   subst hw
   refine ay0 [] ?_
   rw[pAns,stm0,Stm.V,Stm.ac0 (.mk _ _ _ _ _ _ _ _ _)]
   simp +contextual (maxSteps:=2000000) (disch:=omega) [-Int.not_lt,-Int.not_le,-Nat.not_lt,-Nat.not_le,sx,pObs,Stm.kind,Stm.name,Stm.slot,Stm.state,Stm.num,Stm.e,Stm.body,Stm.els,Stm.at_]
  | false =>
  rw[hb] at hw
  simp only[Bool.false_eq_true,if_false] at hw
  refine rS0 ?_
  subst hw
  refine ay0 [] ?_
  rw[pAns,stm0,Stm.V,Stm.ac0 (.mk _ _ _ _ _ _ _ _ _)]
  simp +contextual (maxSteps:=2000000) (disch:=omega) [-Int.not_lt,-Int.not_le,-Nat.not_lt,-Nat.not_le,sx,pObs,Stm.kind,Stm.name,Stm.slot,Stm.state,Stm.num,Stm.e,Stm.body,Stm.els,Stm.at_]
 | false =>
 rw[hkwIf] at hw
 simp only[Bool.false_eq_true,if_false] at hw
 refine rS0 ?_
 refine aa0 [.e 0] ?_
 simp
 have hO:=al0 hn hl 1 et0
 try simp[pObs,bq0,aP0,aO0,aF0] at hO
 refine ab0 68 hO ?_
 cases hkwFor:isT ts n 1 et0 with
 | true =>
  have h0:=ax0 hE hn hkwFor (by decide)
  rw[hkwFor] at hw
  simp only[if_true] at hw
  refine rS0 ?_
  have hJ:=gs0 hl h0 5 (tk ts n).at_
  rcases hx1:df0 ts (n+1) with⟨t1,n1⟩|⟨a,e⟩
  rotate_left
  ·rw[hx1] at hJ hw
   simp only[pAns,at0,LxR.bind] at hJ hw
   subst hw
   refine aa0 [.l 2 0,.l 5 0,.e 0] ?_
   simp
   have hO:=hJ
   try simp[pObs,bq0,aP0,aO0,aF0] at hO
   refine af0 hO ?_
   refine rS0 ?_
   refine endP ?_
   exact rT3 @pObs.eq_1 @pAns.eq_1 @pAns.eq_2
  have q1:=bh0 hE h0 hx1
  rw[hx1] at hJ hw
  simp only[pAns,at0,LxR.bind] at hJ hw
  refine aa0 [.l 2 0,.l 5 0,.e 0] ?_
  simp
  have hO:=hJ
  try simp[pObs,bq0,aP0,aO0,aF0] at hO
  refine ab0 71 hO ?_
  refine rS0 ?_
  refine aa0 [.e 0] ?_
  simp
  have hO:=al0 q1.2 hl 1 kwTo
  try simp[pObs,bq0,aP0,aO0,aF0] at hO
  refine ab0 73 hO ?_
  cases hb:isT ts n1 1 kwTo with
  | false =>
   rw[kA0,hb] at hw
   simp only[Bool.false_eq_true,if_false,eS0,LxR.bind] at hw
   subst hw
   refine rS0 ?_
   refine aa0 [.e 0] ?_
   simp
   have hO:=ba0 q1.2 31
   try simp[pObs,bq0,aP0,aO0,aF0] at hO
   refine af0 hO ?_
   refine rS0 ?_
   refine endP ?_
   exact rT3 @pObs.eq_1 @pAns.eq_1 @pAns.eq_2
  | true =>
  have h00:=ax0 hE q1.2 hb (by decide)
  rw[kA0,hb] at hw
  simp only[if_true,LxR.bind] at hw
  refine rS0 ?_
  have hlv:=hlive
  rw[<- hw] at hlv
  have hJ:=cW0 hE hl h00 F d hd [] 5 t1.text (tk ts n).at_ (LxR.aN0 hlv).1
  rcases hx2:pVal ts F d [] (n1+1) with⟨x2,n2⟩|⟨a,e⟩
  rotate_left
  ·rw[hx2] at hJ hw
   simp only[pAns,at0,LxR.bind] at hJ hw
   subst hw
   refine dm0 [.l 5 0,.l 2 0,.l 3 0,.e 0] rfl rfl (by simp) ?_
   simp
   have hpO:=hJ
   try simp[pObs,aO0,aF0,fQ0,aP0] at hpO
   refine c80 hpO ?_
   clear hpO hJ
   intro y
   rcases y with _|y
   all_goals
    refine rS6 @optV.eq_1 @optV.eq_2 @fQ0.eq_1 @fQ0.eq_2 @aO0.eq_1 @aP0.eq_1 ?_
    refine endP ?_
    exact rT3 @pObs.eq_1 @pAns.eq_1 @pAns.eq_2
  have q2:=jK0 hE h00 hx2
  rw[hx2] at hJ hw
  simp only[pAns,at0,LxR.bind] at hJ hw
  refine aa0 [.l 5 0,.l 2 0,.l 3 0,.e 0] ?_
  simp
  have hO:=hJ
  try simp[pObs,bq0,aP0,aO0,aF0] at hO
  refine ab0 78 hO ?_
  refine rS0 ?_
  have hlv:=hlive
  rw[<- hw] at hlv
  have hJ:=IHk F (by omega) (d+1) n2 (by omega) q2.2 (LxR.aN0 hlv).1
  rcases hx3:bc0 ts F (d+1) n2 with⟨b3,n3⟩|⟨a,e⟩
  rotate_left
  ·rw[hx3] at hJ hw
   simp only[pAns,at0,LxR.bind] at hJ hw
   subst hw
   refine aa0 [.e 0] ?_
   simp
   have hO:=hJ
   try simp[pObs,bq0,aP0,aO0,aF0] at hO
   refine af0 hO ?_
   refine rS0 ?_
   refine endP ?_
   exact rT3 @pObs.eq_1 @pAns.eq_1 @pAns.eq_2
  have q3:=(nG0 hE F).block q2.2 hx3
  rw[hx3] at hJ hw
  simp only[pAns,at0,LxR.bind] at hJ hw
  refine aa0 [.e 0] ?_
  simp
  have hO:=hJ
  try simp[pObs,bq0,aP0,aO0,aF0] at hO
  refine ab0 82 hO ?_
  refine rS0 ?_
  subst hw
  refine ay0 [] ?_
  rw[pAns,stm0,Stm.V,Stm.ac0 (.mk _ _ _ _ _ _ _ _ _)]
  simp +contextual (maxSteps:=2000000) (disch:=omega) [-Int.not_lt,-Int.not_le,-Nat.not_lt,-Nat.not_le,sx,pObs,Stm.kind,Stm.name,Stm.slot,Stm.state,Stm.num,Stm.e,Stm.body,Stm.els,Stm.at_]
 | false =>
 rw[hkwFor] at hw
 simp only[Bool.false_eq_true,if_false] at hw
 refine rS0 ?_
 refine aa0 [.e 0] ?_
 simp
 have hO:=al0 hn hl 1 ew0
 try simp[pObs,bq0,aP0,aO0,aF0] at hO
 refine ab0 86 hO ?_
 cases hkwRet:isT ts n 1 ew0 with
 | true =>
  have h0:=ax0 hE hn hkwRet (by decide)
  rw[hkwRet] at hw
  simp only[if_true] at hw
  refine rS0 ?_
  have hlv:=hlive
  rw[<- hw] at hlv
  have hJ:=cW0 hE hl h0 F d hd [59] 6 (bS []) (tk ts n).at_ (LxR.aN0 hlv).1
  rcases hx1:pVal ts F d [59] (n+1) with⟨x1,n1⟩|⟨a,e⟩
  rotate_left
  ·rw[hx1] at hJ hw
   simp only[pAns,at0,LxR.bind] at hJ hw
   subst hw
   refine dm0 [.l 5 0,.l 2 0,.l 3 0,.e 0] rfl rfl (by simp) ?_
   simp
   have hpO:=hJ
   try simp[pObs,aO0,aF0,fQ0,aP0] at hpO
   refine c80 hpO ?_
   clear hpO hJ
   intro y
   rcases y with _|y
   all_goals
    refine rS6 @optV.eq_1 @optV.eq_2 @fQ0.eq_1 @fQ0.eq_2 @aO0.eq_1 @aP0.eq_1 ?_
    refine endP ?_
    exact rT3 @pObs.eq_1 @pAns.eq_1 @pAns.eq_2
  have q1:=jK0 hE h0 hx1
  rw[hx1] at hJ hw
  simp only[pAns,at0,LxR.bind] at hJ hw
  refine aa0 [.l 5 0,.l 2 0,.l 3 0,.e 0] ?_
  simp
  have hO:=hJ
  try simp[pObs,bq0,aP0,aO0,aF0] at hO
  refine ab0 89 hO ?_
  refine rS0 ?_
  subst hw
  refine ay0 [] ?_
  rw[pAns,stm0,Stm.V,Stm.ac0 (.mk _ _ _ _ _ _ _ _ _)]
  simp +contextual (maxSteps:=2000000) (disch:=omega) [-Int.not_lt,-Int.not_le,-Nat.not_lt,-Nat.not_le,sx,pObs,Stm.kind,Stm.name,Stm.slot,Stm.state,Stm.num,Stm.e,Stm.body,Stm.els,Stm.at_]
 | false =>
 rw[hkwRet] at hw
 simp only[Bool.false_eq_true,if_false] at hw
 refine rS0 ?_
 simp only[eS0] at hw
 subst hw
 refine aa0 [.e 0] ?_
 simp
 have hO:=ba0 hn 31
 try simp[pObs,bq0,aP0,aO0,aF0] at hO
 refine af0 hO ?_
 refine rS0 ?_
 refine endP ?_
 exact rT3 @pObs.eq_1 @pAns.eq_1 @pAns.eq_2
variable {ts:List Tok} {n:Nat}
theorem mS0 (hE:TEnd ts) (hl:ts.length<2 ^ 40) (F d:Nat) (hd:d<=25)
  (IHs:∀ g,g<F->∀ d n,d<=24->n<ts.length->(pStm ts g d n).live->J prog bL0 [.bp (.e 0) 0,vI d] (pObs ts n) (·=pAns ts Stm.V (pStm ts g d n)))
  (hn:n<ts.length) (hlive:(bc0 ts F d n).live):J prog cF0 [.bp (.e 0) 0,vI d] (pObs ts n) (·=pAns ts stmsV (bc0 ts F d n)):=by
 obtain _|F:=F
 ·rw[bc0] at hlive;exact absurd rfl hlive
 generalize hw:bc0 ts (F+1) d n=R at *
 rw[bc0] at hw
 have hJ:=cL0 hn d
 refine av0 jy0 (by simp[pObs]) ?_
 refine rS4 @fi0.eq_1 @pObs.eq_1 @hpE.eq_1 @hpE.eq_2 ?_
 by_cases h:d<=24
 rotate_left
 ·rw[m00 h] at hJ hw
  simp only[LxR.bind] at hJ hw
  subst hw
  refine aa0 [.e 0] ?_
  simp
  have hO:=hJ
  try simp[pObs] at hO
  refine af0 hO ?_
  refine rS0 ?_
  refine endP ?_
  exact rT3 @pObs.eq_1 @pAns.eq_1 @pAns.eq_2
 rw[px0 h] at hJ hw
 simp only[LxR.bind] at hJ hw
 refine aa0 [.e 0] ?_
 simp
 have hO:=hJ
 try simp[pObs] at hO
 refine ab0 8 hO ?_
 refine rS0 ?_
 have hJ:=as0 hn hl [123]
 rcases hx:aX0 ts n [123] with n1|⟨a,e⟩
 rotate_left
 ·rw[hx] at hJ hw
  simp only[at0] at hJ hw
  subst hw
  refine aa0 [.e 0] ?_
  simp
  have hO:=hJ
  try simp[pObs] at hO
  refine af0 hO ?_
  refine rS0 ?_
  refine endP ?_
  exact rT3 @pObs.eq_1 @pAns.eq_1 @pAns.eq_2
 have q1:=am0 hE hn hx
 rw[hx] at hJ hw
 simp only[at0] at hJ hw
 refine aa0 [.e 0] ?_
 simp
 have hO:=hJ
 try simp[pObs] at hO
 refine ab0 10 hO ?_
 refine rS0 ?_
 refine aT0 (λy:Nat × Nat × List Stm=>y.1) (λy=>[(5,.arr (.l 999 0) 0 y.2.2.length),(0,.bp (.e 0) 0),(1,vI d)])
  (λy=>[(.e 0,.box [.lst (ts.map Tok.cells),vI y.2.1]),(.l 999 0,.row pd0 9 true (y.2.2.map Stm.cells))])
  (λy=>y.1<=F/\y.2.1<ts.length/\y.2.2.length<=y.2.1/\g40 ts y.1 d y.2.2 y.2.1=R) (F,n1,[]) ⟨Nat.le_refl _,q1.2,by simp,hw⟩
  (Wk.trans (Wk.subs (by simp) (by simp)) (Wk.row (s:=5) (id:=.l 999 0) (ty:=pd0) (sz:=9) rfl)) ?_
 rintro⟨g,n',out⟩ ⟨hg,hn',ho,hw⟩
 dsimp only at hg hn' ho hw
 obtain _|g:=g
 ·rw[g40] at hw;subst hw;exact absurd rfl hlive
 rw[g40] at hw
 refine rS0 ?_
 refine aa0 [.e 0] ?_
 simp
 have hO:=al0 hn' hl 4 [125]
 try simp[pObs] at hO
 refine ab0 12 hO ?_
 cases h2:isT ts n' 4 [125] with
 | true =>
  rw[h2,if_pos rfl] at hw
  subst hw
  refine rS0 ?_
  refine ay0 [] ?_
  exact rT3 @pObs.eq_1 @pAns.eq_1 @pAns.eq_2
 | false =>
  rw[h2,if_neg (by simp)] at hw
  have hlv:=hlive
  rw[<- hw] at hlv
  have hJ:=IHs g (by omega) d n' h hn' (LxR.aN0 hlv).1
  refine rS0 ?_
  rcases hx:pStm ts g d n' with⟨x,m⟩|⟨a,e⟩
  ·rw[hx] at hJ hw
   simp only[pAns,LxR.bind] at hJ hw
   have q2:=(nG0 hE g).stm hn' hx
   refine aa0 [.e 0] ?_
   simp
   have hO:=hJ
   try simp[pObs] at hO
   refine ab0 17 hO ?_
   refine rS0 ?_
   refine .of (g,m,out++[x]) ⟨by dsimp only;omega,q2.2,by simp;omega,hw⟩ (by dsimp only;omega) (Wk.rens (.l 19 0) (.l 999 0) rfl (by simp) (by simp[renF]) (by simp[renF,b70]))
  ·rw[hx] at hJ hw
   simp only[pAns,LxR.bind] at hJ hw
   subst hw
   refine aa0 [.e 0] ?_
   simp
   have hO:=hJ
   try simp[pObs] at hO
   refine af0 hO ?_
   refine rS0 ?_
   refine endP ?_
   exact rT3 @pObs.eq_1 @pAns.eq_1 @pAns.eq_2
structure DoesS (ts:List Tok) (f:Nat):Prop where
 block:∀ d n,d<=25->n<ts.length->(bc0 ts f d n).live->J prog cF0 [.bp (.e 0) 0,vI d] (pObs ts n) (·=pAns ts stmsV (bc0 ts f d n))
 stm:∀ d n,d<=24->n<ts.length->(pStm ts f d n).live->J prog bL0 [.bp (.e 0) 0,vI d] (pObs ts n) (·=pAns ts Stm.V (pStm ts f d n))
theorem doesS (hE:TEnd ts) (hl:ts.length<2 ^ 40) (f:Nat):DoesS ts f:=by
 induction f using Nat.strongRecOn with
 | ind f ih =>
  exact⟨λd n hd hn h=>mS0 hE hl f d hd (λg hg=>(ih g hg).stm) hn h,λd n hd hn h=>kC0 hE hl f d hd (λg hg=>(ih g hg).block) hn h⟩
variable {ts:List Tok} {n:Nat}
theorem gt0 (hE:TEnd ts):∀ {f:Nat} {out:List Slo} {n:Nat},n<ts.length->∀ {a:List Slo} {m:Nat},bI0 ts f out n=.ok (a,m)->n<m/\m<ts.length
 | 0,out,n,hn,a,m,h=>by simp[bI0] at h
 | f+1,out,n,hn,a,m,h=>by
  rw[bI0] at h
  obtain⟨⟨s,n1⟩,e1,h⟩:=ag0 h
  have q1:=iV0 hE hn e1
  dsimp only at *
  split at h
  ·rename_i hi
   have h0:=ax0 hE q1.2 hi (by decide)
   injection h with h;injection h with h1 h2;subst h2;omega
  ·obtain⟨n2,e2,h⟩:=ag0 h
   have q2:=am0 hE q1.2 e2
   have q3:=gt0 hE q2.2 h
   omega
def cE0 (name:ByteArray) (on:Bool) (params:V) (result:ByteArray) (body:V) (at_:Int):Ob:=.box [vS name,vB on,params,vS result,.nil,body,vI at_]
def dU0 (ts:List Tok) (n:Int) (name:ByteArray) (on:Bool) (at_:Int) (out:List Slo):List Ob :=
 [cE0 name on (.arr (.e 3) 0 out.length) (bS []) .nil at_,.box [.bp (.e 2) 0],.box [.lst (ts.map Tok.cells),vI n],.row ff0 3 true (out.map Slo.cells)]
def ct0 (ts:List Tok) (n:Int) (name:ByteArray) (on:Bool) (at_:Int) (out:List Slo):List Ob :=
 [cE0 name on (.arr (.e 4) 0 out.length) (bS []) .nil at_,.box [.bp (.e 2) 0],.box [.lst (ts.map Tok.cells),vI n],.gone,.row ff0 3 true (out.map Slo.cells)]
theorem tE0 (hE:TEnd ts) (hl:ts.length<2 ^ 40) (hn:n<ts.length) (name:ByteArray) (on:Bool) (at_:Int) (out:List Slo) (ho:out.length<2 ^ 40) :
  J prog bj0 [.bp (.e 0) 0,.bp (.e 1) 0] (dU0 ts n name on at_ out) (λr=>r=match iv0 ts n with
   | .ok (x,m)=>.ret (.tup []) (ct0 ts m name on at_ (out++[x]))
   | .bad a e=>.pan (jJ0 ts a e) (dU0 ts a name on at_ out)):=by
 have hJ:=jM0 hE hl hn
 refine av0 hh0 (by simp[dU0]) ?_
 refine rS5 @dG0.eq_1 @dU0.eq_1 @cE0.eq_1 @hpE.eq_1 @hpE.eq_2 ?_
 rcases hx:iv0 ts n with⟨x,m⟩|⟨a,e⟩
 ·rw[hx] at hJ
  simp only[pAns] at hJ
  refine bw0 [.e 2] ?_
  simp
  have hO:=hJ
  try simp[pObs,cE0,dU0,ct0] at hO
  refine c00 5 hO ?_
  refine rS0 ?_
  refine ch0 [.l 7 0] ?_
  exact rT2 @ct0.eq_1 @cE0.eq_1
 ·rw[hx] at hJ
  simp only[pAns] at hJ
  refine bw0 [.e 2] ?_
  simp
  have hO:=hJ
  try simp[pObs,cE0,dU0,ct0] at hO
  refine c70 hO ?_
  refine rS0 ?_
  refine endP ?_
  exact rT2 @dU0.eq_1 @cE0.eq_1
def aK0 (ts:List Tok) (n:Int) (name:ByteArray) (on:Bool) (params:V) (at_:Int):List Ob :=
 [.box [.lst (ts.map Tok.cells),vI n],cE0 name on params (bS []) .nil at_,.box [.bp (.e 0) 0]]
theorem mM0 (hl:ts.length<2 ^ 40) (hn:n<ts.length) (h:isT ts n 4 [41]=true) (name:ByteArray) (on:Bool) (at_:Int) :
  J prog cb0 [.bp (.e 0) 0,vS (bS [41]),.fn bj0 [.bp (.e 1) 0,.bp (.e 2) 0]] (aK0 ts n name on .nil at_) (·=.ret (.tup []) (aK0 ts (n+1:Nat) name on .nil at_)):=by
 refine av0 cG0 (by simp[aK0]) ?_
 refine rS5 @bU0.eq_1 @aK0.eq_1 @cE0.eq_1 @hpE.eq_1 @hpE.eq_2 ?_
 refine aa0 [.e 0] ?_
 simp
 have hO:=al0 hn hl 4 [41]
 try simp[pObs,cE0,dU0,ct0,aK0] at hO
 refine ab0 8 hO ?_
 refine rS1 h ?_
 refine ay0 [] ?_
 exact rT0
theorem mN0 (hE:TEnd ts) (hl:ts.length<2 ^ 40) (hn:n<ts.length) (h:isT ts n 4 [41]=false) (name:ByteArray) (on:Bool) (at_:Int) (F:Nat) (hlive:(bI0 ts F [] n).live) :
  J prog cb0 [.bp (.e 0) 0,vS (bS [41]),.fn bj0 [.bp (.e 1) 0,.bp (.e 2) 0]] (aK0 ts n name on .nil at_) (λr=>match bI0 ts F [] n with
   | .ok (xs,m)=>r=.ret (.tup []) (aK0 ts m name on (.arr (.e 3) 0 xs.length) at_++[.row ff0 3 true (xs.map Slo.cells)])
   | .bad a e=>∃ y:List (List V),r=.pan (jJ0 ts a e) (aK0 ts a name on (.lst y) at_)):=by
 generalize hR:bI0 ts F [] n=R at *
 refine av0 cG0 (by simp[aK0]) ?_
 refine rS5 @bU0.eq_1 @aK0.eq_1 @cE0.eq_1 @hpE.eq_1 @hpE.eq_2 ?_
 refine aa0 [.e 0] ?_
 simp
 have hO:=al0 hn hl 4 [41]
 try simp[pObs,cE0,dU0,ct0,aK0] at hO
 refine ab0 8 hO ?_
 refine rS1 h ?_
 refine aT0 (λy:Nat × Nat × List Slo=>y.1) (λy=>[(0,.bp (.e 0) 0),(1,vS (bS [41])),(2,.fn bj0 [.bp (.e 1) 0,.bp (.e 2) 0])])
  (λy=>[(.e 0,.box [.lst (ts.map Tok.cells),vI y.2.1]),(.e 1,cE0 name on (.arr (.l 999 0) 0 y.2.2.length) (bS []) .nil at_),(.e 2,.box [.bp (.e 0) 0]),(.l 999 0,.row ff0 3 true (y.2.2.map Slo.cells))])
  (λy=>y.1<=F/\y.2.1<ts.length/\y.2.2.length<=y.2.1/\bI0 ts y.1 y.2.2 y.2.1=R) (F,n,[]) ⟨Nat.le_refl _,hn,by simp,hR⟩
  (Wk.trans (Wk.subs (by simp) (by simp[cE0])) (Wk.rowB (b:=.e 1) (id:=.l 999 0) (off:=2) (ty:=ff0) (sz:=3) rfl rfl (by simp) (by simp))) ?_
 rintro⟨g,n',out⟩ ⟨hg,hn',ho,hw⟩
 dsimp only at hg hn' ho hw
 obtain _|g:=g
 ·rw[bI0] at hw;subst hw;exact absurd rfl hlive
 rw[bI0] at hw
 have hJ:=tE0 hE hl hn' name on at_ out (by omega)
 rcases hx:iv0 ts n' with⟨x,m⟩|⟨a,e⟩
 ·rw[hx] at hJ hw
  simp only[LxR.bind] at hw
  have q1:=iV0 hE hn' hx
  refine rS1 @cE0.eq_1 ?_
  refine aa0 [.e 1,.e 2,.e 0,.l 999 0] ?_
  simp
  have hO:=hJ
  try simp[pObs,cE0,dU0,ct0,aK0] at hO
  refine ab0 10 hO ?_
  refine rS0 ?_
  refine aa0 [.e 0] ?_
  simp
  have hO:=al0 q1.2 hl 4 [41]
  try simp[pObs,cE0,dU0,ct0,aK0] at hO
  refine ab0 13 hO ?_
  cases h2:isT ts m 4 [41] with
  | true =>
   rw[h2,if_pos rfl] at hw
   subst hw
   refine rS0 ?_
   refine ay0 [.l 10 0] ?_
   exact rT0
  | false =>
   rw[h2,if_neg (by simp)] at hw
   refine rS0 ?_
   have hJ2:=as0 q1.2 hl [44]
   rcases h3:aX0 ts m [44] with m2|⟨a,e⟩
   ·have q2:=am0 hE q1.2 h3
    rw[h3] at hJ2 hw
    simp only[LxR.bind] at hw
    simp only[at0] at hJ2
    refine aa0 [.e 0] ?_
    simp
    have hO:=hJ2
    try simp[pObs,cE0,dU0,ct0,aK0] at hO
    refine ab0 15 hO ?_
    refine rS0 ?_
    refine .of (g,m2,out++[x]) ⟨by dsimp only;omega,q2.2,by simp;omega,hw⟩ (by dsimp only;omega) (Wk.rens (.l 10 0) (.l 999 0) rfl (by simp) (by simp[renF,cE0]) (by simp[renF,b70,cE0]))
   ·rw[h3] at hJ2 hw
    simp only[LxR.bind] at hw
    simp only[at0] at hJ2
    subst hw
    refine aa0 [.e 0] ?_
    simp
    have hO:=hJ2
    try simp[pObs,cE0,dU0,ct0,aK0] at hO
    refine af0 hO ?_
    refine rS0 ?_
    refine endP ?_
    exact rT0
 ·rw[hx] at hJ hw
  simp only[LxR.bind] at hw
  subst hw
  refine rS1 @cE0.eq_1 ?_
  refine aa0 [.e 1,.e 2,.e 0,.l 999 0] ?_
  simp
  have hO:=hJ
  try simp[pObs,cE0,dU0,ct0,aK0] at hO
  refine af0 hO ?_
  refine rS0 ?_
  refine endP ?_
  exact rT0
variable {ts:List Tok} {n:Nat}
theorem k90 (hE:TEnd ts) (hn:n<ts.length) {f:Nat} {on:Bool} {a:Fun} {m:Nat} (h:pFun ts f on n=.ok (a,m)):n<m/\m<ts.length:=by
 unfold pFun at h
 obtain⟨⟨t,n1⟩,e1,h⟩:=ag0 h
 obtain⟨n2,e2,h⟩:=ag0 h
 obtain⟨⟨ps,n3⟩,e3,h⟩:=ag0 h
 obtain⟨n4,e4,h⟩:=ag0 h
 obtain⟨⟨k,n5⟩,e5,h⟩:=ag0 h
 obtain⟨⟨b,n6⟩,e6,h⟩:=ag0 h
 have q1:=bh0 hE hn e1
 have q2:=am0 hE q1.2 e2
 dsimp only at *
 have q3:n2<n3/\n3<ts.length:=by
  split at e3
  ·rename_i hi
   have h0:=ax0 hE q2.2 hi (by decide)
   injection e3 with e3;injection e3 with h1 h2;subst h2;omega
  ·exact gt0 hE q2.2 e3
 have q4:=am0 hE q3.2 e4
 have q5:=fh0 hE q4.2 e5
 have q6:=(nG0 hE f).block q5.2.1 e6
 injection h with h;injection h with h1 h2;subst h2
 omega
set_option maxHeartbeats 1600000 in
theorem g60 (hE:TEnd ts) (hl:ts.length<2 ^ 40) (F:Nat) (on:Bool) (hn:n<ts.length) (hlive:(pFun ts F on n).live) :
  J prog eG0 [.bp (.e 0) 0,vB on] (pObs ts n) (·=pAns ts Fun.V (pFun ts F on n)):=by
 generalize hw:pFun ts F on n=R at *
 rw[pFun] at hw
 refine av0 in0 (by simp[pObs]) ?_
 refine rS4 @ef0.eq_1 @pObs.eq_1 @hpE.eq_1 @hpE.eq_2 ?_
 have hJ:=eQ0 hn hl
 rcases hx1:df0 ts n with⟨t,n1⟩|⟨a,e⟩
 rotate_left
 ·rw[hx1] at hJ hw
  simp only[pAns,at0,LxR.bind] at hJ hw
  subst hw
  refine aa0 [.e 0] ?_
  simp
  have hO:=hJ
  try simp[pObs,cE0,dU0,ct0,aK0] at hO
  refine af0 hO ?_
  refine rS0 ?_
  refine endP ?_
  exact rT3 @pObs.eq_1 @pAns.eq_1 @pAns.eq_2
 have q1:=bh0 hE hn hx1
 rw[hx1] at hJ hw
 simp only[pAns,at0,LxR.bind] at hJ hw
 refine aa0 [.e 0] ?_
 simp
 have hO:=hJ
 try simp[pObs,cE0,dU0,ct0,aK0] at hO
 refine ab0 8 hO ?_
 refine rS0 ?_
 have hJ:=as0 q1.2 hl [40]
 rcases hx2:aX0 ts n1 [40] with n2|⟨a,e⟩
 rotate_left
 ·rw[hx2] at hJ hw
  simp only[pAns,at0,LxR.bind] at hJ hw
  subst hw
  refine aa0 [.e 0] ?_
  simp
  have hO:=hJ
  try simp[pObs,cE0,dU0,ct0,aK0] at hO
  refine af0 hO ?_
  refine rS0 ?_
  refine endP ?_
  exact rT3 @pObs.eq_1 @pAns.eq_1 @pAns.eq_2
 have q2:=am0 hE q1.2 hx2
 rw[hx2] at hJ hw
 simp only[pAns,at0,LxR.bind] at hJ hw
 refine aa0 [.e 0] ?_
 simp
 have hO:=hJ
 try simp[pObs,cE0,dU0,ct0,aK0] at hO
 refine ab0 16 hO ?_
 refine rS0 ?_
 cases hb:isT ts n2 4 [41] with
 | true =>
  have h00:=ax0 hE q2.2 hb (by decide)
  rw[hb] at hw
  simp only[if_true,LxR.bind] at hw
  refine aa0 [.e 0,.l 6 0,.l 2 0] ?_
  simp
  have hO:=mM0 hl q2.2 hb t.text on t.at_
  try simp[pObs,cE0,dU0,ct0,aK0] at hO
  refine ab0 19 hO ?_
  refine rS0 ?_
  have hJ:=as0 h00 hl [58]
  rcases hx3:aX0 ts (n2+1) [58] with n4|⟨a,e⟩
  rotate_left
  ·rw[hx3] at hJ hw
   simp only[pAns,at0,LxR.bind] at hJ hw
   subst hw
   refine aa0 [.e 0] ?_
   simp
   have hO:=hJ
   try simp[pObs,cE0,dU0,ct0,aK0] at hO
   refine af0 hO ?_
   refine rS0 ?_
   refine endP ?_
   exact rT3 @pObs.eq_1 @pAns.eq_1 @pAns.eq_2
  have q3:=am0 hE h00 hx3
  rw[hx3] at hJ hw
  simp only[pAns,at0,LxR.bind] at hJ hw
  refine aa0 [.e 0] ?_
  simp
  have hO:=hJ
  try simp[pObs,cE0,dU0,ct0,aK0] at hO
  refine ab0 21 hO ?_
  refine rS0 ?_
  have hJ:=du0 hE hl 4 1 n4 rfl q3.2
  rcases hx4:cV0 ts 4 n4 with⟨k,n5⟩|⟨a,e⟩
  rotate_left
  ·rw[hx4] at hJ hw
   simp only[pAns,at0,LxR.bind] at hJ hw
   subst hw
   refine aa0 [.e 0] ?_
   simp
   have hO:=hJ
   try simp[pObs,cE0,dU0,ct0,aK0] at hO
   refine af0 hO ?_
   refine rS0 ?_
   refine endP ?_
   exact rT3 @pObs.eq_1 @pAns.eq_1 @pAns.eq_2
  have q4:=fh0 hE q3.2 hx4
  rw[hx4] at hJ hw
  simp only[pAns,at0,LxR.bind] at hJ hw
  refine aa0 [.e 0] ?_
  simp
  have hO:=hJ
  try simp[pObs,cE0,dU0,ct0,aK0] at hO
  refine ab0 23 hO ?_
  refine rS0 ?_
  have hlv:=hlive
  rw[<- hw] at hlv
  have hJ:=(doesS hE hl F).block 1 n5 (by omega) q4.2.1 (LxR.aN0 hlv).1
  rcases hx5:bc0 ts F 1 n5 with⟨b,n6⟩|⟨a,e⟩
  rotate_left
  ·rw[hx5] at hJ hw
   simp only[pAns,at0,LxR.bind] at hJ hw
   subst hw
   refine aa0 [.e 0] ?_
   simp
   have hO:=hJ
   try simp[pObs,cE0,dU0,ct0,aK0] at hO
   refine af0 hO ?_
   refine rS0 ?_
   refine endP ?_
   exact rT3 @pObs.eq_1 @pAns.eq_1 @pAns.eq_2
  have q5:=(nG0 hE F).block q4.2.1 hx5
  rw[hx5] at hJ hw
  simp only[pAns,at0,LxR.bind] at hJ hw
  refine aa0 [.e 0] ?_
  simp
  have hO:=hJ
  try simp[pObs,cE0,dU0,ct0,aK0] at hO
  refine ab0 26 hO ?_
  refine rS0 ?_
  subst hw
  refine ay0 [] ?_
  exact rT4 @pObs.eq_1 @pAns.eq_1 @pAns.eq_2 @Fun.ac0
 | false =>
 rw[hb] at hw
 simp only[Bool.false_eq_true,if_false] at hw
 have hlv:=hlive
 rw[<- hw] at hlv
 have hJ:=mN0 hE hl q2.2 hb t.text on t.at_ F (LxR.aN0 hlv).1
 rcases hx3:bI0 ts F [] n2 with⟨ps,n3⟩|⟨a,e⟩
 rotate_left
 ·rw[hx3] at hJ hw
  simp only[pAns,at0,LxR.bind] at hJ hw
  subst hw
  refine dm0 [.e 0,.l 6 0,.l 2 0] rfl rfl (by simp) ?_
  simp
  have hpO:=hJ
  try simp[pObs,cE0,aK0] at hpO
  refine c80 hpO ?_
  clear hpO hJ
  intro y
  refine rS0 ?_
  refine endP ?_
  exact rT3 @pObs.eq_1 @pAns.eq_1 @pAns.eq_2
 have q3:=gt0 hE q2.2 hx3
 rw[hx3] at hJ hw
 simp only[pAns,at0,LxR.bind] at hJ hw
 refine aa0 [.e 0,.l 6 0,.l 2 0] ?_
 simp
 have hO:=hJ
 try simp[pObs,cE0,dU0,ct0,aK0] at hO
 refine ab0 19 hO ?_
 refine rS0 ?_
 have hJ:=as0 q3.2 hl [58]
 rcases hx4:aX0 ts n3 [58] with n4|⟨a,e⟩
 rotate_left
 ·rw[hx4] at hJ hw
  simp only[pAns,at0,LxR.bind] at hJ hw
  subst hw
  refine aa0 [.e 0] ?_
  simp
  have hO:=hJ
  try simp[pObs,cE0,dU0,ct0,aK0] at hO
  refine af0 hO ?_
  refine rS0 ?_
  refine endP ?_
  exact rT3 @pObs.eq_1 @pAns.eq_1 @pAns.eq_2
 have q4:=am0 hE q3.2 hx4
 rw[hx4] at hJ hw
 simp only[pAns,at0,LxR.bind] at hJ hw
 refine aa0 [.e 0] ?_
 simp
 have hO:=hJ
 try simp[pObs,cE0,dU0,ct0,aK0] at hO
 refine ab0 21 hO ?_
 refine rS0 ?_
 have hJ:=du0 hE hl 4 1 n4 rfl q4.2
 rcases hx5:cV0 ts 4 n4 with⟨k,n5⟩|⟨a,e⟩
 rotate_left
 ·rw[hx5] at hJ hw
  simp only[pAns,at0,LxR.bind] at hJ hw
  subst hw
  refine aa0 [.e 0] ?_
  simp
  have hO:=hJ
  try simp[pObs,cE0,dU0,ct0,aK0] at hO
  refine af0 hO ?_
  refine rS0 ?_
  refine endP ?_
  exact rT3 @pObs.eq_1 @pAns.eq_1 @pAns.eq_2
 have q5:=fh0 hE q4.2 hx5
 rw[hx5] at hJ hw
 simp only[pAns,at0,LxR.bind] at hJ hw
 refine aa0 [.e 0] ?_
 simp
 have hO:=hJ
 try simp[pObs,cE0,dU0,ct0,aK0] at hO
 refine ab0 23 hO ?_
 refine rS0 ?_
 have hlv:=hlive
 rw[<- hw] at hlv
 have hJ:=(doesS hE hl F).block 1 n5 (by omega) q5.2.1 (LxR.aN0 hlv).1
 rcases hx6:bc0 ts F 1 n5 with⟨b,n6⟩|⟨a,e⟩
 rotate_left
 ·rw[hx6] at hJ hw
  simp only[pAns,at0,LxR.bind] at hJ hw
  subst hw
  refine aa0 [.e 0] ?_
  simp
  have hO:=hJ
  try simp[pObs,cE0,dU0,ct0,aK0] at hO
  refine af0 hO ?_
  refine rS0 ?_
  refine endP ?_
  exact rT3 @pObs.eq_1 @pAns.eq_1 @pAns.eq_2
 have q6:=(nG0 hE F).block q5.2.1 hx6
 rw[hx6] at hJ hw
 simp only[pAns,at0,LxR.bind] at hJ hw
 refine aa0 [.e 0] ?_
 simp
 have hO:=hJ
 try simp[pObs,cE0,dU0,ct0,aK0] at hO
 refine ab0 26 hO ?_
 refine rS0 ?_
 subst hw
 refine ay0 [] ?_
 exact rT4 @pObs.eq_1 @pAns.eq_1 @pAns.eq_2 @Fun.ac0
variable {ts:List Tok} {n:Nat}
set_option maxHeartbeats 1600000 in
theorem lQ0 (hE:TEnd ts) (hl:ts.length<2 ^ 40) (F:Nat) (hn:0<ts.length) (hlive:(h60 ts F).live) :
  J prog eX0 [.bp (.e 0) 0] (pObs ts 0) (·=pAns ts Prg.V (h60 ts F)):=by
 generalize hw:h60 ts F=R at *
 rw[h60] at hw
 refine av0 iM0 (by simp[pObs]) ?_
 refine rS4 @eA0.eq_1 @pObs.eq_1 @hpE.eq_1 @hpE.eq_2 ?_
 refine aa0 [.e 0] ?_
 simp
 have hO:=al0 (n:=0) hn hl 1 cv0
 try simp[pObs] at hO
 refine ab0 5 hO ?_
 cases hb:isT ts 0 1 cv0 with
 | false =>
  rw[kA0,hb] at hw
  simp only[Bool.false_eq_true,if_false,eS0,LxR.bind] at hw
  subst hw
  refine rS0 ?_
  refine aa0 [.e 0] ?_
  simp
  have hO:=ba0 (n:=0) hn 31
  try simp[pObs] at hO
  refine af0 hO ?_
  refine rS0 ?_
  refine endP ?_
  exact rT3 @pObs.eq_1 @pAns.eq_1 @pAns.eq_2
 | true =>
 have h00:=ax0 hE hn hb (by decide)
 rw[kA0,hb] at hw
 simp only[if_true,LxR.bind] at hw
 refine rS0 ?_
 have hJ:=oG0 h00 hl
 rcases hx1:pInt ts (0+1) with⟨v,n1⟩|⟨a,e⟩
 rotate_left
 ·rw[hx1] at hJ hw
  simp only[pAns,at0,LxR.bind] at hJ hw
  subst hw
  refine aa0 [.e 0] ?_
  simp
  have hO:=hJ
  try simp[pObs] at hO
  refine af0 hO ?_
  refine rS0 ?_
  refine endP ?_
  exact rT3 @pObs.eq_1 @pAns.eq_1 @pAns.eq_2
 have q1:=r50 hE h00 hx1
 rw[hx1] at hJ hw
 simp only[pAns,at0,LxR.bind] at hJ hw
 refine aa0 [.e 0] ?_
 simp
 have hO:=hJ
 try simp[pObs] at hO
 refine ab0 10 hO ?_
 refine rS0 ?_
 have hJ:=as0 q1.2 hl [59]
 rcases hx2:aX0 ts n1 [59] with n2|⟨a,e⟩
 rotate_left
 ·rw[hx2] at hJ hw
  simp only[pAns,at0,LxR.bind] at hJ hw
  subst hw
  refine aa0 [.e 0] ?_
  simp
  have hO:=hJ
  try simp[pObs] at hO
  refine af0 hO ?_
  refine rS0 ?_
  refine endP ?_
  exact rT3 @pObs.eq_1 @pAns.eq_1 @pAns.eq_2
 have q2:=am0 hE q1.2 hx2
 rw[hx2] at hJ hw
 simp only[pAns,at0,LxR.bind] at hJ hw
 refine aa0 [.e 0] ?_
 simp
 have hO:=hJ
 try simp[pObs] at hO
 refine ab0 14 hO ?_
 refine rS0 ?_
 refine aT0 (λy:Nat × Nat × Prg=>y.1) (λy=>[(3,.bp (.l 3 0) 0),(2,.bp (.l 2 0) 0),(0,.bp (.e 0) 0)])
  (λy=>[(.e 0,.box [.lst (ts.map Tok.cells),vI y.2.1]),(.l 3 0,.box [vI y.2.2.version,.arr (.l 998 0) 0 y.2.2.states.length,.arr (.l 999 0) 0 y.2.2.fns.length]),
   (.l 998 0,.row ff0 3 true (y.2.2.states.map Slo.cells)),(.l 999 0,.row s90 7 true (y.2.2.fns.map Fun.cells)),(.l 2 0,.box [vI 0,.nil,.nil])])
  (λy=>y.1<=F/\y.2.1<ts.length/\y.2.2.states.length<=y.2.1/\y.2.2.fns.length<=y.2.1/\fd0 ts y.1 y.2.2 y.2.1=R) (F,n2,⟨v.num,[],[]⟩) ⟨Nat.le_refl _,q2.2,by simp,by simp,hw⟩
  (Wk.trans (Wk.subs (by simp) (by simp)) (Wk.trans (Wk.rowB (b:=.l 3 0) (id:=.l 999 0) (off:=2) (ty:=s90) (sz:=7) rfl rfl (by simp) (by simp)) (Wk.rowB (b:=.l 3 0) (id:=.l 998 0) (off:=1) (ty:=ff0) (sz:=3) rfl rfl (by simp) (by simp)))) ?_
 rintro⟨g,n',⟨ver,sts,fns⟩⟩ ⟨hg,hn',ho1,ho2,hw⟩
 dsimp only at hg hn' ho1 ho2 hw
 obtain _|g:=g
 ·rw[fd0] at hw;subst hw;exact absurd rfl hlive
 rw[fd0] at hw
 refine rS0 ?_
 refine aa0 [.e 0] ?_
 simp
 have hO:=bk0 hn'
 try simp[pObs] at hO
 refine ab0 16 hO ?_
 by_cases hk:(tk ts n').kind=5
 ·rw[if_pos hk] at hw
  subst hw
  refine rS1 hk ?_
  refine ay0 [] ?_
  exact rT4 @pObs.eq_1 @pAns.eq_1 @pAns.eq_2 @Prg.ac0
 rw[if_neg hk] at hw
 refine rS1 hk ?_
 refine aa0 [.e 0] ?_
 simp
 have hO:=al0 hn' hl 1 dO0
 try simp[pObs] at hO
 refine ab0 23 hO ?_
 cases h1:isT ts n' 1 dO0 with
 | true =>
  have h0:=ax0 hE hn' h1 (by decide)
  rw[h1] at hw
  simp only[if_true] at hw
  refine rS0 ?_
  have hJ:=jM0 hE hl h0
  rcases hx3:iv0 ts (n'+1) with⟨s,n3⟩|⟨a,e⟩
  rotate_left
  ·rw[hx3] at hJ hw
   simp only[pAns,at0,LxR.bind] at hJ hw
   subst hw
   refine bw0 [.e 0] ?_
   simp
   have hO:=hJ
   try simp[pObs] at hO
   refine c70 hO ?_
   refine rS0 ?_
   refine endP ?_
   exact rT3 @pObs.eq_1 @pAns.eq_1 @pAns.eq_2
  have q3:=iV0 hE h0 hx3
  rw[hx3] at hJ hw
  simp only[pAns,at0,LxR.bind] at hJ hw
  refine bw0 [.e 0] ?_
  simp
  have hO:=hJ
  try simp[pObs] at hO
  refine c00 27 hO ?_
  refine rS0 ?_
  have hJ:=as0 q3.2 hl [59]
  rcases hx4:aX0 ts n3 [59] with n4|⟨a,e⟩
  rotate_left
  ·rw[hx4] at hJ hw
   simp only[pAns,at0,LxR.bind] at hJ hw
   subst hw
   refine aa0 [.e 0] ?_
   simp
   have hO:=hJ
   try simp[pObs] at hO
   refine af0 hO ?_
   refine rS0 ?_
   refine endP ?_
   exact rT3 @pObs.eq_1 @pAns.eq_1 @pAns.eq_2
  have q4:=am0 hE q3.2 hx4
  rw[hx4] at hJ hw
  simp only[pAns,at0,LxR.bind] at hJ hw
  refine aa0 [.e 0] ?_
  simp
  have hO:=hJ
  try simp[pObs] at hO
  refine ab0 32 hO ?_
  refine rS0 ?_
  refine .of (g,n4,⟨ver,sts++[s],fns⟩) ⟨by dsimp only;omega,q4.2,by simp;omega,by dsimp only;omega,hw⟩ (by dsimp only;omega) (Wk.rens (.l 29 0) (.l 998 0) rfl (by simp) (by simp[renF]) (by simp[renF,b70]))
 | false =>
 rw[h1] at hw
 simp only[Bool.false_eq_true,if_false] at hw
 refine rS0 ?_
 refine aa0 [.e 0] ?_
 simp
 have hO:=al0 hn' hl 1 kwFn
 try simp[pObs] at hO
 refine ab0 35 hO ?_
 cases h2:isT ts n' 1 kwFn with
 | true =>
  have h0:=ax0 hE hn' h2 (by decide)
  rw[h2] at hw
  simp only[if_true] at hw
  refine rS0 ?_
  have hlv:=hlive
  rw[<- hw] at hlv
  have hJ:=g60 hE hl g false h0 (LxR.aN0 hlv).1
  rcases hx3:pFun ts g false (n'+1) with⟨s,n3⟩|⟨a,e⟩
  rotate_left
  ·rw[hx3] at hJ hw
   simp only[pAns,at0,LxR.bind] at hJ hw
   subst hw
   refine bw0 [.e 0] ?_
   simp
   have hO:=hJ
   try simp[pObs] at hO
   refine c70 hO ?_
   refine rS0 ?_
   refine endP ?_
   exact rT3 @pObs.eq_1 @pAns.eq_1 @pAns.eq_2
  have q3:=k90 hE h0 hx3
  rw[hx3] at hJ hw
  simp only[pAns,at0,LxR.bind] at hJ hw
  refine bw0 [.e 0] ?_
  simp
  have hO:=hJ
  try simp[pObs] at hO
  refine c00 39 hO ?_
  refine rS0 ?_
  refine .of (g,n3,⟨ver,sts,fns++[s]⟩) ⟨by dsimp only;omega,q3.2,by dsimp only;omega,by simp;omega,hw⟩ (by dsimp only;omega) (Wk.rens (.l 41 0) (.l 999 0) rfl (by simp) (by simp[renF]) (by simp[renF,b70]))
 | false =>
 rw[h2] at hw
 simp only[Bool.false_eq_true,if_false] at hw
 refine rS0 ?_
 refine aa0 [.e 0] ?_
 simp
 have hO:=al0 hn' hl 1 kwOn
 try simp[pObs] at hO
 refine ab0 45 hO ?_
 cases h3:isT ts n' 1 kwOn with
 | true =>
  have h0:=ax0 hE hn' h3 (by decide)
  rw[h3] at hw
  simp only[if_true] at hw
  refine rS0 ?_
  have hlv:=hlive
  rw[<- hw] at hlv
  have hJ:=g60 hE hl g true h0 (LxR.aN0 hlv).1
  rcases hx3:pFun ts g true (n'+1) with⟨s,n3⟩|⟨a,e⟩
  rotate_left
  ·rw[hx3] at hJ hw
   simp only[pAns,at0,LxR.bind] at hJ hw
   subst hw
   refine bw0 [.e 0] ?_
   simp
   have hO:=hJ
   try simp[pObs] at hO
   refine c70 hO ?_
   refine rS0 ?_
   refine endP ?_
   exact rT3 @pObs.eq_1 @pAns.eq_1 @pAns.eq_2
  have q3:=k90 hE h0 hx3
  rw[hx3] at hJ hw
  simp only[pAns,at0,LxR.bind] at hJ hw
  refine bw0 [.e 0] ?_
  simp
  have hO:=hJ
  try simp[pObs] at hO
  refine c00 49 hO ?_
  refine rS0 ?_
  refine .of (g,n3,⟨ver,sts,fns++[s]⟩) ⟨by dsimp only;omega,q3.2,by dsimp only;omega,by simp;omega,hw⟩ (by dsimp only;omega) (Wk.rens (.l 51 0) (.l 999 0) rfl (by simp) (by simp[renF]) (by simp[renF,b70]))
 | false =>
 rw[h3] at hw
 simp only[Bool.false_eq_true,if_false,eS0] at hw
 subst hw
 refine rS0 ?_
 refine aa0 [.e 0] ?_
 simp
 have hO:=ba0 hn' 31
 try simp[pObs] at hO
 refine af0 hO ?_
 refine rS0 ?_
 refine endP ?_
 exact rT3 @pObs.eq_1 @pAns.eq_1 @pAns.eq_2
theorem hT67:liesAt prog prog.depth 67 (2 / prog.cellsOf 67) 0 67 1=true:=by kernel_rfl
def os0 (acc:List UInt8):Hp :=
 match acc with
 | []=>[(.l 2 0,.box [.self (.l 2 0) 67,.nil])]
 | a::l=>[(.l 2 0,.box [.self (.l 2 0) 67,.arr (.l 999 0) 0 (l.length+1)]),(.l 999 0,.row 5 1 true ((a::l).map aq0))]
def kE0 (s:Bs) (i:Nat):LxR (Int × Bs × Int × Nat):=match fN0 i (s.drop (i+1)) (i+1) [] with
 | .bad a e=>.bad a e
 | .ok (t,j)=>.ok (3,t,0,j)
set_option maxHeartbeats 1600000 in
theorem pL0 (x:LxS) (i:Nat) (hx:x.at_=i) (hi:i<x.s.size) (hs:x.s.size<2 ^ 39) (ho:x.out.length<=4096) :
  J prog jc0 [.bp (.e 0) 0] x.obs (·=x.after (kE0 (sB x.s) i)):=by
 obtain⟨s,a,out⟩:=x
 dsimp only at hx hi hs ho ⊢
 subst hx
 have hz:s.size=(sB s).length:=rfl
 refine av0 l80 (by simp[LxS.obs]) ?_
 refine rS4 @id0.eq_1 @LxS.obs.eq_1 @hpE.eq_1 @hpE.eq_2 ?_
 refine aT0 (λy:Nat × List UInt8=>s.size-y.1) (λy=>[(3,vI y.1),(2,.bp (.l 2 0) 0),(0,.bp (.e 0) 0)])
  (λy=>(.e 0,.box [vS s,vI i,.arr (.e 1) 0 out.length])::(.e 1,.row cg0 4 true (out.map Tok.cells))::os0 y.2)
  (λy=>i<y.1/\y.1<=s.size/\y.2.length<=y.1/\fN0 i ((sB s).drop y.1) y.1 y.2=fN0 i ((sB s).drop (i+1)) (i+1) []) (i+1,[]) ⟨by simp,by dsimp only;omega,by simp,rfl⟩ (Wk.subs (by simp) (by simp[os0])) ?_
 rintro⟨j,acc⟩ ⟨hj0,hj,hacc,hv⟩
 dsimp only at hj0 hj hacc hv
 have key:(j<s.size/\∃ c,(sB s)[j]?=some c/\(sB s).drop j=c::(sB s).drop (j+1))\/j=s.size:=by
  rcases Nat.lt_or_ge j s.size with h|h
  ·exact .inl ⟨h,(sB s)[j],List.getElem?_eq_getElem (by omega),List.drop_eq_getElem_cons (by omega)⟩
  ·exact .inr (by omega)
 cases acc with
 | nil =>
  simp only[os0]
  rcases key with⟨hl,c,hc,hd⟩|rfl
  ·rw[hd,fN0.eq_def] at hv
   simp only at hv
   have hc':s.data[j]?=some c:=by simpa[sB] using hc
   by_cases h34:c=34
   ·subst h34
    refine rS1 hc' ?_
    refine aa0 [.l 2 0] ?_
    simp
    have hO:=nd0 67
    try simp[LxS.obs,LxS.obs',Tok.ac0,ae0,ad0,aC0,aR0] at hO
    refine ab0 28 hO ?_
    refine rS0 ?_
    refine aa0 [.l 2 0] ?_
    simp
    have hO:=Builder_String_nil 67
    try simp[LxS.obs,LxS.obs',Tok.ac0,ae0,ad0,aC0,aR0] at hO
    refine ab0 37 hO ?_
    rw[if_pos rfl,if_neg (by simp)] at hv
    refine rS0 ?_
    rw[kE0,<- hv]
    by_cases hfull:4096<=out.length
    ·refine aa0 [.e 0,.e 1] ?_
     simp
     have hO:=eb0 ⟨s,i,out⟩ ⟨3,bS [],0,0⟩ (j+1) hfull (by dsimp only;omega)
     try simp[LxS.obs,LxS.obs',Tok.ac0,ae0,ad0,aC0,aR0] at hO
     refine af0 hO ?_
     refine rS0 ?_
     refine endP ?_
     exact rT4 @LxS.after.eq_1 @LxS.after.eq_2 @LxS.obs.eq_1 hfull
    ·refine aa0 [.e 0,.e 1] ?_
     simp
     have hO:=e90 ⟨s,i,out⟩ ⟨3,bS [],0,0⟩ (j+1) (by dsimp only;omega)
     try simp[LxS.obs,LxS.obs',Tok.ac0,ae0,ad0,aC0,aR0] at hO
     refine ab0 41 hO ?_
     refine rS0 ?_
     refine ay0 [.l 41 0] ?_
     exact rT5 @LxS.after.eq_1 @LxS.after.eq_2 @LxS.obs'.eq_1 hfull @Tok.ac0
   rw[if_neg h34] at hv
   have n34:¬ (c.toNat:Int)=34:=λh=>h34 (UInt8.toNat_inj.1 (by exact_mod_cast h))
   by_cases hctl:c<32\/126<c
   ·rw[if_pos hctl] at hv
    have hctl':(c.toNat:Int)<32\/126<(c.toNat:Int):=by
     rcases hctl with h|h
     ·left;have:=UInt8.lt_iff_toNat_lt.1 h;simp at this;omega
     ·right;have:=UInt8.lt_iff_toNat_lt.1 h;simp at this;omega
    refine rS2 hc' n34 ?_
    refine⟨λh=>?_,λh=>?_⟩
    all_goals first|(exfalso;omega)|skip
    all_goals
     refine aa0 [.e 0,.e 1] ?_
     simp
     have hO:=a10 ⟨s,i,out⟩ j 30
     try simp[LxS.obs,LxS.obs',Tok.ac0,ae0,ad0,aC0,aR0] at hO
     refine af0 hO ?_
     refine rS0 ?_
     refine endP ?_
     rw[kE0,<- hv]
     exact rT3 @LxS.after.eq_1 @LxS.after.eq_2 @LxS.obs.eq_1
   rw[if_neg hctl] at hv
   have c32:¬ (c.toNat:Int)<32:=λh=>hctl (.inl (UInt8.lt_iff_toNat_lt.2 (by simp;omega)))
   have c126:¬ 126<(c.toNat:Int):=λh=>hctl (.inr (UInt8.lt_iff_toNat_lt.2 (by simp;omega)))
   by_cases h92:c=92
   ·subst h92
    rw[if_pos rfl] at hv
    rcases Nat.lt_or_ge (j+1) s.size with hl2|hl2
    ·obtain⟨d,hd1,hd2⟩:∃ d,s.data[j+1]?=some d/\(sB s).drop (j+1)=d::(sB s).drop (j+2) :=
      ⟨(sB s)[j+1]'(by omega),by simp[sB],List.drop_eq_getElem_cons (by omega)⟩
     rw[hd2] at hv
     simp only at hv
     by_cases hq:d=34\/d=92
     ·rw[if_pos hq] at hv
      rcases hq with rfl|rfl
      ·refine rS2 hc' hd1 ?_
       refine aa0 [.l 2 0] ?_
       simp
       have hO:=dl0 67 34 hT67
       try simp[LxS.obs,LxS.obs',Tok.ac0,ae0,ad0,aC0,aR0] at hO
       refine ab0 93 hO ?_
       refine rS0 ?_
       refine .of (j+2,[34]) ⟨by dsimp only;omega,by dsimp only;omega,by simp,hv⟩ (by dsimp only;omega) (Wk.rens (.l 93 0) (.l 999 0) rfl (by simp) (by simp[renF,os0];omega) (by simp[renF,b70]))
      ·refine rS2 hc' hd1 ?_
       refine aa0 [.l 2 0] ?_
       simp
       have hO:=dl0 67 92 hT67
       try simp[LxS.obs,LxS.obs',Tok.ac0,ae0,ad0,aC0,aR0] at hO
       refine ab0 93 hO ?_
       refine rS0 ?_
       refine .of (j+2,[92]) ⟨by dsimp only;omega,by dsimp only;omega,by simp,hv⟩ (by dsimp only;omega) (Wk.rens (.l 93 0) (.l 999 0) rfl (by simp) (by simp[renF,os0];omega) (by simp[renF,b70]))
     ·rw[if_neg hq] at hv
      have q34:¬ (d.toNat:Int)=34:=λh=>hq (.inl (UInt8.toNat_inj.1 (by exact_mod_cast h)))
      have q92:¬ (d.toNat:Int)=92:=λh=>hq (.inr (UInt8.toNat_inj.1 (by exact_mod_cast h)))
      refine rS4 hc' hd1 q34 q92 ?_
      refine aa0 [.e 0,.e 1] ?_
      simp
      have hO:=a10 ⟨s,i,out⟩ j 30
      try simp[LxS.obs,LxS.obs',Tok.ac0,ae0,ad0,aC0,aR0] at hO
      refine af0 hO ?_
      refine rS0 ?_
      refine endP ?_
      rw[kE0,<- hv]
      exact rT3 @LxS.after.eq_1 @LxS.after.eq_2 @LxS.obs.eq_1
    ·rw[List.drop_of_length_le (by omega)] at hv
     simp only at hv
     refine rS1 hc' ?_
     refine aa0 [.e 0,.e 1] ?_
     simp
     have hO:=a10 ⟨s,i,out⟩ j 30
     try simp[LxS.obs,LxS.obs',Tok.ac0,ae0,ad0,aC0,aR0] at hO
     refine af0 hO ?_
     refine rS0 ?_
     refine endP ?_
     rw[kE0,<- hv]
     exact rT3 @LxS.after.eq_1 @LxS.after.eq_2 @LxS.obs.eq_1
   ·rw[if_neg h92] at hv
    have n92:¬ (c.toNat:Int)=92:=λh=>h92 (UInt8.toNat_inj.1 (by exact_mod_cast h))
    refine rS5 hc' n34 n92 c32 c126 ?_
    refine aa0 [.l 2 0] ?_
    simp
    have hO:=dl0 67 c hT67
    try simp[LxS.obs,LxS.obs',Tok.ac0,ae0,ad0,aC0,aR0] at hO
    refine ab0 93 hO ?_
    refine rS0 ?_
    refine .of (j+1,[c]) ⟨by dsimp only;omega,by dsimp only;omega,by simp,hv⟩ (by dsimp only;omega) (Wk.rens (.l 93 0) (.l 999 0) rfl (by simp) (by simp[renF,os0]) (by simp[renF,b70]))
  ·rw[List.drop_of_length_le (by omega),fN0] at hv
   refine rS0 ?_
   rw[kE0,<- hv]
   refine aa0 [.e 0,.e 1] ?_
   simp
   have hO:=a10 ⟨s,i,out⟩ i 30
   try simp[LxS.obs,LxS.obs',Tok.ac0,ae0,ad0,aC0,aR0] at hO
   refine af0 hO ?_
   refine rS0 ?_
   refine endP ?_
   exact rT3 @LxS.after.eq_1 @LxS.after.eq_2 @LxS.obs.eq_1
 | cons b l =>
  simp only[os0]
  rcases key with⟨hl,c,hc,hd⟩|rfl
  ·rw[hd,fN0.eq_def] at hv
   simp only at hv
   have hc':s.data[j]?=some c:=by simpa[sB] using hc
   have hbl:(b::l).length<=j:=hacc
   by_cases h34:c=34
   ·subst h34
    refine rS1 hc' ?_
    refine aa0 [.l 2 0,.l 999 0] ?_
    simp
    have hO:=iZ0 67 (b::l)
    try simp[LxS.obs,LxS.obs',Tok.ac0,ae0,ad0,aC0,aR0] at hO
    refine ab0 28 hO ?_
    refine rS0 ?_
    rw[if_pos rfl] at hv
    by_cases hlong:(b::l).length > 256
    ·rw[if_pos hlong] at hv
     have hlong':256<l.length+1:=hlong
     refine rS1 hlong' ?_
     refine aa0 [.e 0,.e 1] ?_
     simp
     have hO:=a10 ⟨s,i,out⟩ i 3
     try simp[LxS.obs,LxS.obs',Tok.ac0,ae0,ad0,aC0,aR0] at hO
     refine af0 hO ?_
     refine rS0 ?_
     refine endP ?_
     rw[kE0,<- hv]
     exact rT3 @LxS.after.eq_1 @LxS.after.eq_2 @LxS.obs.eq_1
    rw[if_neg hlong] at hv
    have hlong':¬ 256<l.length+1:=hlong
    refine rS1 hlong' ?_
    refine aa0 [.l 2 0,.l 999 0] ?_
    simp
    have hO:=gv0 67 (b::l) (by simp)
    try simp[LxS.obs,LxS.obs',Tok.ac0,ae0,ad0,aC0,aR0] at hO
    refine ab0 37 hO ?_
    refine rS0 ?_
    rw[kE0,<- hv]
    by_cases hfull:4096<=out.length
    ·refine aa0 [.e 0,.e 1] ?_
     simp
     have hO:=eb0 ⟨s,i,out⟩ ⟨3,bS (b::l),0,0⟩ (j+1) hfull (by dsimp only;omega)
     try simp[LxS.obs,LxS.obs',Tok.ac0,ae0,ad0,aC0,aR0] at hO
     refine af0 hO ?_
     refine rS0 ?_
     refine endP ?_
     exact rT4 @LxS.after.eq_1 @LxS.after.eq_2 @LxS.obs.eq_1 hfull
    ·refine aa0 [.e 0,.e 1] ?_
     simp
     have hO:=e90 ⟨s,i,out⟩ ⟨3,bS (b::l),0,0⟩ (j+1) (by dsimp only;omega)
     try simp[LxS.obs,LxS.obs',Tok.ac0,ae0,ad0,aC0,aR0] at hO
     refine ab0 41 hO ?_
     refine rS0 ?_
     refine ay0 [.l 41 0] ?_
     exact rT5 @LxS.after.eq_1 @LxS.after.eq_2 @LxS.obs'.eq_1 hfull @Tok.ac0
   rw[if_neg h34] at hv
   have n34:¬ (c.toNat:Int)=34:=λh=>h34 (UInt8.toNat_inj.1 (by exact_mod_cast h))
   by_cases hctl:c<32\/126<c
   ·rw[if_pos hctl] at hv
    have hctl':(c.toNat:Int)<32\/126<(c.toNat:Int):=by
     rcases hctl with h|h
     ·left;have:=UInt8.lt_iff_toNat_lt.1 h;simp at this;omega
     ·right;have:=UInt8.lt_iff_toNat_lt.1 h;simp at this;omega
    refine rS2 hc' n34 ?_
    refine⟨λh=>?_,λh=>?_⟩
    all_goals first|(exfalso;omega)|skip
    all_goals
     refine aa0 [.e 0,.e 1] ?_
     simp
     have hO:=a10 ⟨s,i,out⟩ j 30
     try simp[LxS.obs,LxS.obs',Tok.ac0,ae0,ad0,aC0,aR0] at hO
     refine af0 hO ?_
     refine rS0 ?_
     refine endP ?_
     rw[kE0,<- hv]
     exact rT3 @LxS.after.eq_1 @LxS.after.eq_2 @LxS.obs.eq_1
   rw[if_neg hctl] at hv
   have c32:¬ (c.toNat:Int)<32:=λh=>hctl (.inl (UInt8.lt_iff_toNat_lt.2 (by simp;omega)))
   have c126:¬ 126<(c.toNat:Int):=λh=>hctl (.inr (UInt8.lt_iff_toNat_lt.2 (by simp;omega)))
   by_cases h92:c=92
   ·subst h92
    rw[if_pos rfl] at hv
    rcases Nat.lt_or_ge (j+1) s.size with hl2|hl2
    ·obtain⟨d,hd1,hd2⟩:∃ d,s.data[j+1]?=some d/\(sB s).drop (j+1)=d::(sB s).drop (j+2) :=
      ⟨(sB s)[j+1]'(by omega),by simp[sB],List.drop_eq_getElem_cons (by omega)⟩
     rw[hd2] at hv
     simp only at hv
     by_cases hq:d=34\/d=92
     ·rw[if_pos hq] at hv
      rcases hq with rfl|rfl
      ·refine rS2 hc' hd1 ?_
       refine aa0 [.l 2 0,.l 999 0] ?_
       simp
       have hO:=da0 67 (b::l) 34 hT67 (by omega)
       try simp[LxS.obs,LxS.obs',Tok.ac0,ae0,ad0,aC0,aR0] at hO
       refine ab0 93 hO ?_
       refine rS0 ?_
       refine .of (j+2,b::l++[34]) ⟨by dsimp only;omega,by dsimp only;omega,by simp at hbl ⊢;omega,hv⟩ (by dsimp only;omega) (Wk.rens (.l 93 0) (.l 999 0) rfl (by simp) (by simp[renF,os0];omega) (by simp[renF,b70]))
      ·refine rS2 hc' hd1 ?_
       refine aa0 [.l 2 0,.l 999 0] ?_
       simp
       have hO:=da0 67 (b::l) 92 hT67 (by omega)
       try simp[LxS.obs,LxS.obs',Tok.ac0,ae0,ad0,aC0,aR0] at hO
       refine ab0 93 hO ?_
       refine rS0 ?_
       refine .of (j+2,b::l++[92]) ⟨by dsimp only;omega,by dsimp only;omega,by simp at hbl ⊢;omega,hv⟩ (by dsimp only;omega) (Wk.rens (.l 93 0) (.l 999 0) rfl (by simp) (by simp[renF,os0];omega) (by simp[renF,b70]))
     ·rw[if_neg hq] at hv
      have q34:¬ (d.toNat:Int)=34:=λh=>hq (.inl (UInt8.toNat_inj.1 (by exact_mod_cast h)))
      have q92:¬ (d.toNat:Int)=92:=λh=>hq (.inr (UInt8.toNat_inj.1 (by exact_mod_cast h)))
      refine rS4 hc' hd1 q34 q92 ?_
      refine aa0 [.e 0,.e 1] ?_
      simp
      have hO:=a10 ⟨s,i,out⟩ j 30
      try simp[LxS.obs,LxS.obs',Tok.ac0,ae0,ad0,aC0,aR0] at hO
      refine af0 hO ?_
      refine rS0 ?_
      refine endP ?_
      rw[kE0,<- hv]
      exact rT3 @LxS.after.eq_1 @LxS.after.eq_2 @LxS.obs.eq_1
    ·rw[List.drop_of_length_le (by omega)] at hv
     simp only at hv
     refine rS1 hc' ?_
     refine aa0 [.e 0,.e 1] ?_
     simp
     have hO:=a10 ⟨s,i,out⟩ j 30
     try simp[LxS.obs,LxS.obs',Tok.ac0,ae0,ad0,aC0,aR0] at hO
     refine af0 hO ?_
     refine rS0 ?_
     refine endP ?_
     rw[kE0,<- hv]
     exact rT3 @LxS.after.eq_1 @LxS.after.eq_2 @LxS.obs.eq_1
   ·rw[if_neg h92] at hv
    have n92:¬ (c.toNat:Int)=92:=λh=>h92 (UInt8.toNat_inj.1 (by exact_mod_cast h))
    refine rS5 hc' n34 n92 c32 c126 ?_
    refine aa0 [.l 2 0,.l 999 0] ?_
    simp
    have hO:=da0 67 (b::l) c hT67 (by omega)
    try simp[LxS.obs,LxS.obs',Tok.ac0,ae0,ad0,aC0,aR0] at hO
    refine ab0 93 hO ?_
    refine rS0 ?_
    refine .of (j+1,b::l++[c]) ⟨by dsimp only;omega,by dsimp only;omega,by simp at hbl ⊢;omega,hv⟩ (by dsimp only;omega) (Wk.rens (.l 93 0) (.l 999 0) rfl (by simp) (by simp[renF,os0]) (by simp[renF,b70]))
  ·rw[List.drop_of_length_le (by omega),fN0] at hv
   refine rS0 ?_
   rw[kE0,<- hv]
   refine aa0 [.e 0,.e 1] ?_
   simp
   have hO:=a10 ⟨s,i,out⟩ i 30
   try simp[LxS.obs,LxS.obs',Tok.ac0,ae0,ad0,aC0,aR0] at hO
   refine af0 hO ?_
   refine rS0 ?_
   refine endP ?_
   exact rT3 @LxS.after.eq_1 @LxS.after.eq_2 @LxS.obs.eq_1
theorem mR0:Ret prog lr0 [] (.lst (bx0.map λm=>[vS (bS m)])):=by
 refine cH0 ox0 (by simp) ?_
 exact rT2 @kH0.eq_1 @bx0.eq_1
theorem LxS.nk0 (x:LxS) (R:LxR (Int × Bs × Int × Nat)):(∃ a e,x.after R=.pan (sw0 a e) x.obs)\/∃ y:LxS,x.after R=.ret (.tup []) y.obs':=by
 unfold LxS.after
 split
 ·exact .inl ⟨_,_,rfl⟩
 ·split
  ·exact .inl ⟨_,_,rfl⟩
  ·exact .inr ⟨_,rfl⟩
theorem pN0 {s:Bs} {i:Nat} {c:UInt8} (h:s[i]?=some c):iT0 s i =
  if an0.contains c then
   (if bp0 (an0++aj0) s i-i > 16 then .bad i 3 else .ok (1,(s.drop i).take (bp0 (an0++aj0) s i-i),0,bp0 (an0++aj0) s i))
  else if aj0.contains c then numR s i
  else if c=34 then kE0 s i
  else if bx0.contains ((s.drop i).take 2) then .ok (4,(s.drop i).take 2,0,i+2)
  else if cx0.contains c then .ok (4,[c],0,i+1)
  else .bad i 30:=by
 unfold iT0
 rw[h]
 simp only[numR,h,Option.some.injEq]
 rfl
theorem uj0 {m l:Bs} (hm:m.length=2):m.isPrefixOf l=decide (l.take 2=m):=by
 rw[Bool.eq_iff_iff,decide_eq_true_eq,List.isPrefixOf_iff_prefix,List.prefix_iff_eq_take,hm]
 exact⟨Eq.symm,Eq.symm⟩
theorem lG0:∀ m∈bx0,m.length=2:=by decide
set_option maxHeartbeats 1600000 in
theorem qV0 (x:LxS) (i:Nat) (hx:x.at_=i) (hi:i<x.s.size) (hs:x.s.size<2 ^ 39) (ho:x.out.length<=4096) :
  J prog jx0 [.bp (.e 0) 0] x.obs (·=x.after (iT0 (sB x.s) i)):=by
 obtain⟨s,a,out⟩:=x
 dsimp only at hx hi hs ho ⊢
 subst hx
 have hz:s.size=(sB s).length:=rfl
 have hget:(sB s)[i]?=some (sB s)[i]:=List.getElem?_eq_getElem (by omega)
 generalize hc:(sB s)[i]=c at *
 have hc':s.data[i]?=some c:=by simpa[sB] using hget
 refine av0 mO0 (by simp[LxS.obs]) ?_
 have hone:=pN0 hget
 refine rS5 @ja0.eq_1 @LxS.obs.eq_1 @hpE.eq_1 @hpE.eq_2 hc' ?_
 refine ak0 ?_;simp;refine ah0 (aQ0 ⟨⟨an0⟩⟩ c) (by simp) ?_
 rw[show sB ⟨⟨an0⟩⟩=an0 from rfl]
 have hm1:=cu0 an0 c
 by_cases h1:an0.contains c=true
 ·rw[if_pos h1] at hone
  have hI:=hm1.2 h1
  refine rS1 hI ?_
  refine aa0 [.e 0,.e 1] ?_
  simp
  have hO:=jG0 ⟨s,i,out⟩ ⟨⟨an0++aj0⟩⟩ i rfl (by dsimp only;omega)
  try simp[LxS.obs,LxS.obs',Tok.ac0] at hO
  refine ab0 20 hO ?_
  rw[show sB ⟨⟨an0++aj0⟩⟩=an0++aj0 from rfl]
  have hge:=kd0 (an0++aj0) (sB s) i
  have hle:bp0 (an0++aj0) (sB s) i<=s.size:=ke0 (by omega)
  generalize hp:bp0 (an0++aj0) (sB s) i=p at *
  by_cases h16:p-i > 16
  ·rw[if_pos h16] at hone
   rw[hone]
   have h16':(16:Int)<(p:Int)-i:=by omega
   refine rS1 h16' ?_
   refine aa0 [.e 0,.e 1] ?_
   simp
   have hO:=a10 ⟨s,i,out⟩ i 3
   try simp[LxS.obs,LxS.obs',Tok.ac0] at hO
   refine af0 hO ?_
   refine rS0 ?_
   refine endP ?_
   exact rT3 @LxS.after.eq_1 @LxS.after.eq_2 @LxS.obs.eq_1
  ·rw[if_neg h16] at hone
   rw[hone]
   have h16':¬ (16:Int)<(p:Int)-i:=by omega
   refine rS1 h16' ?_
   by_cases hfull:4096<=out.length
   ·refine aa0 [.e 0,.e 1] ?_
    simp
    have hO:=eb0 ⟨s,i,out⟩ ⟨1,s.extract i p,0,0⟩ p hfull (by dsimp only;omega)
    try simp[LxS.obs,LxS.obs',Tok.ac0] at hO
    refine af0 hO ?_
    refine rS0 ?_
    refine endP ?_
    exact rT4 @LxS.after.eq_1 @LxS.after.eq_2 @LxS.obs.eq_1 hfull
   ·refine aa0 [.e 0,.e 1] ?_
    simp
    have hO:=e90 ⟨s,i,out⟩ ⟨1,s.extract i p,0,0⟩ p (by dsimp only;omega)
    try simp[LxS.obs,LxS.obs',Tok.ac0] at hO
    refine ab0 47 hO ?_
    refine rS0 ?_
    refine ay0 [.l 47 0] ?_
    have hx:bS (((sB s).drop i).take (p-i))=s.extract i p:=by rw[<- eo0]
    exact rT6 @LxS.after.eq_1 @LxS.after.eq_2 @LxS.obs'.eq_1 hfull @Tok.ac0 hx
 rw[if_neg h1] at hone
 have hI:¬ 0<=Lib.indexByte an0 c:=λh=>h1 (hm1.1 h)
 refine rS1 hI ?_
 refine ak0 ?_;simp;refine ah0 (aQ0 ⟨⟨aj0⟩⟩ c) (by simp) ?_
 rw[show sB ⟨⟨aj0⟩⟩=aj0 from rfl]
 have hm2:=cu0 aj0 c
 by_cases h2:aj0.contains c=true
 ·rw[if_pos h2] at hone
  have hI2:=hm2.2 h2
  have hJ:=nN0 ⟨s,i,out⟩ i rfl hi (by dsimp only;omega) ho
  rw[hone]
  dsimp only at hJ
  rcases LxS.nk0 ⟨s,i,out⟩ (numR (sB s) i) with⟨a,e,hR⟩|⟨y,hR⟩
  ·rw[hR] at hJ ⊢
   refine rS1 hI2 ?_
   refine aa0 [.e 0,.e 1] ?_
   simp
   have hO:=hJ
   try simp[LxS.obs,LxS.obs',Tok.ac0] at hO
   refine af0 hO ?_
   refine rS0 ?_
   refine endP ?_
   exact rT1 @LxS.obs.eq_1
  ·rw[hR] at hJ ⊢
   refine rS1 hI2 ?_
   refine aa0 [.e 0,.e 1] ?_
   simp
   have hO:=hJ
   try simp[LxS.obs,LxS.obs',Tok.ac0] at hO
   refine ab0 53 hO ?_
   refine rS0 ?_
   refine ay0 [.l 53 0] ?_
   exact rT1 @LxS.obs'.eq_1
 rw[if_neg h2] at hone
 have hI2:¬ 0<=Lib.indexByte aj0 c:=λh=>h2 (hm2.1 h)
 by_cases h3:c=34
 ·subst h3
  rw[if_pos rfl] at hone
  have hJ:=pL0 ⟨s,i,out⟩ i rfl hi hs ho
  rw[hone]
  dsimp only at hJ
  rcases LxS.nk0 ⟨s,i,out⟩ (kE0 (sB s) i) with⟨a,e,hR⟩|⟨y,hR⟩
  ·rw[hR] at hJ
   rw[hR]
   refine rS1 hI2 ?_
   refine aa0 [.e 0,.e 1] ?_
   simp
   have hO:=hJ
   try simp[LxS.obs,LxS.obs',Tok.ac0] at hO
   refine af0 hO ?_
   refine rS0 ?_
   refine endP ?_
   exact rT1 @LxS.obs.eq_1
  ·rw[hR] at hJ
   rw[hR]
   refine rS1 hI2 ?_
   refine aa0 [.e 0,.e 1] ?_
   simp
   have hO:=hJ
   try simp[LxS.obs,LxS.obs',Tok.ac0] at hO
   refine ab0 58 hO ?_
   refine rS0 ?_
   refine ay0 [.l 58 0] ?_
   exact rT1 @LxS.obs'.eq_1
 rw[if_neg h3] at hone
 have n34:¬ (c.toNat:Int)=34:=λh=>h3 (UInt8.toNat_inj.1 (by exact_mod_cast h))
 refine rS2 hI2 n34 ?_
 refine ak0 ?_;simp;refine ah0 (mR0) (by simp) ?_
 refine rS0 ?_
 have hgo:∀ (k:Nat),k<6->∃ m,bx0[k]?=some m/\m.length=2:=λk hk =>
  ⟨bx0[k]'hk,List.getElem?_eq_getElem hk,lG0 _ (List.getElem_mem _)⟩
 refine aT0 (λy:Nat=>6-y) (λy=>[(61,vI y),(60,vI 6),(59,.lst (bx0.map λm=>[vS (bS m)])),(2,vU c),(0,.bp (.e 0) 0)])
  (λ_=>[(.e 0,.box [vS s,vI i,.arr (.e 1) 0 out.length]),(.e 1,.row cg0 4 true (out.map Tok.cells))])
  (λy=>y<=6/\∀ k,k<y->∀ m,bx0[k]?=some m->((sB s).drop i).take 2≠m) 0 ⟨by omega,λk hk=>by omega⟩ (Wk.subs (by simp[bx0]) (by simp)) ?_
 rintro k ⟨hk6,hno⟩
 by_cases hk:k<6
 ·obtain⟨m,hm,hm2⟩:=hgo k hk
  have hml:(List.map (λm=>[vS (bS m)]) bx0)[k]?=some [vS (bS m)]:=by rw[List.getElem?_map,hm];rfl
  have hk':(k:Int)<6:=by omega
  refine rS1 hk' ?_
  rw[aV0 hml]
  refine rS0 ?_
  have hpre:(sB (bS m)).isPrefixOf (sB (s.extract i s.size))=decide (((sB s).drop i).take 2=m):=by
   have hdl:((sB s).drop i).take (s.size-i)=(sB s).drop i:=List.take_of_length_le (by simp)
   rw[eo0,hdl,show sB (bS m)=m from rfl,uj0 hm2]
  refine ak0 ?_;simp;refine ah0 (jn0 (s.extract i s.size) (bS m)) (by simp) ?_
  rw[hpre]
  by_cases he:((sB s).drop i).take 2=m
  ·have hcon:bx0.contains (((sB s).drop i).take 2)=true:=by
    rw[he];exact List.contains_iff_mem.2 (List.mem_of_getElem? hm)
   rw[if_pos hcon,he] at hone
   rw[hone]
   refine rS1 he ?_
   by_cases hfull:4096<=out.length
   ·refine aa0 [.e 0,.e 1] ?_
    simp
    have hO:=eb0 ⟨s,i,out⟩ ⟨4,bS m,0,0⟩ (i+2) hfull (by dsimp only;omega)
    try simp[LxS.obs,LxS.obs',Tok.ac0] at hO
    refine af0 hO ?_
    refine rS0 ?_
    refine endP ?_
    exact rT4 @LxS.after.eq_1 @LxS.after.eq_2 @LxS.obs.eq_1 hfull
   ·refine aa0 [.e 0,.e 1] ?_
    simp
    have hO:=e90 ⟨s,i,out⟩ ⟨4,bS m,0,0⟩ (i+2) (by dsimp only;omega)
    try simp[LxS.obs,LxS.obs',Tok.ac0] at hO
    refine ab0 84 hO ?_
    refine rS0 ?_
    refine ay0 [.l 84 0] ?_
    exact rT5 @LxS.after.eq_1 @LxS.after.eq_2 @LxS.obs'.eq_1 hfull @Tok.ac0
  ·refine rS1 he ?_
   refine .of (k+1) ⟨by omega,λq hq m' hm'=>?_⟩ (by omega) (Wk.subs (by simp) (by simp))
   rcases Nat.lt_or_ge q k with h|h
   ·exact hno q h m' hm'
   ·have:q=k:=by omega
    subst this
    rw[hm] at hm';injection hm' with hm';subst hm';exact he
 ·have hcon:bx0.contains (((sB s).drop i).take 2)=false:=by
   rw[<- Bool.not_eq_true,List.contains_iff_mem]
   intro h
   obtain⟨q,hq,hq2⟩:=List.getElem_of_mem h
   have hq6:q<6:=hq
   exact hno q (by omega) _ (List.getElem?_eq_getElem hq) hq2.symm
  have hk':¬ (k:Int)<6:=by omega
  rw[if_neg (by rw[hcon];simp)] at hone
  refine rS1 hk' ?_
  refine ak0 ?_;simp;refine ah0 (aQ0 ⟨⟨cx0⟩⟩ c) (by simp) ?_
  rw[show sB ⟨⟨cx0⟩⟩=cx0 from rfl]
  have hm3:=cu0 cx0 c
  by_cases h4:cx0.contains c=true
  ·rw[if_pos h4] at hone
   rw[hone]
   have hI4:¬ Lib.indexByte cx0 c<0:=by have:=hm3.2 h4;omega
   have hc128:(c.toNat:Int)<128:=by
    simp[cx0] at h4
    rcases h4 with h|h|h|h|h|h|h|h|h|h|h|h|h|h|h|h|h|h|h<;>subst h<;>decide
   have hchr:chr (c.toNat:Int)=bS [c]:=by simp[chr]
   refine rS3 hI4 hc128 hchr ?_
   by_cases hfull:4096<=out.length
   ·refine aa0 [.e 0,.e 1] ?_
    simp
    have hO:=eb0 ⟨s,i,out⟩ ⟨4,bS [c],0,0⟩ (i+1) hfull (by dsimp only;omega)
    try simp[LxS.obs,LxS.obs',Tok.ac0] at hO
    refine af0 hO ?_
    refine rS0 ?_
    refine endP ?_
    exact rT4 @LxS.after.eq_1 @LxS.after.eq_2 @LxS.obs.eq_1 hfull
   ·refine aa0 [.e 0,.e 1] ?_
    simp
    have hO:=e90 ⟨s,i,out⟩ ⟨4,bS [c],0,0⟩ (i+1) (by dsimp only;omega)
    try simp[LxS.obs,LxS.obs',Tok.ac0] at hO
    refine ab0 104 hO ?_
    refine rS0 ?_
    refine ch0 [.l 104 0] ?_
    exact rT5 @LxS.after.eq_1 @LxS.after.eq_2 @LxS.obs'.eq_1 hfull @Tok.ac0
  ·rw[if_neg h4] at hone
   rw[hone]
   have hI4:Lib.indexByte cx0 c<0:=by
    have:¬ 0<=Lib.indexByte cx0 c:=λh=>h4 (hm3.1 h)
    omega
   refine rS1 hI4 ?_
   refine aa0 [.e 0,.e 1] ?_
   simp
   have hO:=a10 ⟨s,i,out⟩ i 30
   try simp[LxS.obs,LxS.obs',Tok.ac0] at hO
   refine af0 hO ?_
   refine rS0 ?_
   refine endP ?_
   exact rT3 @LxS.after.eq_1 @LxS.after.eq_2 @LxS.obs.eq_1
attribute [local irreducible] vcF dfrS dEnd lq0 dJ JD
def LxS.obs0 (x:LxS):List Ob:=[.box [vS x.s,vI x.at_,.nil]]
theorem r10 (x:LxS) (set:ByteArray) (i:Nat) (hx:x.at_=i) (hs:x.s.size<2 ^ 40) :
  J prog gH0 [.bp (.e 0) 0,vS set] x.obs0 (·=.ret (vI (bp0 (sB set) (sB x.s) i)) x.obs0):=by
 have hz:x.s.size=(sB x.s).length:=rfl
 refine av0 jf0 (by simp[LxS.obs0]) ?_
 refine rS5 @fG0.eq_1 @LxS.obs0.eq_1 @hpE.eq_1 @hpE.eq_2 hx ?_
 refine aT0 (λj:Nat=>x.s.size-j) (λj=>[(5,vI j),(1,vS set),(0,.bp (.e 0) 0)])
  (λ_=>[(.e 0,.box [vS x.s,vI x.at_,.nil])])
  (λj=>bp0 (sB set) (sB x.s) j=bp0 (sB set) (sB x.s) i) i rfl (Wk.subs (by simp) (by simp[hx])) ?_
 intro j hj
 refine rS0 ?_
 refine⟨λhl=>?_,λhl=>?_⟩
 ·have hl':j<(sB x.s).length:=by rw[<- hz];exact hl
  refine⟨(sB x.s)[j],by simp[sB],?_⟩
  refine ak0 ?_;simp;refine ah0 (aQ0 set (sB x.s)[j]) (by simp) ?_
  refine rS0 ?_
  refine⟨λhc=>?_,λhc=>?_⟩
  ·have hm:=(cu0 _ _).1 hc
   refine .of (j+1) (by rw[<- hj,m80 hl' hm]) (by omega) (Wk.subs (by simp) (by simp[hx]))
  ·have hm:(sB set).contains (sB x.s)[j]=false:=by
    rw[<- Bool.not_eq_true];intro h;exact hc ((cu0 _ _).2 h)
   rw[n70 hl' hm] at hj
   refine ay0 [] ?_
   exact rT2 hj hx
 ·rw[n60 (by omega)] at hj
  refine ay0 [] ?_
  exact rT2 hj hx
theorem pK0 (x:LxS) (i:Nat) (hx:x.at_=i) (hi:i<=x.s.size) (hs:x.s.size<2 ^ 40) :
  J prog e30 [.bp (.e 0) 0] x.obs0 (·=.ret (.tup []) ({ x with at_:=aI0 (sB x.s) (x.s.size+1) i }:LxS).obs0):=by
 have hz:x.s.size=(sB x.s).length:=rfl
 refine av0 hK0 (by simp[LxS.obs0]) ?_
 refine rS4 @ey0.eq_1 @LxS.obs0.eq_1 @hpE.eq_1 @hpE.eq_2 ?_
 refine aT0 (λy:Nat × Nat=>y.1) (λy=>[(0,.bp (.e 0) 0)])
  (λy=>[(.e 0,.box [vS x.s,vI y.2,.nil])])
  (λy=>y.2<=x.s.size/\x.s.size-y.2<y.1/\aI0 (sB x.s) y.1 y.2=aI0 (sB x.s) (x.s.size+1) i) (x.s.size+1,i) ⟨hi,by show x.s.size-i<x.s.size+1;omega,rfl⟩ (Wk.subs (by simp) (by simp[hx])) ?_
 rintro⟨f,j⟩ ⟨hj,hf,hb⟩
 dsimp only at hj hf hb
 obtain⟨f,rfl⟩:∃ f',f=f'+1:=⟨f-1,by omega⟩
 have hge:=kd0 aH0 (sB x.s) j
 have hle:bp0 aH0 (sB x.s) j<=x.s.size:=ke0 hj
 refine rS0 ?_
 refine aa0 [.e 0] ?_
 simp
 have hO:=r10 { x with at_:=j } ⟨⟨[32,10,9]⟩⟩ j rfl hs
 try simp[LxS.obs,LxS.obs',LxS.obs0,Tok.ac0] at hO
 refine ab0 5 hO ?_
 rw[show sB ⟨⟨[32,10,9]⟩⟩=aH0 from rfl]
 generalize hp:bp0 aH0 (sB x.s) j=p at *
 refine rS0 ?_
 refine⟨λhl=>?_,λhl=>?_⟩
 ·rw[hw0 (by rw[hp,List.getElem?_eq_none (by omega)];simp),hp] at hb
  refine ay0 [] ?_
  simp +contextual (maxSteps:=2000000) (disch:=omega) [-Int.not_lt,-Int.not_le,-Nat.not_lt,-Nat.not_le,sx,<- hb]
 have hl':p<(sB x.s).length:=by omega
 refine⟨(sB x.s)[p],by simp[sB],λhc=>?_,λhc=>?_⟩
 ·rw[hw0 (by rw[hp,List.getElem?_eq_getElem hl'];intro h;apply hc;injection h with h;rw[h];rfl),hp] at hb
  refine ay0 [] ?_
  simp +contextual (maxSteps:=2000000) (disch:=omega) [-Int.not_lt,-Int.not_le,-Nat.not_lt,-Nat.not_le,sx,<- hb]
 have hc':(sB x.s)[p]=35:=by
  apply UInt8.toNat_inj.1;exact_mod_cast hc
 refine ak0 ?_;simp;refine ah0 (aQ0 (x.s.extract p x.s.size) 10) (by simp) ?_
 rw[eo0,List.take_of_length_le (by simp)]
 have hlt:=jE0 ((sB x.s).drop p) 10
 have h0:0<(Lib.indexByte ((sB x.s).drop p) 10)\/(Lib.indexByte ((sB x.s).drop p) 10)<0:=by
  rw[List.drop_eq_getElem_cons hl',hc']
  have hge:=Lib.indexByte_ge ((sB x.s).drop (p+1)) 10
  unfold Lib.indexByte
  by_cases h5:Lib.indexByte ((sB x.s).drop (p+1)) 10=-1
  ·rw[h5];right;decide
  ·left
   have h6:(Lib.indexByte ((sB x.s).drop (p+1)) 10 == -1)=false:=by simpa using h5
   rw[h6,show ((35:UInt8) == 10)=false from rfl]
   simp only[Bool.false_eq_true,if_false];omega
 rw[mr0 (by rw[hp,List.getElem?_eq_getElem hl',hc']),hp] at hb
 generalize hq:Lib.indexByte ((sB x.s).drop p) 10=q at *
 simp only[List.length_drop] at hlt
 refine rS0 ?_
 refine⟨λhq0=>?_,λhq0=>?_⟩
 ·obtain⟨m,rfl⟩:=Int.eq_ofNat_of_zero_le hq0
  rw[if_neg (by omega)] at hb
  refine .of (f,p+m) ⟨by dsimp only;omega,by dsimp only;omega,hb⟩ (by simp) (Wk.subs (by simp) (by simp))
 ·rw[if_pos (by omega)] at hb
  refine .of (f,x.s.size) ⟨by dsimp only;omega,by dsimp only;omega,hb⟩ (by simp) (Wk.subs (by simp) (by simp))
theorem oi0 {i0:Nat}:∀ {l:Bs} {j:Nat} {acc t:Bs} {k:Nat},fN0 i0 l j acc=.ok (t,k)->j<k/\k<=j+l.length
 | [],j,acc,t,k,h=>by simp[fN0] at h
 | c::l,j,acc,t,k,h=>by
  rw[fN0.eq_def] at h
  simp only at h
  split at h
  ·split at h
   ·cases h
   ·injection h with h;injection h with h1 h2;subst h2;simp only[List.length_cons];omega
  split at h
  ·cases h
  split at h
  ·split at h
   ·cases h
   ·rename_i d l'
    split at h
    ·have:=oi0 h;simp only[List.length_cons];omega
    ·cases h
  ·have:=oi0 h;simp only[List.length_cons];omega
theorem q00 {s:Bs} {i:Nat} {k:Int} {t:Bs} {n:Int} {j:Nat} (h:iT0 s i=.ok (k,t,n,j)):i<j/\j<=s.length:=by
 cases hg:s[i]? with
 | none=>unfold iT0 at h;rw[hg] at h;cases h
 | some c =>
 have hi:i<s.length:=(List.getElem?_eq_some_iff.1 hg).1
 have hc:s[i]=c:=(List.getElem?_eq_some_iff.1 hg).2
 rw[pN0 hg] at h
 have run:∀ set:Bs,set.contains c=true->i<bp0 set s i/\bp0 set s i<=s.length:=λset hs=>by
  have h1:=m80 (set:=set) hi (by rw[hc];exact hs)
  have h2:=kd0 set s (i+1)
  exact⟨by omega,ke0 (by omega)⟩
 split at h
 ·rename_i h1
  split at h
  ·cases h
  ·injection h with h;simp only[Prod.mk.injEq] at h
   obtain⟨_,_,_,rfl⟩:=h
   refine run _ ?_
   rw[List.contains_iff_mem,List.mem_append]
   exact .inl (List.contains_iff_mem.1 h1)
 split at h
 ·rename_i h1
  unfold numR at h
  split at h
  ·cases h
  ·split at h
   ·cases h
   ·injection h with h;simp only[Prod.mk.injEq] at h
    obtain⟨_,_,_,rfl⟩:=h
    exact run _ h1
 split at h
 ·unfold kE0 at h
  split at h
  ·cases h
  ·rename_i t' j' ht
   injection h with h;simp only[Prod.mk.injEq] at h
   obtain⟨_,_,_,rfl⟩:=h
   have:=oi0 ht
   simp only[List.length_drop] at this
   omega
 split at h
 ·rename_i h1
  injection h with h;simp only[Prod.mk.injEq] at h
  obtain⟨_,_,_,rfl⟩:=h
  have:=lG0 _ (List.contains_iff_mem.1 h1)
  simp at this
  omega
 split at h
 ·injection h with h;simp only[Prod.mk.injEq] at h
  obtain⟨_,_,_,rfl⟩:=h
  omega
 ·cases h
theorem j10 (s:Bs):∀ (f i:Nat),i<=s.length->i<=aI0 s f i/\aI0 s f i<=s.length
 | 0,i,h=>⟨by simp[aI0],by simpa[aI0] using h⟩
 | f+1,i,h=>by
  have h1:=kd0 aH0 s i
  have h2:=ke0 (set:=aH0) h
  rw[aI0]
  split
  ·have h4:=jE0 (s.drop (bp0 aH0 s i)) 10
   simp only[List.length_drop] at h4
   split
   ·have h3:=j10 s f s.length (Nat.le_refl _);omega
   ·have h3:=j10 s f (bp0 aH0 s i+(Lib.indexByte (s.drop (bp0 aH0 s i)) 10).toNat) (by omega);omega
  ·omega
def lexV:LxR (List Tok)->V
 | .ok ts=>.tup [.lst (ts.map Tok.cells),vI 0,vI 0]
 | .bad a e=>.tup [.lst [],vI a,vI e]
theorem oA0 (n:Nat) (a e:Int) (xs:List (List V)) :
  JD prog true k00 [.bp (.e 0) 0,.bp (.e 1) 0,.bp (.e 2) 0] [.box [.arr (.e 3) 0 n],.box [vI a],.box [vI e],.row cg0 4 true xs] none (·=.ret (.tup []) [.box [.arr (.e 3) 0 n],.box [vI a],.box [vI e],.row cg0 4 true xs]):=by
 refine JR_of mE0 (by simp) (by simp) ?_
 refine rS5 @jq0.eq_1 @hpE.eq_1 @hpE.eq_2 @pvV.eq_1 @pvV.eq_2 ?_
 refine ch0 [] ?_
 exact rT0
theorem h30 (a e:Int):JD prog true k00 [.bp (.e 0) 0,.bp (.e 1) 0,.bp (.e 2) 0] [.box [.nil],.box [vI 0],.box [vI 0]] (some (sw0 a e)) (·=.ret (.tup []) [.box [.nil],.box [vI a],.box [vI e]]):=by
 refine JR_of mE0 (by simp) (by simp) ?_
 refine rS5 @jq0.eq_1 @hpE.eq_1 @hpE.eq_2 @pvV.eq_1 @pvV.eq_2 ?_
 refine ch0 [] ?_
 exact rT0
abbrev lexE (a b c:Id) (s:ByteArray):Env:=[(0,vS s),(2,.bp a 0),(3,.bp b 0),(4,.bp c 0)]
abbrev lexH (a b c:Id):Hp:=[(a,.box [.nil]),(b,.box [vI 0]),(c,.box [vI 0])]
theorem qZ0 {s:Bs} {f i:Nat} {out:List Tok} (h:s.length<=aI0 s (s.length+1) i) :
  hr0 s (f+1) i out=if out.length>=4096 then .bad (aI0 s (s.length+1) i) 36 else .ok (out++[⟨5,bS [],0,aI0 s (s.length+1) i⟩]):=by
 rw[hr0,if_pos h]
theorem qY0 {s:Bs} {f i:Nat} {out:List Tok} (h:¬ s.length<=aI0 s (s.length+1) i) {a e:Int} (h1:iT0 s (aI0 s (s.length+1) i)=.bad a e):hr0 s (f+1) i out=.bad a e:=by
 rw[hr0,if_neg h,h1]
theorem sG0 {s:Bs} {f i:Nat} {out:List Tok} (h:¬ s.length<=aI0 s (s.length+1) i) {k:Int} {t:Bs} {n:Int} {j:Nat} (h1:iT0 s (aI0 s (s.length+1) i)=.ok (k,t,n,j)) :
  hr0 s (f+1) i out=if out.length>=4096 then .bad (aI0 s (s.length+1) i) 36 else hr0 s f j (out++[⟨k,bS t,n,aI0 s (s.length+1) i⟩]):=by
 rw[hr0,if_neg h,h1]
set_option maxHeartbeats 1600000 in
theorem qU0 (s:ByteArray) (hs:s.size<2 ^ 39):Ret prog qC0 [vS s] (lexV (em0 (sB s))):=by
 have hz:s.size=(sB s).length:=rfl
 refine J_dfr true tD0 (by simp) ?_
 by_cases hlong:16384<s.size
 ·have hl:em0 (sB s)=.bad 16384 3:=by rw[em0,if_pos (by omega)]
  have hlong':(16384:Int)<s.size:=by omega
  rw[hl]
  refine rS6 @l40.eq_1 @fP0 @fO0 hlong' @hpE.eq_1 @hpE.eq_2 ?_
  refine ay0 [] ?_
  exact rT2 @lexV.eq_1 @lexV.eq_2
 have hl:em0 (sB s)=hr0 (sB s) (s.size+1) 0 []:=by rw[em0,if_neg (by omega)];rfl
 have hlong':¬ (16384:Int)<s.size:=by omega
 rw[hl]
 refine rS6 @l40.eq_1 @fP0 @fO0 hlong' @hpE.eq_1 @hpE.eq_2 ?_
 refine py0 rfl rfl (.trans (.ren (.l 2 0) 0 (by simp) (by simp) (E:=lexE (.e 0) (.l 3 0) (.l 4 0) s) (h:=lexH (.e 0) (.l 3 0) (.l 4 0)) (cs':=[.bp (.e 0) 0,.bp (.l 3 0) 0,.bp (.l 4 0) 0]) (by simp[renF]) (by simp[renF,b70]) (by simp[renF]))
  (.trans (.ren (.l 3 0) 1 (by simp) (by simp) (E:=lexE (.e 0) (.e 1) (.l 4 0) s) (h:=lexH (.e 0) (.e 1) (.l 4 0)) (cs':=[.bp (.e 0) 0,.bp (.e 1) 0,.bp (.l 4 0) 0]) (by simp[renF]) (by simp[renF,b70]) (by simp[renF]))
  (.ren (.l 4 0) 2 (by simp) (by simp) (E:=lexE (.e 0) (.e 1) (.e 2) s) (h:=lexH (.e 0) (.e 1) (.e 2)) (cs':=[.bp (.e 0) 0,.bp (.e 1) 0,.bp (.e 2) 0]) (by simp[renF]) (by simp[renF,b70]) (by simp[renF])))) rfl ?_
 refine rS0 ?_
 refine aa0 [.l 12 0] ?_
 simp
 have hO:=pK0 ⟨s,0,[]⟩ 0 rfl (by simp) (by dsimp only;omega)
 try simp[LxS.obs,LxS.obs',LxS.obs0,Tok.ac0] at hO
 refine ab0 14 hO ?_
 refine rS0 ?_
 refine aT0 (λy:Nat × Nat × List Tok=>y.1) (λy=>[(5,.bp (.l 12 0) 0),(0,vS s),(2,.bp (.e 0) 0),(3,.bp (.e 1) 0),(4,.bp (.e 2) 0)])
  (λy=>[(.l 12 0,.box [vS s,vI (aI0 (sB s) (s.size+1) y.2.1),.arr (.l 999 0) 0 y.2.2.length]),(.l 999 0,.row cg0 4 true (y.2.2.map Tok.cells)),(.e 0,.box [.nil]),(.e 1,.box [vI 0]),(.e 2,.box [vI 0])])
  (λy=>y.2.1<=s.size/\s.size-y.2.1<y.1/\y.2.2.length<=4096/\hr0 (sB s) y.1 y.2.1 y.2.2=hr0 (sB s) (s.size+1) 0 []) (s.size+1,0,[])
  ⟨by simp,by simp,by simp,rfl⟩ (Wk.trans (Wk.subs (by simp) (by simp)) (Wk.rowB (b:=.l 12 0) (id:=.l 999 0) (off:=2) (ty:=cg0) (sz:=4) rfl rfl (by simp) (by simp))) ?_
 rintro⟨f,i,out⟩ ⟨hi,hf,ho,hv⟩
 dsimp only at hi hf ho hv
 obtain⟨f,rfl⟩:∃ f',f=f'+1:=⟨f-1,by omega⟩
 have hb:=j10 (sB s) (s.size+1) i (by omega)
 rw[<- hz] at hb
 generalize hB:aI0 (sB s) (s.size+1) i=b at *
 by_cases hbl:b<s.size
 ·have hbl':(b:Int)<s.size:=by omega
  have hno:¬ (sB s).length<=aI0 (sB s) ((sB s).length+1) i:=by rw[<- hz,hB];omega
  have hJ:=qV0 ⟨s,b,out⟩ b rfl hbl hs ho
  dsimp only at hJ
  cases hR:iT0 (sB s) b with
  | bad a e =>
   rw[hR] at hJ
   rw[qY0 hno (by rw[<- hz,hB];exact hR)] at hv
   rw[<- hv]
   simp only[LxS.after] at hJ
   refine rS1 hbl' ?_
   refine aa0 [.l 12 0,.l 999 0] ?_
   simp
   have hO:=hJ
   try simp[LxS.obs,LxS.obs',LxS.obs0,Tok.ac0] at hO
   refine af0 hO ?_
   refine rS0 ?_
   refine mY0 (by simp) _ _ (Wk.refl _ _) (eE0 [.e 0,.e 1,.e 2] (by simp) ?_)
   simp
   refine mx0 (h30 a e) (by simp) ?_
   simp
   refine ay0 [] ?_
   simp +contextual (maxSteps:=2000000) (disch:=omega) [-Int.not_lt,-Int.not_le,-Nat.not_lt,-Nat.not_le,sx,lexV,stab,V.allE,V.ln0,lexE,List.filter_cons,Id.isE]
  | ok q =>
   obtain⟨k,t,n,j⟩:=q
   have hadv:=q00 hR
   rw[hR] at hJ
   rw[sG0 hno (by rw[<- hz,hB];exact hR),<- hz,hB] at hv
   by_cases hfull:4096<=out.length
   ·rw[if_pos hfull] at hv
    rw[<- hv]
    simp only[LxS.after,if_pos hfull] at hJ
    refine rS1 hbl' ?_
    refine aa0 [.l 12 0,.l 999 0] ?_
    simp
    have hO:=hJ
    try simp[LxS.obs,LxS.obs',LxS.obs0,Tok.ac0] at hO
    refine af0 hO ?_
    refine rS0 ?_
    refine mY0 (by simp) _ _ (Wk.refl _ _) (eE0 [.e 0,.e 1,.e 2] (by simp) ?_)
    simp
    refine mx0 (h30 b 36) (by simp) ?_
    simp
    refine ay0 [] ?_
    simp +contextual (maxSteps:=2000000) (disch:=omega) [-Int.not_lt,-Int.not_le,-Nat.not_lt,-Nat.not_le,sx,lexV,stab,V.allE,V.ln0,lexE,List.filter_cons,Id.isE]
   ·rw[if_neg (by omega)] at hv
    simp only[LxS.after,if_neg hfull] at hJ
    refine rS1 hbl' ?_
    refine aa0 [.l 12 0,.l 999 0] ?_
    simp
    have hO:=hJ
    try simp[LxS.obs,LxS.obs',LxS.obs0,Tok.ac0] at hO
    refine ab0 25 hO ?_
    refine rS0 ?_
    refine aa0 [.l 12 0,.l 25 0] ?_
    simp
    have hO:=oD0 ⟨s,j,out++[⟨k,bS t,n,b⟩]⟩ j rfl (by dsimp only;omega) (by dsimp only;omega)
    try simp[LxS.obs,LxS.obs',LxS.obs0,Tok.ac0] at hO
    refine ab0 23 hO ?_
    refine rS0 ?_
    refine .of (f,j,out++[⟨k,bS t,n,b⟩]) ⟨by dsimp only;omega,by dsimp only;omega,by simp;omega,hv⟩ (by dsimp only;omega) (Wk.rens (.l 25 0) (.l 999 0) rfl (by simp) (by simp[renF]) (by simp[renF,b70,Tok.ac0]))
 ·have hbl':¬ (b:Int)<s.size:=by omega
  have hyes:(sB s).length<=aI0 (sB s) ((sB s).length+1) i:=by rw[<- hz,hB];omega
  rw[qZ0 hyes,<- hz,hB] at hv
  refine rS1 hbl' ?_
  by_cases hfull:4096<=out.length
  ·rw[if_pos hfull] at hv
   rw[<- hv]
   refine aa0 [.l 12 0,.l 999 0] ?_
   simp
   have hO:=eb0 ⟨s,b,out⟩ ⟨5,bS [],0,0⟩ b hfull (by dsimp only;omega)
   try simp[LxS.obs,LxS.obs',LxS.obs0,Tok.ac0] at hO
   refine af0 hO ?_
   refine rS0 ?_
   refine mY0 (by simp) _ _ (Wk.refl _ _) (eE0 [.e 0,.e 1,.e 2] (by simp) ?_)
   simp
   refine mx0 (h30 b 36) (by simp) ?_
   simp
   refine ay0 [] ?_
   simp +contextual (maxSteps:=2000000) (disch:=omega) [-Int.not_lt,-Int.not_le,-Nat.not_lt,-Nat.not_le,sx,lexV,stab,V.allE,V.ln0,lexE,List.filter_cons,Id.isE]
  ·rw[if_neg hfull] at hv
   rw[<- hv]
   refine aa0 [.l 12 0,.l 999 0] ?_
   simp
   have hO:=e90 ⟨s,b,out⟩ ⟨5,bS [],0,0⟩ b (by dsimp only;omega)
   try simp[LxS.obs,LxS.obs',LxS.obs0,Tok.ac0] at hO
   refine ab0 32 hO ?_
   refine rS0 ?_
   refine mZ0 _ _ (Wk.refl _ _) (eE0 [.e 0,.e 1,.e 2,.l 32 0] (by simp) ?_)
   simp
   refine mx0 (oA0 (out.length+1) 0 0 _) (by simp) ?_
   simp
   refine ay0 [] ?_
   exact rT3 @lexV.eq_1 @lexV.eq_2 @Tok.ac0
def oN0:LxR (List Tok)->Prop
 | .ok ts=>∃ o b,ts=o++[⟨5,bS [],0,b⟩]/\o.length<4096
 | .bad _ e=>e≠0/\e ≠ -1
theorem oj0 {i0:Nat}:∀ {l:Bs} {j:Nat} {acc:Bs} {a e:Int},fN0 i0 l j acc=.bad a e->e≠0/\e ≠ -1
 | [],j,acc,a,e,h=>by simp[fN0] at h;omega
 | c::l,j,acc,a,e,h=>by
  rw[fN0.eq_def] at h
  simp only at h
  split at h
  ·split at h
   ·injection h with h1 h2;omega
   ·cases h
  split at h
  ·injection h with h1 h2;omega
  split at h
  ·split at h
   ·injection h with h1 h2;omega
   ·split at h
    ·exact oj0 h
    ·injection h with h1 h2;omega
  ·exact oj0 h
theorem lxOne_bad {s:Bs} {i:Nat} (hi:i<s.length) {a e:Int} (h:iT0 s i=.bad a e):e≠0/\e ≠ -1:=by
 rw[pN0 (List.getElem?_eq_getElem hi)] at h
 split at h
 ·split at h
  ·injection h with h1 h2;omega
  ·cases h
 split at h
 ·unfold numR at h
  split at h
  ·injection h with h1 h2;omega
  ·split at h
   ·injection h with h1 h2;omega
   ·cases h
 split at h
 ·unfold kE0 at h
  split at h
  ·rename_i ht;injection h with h1 h2;subst h2;exact oj0 ht
  ·cases h
 split at h
 ·cases h
 split at h
 ·cases h
 ·injection h with h1 h2;omega
theorem oZ0 {s:Bs}:∀ (f i:Nat) (out:List Tok),i<=s.length->s.length-i<f->out.length<=4096->oN0 (hr0 s f i out)
 | 0,i,out,_,h,_=>by omega
 | f+1,i,out,hi,hf,ho=>by
  have hb:=j10 s (s.length+1) i hi
  by_cases h:s.length<=aI0 s (s.length+1) i
  ·rw[qZ0 h]
   split
   ·exact⟨by decide,by decide⟩
   ·exact⟨out,_,rfl,by omega⟩
  ·cases h1:iT0 s (aI0 s (s.length+1) i) with
   | bad a e=>rw[qY0 h h1];exact lxOne_bad (by omega) h1
   | ok q =>
    obtain⟨k,t,n,j⟩:=q
    have:=q00 h1
    rw[sG0 h h1]
    split
    ·exact⟨by decide,by decide⟩
    ·exact oZ0 f j _ (by omega) (by omega) (by simp;omega)
theorem gY0 (s:Bs):oN0 (em0 s):=by
 unfold em0
 split
 ·exact⟨by decide,by decide⟩
 ·exact oZ0 _ _ _ (by omega) (by omega) (by simp)
theorem oN0.tend {o:List Tok} {b:Int}:TEnd (o++[⟨5,bS [],0,b⟩]):=by
 intro n hn hk
 have h1:n<o.length+1:=by simpa using hn
 rcases Nat.lt_or_ge n o.length with h|h
 ·simp;omega
 ·exfalso
  have:n=o.length:=by omega
  subst this
  apply hk
  unfold tk
  rw[List.getD_eq_getElem?_getD,List.getElem?_append_right (Nat.le_refl _)]
  simp
def kS0:LxR Prg->V
 | .ok p=>.tup [.agg p.cells,vI 0,vI 0]
 | .bad a e=>.tup [.agg [vI 0,.lst [],.lst []],vI a,vI e]
theorem lM0 (p:Prg) (a e:Int) :
  JD prog true gI0 [.bp (.e 0) 0,.bp (.e 1) 0,.bp (.e 2) 0] [.box p.cells,.box [vI a],.box [vI e]] none (·=.ret (.tup []) [.box p.cells,.box [vI a],.box [vI e]]):=by
 refine JR_of jg0 (by simp) (by simp) ?_
 refine rS5 @fH0.eq_1 @hpE.eq_1 @hpE.eq_2 @pvV.eq_1 @pvV.eq_2 ?_
 refine ch0 [] ?_
 exact rT0
theorem lN0 (a e:Int):JD prog true gI0 [.bp (.e 0) 0,.bp (.e 1) 0,.bp (.e 2) 0] [.box [vI 0,.nil,.nil],.box [vI 0],.box [vI 0]] (some (.ifc lV0 (.agg [vI a,vI e]))) (·=.ret (.tup []) [.box [vI 0,.nil,.nil],.box [vI a],.box [vI e]]):=by
 refine JR_of jg0 (by simp) (by simp) ?_
 refine rS5 @fH0.eq_1 @hpE.eq_1 @hpE.eq_2 @pvV.eq_1 @pvV.eq_2 ?_
 refine ch0 [] ?_
 exact rT0
@[simp] theorem lexV_pure (R:LxR (List Tok)):(lexV R).pure=true:=by cases R<;>simp[lexV]
abbrev prsE (a b c:Id) (ts:List Tok):Env:=[(5,.lst (ts.map Tok.cells)),(2,.bp a 0),(3,.bp b 0),(4,.bp c 0)]
abbrev prsH (a b c:Id):Hp:=[(a,.box [vI 0,.nil,.nil]),(b,.box [vI 0]),(c,.box [vI 0])]
theorem fK0 (s:ByteArray) (hs:s.size<2 ^ 39) (F:Nat) (hlive:(gh0 (sB s) F).live):Ret prog dB0 [vS s] (kS0 (gh0 (sB s) F)):=by
 generalize hw:gh0 (sB s) F=R at *
 unfold gh0 at hw
 have hgood:=gY0 (sB s)
 refine J_dfr true oy0 (by simp) ?_
 refine rS5 @kM0.eq_1 @fP0 @fO0 @hpE.eq_1 @hpE.eq_2 ?_
 refine ak0 ?_;simp;refine ah0 (qU0 s hs) (by simp) ?_
 cases hx:em0 (sB s) with
 | bad a e =>
  rw[hx] at hw hgood
  simp only at hw
  subst hw
  have he:¬ e=0:=hgood.1
  refine rS5 @lexV.eq_1 @lexV.eq_2 he @fP0 @fO0 ?_
  refine ay0 [] ?_
  exact rT2 @kS0.eq_1 @kS0.eq_2
 | ok ts =>
 rw[hx] at hw hgood
 simp only at hw
 obtain⟨o,b,rfl,ho⟩:=hgood
 have hE:TEnd (o++[⟨5,bS [],0,b⟩]):=oN0.tend
 have hn:0<(o++[(⟨5,bS [],0,b⟩:Tok)]).length:=by simp
 have hl:(o++[(⟨5,bS [],0,b⟩:Tok)]).length<2 ^ 40:=by simp;omega
 generalize o++[(⟨5,bS [],0,b⟩:Tok)]=ts at *
 have hlv:(h60 ts F).live:=by
  cases hp:h60 ts F with
  | ok q=>trivial
  | bad n e=>rw[hp] at hw;subst hw;exact hlive
 have hJ:=lQ0 hE hl F hn hlv
 refine rS4 @lexV.eq_1 @lexV.eq_2 @fP0 @fO0 ?_
 refine py0 rfl rfl (.trans (.ren (.l 2 0) 0 (by simp) (by simp) (E:=prsE (.e 0) (.l 3 0) (.l 4 0) ts) (h:=prsH (.e 0) (.l 3 0) (.l 4 0)) (cs':=[.bp (.e 0) 0,.bp (.l 3 0) 0,.bp (.l 4 0) 0]) (by simp[renF]) (by simp[renF,b70]) (by simp[renF]))
  (.trans (.ren (.l 3 0) 1 (by simp) (by simp) (E:=prsE (.e 0) (.e 1) (.l 4 0) ts) (h:=prsH (.e 0) (.e 1) (.l 4 0)) (cs':=[.bp (.e 0) 0,.bp (.e 1) 0,.bp (.l 4 0) 0]) (by simp[renF]) (by simp[renF,b70]) (by simp[renF]))
  (.ren (.l 4 0) 2 (by simp) (by simp) (E:=prsE (.e 0) (.e 1) (.e 2) ts) (h:=prsH (.e 0) (.e 1) (.e 2)) (cs':=[.bp (.e 0) 0,.bp (.e 1) 0,.bp (.e 2) 0]) (by simp[renF]) (by simp[renF,b70]) (by simp[renF])))) rfl ?_
 refine rS0 ?_
 rcases hp:h60 ts F with⟨p,m⟩|⟨a,e⟩
 ·rw[hp] at hJ hw
  simp only[pAns] at hJ hw
  subst hw
  refine aa0 [.l 21 0] ?_
  simp
  have hO:=hJ
  try simp[pObs] at hO
  refine ab0 23 hO ?_
  refine rS0 ?_
  refine mZ0 _ _ (Wk.refl _ _) (eE0 [.e 0,.e 1,.e 2] (by simp) ?_)
  simp
  refine mx0 (lM0 p 0 0) (by simp) ?_
  simp
  refine ay0 [] ?_
  exact rT2 @kS0.eq_1 @kS0.eq_2
 ·rw[hp] at hJ hw
  simp only[pAns] at hJ hw
  subst hw
  refine aa0 [.l 21 0] ?_
  simp
  have hO:=hJ
  try simp[pObs] at hO
  refine af0 hO ?_
  refine rS0 ?_
  refine mY0 (by simp) _ _ (Wk.refl _ _) (eE0 [.e 0,.e 1,.e 2] (by simp) ?_)
  simp
  refine mx0 (lN0 _ _) (by simp) ?_
  simp
  refine ay0 [] ?_
  simp +contextual (maxSteps:=2000000) (disch:=omega) [-Int.not_lt,-Int.not_le,-Nat.not_lt,-Nat.not_le,sx,kS0,stab,V.allE,V.ln0,prsE,List.filter_cons,Id.isE]
@[simp] theorem elemK_c0 {e:List V} {l:List (List V)} {K:List V->Prop}:gE0 (e::l) 0 K=K e:=aV0 rfl
@[simp] theorem elemK_c1 {e e':List V} {l:List (List V)} {K:List V->Prop}:gE0 (e::e'::l) 1 K=K e':=aV0 rfl
theorem list_spec (xs:List Exq) (ts:List Bs) (hlen:ts.length=xs.length) (hx:xs.length<2 ^ 30) (h:∀ i (hi:i<xs.length),dx0 xs[i] (ts[i]'(by omega))) (bs:Bs) (hl:bs.length+(sepB ts).length<2 ^ 40) :
  J prog gR0 [.bp (.e 0) 0,.lst (xs.map Exq.cells)] (ae0 69 bs) (·=.ret (.tup []) (ad0 69 (bs++sepB ts))):=by
 unfold sepB at *
 generalize hM:(ts.mapIdx λi t=>(if i=0 then [] else [44,32])++t)=M at *
 have hMl:M.length=xs.length:=by rw[<- hM];simp[hlen]
 have hMg:∀ i (hi:i<xs.length),M[i]'(by omega)=(if i=0 then [] else [44,32])++ts[i]'(by omega):=λi hi=>by simp[<- hM]
 rw[<- cr0,hMl] at hl ⊢
 refine av0 kv0 (by simp[ae0]) ?_
 refine rS4 @fY0.eq_1 @ae0.eq_1 @hpE.eq_1 @hpE.eq_2 ?_
 refine aS0 xs.length (λi=>[(8,vI i),(7,vI xs.length),(6,.lst (xs.map Exq.cells)),(0,.bp (.e 0) 0)])
  (λi=>[(.e 0,.box [.self (.e 0) 69,.arr (.l 999 0) 0 (bs++be0 M i).length]),(.l 999 0,.row 5 1 true ((bs++be0 M i).map aq0))])
  (Wk.rens (.e 1) (.l 999 0) rfl (by simp) (by simp[renF,bu0]) (by simp[renF,b70,bu0])) ?_
 intro i hi
 by_cases hlt:i<xs.length
 ·have hlt':(i:Int)<xs.length:=by omega
  have hle:=iK0 M (i+1)
  rw[<- cr0,hMl] at hle
  have hsucc:=e50 (L:=M) (i:=i) (by omega)
  rw[hMg i hlt] at hsucc
  have hP:=h i hlt
  by_cases h0:i=0
  ·subst h0
   rw[if_pos rfl,List.nil_append,bu0,List.nil_append] at hsucc
   rw[hsucc] at hle
   refine rS1 hlt' ?_
   refine aa0 [.e 0,.l 999 0] ?_
   simp
   have hO:=hP (bs++be0 M 0) (by rw[bu0,List.append_nil];omega)
   try simp[ae0,ad0] at hO
   refine ab0 20 hO ?_
   refine rS0 ?_
   refine .of hlt (Wk.rens (.l 20 0) (.l 999 0) rfl (by simp) (by simp[renF,hsucc,bu0]) (by simp[renF,b70,hsucc,bu0]))
  ·rw[if_neg h0] at hsucc
   rw[hsucc] at hle
   simp only[List.length_append,List.length_cons,List.length_nil] at hle
   have h0':(0:Int)<i:=by omega
   refine rS2 hlt' h0' ?_
   refine aa0 [.e 0,.l 999 0] ?_
   simp
   have hO:=au0 (bs++be0 M i) [[44,32]] (by simp;omega) (by simp)
   try simp[ae0,ad0] at hO
   refine ab0 17 hO ?_
   refine rS0 ?_
   refine aa0 [.e 0,.l 17 0] ?_
   simp
   have hO:=hP (bs++be0 M i++[44,32]) (by simp;omega)
   try simp[ae0,ad0] at hO
   refine ab0 20 hO ?_
   refine rS0 ?_
   refine .of hlt (Wk.rens (.l 20 0) (.l 999 0) rfl (by simp) (by simp[renF,hsucc]) (by simp[renF,b70,hsucc]))
 ·have hge':¬ (i:Int)<xs.length:=by omega
  have:i=xs.length:=by omega
  subst this
  refine rS1 hge' ?_
  refine ch0 [.l 999 0] ?_
  exact rT1 @ad0.eq_1
theorem mm0:∀ {l:List Exq} {ts:List Bs},shL l=some ts->ts.length=l.length/\∀ i (hi:i<l.length) (hi2:i<ts.length),shE l[i]=some ts[i]
 | [],ts,h=>by simp[shL] at h;subst h;exact⟨rfl,λi hi=>by simp at hi⟩
 | x::l,ts,h=>by
  rw[shL] at h
  split at h
  ·rename_i a b h1 h2
   injection h with h;subst h
   obtain⟨g1,g2⟩:=mm0 h2
   refine⟨by simp[g1],λi hi hi2=>?_⟩
   cases i with
   | zero=>exact h1
   | succ i=>exact g2 i (by simpa using hi) (by simpa using hi2)
  ·cases h
theorem r80:∀ {l:List Exq},plL l=true->∀ x∈l,plE x=true
 | [],_,x,hx=>by simp at hx
 | y::l,h,x,hx=>by
  rw[plL,Bool.and_eq_true] at h
  rcases List.mem_cons.1 hx with rfl|hx
  ·exact h.1
  ·exact r80 h.2 x hx
theorem q60 {s:Bs} (h:cT0 s=true):s.length<=16:=by
 unfold cT0 at h
 simp only[Bool.and_eq_true,decide_eq_true_eq] at h
 exact h.1.1.1.2
theorem h40 {s:Bs} (h:cT0 s=true):J prog e40 [vS (bS s)] [] (·=.ret (vS (bS s)) []):=by
 have hJ:=oK0 s (by have:=q60 h;omega)
 rw[h] at hJ;exact hJ
theorem qt0 (s:ByteArray):bS (sB s)=s:=rfl
set_option maxHeartbeats 3200000 in
theorem expr_int (num:Int) (op:Int) (text:ByteArray) (slot:Int) (type:ByteArray) (at_:Int) (h0:0<=num) (h1:num<9223372036854775808):dx0 (.mk 1 op num text slot type [] at_) (numB num):=by
 intro bs hl
 have hi:tL0 num=bS (numB num):=rfl
 refine av0 aJ0 (by simp[ae0]) ?_
 rw[Exq.V,Exq.ac0]
 simp +contextual (maxSteps:=2000000) (disch:=omega) [-Int.not_lt,-Int.not_le,-Nat.not_lt,-Nat.not_le,sx,aD0,ae0,hpE,Exq.kind,Exq.op,Exq.num,Exq.text,Exq.slot,Exq.type,Exq.args,Exq.at_]
 refine aa0 [] ?_
 simp
 have hO:=ao0
 try simp[ae0,ad0] at hO
 refine ab0 23 hO ?_
 refine rS0 ?_
 refine aa0 [] ?_
 simp
 have hO:=ao0
 try simp[ae0,ad0] at hO
 refine ab0 32 hO ?_
 refine rS0 ?_
 refine ak0 ?_;simp;refine ah0 (ix0 num (by omega) h1) (by simp) ?_
 rw[hi]
 refine rS0 ?_
 refine aa0 [.e 0,.e 1] ?_
 simp
 have hO:=au0 bs [numB num] (by simp;omega) (by simp)
 try simp[ae0,ad0] at hO
 refine ab0 38 hO ?_
 refine rS0 ?_
 refine ch0 [.l 38 0] ?_
 exact rT1 @ad0.eq_1
set_option maxHeartbeats 3200000 in
theorem tx0 (op:Int) (text:ByteArray) (slot:Int) (type:ByteArray) (at_:Int):dx0 (.mk 2 op 0 text slot type [] at_) dN0:=by
 intro bs hl
 refine av0 aJ0 (by simp[ae0]) ?_
 rw[Exq.V,Exq.ac0]
 simp +contextual (maxSteps:=2000000) (disch:=omega) [-Int.not_lt,-Int.not_le,-Nat.not_lt,-Nat.not_le,sx,aD0,ae0,hpE,Exq.kind,Exq.op,Exq.num,Exq.text,Exq.slot,Exq.type,Exq.args,Exq.at_]
 refine aa0 [] ?_
 simp
 have hO:=ao0
 try simp[ae0,ad0] at hO
 refine ab0 23 hO ?_
 refine rS0 ?_
 refine aa0 [] ?_
 simp
 have hO:=ao0
 try simp[ae0,ad0] at hO
 refine ab0 49 hO ?_
 refine rS0 ?_
 refine ak0 ?_;simp;refine ah0 (jp0 false) (by simp) ?_
 refine rS0 ?_
 refine aa0 [.e 0,.e 1] ?_
 simp
 have hO:=au0 bs [dN0] (by simp;omega) (by simp)
 try simp[ae0,ad0] at hO
 refine ab0 56 hO ?_
 refine rS0 ?_
 refine ch0 [.l 56 0] ?_
 exact rT1 @ad0.eq_1
set_option maxHeartbeats 3200000 in
theorem tz0 (op:Int) (text:ByteArray) (slot:Int) (type:ByteArray) (at_:Int):dx0 (.mk 2 op 1 text slot type [] at_) ge0:=by
 intro bs hl
 refine av0 aJ0 (by simp[ae0]) ?_
 rw[Exq.V,Exq.ac0]
 simp +contextual (maxSteps:=2000000) (disch:=omega) [-Int.not_lt,-Int.not_le,-Nat.not_lt,-Nat.not_le,sx,aD0,ae0,hpE,Exq.kind,Exq.op,Exq.num,Exq.text,Exq.slot,Exq.type,Exq.args,Exq.at_]
 refine aa0 [] ?_
 simp
 have hO:=ao0
 try simp[ae0,ad0] at hO
 refine ab0 23 hO ?_
 refine rS0 ?_
 refine aa0 [] ?_
 simp
 have hO:=ao0
 try simp[ae0,ad0] at hO
 refine ab0 49 hO ?_
 refine rS0 ?_
 refine ak0 ?_;simp;refine ah0 (jp0 true) (by simp) ?_
 refine rS0 ?_
 refine aa0 [.e 0,.e 1] ?_
 simp
 have hO:=au0 bs [ge0] (by simp;omega) (by simp)
 try simp[ae0,ad0] at hO
 refine ab0 56 hO ?_
 refine rS0 ?_
 refine ch0 [.l 56 0] ?_
 exact rT1 @ad0.eq_1
set_option maxHeartbeats 3200000 in
theorem expr_name (num:Int) (op:Int) (text:ByteArray) (slot:Int) (type:ByteArray) (at_:Int) (h:cT0 (sB text)=true):dx0 (.mk 6 op num text slot type [] at_) (sB text):=by
 intro bs hl
 have hN:=h40 h
 rw[qt0] at hN
 refine av0 aJ0 (by simp[ae0]) ?_
 rw[Exq.V,Exq.ac0]
 simp +contextual (maxSteps:=2000000) (disch:=omega) [-Int.not_lt,-Int.not_le,-Nat.not_lt,-Nat.not_le,sx,aD0,ae0,hpE,Exq.kind,Exq.op,Exq.num,Exq.text,Exq.slot,Exq.type,Exq.args,Exq.at_]
 refine aa0 [] ?_
 simp
 have hO:=ao0
 try simp[ae0,ad0] at hO
 refine ab0 23 hO ?_
 refine rS0 ?_
 refine aa0 [] ?_
 simp
 have hO:=hN
 try simp[ae0,ad0] at hO
 refine ab0 74 hO ?_
 refine rS0 ?_
 refine aa0 [.e 0,.e 1] ?_
 simp
 have hO:=au0 bs [sB text] (by simp only[List.flatten_cons,List.flatten_nil,List.append_nil];omega) (by simp)
 try simp[ae0,ad0] at hO
 refine ab0 76 hO ?_
 refine rS0 ?_
 refine ch0 [.l 76 0] ?_
 exact rT1 @ad0.eq_1
set_option maxHeartbeats 3200000 in
theorem expr_call (num:Int) (op:Int) (text:ByteArray) (slot:Int) (type:ByteArray) (at_:Int) (xs:List Exq) (ts:List Bs) (h:cT0 (sB text)=true) (hlen:ts.length=xs.length) (hx:xs.length<2 ^ 30) (hp:∀ i (hi:i<xs.length),dx0 xs[i] (ts[i]'(by omega))) :
  dx0 (.mk 7 op num text slot type xs at_) (sB text++[40]++sepB ts++[41]):=by
 intro bs hl
 simp only[List.length_append,List.length_cons,List.length_nil] at hl
 have hN:=h40 h
 rw[qt0] at hN
 refine av0 aJ0 (by simp[ae0]) ?_
 rw[Exq.V,Exq.ac0]
 simp +contextual (maxSteps:=2000000) (disch:=omega) [-Int.not_lt,-Int.not_le,-Nat.not_lt,-Nat.not_le,sx,aD0,ae0,hpE,Exq.kind,Exq.op,Exq.num,Exq.text,Exq.slot,Exq.type,Exq.args,Exq.at_]
 refine aa0 [] ?_
 simp
 have hO:=ao0
 try simp[ae0,ad0] at hO
 refine ab0 23 hO ?_
 refine rS0 ?_
 refine aa0 [] ?_
 simp
 have hO:=hN
 try simp[ae0,ad0] at hO
 refine ab0 82 hO ?_
 refine rS0 ?_
 refine aa0 [.e 0,.e 1] ?_
 simp
 have hO:=au0 bs [sB text,[40]] (by simp only[List.flatten_cons,List.flatten_nil,List.append_nil,List.length_append,List.length_cons,List.length_nil];omega) (by simp)
 try simp[ae0,ad0] at hO
 refine ab0 84 hO ?_
 refine rS0 ?_
 refine aa0 [.e 0,.l 84 0] ?_
 simp
 have hO:=list_spec xs ts hlen hx hp (bs++[sB text,[40]].flatten) (by simp only[List.flatten_cons,List.flatten_nil,List.append_nil,List.length_append,List.length_cons,List.length_nil];omega)
 try simp[ae0,ad0] at hO
 refine ab0 88 hO ?_
 refine rS0 ?_
 refine aa0 [.e 0,.l 88 0] ?_
 simp
 have hO:=au0 (bs++[sB text,[40]].flatten++sepB ts) [[41]] (by simp only[List.flatten_cons,List.flatten_nil,List.append_nil,List.length_append,List.length_cons,List.length_nil];omega) (by simp)
 try simp[ae0,ad0] at hO
 refine ab0 91 hO ?_
 refine rS0 ?_
 refine ch0 [.l 91 0] ?_
 exact rT1 @ad0.eq_1
set_option maxHeartbeats 3200000 in
theorem expr_at (num:Int) (op:Int) (text:ByteArray) (slot:Int) (type:ByteArray) (at_:Int) (x y:Exq) (a b:Bs) (hx:dx0 x a) (hy:dx0 y b):dx0 (.mk 12 op num text slot type [x,y] at_) (within a (kz0 x)++[91]++b++[93]):=by
 intro bs hl
 simp only[List.length_append,List.length_cons,List.length_nil] at hl
 generalize hb:kz0 x=q at *
 refine av0 aJ0 (by simp[ae0]) ?_
 rw[Exq.V,Exq.ac0]
 simp +contextual (maxSteps:=2000000) (disch:=omega) [-Int.not_lt,-Int.not_le,-Nat.not_lt,-Nat.not_le,sx,aD0,ae0,hpE,Exq.kind,Exq.op,Exq.num,Exq.text,Exq.slot,Exq.type,Exq.args,Exq.at_]
 refine aa0 [] ?_
 simp
 have hO:=ao0
 try simp[ae0,ad0] at hO
 refine ab0 23 hO ?_
 have cs:(x.kind=15/\q=true)\/(¬ x.kind=15/\x.kind=13/\q=true)\/(¬ x.kind=15/\¬ x.kind=13/\x.kind=14/\q=true)\/(¬ x.kind=15/\¬ x.kind=13/\¬ x.kind=14/\q=false):=by
  subst hb
  by_cases c1:x.kind=15
  ·exact .inl ⟨c1,by simp[kz0,c1]⟩
  by_cases c2:x.kind=13
  ·exact .inr (.inl ⟨c1,c2,by simp[kz0,c2]⟩)
  by_cases c3:x.kind=14
  ·exact .inr (.inr (.inl ⟨c1,c2,c3,by simp[kz0,c3]⟩))
  ·exact .inr (.inr (.inr ⟨c1,c2,c3,by simp[kz0,c1,c2,c3]⟩))
 rcases cs with⟨c1,rfl⟩|⟨c1,c2,rfl⟩|⟨c1,c2,c3,rfl⟩|⟨c1,c2,c3,rfl⟩
 ·skip
  refine rS1 c1 ?_
  refine aa0 [.e 0,.e 1] ?_
  simp
  have hO:=cy0 hx true bs (by omega)
  try simp[ae0,ad0] at hO
  refine ab0 114 hO ?_
  refine rS0 ?_
  refine aa0 [.e 0,.l 114 0] ?_
  simp
  have hO:=au0 (bs++within a true) [[91]] (by simp only[List.flatten_cons,List.flatten_nil,List.append_nil,List.length_append,List.length_cons,List.length_nil];omega) (by simp)
  try simp[ae0,ad0] at hO
  refine ab0 117 hO ?_
  refine rS0 ?_
  refine aa0 [.e 0,.l 117 0] ?_
  simp
  have hO:=hy (bs++within a true++[[91]].flatten) (by simp only[List.flatten_cons,List.flatten_nil,List.append_nil,List.length_append,List.length_cons,List.length_nil];omega)
  try simp[ae0,ad0] at hO
  refine ab0 123 hO ?_
  refine rS0 ?_
  refine aa0 [.e 0,.l 123 0] ?_
  simp
  have hO:=au0 (bs++within a true++[[91]].flatten++b) [[93]] (by simp only[List.flatten_cons,List.flatten_nil,List.append_nil,List.length_append,List.length_cons,List.length_nil];omega) (by simp)
  try simp[ae0,ad0] at hO
  refine ab0 126 hO ?_
  refine rS0 ?_
  refine ch0 [.l 126 0] ?_
  exact rT1 @ad0.eq_1
 ·skip
  refine rS2 c1 c2 ?_
  refine aa0 [.e 0,.e 1] ?_
  simp
  have hO:=cy0 hx true bs (by omega)
  try simp[ae0,ad0] at hO
  refine ab0 114 hO ?_
  refine rS0 ?_
  refine aa0 [.e 0,.l 114 0] ?_
  simp
  have hO:=au0 (bs++within a true) [[91]] (by simp only[List.flatten_cons,List.flatten_nil,List.append_nil,List.length_append,List.length_cons,List.length_nil];omega) (by simp)
  try simp[ae0,ad0] at hO
  refine ab0 117 hO ?_
  refine rS0 ?_
  refine aa0 [.e 0,.l 117 0] ?_
  simp
  have hO:=hy (bs++within a true++[[91]].flatten) (by simp only[List.flatten_cons,List.flatten_nil,List.append_nil,List.length_append,List.length_cons,List.length_nil];omega)
  try simp[ae0,ad0] at hO
  refine ab0 123 hO ?_
  refine rS0 ?_
  refine aa0 [.e 0,.l 123 0] ?_
  simp
  have hO:=au0 (bs++within a true++[[91]].flatten++b) [[93]] (by simp only[List.flatten_cons,List.flatten_nil,List.append_nil,List.length_append,List.length_cons,List.length_nil];omega) (by simp)
  try simp[ae0,ad0] at hO
  refine ab0 126 hO ?_
  refine rS0 ?_
  refine ch0 [.l 126 0] ?_
  exact rT1 @ad0.eq_1
 ·skip
  refine rS3 c1 c2 @c3 ?_
  refine aa0 [.e 0,.e 1] ?_
  simp
  have hO:=cy0 hx true bs (by omega)
  try simp[ae0,ad0] at hO
  refine ab0 114 hO ?_
  refine rS0 ?_
  refine aa0 [.e 0,.l 114 0] ?_
  simp
  have hO:=au0 (bs++within a true) [[91]] (by simp only[List.flatten_cons,List.flatten_nil,List.append_nil,List.length_append,List.length_cons,List.length_nil];omega) (by simp)
  try simp[ae0,ad0] at hO
  refine ab0 117 hO ?_
  refine rS0 ?_
  refine aa0 [.e 0,.l 117 0] ?_
  simp
  have hO:=hy (bs++within a true++[[91]].flatten) (by simp only[List.flatten_cons,List.flatten_nil,List.append_nil,List.length_append,List.length_cons,List.length_nil];omega)
  try simp[ae0,ad0] at hO
  refine ab0 123 hO ?_
  refine rS0 ?_
  refine aa0 [.e 0,.l 123 0] ?_
  simp
  have hO:=au0 (bs++within a true++[[91]].flatten++b) [[93]] (by simp only[List.flatten_cons,List.flatten_nil,List.append_nil,List.length_append,List.length_cons,List.length_nil];omega) (by simp)
  try simp[ae0,ad0] at hO
  refine ab0 126 hO ?_
  refine rS0 ?_
  refine ch0 [.l 126 0] ?_
  exact rT1 @ad0.eq_1
 ·have c3q:(x.kind == 14)=false:=by simp[c3]
  refine rS4 c1 c2 @c3 c3q ?_
  refine aa0 [.e 0,.e 1] ?_
  simp
  have hO:=cy0 hx false bs (by omega)
  try simp[ae0,ad0] at hO
  refine ab0 114 hO ?_
  refine rS0 ?_
  refine aa0 [.e 0,.l 114 0] ?_
  simp
  have hO:=au0 (bs++within a false) [[91]] (by simp only[List.flatten_cons,List.flatten_nil,List.append_nil,List.length_append,List.length_cons,List.length_nil];omega) (by simp)
  try simp[ae0,ad0] at hO
  refine ab0 117 hO ?_
  refine rS0 ?_
  refine aa0 [.e 0,.l 117 0] ?_
  simp
  have hO:=hy (bs++within a false++[[91]].flatten) (by simp only[List.flatten_cons,List.flatten_nil,List.append_nil,List.length_append,List.length_cons,List.length_nil];omega)
  try simp[ae0,ad0] at hO
  refine ab0 123 hO ?_
  refine rS0 ?_
  refine aa0 [.e 0,.l 123 0] ?_
  simp
  have hO:=au0 (bs++within a false++[[91]].flatten++b) [[93]] (by simp only[List.flatten_cons,List.flatten_nil,List.append_nil,List.length_append,List.length_cons,List.length_nil];omega) (by simp)
  try simp[ae0,ad0] at hO
  refine ab0 126 hO ?_
  refine rS0 ?_
  refine ch0 [.l 126 0] ?_
  exact rT1 @ad0.eq_1
set_option maxHeartbeats 3200000 in
theorem rR0 (num:Int) (op:Int) (text:ByteArray) (slot:Int) (type:ByteArray) (at_:Int) (x:Exq) (a:Bs) (hx:dx0 x a):dx0 (.mk 13 op num text slot type [x] at_) ([45]++within a (decide (x.kind=15))):=by
 intro bs hl
 simp only[List.length_append,List.length_cons,List.length_nil] at hl
 obtain⟨q,hq⟩:∃ q,decide (x.kind=15)=q:=⟨_,rfl⟩
 rw[hq] at hl ⊢
 have hq2:(x.kind == 15)=q:=by rw[<- hq];rfl
 have e1:(bS [45,33]).extract 0 2=bS [45,33]:=by rw[c60];rfl
 have e2:(bS [45,33]).extract 0 1=bS [45]:=by rw[c60];rfl
 refine av0 aJ0 (by simp[ae0]) ?_
 rw[Exq.V,Exq.ac0]
 simp +contextual (maxSteps:=2000000) (disch:=omega) [-Int.not_lt,-Int.not_le,-Nat.not_lt,-Nat.not_le,sx,aD0,ae0,hpE,Exq.kind,Exq.op,Exq.num,Exq.text,Exq.slot,Exq.type,Exq.args,Exq.at_]
 refine aa0 [] ?_
 simp
 have hO:=ao0
 try simp[ae0,ad0] at hO
 refine ab0 23 hO ?_
 refine rS3 e1 e2 @dJ0 ?_
 refine aa0 [.e 0,.e 1] ?_
 simp
 have hO:=au0 bs [[45]] (by simp only[List.flatten_cons,List.flatten_nil,List.append_nil,List.length_append,List.length_cons,List.length_nil];omega) (by simp)
 try simp[ae0,ad0] at hO
 refine ab0 137 hO ?_
 refine rS1 hq2 ?_
 refine aa0 [.e 0,.l 137 0] ?_
 simp
 have hO:=cy0 hx q (bs++[[45]].flatten) (by simp only[List.flatten_cons,List.flatten_nil,List.append_nil,List.length_append,List.length_cons,List.length_nil];omega)
 try simp[ae0,ad0] at hO
 refine ab0 149 hO ?_
 refine rS0 ?_
 refine ch0 [.l 149 0] ?_
 exact rT1 @ad0.eq_1
set_option maxHeartbeats 3200000 in
theorem rU0 (num:Int) (op:Int) (text:ByteArray) (slot:Int) (type:ByteArray) (at_:Int) (x:Exq) (a:Bs) (hx:dx0 x a):dx0 (.mk 14 op num text slot type [x] at_) ([33]++within a (decide (x.kind=15))):=by
 intro bs hl
 simp only[List.length_append,List.length_cons,List.length_nil] at hl
 obtain⟨q,hq⟩:∃ q,decide (x.kind=15)=q:=⟨_,rfl⟩
 rw[hq] at hl ⊢
 have hq2:(x.kind == 15)=q:=by rw[<- hq];rfl
 have e1:(bS [45,33]).extract 1 2=bS [33]:=by rw[c60];rfl
 have e2:(bS [33]).extract 0 1=bS [33]:=by rw[c60];rfl
 refine av0 aJ0 (by simp[ae0]) ?_
 rw[Exq.V,Exq.ac0]
 simp +contextual (maxSteps:=2000000) (disch:=omega) [-Int.not_lt,-Int.not_le,-Nat.not_lt,-Nat.not_le,sx,aD0,ae0,hpE,Exq.kind,Exq.op,Exq.num,Exq.text,Exq.slot,Exq.type,Exq.args,Exq.at_]
 refine aa0 [] ?_
 simp
 have hO:=ao0
 try simp[ae0,ad0] at hO
 refine ab0 23 hO ?_
 refine rS3 e1 e2 @dJ0 ?_
 refine aa0 [.e 0,.e 1] ?_
 simp
 have hO:=au0 bs [[33]] (by simp only[List.flatten_cons,List.flatten_nil,List.append_nil,List.length_append,List.length_cons,List.length_nil];omega) (by simp)
 try simp[ae0,ad0] at hO
 refine ab0 137 hO ?_
 refine rS1 hq2 ?_
 refine aa0 [.e 0,.l 137 0] ?_
 simp
 have hO:=cy0 hx q (bs++[[33]].flatten) (by simp only[List.flatten_cons,List.flatten_nil,List.append_nil,List.length_append,List.length_cons,List.length_nil];omega)
 try simp[ae0,ad0] at hO
 refine ab0 149 hO ?_
 refine rS0 ?_
 refine ch0 [.l 149 0] ?_
 exact rT1 @ad0.eq_1
set_option maxHeartbeats 3200000 in
theorem expr_bin (num:Int) (op:Int) (text:ByteArray) (slot:Int) (type:ByteArray) (at_:Int) (x y:Exq) (a b:Bs) (hop:opOk op=true) (hx:dx0 x a) (hy:dx0 y b) (ox:x.kind=15->opOk x.op=true) (oy:y.kind=15->opOk y.op=true) :
  dx0 (.mk 15 op num text slot type [x,y] at_) (within a (cj0 x (if lvl op=3 then 4 else lvl op))++[32]++opB op++[32]++within b (cj0 y (lvl op+1))):=by
 intro bs hl
 simp only[List.length_append,List.length_cons,List.length_nil] at hl
 have hop':=hop
 unfold opOk at hop'
 simp only[decide_eq_true_eq] at hop'
 have hq:op.toNat-1<pOps.length:=by show op.toNat-1<13;omega
 have hg:pOps[op.toNat-1]=opB op:=by
  unfold opB
  rw[List.getD_eq_getElem?_getD,List.getElem?_eq_getElem hq];rfl
 have hlv:1<=lvl op/\lvl op<=5:=by
  unfold lvl
  split
  ·omega
  ·split
   ·omega
   ·split<;>omega
 refine av0 aJ0 (by simp[ae0]) ?_
 rw[Exq.V,Exq.ac0]
 simp +contextual (maxSteps:=2000000) (disch:=omega) [-Int.not_lt,-Int.not_le,-Nat.not_lt,-Nat.not_le,sx,aD0,ae0,hpE,Exq.kind,Exq.op,Exq.num,Exq.text,Exq.slot,Exq.type,Exq.args,Exq.at_]
 refine aa0 [] ?_
 simp
 have hO:=ao0
 try simp[ae0,ad0] at hO
 refine ab0 23 hO ?_
 refine rS0 ?_
 refine ak0 ?_;simp;refine ah0 (jT0 op hop) (by simp) ?_
 generalize hL:lvl op=L at *
 by_cases h3:L=3
 ·subst h3;rw[if_pos rfl,show (3:Int)+1=4 from rfl] at hl ⊢
  refine rS0 ?_
  refine dz0 ?_;simp;refine ah0 (eR0 x 4 ox) (by simp) ?_
  refine rS0 ?_
  refine aa0 [.e 0,.e 1] ?_
  simp
  have hO:=cy0 hx (cj0 x 4) bs (by omega)
  try simp[ae0,ad0] at hO
  refine ab0 171 hO ?_
  refine rS0 ?_
  refine dz0 ?_;simp;refine ah0 (jU0) (by simp) ?_
  refine rS1 hg ?_
  refine aa0 [.e 0,.l 171 0] ?_
  simp
  have hO:=au0 (bs++within a (cj0 x 4)) [[32],opB op,[32]] (by simp only[List.flatten_cons,List.flatten_nil,List.append_nil,List.length_append,List.length_cons,List.length_nil];omega) (by simp)
  try simp[ae0,ad0] at hO
  refine ab0 180 hO ?_
  refine rS0 ?_
  refine dz0 ?_;simp;refine ah0 (eR0 y (4) oy) (by simp) ?_
  refine rS0 ?_
  refine aa0 [.e 0,.l 180 0] ?_
  simp
  have hO:=cy0 hy (cj0 y (4)) (bs++within a (cj0 x 4)++[[32],opB op,[32]].flatten) (by simp only[List.flatten_cons,List.flatten_nil,List.append_nil,List.length_append,List.length_cons,List.length_nil];omega)
  try simp[ae0,ad0] at hO
  refine ab0 193 hO ?_
  refine rS0 ?_
  refine ch0 [.l 193 0] ?_
  exact rT1 @ad0.eq_1
 ·rw[if_neg h3] at hl ⊢
  refine rS1 h3 ?_
  refine dz0 ?_;simp;refine ah0 (eR0 x L ox) (by simp) ?_
  refine rS0 ?_
  refine aa0 [.e 0,.e 1] ?_
  simp
  have hO:=cy0 hx (cj0 x L) bs (by omega)
  try simp[ae0,ad0] at hO
  refine ab0 171 hO ?_
  refine rS0 ?_
  refine dz0 ?_;simp;refine ah0 (jU0) (by simp) ?_
  refine rS1 hg ?_
  refine aa0 [.e 0,.l 171 0] ?_
  simp
  have hO:=au0 (bs++within a (cj0 x L)) [[32],opB op,[32]] (by simp only[List.flatten_cons,List.flatten_nil,List.append_nil,List.length_append,List.length_cons,List.length_nil];omega) (by simp)
  try simp[ae0,ad0] at hO
  refine ab0 180 hO ?_
  refine rS0 ?_
  refine dz0 ?_;simp;refine ah0 (eR0 y (L+1) oy) (by simp) ?_
  refine rS0 ?_
  refine aa0 [.e 0,.l 180 0] ?_
  simp
  have hO:=cy0 hy (cj0 y (L+1)) (bs++within a (cj0 x L)++[[32],opB op,[32]].flatten) (by simp only[List.flatten_cons,List.flatten_nil,List.append_nil,List.length_append,List.length_cons,List.length_nil];omega)
  try simp[ae0,ad0] at hO
  refine ab0 193 hO ?_
  refine rS0 ?_
  refine ch0 [.l 193 0] ?_
  exact rT1 @ad0.eq_1
end Go.Am
end

section
namespace Go.Proofs
open Go.Shelf
def Tryz.qS0:Go.Shelf.Ren:=⟨fun|15=>124|20=>139|n=>n,fun|9=>9|23=>160|3=>3|4=>4|0=>0|21=>21|n=>n,fun|n=>n⟩
theorem Tryz.laysGw15:Go.Proofs.LaysGw.n15 Tryz.prog Tryz.qS0:={
 mixed:=by kernel_rfl
 f15:=Tryz.func124.trans (congrArg some (by kernel_rfl))
 f20:=Tryz.func139.trans (congrArg some (by kernel_rfl))
 t0:=Tryz.underlying0
 a0:=Tryz.isAgg0
 z0:=Tryz.sizeOf0
 v0:=Tryz.zeroValue0
 i0:=by kernel_rfl
 t3:=Tryz.underlying3
 a3:=Tryz.isAgg3
 z3:=Tryz.sizeOf3
 v3:=Tryz.zeroValue3
 i3:=by kernel_rfl
 t4:=Tryz.underlying4
 a4:=Tryz.isAgg4
 z4:=Tryz.sizeOf4
 v4:=Tryz.zeroValue4
 i4:=by kernel_rfl
 t9:=Tryz.underlying9
 a9:=Tryz.isAgg9
 z9:=Tryz.sizeOf9
 v9:=Tryz.zeroValue9
 i9:=by kernel_rfl
 t21:=Tryz.underlying21
 a21:=Tryz.isAgg21
 z21:=Tryz.sizeOf21
 v21:=Tryz.zeroValue21
 i21:=by kernel_rfl
 t23:=Tryz.underlying160
 a23:=Tryz.isAgg160
 z23:=Tryz.sizeOf160
 v23:=Tryz.zeroValue160
 i23:=by kernel_rfl }
end Go.Proofs
end
