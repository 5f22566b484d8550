/- ShowLines of the given program, part 4 of 5 of the proof: for all arguments within the bound the law answers true, and each argument reads behind the call as before. Conditions: those of the given card. -/
import Derived.Test.YtnlggapedakocaaGreatDoorZ3
import Derived.Lib.Overlaps
import Derived.Lib.Bytealg
import Derived.Lib.LaidTab
import Derived.Shelf.Strconv.Itoa4
import Derived.Test.YtnlggapedakocaaGreatDoorTie
import Derived.WalkKit
import Derived.OpenShut
import Derived.Deep.DeepHandedRow
import Derived.Below
import Derived.Shelf.Strings.OnBuilder
import Derived.Test.YtnlggapedakocaaGreatDoorProg
import Derived.Shelf.Strings.Builder1
import Derived.Shelf.Strings.FuncGrows
set_option maxHeartbeats 1600000
set_option linter.all false
set_option linter.unusedVariables false
set_option linter.unusedSimpArgs false
set_option linter.unnecessarySimpa false
section
namespace Go.Am
variable {P:Program}
theorem JP.congr {H:Imm} {μ:Mu} {k:Nat} {hp hq:Hp} {w:World} (ho:∀ b,Owns hq μ b ↔ Owns hp μ b) {r:Res} {e:Ending} {H':Imm} {μ':Mu} {w':World} (h:JP H μ k hp w r e H' μ' w'):JP H μ k hq w r e H' μ' w':=by
 have nj:∀ {hp':Hp},Nj H μ hp w H' μ' hp' w'->Nj H μ hq w H' μ' hp' w':=fun n =>
  ⟨n.imm,n.os,n.tape,n.output,n.size,fun b hb hno=>n.keep b hb fun h=>hno ((ho b).2 h),fun b h hb=>(ho b).2 (n.own b h hb),fun b cs h h0=>(n.fresh b cs h h0).imp id (ho b).2⟩
 cases r with
 | ret v obs=>exact ⟨h.1,nj h.2.1,h.2.2⟩
 | pan v obs=>exact ⟨h.1,nj h.2.1,h.2.2⟩
def rest (vals:Array Value) (sz k m:Nat):List (List V):=(List.range m).map fun j=>(List.range sz).map fun q=>V.c (vals.getD ((k + j) * sz + q) undef)
def preO (o' o:Ob):Prop:=o'=o\/∃ ty sz own xs t,o=.row ty sz own (xs++t)/\o'=.row ty sz own xs
theorem preO_row {ty sz:Nat} {own:Bool} {xs t ys:List (List V)} (h:ys=xs++t):preO (.row ty sz own xs) (.row ty sz own ys):=.inr ⟨ty,sz,own,xs,t,by rw [h],rfl⟩
theorem ObOk.pre {H:Imm} {μ:Mu} {w:World} {i:Id} {o o':Ob} (h:ObOk H μ w i o) (hp:preO o' o):ObOk H μ w i o'/\o'.own=o.own:=by
 rcases hp with rfl | ⟨ty,sz,own,xs,t,rfl,rfl⟩
 ·exact ⟨h,rfl⟩
 ·refine ⟨?_,rfl⟩
  rcases h with ⟨h1,h2⟩ | ⟨blk,vals,h1,h2,h3,h4,h5,h6,h7,h8,h9⟩
  ·exact .inl ⟨(List.append_eq_nil_iff.1 h1).1,h2⟩
  ·have get:∀ (k:Nat) (e:List V),xs[k]?=some e->(xs++t)[k]?=some e:=fun k e he=>by
    rw [List.getElem?_append_left (List.getElem?_eq_some_iff.1 he).1]; exact he
   exact .inr ⟨blk,vals,h1,h2,h3,h4,by simp at h5; omega,fun k e he=>h6 k e (get k e he),h7,h8,fun k e he=>h9 k e (get k e he)⟩
theorem Wk.pre {env E:Env} {hp h:Hp} (hE:∀ p ∈ E,bc0 env p.1 (·=p.2)) (hh:∀ p ∈ h,objK hp p.1 fun o=>preO p.2 o):Wk E h env hp:=fun n H μ a w hS=>by
 have hob:∀ i o,h.lookup i=some o->∃ o',hp.lookup i=some o'/\preO o o':=by
  intro i o hl
  have:=hh (i,o) (bB0 hl)
  rw [h90] at this
  exact this
 have hW:=hS.wd
 refine ⟨H,μ,⟨hS.defers,hS.size,fun s v hs=>?_,⟨fun i o hl=>?_,fun i j oi oj bi bj hi hoi hj hoj hbi hbj e=>?_,hW.imm,hW.glo⟩⟩,⟨⟨Imm.le_refl H,rfl,rfl,rfl,Nat.le_refl _,fun _ _ _=>rfl,fun b hO _=>?_,fr0⟩,fun _=>rfl⟩⟩
 ·have h1:=hE (s,v) (bB0 hs)
  rw [eM0] at h1
  obtain ⟨u,h2,rfl⟩:=h1
  exact hS.env s u h2
 ·obtain ⟨o',h1,h2⟩:=hob i o hl
  exact ((hW.ob i o' h1).pre h2).1
 ·obtain ⟨o1,h1,h2⟩:=hob i oi hi
  obtain ⟨o2,k1,k2⟩:=hob j oj hj
  exact hW.inj i j o1 o2 bi bj h1 (by rw [<- ((hW.ob i o1 h1).pre h2).2]; exact hoi) k1 (by rw [<- ((hW.ob j o2 k1).pre k2).2]; exact hoj) hbi hbj e
 ·obtain ⟨i,o,blk,h1,h2,h3,h4⟩:=hO
  obtain ⟨o',k1,k2⟩:=hob i o h1
  exact ⟨i,o',blk,k1,by rw [<- ((hW.ob i o' k1).pre k2).2]; exact h2,h3,h4⟩
end Go.Am
end

section
namespace Go.Am
variable {P:Program} {env:Env} {hp:Hp}
def dfrS (P:Program) (k:Nat) (t:Operand) (args:List Operand) (c:Cd) (QD:FuncId->List V->Qs) (e:Env) (h:Hp):Prop :=
 ∃ g caps vs,Env.ev e t=some (.fn g caps)/\args.mapM (Env.ev e)=some vs/\∃ E h' cs',WkE k E h' cs' e h (vs++caps)/\V.kz0 cs'=true/\vc P c E h' (QD g cs')
theorem fj0 {k c f Q QD}:vcF P k (.seq c f) env hp Q QD=vc P c env hp (hold (l80 (fun e h=>vcF P k f e h Q QD) Q)):=_root_.id rfl
theorem nj0 {k v f g Q QD}:vcF P k (.ite v f g) env hp Q QD=evK env v (hold fun u=>bC0 u (hold fun t=>(t=true->vcF P k f env hp Q QD)/\(t=false->vcF P k g env hp Q QD))):=by
 simp only [vcF,hold,bU0,ok0]
theorem jg0 {k c Q QD}:vcF P k (.plain c) env hp Q QD=vc P c env hp Q:=_root_.id rfl
theorem fi0 {k is t args c Q QD}:vcF P k (.dfr is t args c) env hp Q QD=vcIs P env hp is (hold fun e h=>dfrS P k t args c QD e h) (hold fun v h=>Q (.pan v) [] h):=_root_.id rfl
theorem or0 {k t args c QD} {g:FuncId} {caps vs cs':List V} {E:Env} {h':Hp} (h1:Env.ev env t=some (.fn g caps)) (h2:args.mapM (Env.ev env)=some vs) (hw:WkE k E h' cs' env hp (vs++caps)) (ha:V.kz0 cs'=true)
  (h:vc P c E h' (QD g cs')):dfrS P k t args c QD env hp:=⟨g,caps,vs,h1,h2,E,h',cs',hw,ha,h⟩
theorem JD.mono {rec:Bool} {f:FuncId} {args:List V} {obs:List Ob} {pv:Option V} {Q Q':Res->Prop} (h:JD P rec f args obs pv Q) (hq:∀ r,Q r->Q' r):JD P rec f args obs pv Q':=fun H μ vs w u h1 h2 h3=>by
 obtain ⟨k1,k2⟩:=h H μ vs w u h1 h2 h3
 refine ⟨k1,k2.mono fun e u' w' ⟨q1,r,H',μ',q2,q3⟩=>⟨q1,r,H',μ',hq r q2,q3⟩⟩
def dJ (P:Program) (rec:Bool) (g:FuncId) (args:List V) (obs:List Ob) (pv:Option V) (env:Env) (hp:Hp) (ids:List Id) (K:Env->Hp->Prop):Prop :=
 JD P rec g args obs pv fun r=>match r with
  | .ret v obs'=>∃ base,fB0 env hp ids base v obs' fun _ env' hp'=>K env' hp'
  | .pan _ _=>False
theorem dZ0 {rec:Bool} {g:FuncId} {cs:List V} {pv:Option V} {K:Env->Hp->Prop} (ids:List Id) (hnd:ids.Nodup)
  (h:V.seeL false ids (Hp.frz (.tup (V.bq0 ids (cs++boxes hp ids))) hp) cs (hold fun us=>c70 (toE ids 0) us (hold fun args =>
   eZ0 ids (Hp.frz (.tup (V.bq0 ids (cs++boxes hp ids))) hp) ids (hold fun obs=>dJ P rec g args obs pv env (Hp.frz (.tup (V.bq0 ids (cs++boxes hp ids))) hp) ids K)))):kC0 P rec g cs pv env hp K :=
 ⟨ids,hnd,h⟩
theorem lJ0 {rec:Bool} {g:FuncId} {args:List V} {obs obs':List Ob} {pv:Option V} {ids:List Id} {K:Env->Hp->Prop} {v:V} (h:JD P rec g args obs pv (·=.ret v obs')) (hl:obs'.length<=ids.length)
  (hK:fB0 env hp ids 0 v obs' (hold fun _ env' hp'=>K env' hp')):dJ P rec g args obs pv env hp ids K:=h.mono fun r e=>by subst e; exact ⟨0,hK⟩
theorem dJ_retB {rec:Bool} {g:FuncId} {args:List V} {obs obs':List Ob} {pv:Option V} {ids:List Id} {K:Env->Hp->Prop} {v:V} (base:Nat) (h:JD P rec g args obs pv (·=.ret v obs'))
  (hK:fB0 env hp ids base v obs' (hold fun _ env' hp'=>K env' hp')):dJ P rec g args obs pv env hp ids K:=h.mono fun r e=>by subst e; exact ⟨base,hK⟩
theorem mc0 {k:Nat} {rs:List IOp} {Q:Res->Prop} {rec:Bool} {g:FuncId} {cs:List V} (E:Env) (h:Hp) (hw:Wk E h env hp) (hd:kC0 P rec g cs none E h (wkQ (retX k rs Q) .ret)):dEnd P k rs Q rec g cs .ret env hp:=⟨E,h,hw,hd⟩
theorem dEnd_nrm {k:Nat} {rs:List IOp} {Q:Res->Prop} {rec:Bool} {g:FuncId} {cs:List V} (E:Env) (h:Hp) (hw:Wk E h env hp) (hd:kC0 P rec g cs none E h (wkQ (retX k rs Q) .ret)):dEnd P k rs Q rec g cs .normal env hp:=⟨E,h,hw,hd⟩
theorem mb0 {k:Nat} {rs:List IOp} {Q:Res->Prop} {g:FuncId} {cs:List V} {p:V} (hpu:p.pure=true) (E:Env) (h:Hp) (hw:Wk E h env hp) (hd:kC0 P true g cs (some p) E h (wkQ (retX k rs Q) .ret)):dEnd P k rs Q true g cs (.pan p) env hp:=⟨hpu,E,h,hw,hd⟩
end Go.Am
end

section
namespace Go.Am
set_option maxRecDepth 100000
attribute [local irreducible] vc vcIs vcI vcOp vcD vcDp vcDR vcT vcAR bY0 aX0 panD neG ne pv J bJ0 bP0 b20 bc0 evK evsK nthK objK boxK rowK bC0 intK strK aggK fnK ifcK ay0 az0 ldK ldaK iaK srcK stK appK appD b40 pvK bD0 aV0 bO0 bs0 slAV bI0
abbrev vI (n:Int):V:=.c (.int .i64 n)
abbrev vB (b:Bool):V:=.c (.bool b)
abbrev vS (s:ByteArray):V:=.c (.string s)
abbrev vU (c:UInt8):V:=.c (.int .u8 c.toNat)
theorem jA0 (s:ByteArray) (c:UInt8):Ret prog dS0 [vS s,vU c] (vI (Lib.indexByte (sB s) c)) :=
 J_ext (fn:=Go.Proofs.Tryz.f110) Go.Proofs.Tryz.func110 (by kernel_rfl) (by kernel_rfl) (by kernel_rfl) (e:=Extern.BytealgIndexByte.indexByte) (by kernel_rfl) (fun H μ us h=>h.two) (fun w=>by rw [Lib.run_indexByteString]; simp) (fun H μ=>.c _)
theorem gD0 (s:ByteArray) (c:UInt8):Ret prog cn0 [vS s,vU c] (vI (Lib.indexByte (sB s) c)):=by
 refine cZ0 ef0 (by simp) ?_
 refine rS1 @b70.eq_1 ?_
 refine ao0 ?_; simp; refine aj0 (jA0 s c) (by simp) ?_
 exact rT0
theorem aM0 (s:ByteArray) (c:UInt8):Ret prog gl0 [vS s,vU c] (vI (Lib.indexByte (sB s) c)):=by
 refine cZ0 jM0 (by simp) ?_
 refine rS1 @fw0.eq_1 ?_
 refine ao0 ?_; simp; refine aj0 (gD0 s c) (by simp) ?_
 exact rT0
theorem iL0 (l:List UInt8) (c:UInt8):Lib.indexByte l c < l.length:=by
 induction l with
 | nil=>simp [Lib.indexByte]
 | cons b l ih =>
  unfold Lib.indexByte
  simp only [List.length_cons]
  split
  ·omega
  ·split <;> omega
theorem cc0 (l:List UInt8) (c:UInt8):0<=Lib.indexByte l c ↔ l.contains c=true:=by
 induction l with
 | nil=>simp [Lib.indexByte]
 | cons b l ih =>
  have hge:=Lib.indexByte_ge l c
  unfold Lib.indexByte
  rw [List.contains_cons,Bool.or_eq_true,<- ih]
  by_cases h1:b=c
  ·subst h1; simp
  ·have h2:¬ c=b:=fun hh=>h1 hh.symm
   have h3:(b == c)=false:=by simpa using h1
   have h4:(c == b)=false:=by simpa using h2
   rw [h3,h4]
   by_cases h5:Lib.indexByte l c=-1
   ·rw [h5]; simp
   ·have h6:(Lib.indexByte l c == -1)=false:=by simpa using h5
    rw [h6]; simp only [Bool.false_eq_true,if_false,false_or]; omega
structure LxS where
 s:ByteArray
 at_:Int
 out:List Tok
def LxS.obs (x:LxS):List Ob:=[.box [vS x.s,vI x.at_,.arr (.e 1) 0 x.out.length],.row bZ0 4 true (x.out.map Tok.cells)]
theorem aU0 (x:LxS) (a e:Int):J prog ih0 [.bp (.e 0) 0,vI a,vI e] x.obs (·=.pan (.ifc ks0 (.agg [vI a,vI e])) x.obs):=by
 refine at0 lh0 (by simp [LxS.obs]) ?_
 refine rS4 @hh0.eq_1 @LxS.obs.eq_1 @hpE.eq_1 @hpE.eq_2 ?_
 refine endP ?_
 exact rT0
theorem iN0 (x:LxS) (set:ByteArray) (i:Nat) (hx:x.at_=i) (hs:x.s.size < 2 ^ 40) :
  J prog fZ0 [.bp (.e 0) 0,vS set] x.obs (·=.ret (vI (bf0 (sB set) (sB x.s) i)) x.obs):=by
 have hz:x.s.size=(sB x.s).length:=rfl
 refine at0 il0 (by simp [LxS.obs]) ?_
 refine rS5 @fc0.eq_1 @LxS.obs.eq_1 @hpE.eq_1 @hpE.eq_2 hx ?_
 refine aH0 (fun j:Nat=>x.s.size - j) (fun j=>[(5,vI j),(1,vS set),(0,.bp (.e 0) 0)])
  (fun _=>[(.e 0,.box [vS x.s,vI x.at_,.arr (.e 1) 0 x.out.length]),(.e 1,.row bZ0 4 true (x.out.map Tok.cells))])
  (fun j=>bf0 (sB set) (sB x.s) j=bf0 (sB set) (sB x.s) i) i rfl (Wk.subs (by simp) (by simp [hx])) ?_
 intro j hj
 refine rS0 ?_
 refine ⟨fun hl=>?_,fun hl=>?_⟩
 ·have hl':j < (sB x.s).length:=by rw [<- hz]; exact hl
  refine ⟨(sB x.s)[j],by simp [sB],?_⟩
  refine ao0 ?_; simp; refine aj0 (aM0 set (sB x.s)[j]) (by simp) ?_
  refine rS0 ?_
  refine ⟨fun hc=>?_,fun hc=>?_⟩
  ·have hm:=(cc0 _ _).1 hc
   refine .of (j + 1) (by rw [<- hj,oY0 hl' hm]) (by omega) (Wk.subs (by simp) (by simp [hx]))
  ·have hm:(sB set).contains (sB x.s)[j]=false:=by
    rw [<- Bool.not_eq_true]; intro h; exact hc ((cc0 _ _).2 h)
   rw [p60 hl' hm] at hj
   refine ax0 [] ?_
   exact rT2 hj hx
 ·rw [p50 (by omega)] at hj
  refine ax0 [] ?_
  exact rT2 hj hx
theorem dP0 (s:ByteArray) (i j:Nat):sB (s.extract i j)=((sB s).drop i).take (j - i):=by
 obtain ⟨⟨l⟩⟩:=s
 simp [sB,ByteArray.extract,ByteArray.copySlice]
theorem gE0 {s:Bs} {f i:Nat} (h:s[bf0 bd0 s i]? ≠ some 35):aR0 s (f + 1) i=bf0 bd0 s i:=by
 rw [aR0,if_neg h]
theorem lD0 {s:Bs} {f i:Nat} (h:s[bf0 bd0 s i]?=some 35):aR0 s (f + 1) i=aR0 s f (if Lib.indexByte (s.drop (bf0 bd0 s i)) 10 < 0 then s.length else bf0 bd0 s i + (Lib.indexByte (s.drop (bf0 bd0 s i)) 10).toNat):=by
 rw [aR0,if_pos h]
theorem nA0 (x:LxS) (i:Nat) (hx:x.at_=i) (hi:i<=x.s.size) (hs:x.s.size < 2 ^ 40) :
  J prog eA0 [.bp (.e 0) 0] x.obs (·=.ret (.tup []) ({ x with at_:=aR0 (sB x.s) (x.s.size + 1) i }:LxS).obs):=by
 have hz:x.s.size=(sB x.s).length:=rfl
 refine at0 gN0 (by simp [LxS.obs]) ?_
 refine rS4 @dU0.eq_1 @LxS.obs.eq_1 @hpE.eq_1 @hpE.eq_2 ?_
 refine aH0 (fun y:Nat × Nat=>y.1) (fun y=>[(0,.bp (.e 0) 0)])
  (fun y=>[(.e 0,.box [vS x.s,vI y.2,.arr (.e 1) 0 x.out.length]),(.e 1,.row bZ0 4 true (x.out.map Tok.cells))])
  (fun y=>y.2<=x.s.size/\x.s.size - y.2 < y.1/\aR0 (sB x.s) y.1 y.2=aR0 (sB x.s) (x.s.size + 1) i) (x.s.size + 1,i) ⟨hi,by show x.s.size - i < x.s.size + 1; omega,rfl⟩ (Wk.subs (by simp) (by simp [hx])) ?_
 rintro ⟨f,j⟩ ⟨hj,hf,hb⟩
 dsimp only at hj hf hb
 obtain ⟨f,rfl⟩:∃ f',f=f' + 1:=⟨f - 1,by omega⟩
 have hge:=jt0 bd0 (sB x.s) j
 have hle:bf0 bd0 (sB x.s) j<=x.s.size:=ju0 hj
 refine rS0 ?_
 refine aa0 [.e 0,.e 1] ?_
 simp
 have hO:=iN0 { x with at_:=j } ⟨⟨[32,10,9]⟩⟩ j rfl hs
 try simp [LxS.obs] at hO
 refine ab0 5 hO ?_
 rw [show sB ⟨⟨[32,10,9]⟩⟩=bd0 from rfl]
 generalize hp:bf0 bd0 (sB x.s) j=p at *
 refine rS0 ?_
 refine ⟨fun hl=>?_,fun hl=>?_⟩
 ·rw [gE0 (by rw [hp,List.getElem?_eq_none (by omega)]; simp),hp] at hb
  refine ax0 [] ?_
  simp +contextual (maxSteps:=2000000) (disch:=omega) [-Int.not_lt,-Int.not_le,-Nat.not_lt,-Nat.not_le,sx,<- hb]
 have hl':p < (sB x.s).length:=by omega
 refine ⟨(sB x.s)[p],by simp [sB],fun hc=>?_,fun hc=>?_⟩
 ·rw [gE0 (by rw [hp,List.getElem?_eq_getElem hl']; intro h; apply hc; injection h with h; rw [h]; rfl),hp] at hb
  refine ax0 [] ?_
  simp +contextual (maxSteps:=2000000) (disch:=omega) [-Int.not_lt,-Int.not_le,-Nat.not_lt,-Nat.not_le,sx,<- hb]
 have hc':(sB x.s)[p]=35:=by
  apply UInt8.toNat_inj.1; exact_mod_cast hc
 refine ao0 ?_; simp; refine aj0 (aM0 (x.s.extract p x.s.size) 10) (by simp) ?_
 rw [dP0,List.take_of_length_le (by simp)]
 have hlt:=iL0 ((sB x.s).drop p) 10
 have h0:0 < (Lib.indexByte ((sB x.s).drop p) 10)\/(Lib.indexByte ((sB x.s).drop p) 10) < 0:=by
  rw [List.drop_eq_getElem_cons hl',hc']
  have hge:=Lib.indexByte_ge ((sB x.s).drop (p + 1)) 10
  unfold Lib.indexByte
  by_cases h5:Lib.indexByte ((sB x.s).drop (p + 1)) 10=-1
  ·rw [h5]; right; decide
  ·left
   have h6:(Lib.indexByte ((sB x.s).drop (p + 1)) 10 == -1)=false:=by simpa using h5
   rw [h6,show ((35:UInt8) == 10)=false from rfl]
   simp only [Bool.false_eq_true,if_false]; omega
 rw [lD0 (by rw [hp,List.getElem?_eq_getElem hl',hc']),hp] at hb
 generalize hq:Lib.indexByte ((sB x.s).drop p) 10=q at *
 simp only [List.length_drop] at hlt
 refine rS0 ?_
 refine ⟨fun hq0=>?_,fun hq0=>?_⟩
 ·obtain ⟨m,rfl⟩:=Int.eq_ofNat_of_zero_le hq0
  rw [if_neg (by omega)] at hb
  refine .of (f,p + m) ⟨by dsimp only; omega,by dsimp only; omega,hb⟩ (by simp) (Wk.subs (by simp) (by simp))
 ·rw [if_pos (by omega)] at hb
  refine .of (f,x.s.size) ⟨by dsimp only; omega,by dsimp only; omega,hb⟩ (by simp) (Wk.subs (by simp) (by simp))
def LxS.obs' (x:LxS):List Ob:=[.box [vS x.s,vI x.at_,.arr (.e 2) 0 x.out.length],.gone,.row bZ0 4 true (x.out.map Tok.cells)]
theorem eH0 (x:LxS) (t:Tok) (e:Int) (hn:x.out.length < 4096) :
  J prog fY0 [.bp (.e 0) 0,t.V,vI e] x.obs (·=.ret (.tup []) ({ x with out:=x.out++[{ t with at_:=x.at_ }],at_:=e }:LxS).obs'):=by
 refine at0 ik0 (by simp [LxS.obs]) ?_
 refine rS4 @fb0.eq_1 @LxS.obs.eq_1 @hpE.eq_1 @hpE.eq_2 ?_
 refine b10 [.l 30 0] ?_
 exact rT2 @LxS.obs'.eq_1 @Tok.ac0
theorem dF0 (x:LxS) (t:Tok) (e:Int) (hn:4096<=x.out.length) (hl:x.out.length < 2 ^ 40) :
  J prog fY0 [.bp (.e 0) 0,t.V,vI e] x.obs (·=.pan (.ifc ks0 (.agg [vI x.at_,vI 36])) x.obs):=by
 refine at0 ik0 (by simp [LxS.obs]) ?_
 refine rS4 @fb0.eq_1 @LxS.obs.eq_1 @hpE.eq_1 @hpE.eq_2 ?_
 refine aa0 [.e 0,.e 1] ?_
 simp
 have hO:=aU0 x x.at_ 36
 try simp [LxS.obs] at hO
 refine af0 hO ?_
 refine rS0 ?_
 refine endP ?_
 exact rT0
end Go.Am
end

section
namespace Go.Am
open Go
open Go.Proofs.YtnlggapedakocaaGreatDoor (Rows.uptoBulk Rows.uptoBulkAll)
set_option maxRecDepth 100000
section
variable {H:Type} {enc:TypeId × Value->H} {W:World} {sp:Nat->Bool} {held:Bool}
theorem c4:Go.Proofs.Tryz.prog.cellsOf 4=1:=by kernel_rfl
theorem wd_imW (hl:∀ p ∈ pD0,imW W p.1=some p.2):Wd (imW W) Mu.bot (hpE 0 []) W:=by
 refine ⟨fun i o h=>absurd h (by simp [hpE]),fun i j oi oj bi bj h=>absurd h (by simp [hpE]),fun b cs h=>?_,hl⟩
 unfold imW at h
 split at h
 ·rename_i c t f hb
  injection h with h; subst h
  exact ⟨t,f,hb⟩
 ·cases h
end
end Go.Am
end

section
namespace Go.Am
variable {P:Program}
theorem J_calls {f:FuncId} {fn:Func} {c:Code} {args:List V} {vs:Array Value} {v:V} {x:Value} (hf:P.funcs[f]?=some fn) (hn:(fn.name == "runtime.NumGoroutine")=false) (hb:fn.body=some c)
  (hargs:∀ H μ us,RL H μ args us->us=vs) (hx:∀ H μ,R H μ v x)
  (hc:∀ w,(∀ p ∈ pD0,∃ ty fz,w.heap[p.1]?=some (.cells p.2 ty fz))->Calls P f vs w fun e w'=>e=.returned x/\∃ k os,w'=Sort.grow (w.drewN k) os):Ret P f args v:=by
 intro H μ us w h3 hW
 have:=hargs H μ us h3
 subst this
 have hn':¬ fn.name = "runtime.NumGoroutine":=by simpa using hn
 have hrun:(callFunc f us).run P w=.ok (.enter f us) w:=by simp [callFunc,hf,hn',hb]
 unfold dG0
 rw [hrun]
 have hl:∀ p ∈ pD0,∃ ty fz,w.heap[p.1]?=some (.cells p.2 ty fz):=fun p hp=>hW.imm _ _ (hW.glo p hp)
 refine Calls.mono (hc w hl) ?_
 rintro e w' ⟨rfl,k,os,rfl⟩
 have hheap:∀ b,b < w.heap.size->(Sort.grow (w.drewN k) os).heap[b]?=w.heap[b]?:=by
  intro b hb
  show (w.heap++os)[b]?=w.heap[b]?
  rw [Array.getElem?_append_left hb]
 have hno:∀ b,¬ Owns (hpE 0 []) μ b:=by rintro b ⟨i,o,blk,h,_⟩; simp [hpE] at h
 refine ⟨_,H,μ,rfl,⟨x,rfl,hx H μ⟩,⟨Imm.le_refl H,rfl,rfl,rfl,?_,fun b hb _=>hheap b hb,fun b h _=>h,fr0⟩,⟨fun i o hl=>by simp [hpE] at hl,fun i j oi oj bi bj hi=>by simp [hpE] at hi,fun b cs h=>?_,hW.glo⟩,Nat.le_refl _,fun j o hj=>by simp at hj⟩
 ·show w.heap.size<=(w.heap++os).size
  simp
 ·obtain ⟨ty,fz,h1⟩:=hW.imm b cs h
  exact ⟨ty,fz,by rw [hheap b (Array.getElem?_eq_some_iff.1 h1).1]; exact h1⟩
theorem sf0 {w:World} {name:String} (hg:P.globalNamed name=some laidB) (hl:∀ p ∈ pD0,∃ ty fz,w.heap[p.1]?=some (.cells p.2 ty fz)):Lib.TabIs P w name .u64 Lib.pow10Tab:=by
 obtain ⟨ty,fz,h⟩:=hl _ (List.mem_singleton.2 rfl)
 unfold Lib.TabIs World.var?
 rw [hg]
 simp only [Option.bind_some]
 rw [h]
 rfl
end Go.Am
end

section
namespace Go.Proofs.YtnlggapedakocaaGreatDoor
open Go.ChangeShapes Go.WideShapes Go.ChangeAt Go.RowKit
open Go.Am (imW pD0)
set_option maxRecDepth 100000
theorem own:ownKnob Tryz.prog.godebug=none:=by kernel_rfl
theorem gTab:Tryz.prog.globalNamed "internal/strconv.uint64pow10"=some 0:=by kernel_rfl
theorem gTabType:(Tryz.prog.globals[0]?).map (·.type)=some 151:=by kernel_rfl
theorem u151:∃ e,Tryz.prog.underlying 151=some (.array 20 e)/\Tryz.prog.underlying e=some (.int .u64)/\Tryz.prog.cellsOf e=1:=⟨_,Tryz.underlying151,by kernel_rfl,by kernel_rfl⟩
theorem c151:Tryz.prog.cellsOf 151=20:=by kernel_rfl
theorem table {W:World} (h:laidMetH Tryz.prog Rows.showTypesRow.laid W):∀ p ∈ pD0,imW W p.1=some p.2:=by
 have h':laidMet Tryz.prog Rows.showTypesRow.laid W:=h
 obtain ⟨ps,⟨_,_,_,_,_,_,_,_,_,_,⟨_,_,_,_,_,_,_,_,_,_,⟨g,t,cs,fuel,p,q,hg,ht,hv,hd,_⟩,_⟩,_⟩,_⟩:=h'
 obtain rfl:=Option.some.inj (gTab.symm.trans hg)
 obtain rfl:=Option.some.inj (gTabType.symm.trans ht)
 obtain ⟨e,u1,u2,u3⟩:=u151
 have hd':DataW.trod (fun _=>()) Tryz.prog W 0 (fun _=>true) false fuel 151 cs.toList=some (Lib.tabData .u64 Lib.pow10Tab,p):=hd
 have hc:=Lib.cells_of_tab u1 u2 u3 c151 hd'
 intro x hx
 obtain rfl:=List.mem_singleton.1 hx
 unfold World.var? at hv
 rw [gTab] at hv
 simp only [Option.bind_some] at hv
 show imW W 0=_
 unfold imW
 split at hv
 ·rename_i c t f hb
  rw [hb]
  injection hv with hv
  subst hv
  have:c=(Lib.pow10Tab.map fun z=>Value.int .u64 z).toArray:=by
   rw [<- hc]
  rw [this]
  rfl
 ·cases hv
end Go.Proofs.YtnlggapedakocaaGreatDoor
end

section
namespace Go.Am
variable {P:Program} {H:Imm} {μ:Mu} {hp:Hp} {w:World}
theorem ObOk.below {i:Id} {o:Ob} {w':World} (h:ObOk H μ w i o) (hk:∀ b,b < w.heap.size->w'.heap[b]?=w.heap[b]?):ObOk H μ w' i o:=by
 have hs:∀ {b:Nat} {x:Obj},w.heap[b]?=some x->w'.heap[b]?=some x:=fun {b x} e=>by rw [hk b (Array.getElem?_eq_some_iff.1 e).1]; exact e
 cases o with
 | gone=>trivial
 | box cs =>
  obtain ⟨blk,vals,ty,h1,h2,h3⟩:=h
  exact ⟨blk,vals,ty,h1,hs h2,h3⟩
 | row ty sz own xs =>
  rcases h with h | ⟨blk,vals,h1,h2,h3,h4⟩
  ·exact .inl h
  ·exact .inr ⟨blk,vals,h1,h2,hs h3,h4⟩
 | mpo kd kvs =>
  obtain ⟨blk,es,clk,h1,h2,h3⟩:=h
  exact ⟨blk,es,clk,h1,hs h2,h3⟩
theorem Wd.below {w':World} (hW:Wd H μ hp w) (hk:∀ b,b < w.heap.size->w'.heap[b]?=w.heap[b]?):Wd H μ hp w' :=
 ⟨fun i o hl=>(hW.ob i o hl).below hk,hW.inj,fun b cs h=>by
  obtain ⟨ty,fz,e⟩:=hW.imm b cs h
  exact ⟨ty,fz,by rw [hk b (Array.getElem?_eq_some_iff.1 e).1]; exact e⟩,hW.glo⟩
theorem ql0 {f:FuncId} {fn:Func} {c:Code} {args:List V} {obs:List Ob} {v:V} (hf:P.funcs[f]?=some fn) (hn:(fn.name == "runtime.NumGoroutine")=false) (hb:fn.body=some c)
  (hc:∀ H μ us w,RL H μ args us->Wd H μ (hpE 0 obs) w->Calls P f us w fun e w'=>(∃ x,e=.returned x/\R H μ v x)/\Go.RowKit.Below w.heap.size w w'):J P f args obs (·=.ret v obs):=by
 intro H μ us w h3 hW
 have hn':¬ fn.name = "runtime.NumGoroutine":=by simpa using hn
 have hrun:(callFunc f us).run P w=.ok (.enter f us) w:=by simp [callFunc,hf,hn',hb]
 unfold dG0
 rw [hrun]
 refine Calls.mono (hc H μ us w h3 hW) ?_
 rintro e w' ⟨⟨x,rfl,hx⟩,hB⟩
 exact ⟨_,H,μ,rfl,⟨x,rfl,hx⟩,⟨Imm.le_refl H,hB.os,hB.tape,hB.output,hB.size,fun b hb _=>hB.block b hb,fun b h _=>h,fr0⟩,hW.below hB.block,Nat.le_refl _,fun _ _ _ _ _=>rfl⟩
end Go.Am
end

section
namespace Go.Proofs
open Go.Shelf
def Tryz.mP0:Go.Shelf.Ren:=⟨fun | 156=>26 | 165=>50 | 166=>46 | 169=>29 | 240=>69 | 241=>73 | 276=>85 | 277=>98 | n=>n,fun | 31=>35 | 9=>9 | 3=>3 | 4=>4 | 0=>0 | 20=>20 | 72=>67 | 76=>104 | 70=>64 | 37=>65 | 75=>103 | 127=>108 | 164=>125 | 5=>5 | 80=>80 | n=>n,fun | n=>n⟩
theorem Tryz.lays156:Go.Proofs.Lays.n156 Tryz.prog Tryz.mP0:={
 mixed:=by kernel_rfl
 f156:=Tryz.func26.trans (congrArg some (by kernel_rfl))
 f165:=Tryz.func50.trans (congrArg some (by kernel_rfl))
 f166:=Tryz.func46.trans (congrArg some (by kernel_rfl))
 f169:=Tryz.func29.trans (congrArg some (by kernel_rfl))
 f240:=Tryz.func69.trans (congrArg some (by kernel_rfl))
 f241:=Tryz.func73.trans (congrArg some (by kernel_rfl))
 f276:=Tryz.func85.trans (congrArg some (by kernel_rfl))
 f277:=Tryz.func98.trans (congrArg some (by kernel_rfl))
 t0:=Tryz.underlying0
 a0:=Tryz.isAgg0
 z0:=Tryz.sizeOf0
 v0:=Tryz.zeroValue0
 t3:=Tryz.underlying3
 a3:=Tryz.isAgg3
 z3:=Tryz.sizeOf3
 v3:=Tryz.zeroValue3
 t4:=Tryz.underlying4
 a4:=Tryz.isAgg4
 z4:=Tryz.sizeOf4
 v4:=Tryz.zeroValue4
 t9:=Tryz.underlying9
 a9:=Tryz.isAgg9
 z9:=Tryz.sizeOf9
 v9:=Tryz.zeroValue9
 t20:=Tryz.underlying20
 a20:=Tryz.isAgg20
 z20:=Tryz.sizeOf20
 v20:=Tryz.zeroValue20
 t31:=Tryz.underlying35
 a31:=Tryz.isAgg35
 z31:=Tryz.sizeOf35
 v31:=Tryz.zeroValue35
 t37:=Tryz.underlying65
 a37:=Tryz.isAgg65
 z37:=Tryz.sizeOf65
 v37:=Tryz.zeroValue65
 t70:=Tryz.underlying64
 a70:=Tryz.isAgg64
 z70:=Tryz.sizeOf64
 v70:=Tryz.zeroValue64
 t72:=Tryz.underlying67
 a72:=Tryz.isAgg67
 z72:=Tryz.sizeOf67
 v72:=Tryz.zeroValue67
 t75:=Tryz.underlying103
 a75:=Tryz.isAgg103
 z75:=Tryz.sizeOf103
 v75:=Tryz.zeroValue103
 t76:=Tryz.underlying104
 a76:=Tryz.isAgg104
 z76:=Tryz.sizeOf104
 v76:=Tryz.zeroValue104
 t127:=Tryz.underlying108
 a127:=Tryz.isAgg108
 z127:=Tryz.sizeOf108
 v127:=Tryz.zeroValue108
 t164:=Tryz.underlying125
 a164:=Tryz.isAgg125
 z164:=Tryz.sizeOf125
 v164:=Tryz.zeroValue125 }
theorem Tryz.bx156:Builder.Extra Tryz.prog Tryz.mP0:=⟨⟨by kernel_rfl,by kernel_rfl⟩,Tryz.underlying5,Tryz.isAgg5,Tryz.sizeOf5,Tryz.zeroValue5,by kernel_rfl,by kernel_rfl,by kernel_rfl,by decide⟩
end Go.Proofs
end

section
namespace Go.Am
set_option maxRecDepth 100000
attribute [local irreducible] vc vcIs vcI vcOp vcD vcDp vcDR vcT vcAR bY0 aX0 panD neG ne pv J bJ0 bP0 b20 bc0 evK evsK nthK objK boxK rowK bC0 intK strK aggK fnK ifcK ay0 az0 ldK ldaK iaK srcK stK appK appD b40 pvK bD0 aV0 bO0 bs0 slAV bI0
abbrev iQ0 (ts:List Tok) (n:Int) (e:Int):V:=.ifc k60 (.agg [vI (tk ts n.toNat).at_,vI e])
def pObs (ts:List Tok) (n:Int):List Ob:=[.box [.lst (ts.map Tok.cells),vI n]]
def pAns {α:Type} (ts:List Tok) (g:α->V):PR α->Res
 | .ok (a,n)=>.ret (g a) (pObs ts n)
 | .bad n e=>.pan (iQ0 ts n e) (pObs ts n)
def ar0 (ts:List Tok):LxR Nat->Res
 | .ok n=>.ret (.tup []) (pObs ts n)
 | .bad n e=>.pan (iQ0 ts n e) (pObs ts n)
theorem tk_get {ts:List Tok} {n:Nat} (h:n < ts.length):ts[n]=tk ts n:=by
 unfold tk; rw [List.getD_eq_getElem?_getD,List.getElem?_eq_getElem h]; rfl
def je0 (l:List ByteArray) (s:ByteArray):Int:=match l.findIdx? (fun x=>decide (s=x)) with | some i=>(i:Int) | none=>-1
theorem jf0 (l:List ByteArray) (s:ByteArray) (hl:l.length < 2 ^ 40) :
  Ret prog bA0 [.lst (l.map fh0),vS s] (vI (je0 l s)):=by
 refine cZ0 eX0 (by simp) ?_
 refine rS1 @cx0.eq_1 ?_
 refine aH0 (fun i:Nat=>l.length - i) (fun i=>[(8,vI i),(7,vI l.length),(0,.lst (l.map fh0)),(1,vS s)]) (fun _=>[]) (fun i=>i<=l.length/\∀ (j:Nat) (h:j < l.length),j < i->¬ s=l[j]) 0 (by simp) (Wk.subs (by simp) (by simp)) ?_
 rintro i ⟨hi,ho⟩
 by_cases hlt:i < l.length
 ·have hlt':(i:Int) < l.length:=by omega
  by_cases he:s=l[i]
  ·have:l.findIdx? (fun x=>decide (s=x))=some i:=by
    rw [List.findIdx?_eq_some_iff_getElem]
    exact ⟨hlt,by simpa using he,fun j hj=>by simpa using ho j (by omega) hj⟩
   have hx:je0 l s=i:=by rw [je0,this]
   simp +contextual (maxSteps:=2000000) (disch:=omega) [-Int.not_lt,-Int.not_le,-Nat.not_lt,-Nat.not_le,sx,hlt',<- he,hx]
  ·refine rS2 hlt' he ?_
   refine .of (i + 1) ⟨by omega,fun j h1 h2=>?_⟩ (by omega) (Wk.subs (by simp) (by simp))
   by_cases hj:j=i
   ·subst hj; exact he
   ·exact ho j h1 (by omega)
 ·have hge':¬ (i:Int) < l.length:=by omega
  have:l.findIdx? (fun x=>decide (s=x))=none:=by
   rw [List.findIdx?_eq_none_iff]
   intro x hx
   obtain ⟨j,hj,rfl⟩:=List.getElem_of_mem hx
   simpa using ho j hj (by omega)
  have hx:je0 l s=-1:=by rw [je0,this]
  exact rT2 hge' hx
theorem strIdx_in (l:List ByteArray) (s:ByteArray):0<=je0 l s ↔ s ∈ l:=by
 unfold je0
 cases h:l.findIdx? (fun x=>decide (s=x)) with
 | none =>
  rw [List.findIdx?_eq_none_iff] at h
  simp only [show ¬ (0:Int)<=-1 from by omega,false_iff]
  intro hm
  have:=h s hm
  simp at this
 | some i =>
  obtain ⟨h1,h2,_⟩:=List.findIdx?_eq_some_iff_getElem.1 h
  have h3:s=l[i]:=by simpa using h2
  simp only [show (0:Int)<=(i:Int) from by omega,true_iff]
  rw [h3]; exact List.getElem_mem h1
theorem gV0 (l:List ByteArray) (s:ByteArray) (hl:l.length < 2 ^ 40):Ret prog bj0 [.lst (l.map fh0),vS s] (vB (decide (0<=je0 l s))):=by
 refine cZ0 eh0 (by simp) ?_
 refine rS1 @b80.eq_1 ?_
 refine ao0 ?_; simp; refine aj0 (jf0 l s hl) (by simp) ?_
 exact rT0
theorem mv0 (l:List Bs) (s:ByteArray):decide (0<=je0 (l.map bS) s)=l.contains (sB s):=by
 rw [Bool.eq_iff_iff,decide_eq_true_eq,strIdx_in,List.contains_iff_mem,List.mem_map]
 constructor
 ·rintro ⟨x,h,rfl⟩; exact h
 ·intro h; exact ⟨_,h,rfl⟩
theorem gr0 (s:ByteArray):Ret prog ij0 [vS s] (vB (e90 s)):=by
 refine cZ0 lj0 (by simp) ?_
 refine rS1 @hr0.eq_1 ?_
 have h:=gV0 (qC0.map bS) s (by decide)
 rw [mv0] at h
 refine ao0 ?_; simp; refine aj0 (h) (by simp) ?_
 exact rT1 @e90.eq_1
variable {ts:List Tok} {n:Nat}
theorem a50 (hn:n < ts.length):J prog gc0 [.bp (.e 0) 0] (pObs ts n) (·=.ret (tk ts n).V (pObs ts n)):=by
 refine at0 jE0 (by simp [pObs]) ?_
 refine rS4 @fn0.eq_1 @pObs.eq_1 @hpE.eq_1 @hpE.eq_2 ?_
 refine ax0 [] ?_
 exact rT1 @tk_get
theorem aW0 (hn:n < ts.length) (e:Int):J prog gb0 [.bp (.e 0) 0,vI e] (pObs ts n) (·=.pan (iQ0 ts n e) (pObs ts n)):=by
 refine at0 jD0 (by simp [pObs]) ?_
 refine rS4 @fm0.eq_1 @pObs.eq_1 @hpE.eq_1 @hpE.eq_2 ?_
 refine aa0 [.e 0] ?_
 simp
 have hO:=a50 hn
 try simp [pObs] at hO
 refine ab0 5 hO ?_
 refine rS0 ?_
 refine endP ?_
 exact rT0
theorem kZ0 (hn:n < ts.length) (k:Int) (t:Bs):J prog hy0 [.bp (.e 0) 0,vI k,vS (bS t)] (pObs ts n) (·=.ret (vB (isT ts n k t)) (pObs ts n)):=by
 refine at0 kK0 (by simp [pObs]) ?_
 refine rS4 @gG0.eq_1 @pObs.eq_1 @hpE.eq_1 @hpE.eq_2 ?_
 refine aa0 [.e 0] ?_
 simp
 have hO:=a50 hn
 try simp [pObs] at hO
 refine ab0 9 hO ?_
 by_cases hk:(tk ts n).kind=k
 ·refine rS1 hk ?_
  refine ax0 [] ?_
  exact rT3 @isT.eq_1 hk @eqS.eq_1
 ·refine rS1 hk ?_
  refine ax0 [] ?_
  exact rT2 @isT.eq_1 hk
theorem ai0 (hn:n < ts.length) (hl:ts.length < 2 ^ 40) (k:Int) (t:Bs):J prog gg0 [.bp (.e 0) 0,vI k,vS (bS t)] (pObs ts n) (·=.ret (vB (isT ts n k t)) (pObs ts (if isT ts n k t then n + 1 else n:Nat))):=by
 refine at0 jI0 (by simp [pObs]) ?_
 refine rS4 @fs0.eq_1 @pObs.eq_1 @hpE.eq_1 @hpE.eq_2 ?_
 refine aa0 [.e 0] ?_
 simp
 have hO:=kZ0 hn k t
 try simp [pObs] at hO
 refine ab0 10 hO ?_
 cases h:isT ts n k t with
 | true =>
  refine rS0 ?_
  refine ax0 [] ?_
  exact rT0
 | false =>
  refine rS0 ?_
  refine ax0 [] ?_
  exact rT0
theorem aq0 (hn:n < ts.length) (hl:ts.length < 2 ^ 40) (t:Bs):J prog ge0 [.bp (.e 0) 0,vS (bS t)] (pObs ts n) (·=ar0 ts (bh0 ts n t)):=by
 refine at0 jF0 (by simp [pObs]) ?_
 refine rS4 @fo0.eq_1 @pObs.eq_1 @hpE.eq_1 @hpE.eq_2 ?_
 refine aa0 [.e 0] ?_
 simp
 have hO:=ai0 hn hl 4 t
 try simp [pObs] at hO
 refine ab0 6 hO ?_
 cases h:isT ts n 4 t with
 | true =>
  refine rS0 ?_
  refine b10 [] ?_
  exact rT5 @bh0.eq_1 h @ar0.eq_1 @ar0.eq_2 @pObs.eq_1
 | false =>
  refine rS0 ?_
  refine aa0 [.e 0] ?_
  simp
  have hO:=aW0 hn 31
  try simp [pObs] at hO
  refine af0 hO ?_
  refine rS0 ?_
  refine endP ?_
  exact rT6 @bh0.eq_1 h @ar0.eq_1 @ar0.eq_2 @pObs.eq_1 @e70.eq_1
def oO0 (ts:List Tok) (n:Nat) (k:Int):PR Tok:=if (tk ts n).kind=k/\¬ (k=1/\e90 (tk ts n).text=true) then .ok (tk ts n,n + 1) else e70 ts n 31
theorem pNext_1:oO0 ts n 1=dA0 ts n:=by
 unfold oO0 dA0
 cases e90 (tk ts n).text <;> simp
theorem pNext_2:oO0 ts n 2=pInt ts n:=by
 unfold oO0 pInt
 simp
theorem iU0 (hn:n < ts.length) (hl:ts.length < 2 ^ 40) (k:Int):J prog cB0 [.bp (.e 0) 0,vI k] (pObs ts n) (·=pAns ts Tok.V (oO0 ts n k)):=by
 refine at0 jG0 (by simp [pObs]) ?_
 refine rS4 @fp0.eq_1 @pObs.eq_1 @hpE.eq_1 @hpE.eq_2 ?_
 refine aa0 [.e 0] ?_
 simp
 have hO:=a50 hn
 try simp [pObs] at hO
 refine ab0 7 hO ?_
 by_cases hk:(tk ts n).kind=k
 ·by_cases hk1:k=1
  ·subst hk1
   refine rS1 hk ?_
   refine ao0 ?_; simp; refine aj0 (gr0 (tk ts n).text) (by simp) ?_
   cases hr:e90 (tk ts n).text with
   | true =>
    refine rS0 ?_
    refine aa0 [.e 0] ?_
    simp
    have hO:=aW0 hn 31
    try simp [pObs] at hO
    refine af0 hO ?_
    refine rS0 ?_
    refine endP ?_
    exact rT7 @oO0.eq_1 hk hr @pAns.eq_1 @pAns.eq_2 @pObs.eq_1 @e70.eq_1
   | false =>
    refine rS0 ?_
    refine ax0 [] ?_
    exact rT6 @oO0.eq_1 hk hr @pAns.eq_1 @pAns.eq_2 @pObs.eq_1
  ·refine rS2 hk hk1 ?_
   refine ax0 [] ?_
   exact rT6 @oO0.eq_1 hk hk1 @pAns.eq_1 @pAns.eq_2 @pObs.eq_1
 ·refine rS1 hk ?_
  refine aa0 [.e 0] ?_
  simp
  have hO:=aW0 hn 31
  try simp [pObs] at hO
  refine af0 hO ?_
  refine rS0 ?_
  refine endP ?_
  exact rT6 @oO0.eq_1 hk @pAns.eq_1 @pAns.eq_2 @pObs.eq_1 @e70.eq_1
theorem cw0 (hn:n < ts.length) (d:Nat):J prog ga0 [.bp (.e 0) 0,vI d] (pObs ts n) (·=match km0 ts n d with | .ok _=>.ret (.tup []) (pObs ts n) | .bad n e=>.pan (iQ0 ts n e) (pObs ts n)):=by
 refine at0 jB0 (by simp [pObs]) ?_
 by_cases h:24 < d
 ·have h':(24:Int) < d:=by omega
  refine rS5 @do0.eq_1 @pObs.eq_1 @hpE.eq_1 @hpE.eq_2 h' ?_
  refine aa0 [.e 0] ?_
  simp
  have hO:=aW0 hn 32
  try simp [pObs] at hO
  refine af0 hO ?_
  refine rS0 ?_
  refine endP ?_
  exact rT4 @km0.eq_1 h @e70.eq_1 @pObs.eq_1
 ·have h':¬ (24:Int) < d:=by omega
  refine rS5 @do0.eq_1 @pObs.eq_1 @hpE.eq_1 @hpE.eq_2 h' ?_
  refine b10 [] ?_
  exact rT3 @km0.eq_1 h @pObs.eq_1
theorem prefix_eq {s p:ByteArray} (h:p.size<=s.size):eqS (s.extract 0 p.size) p=(sB p).isPrefixOf (sB s):=by
 unfold eqS
 rw [Bool.eq_iff_iff,decide_eq_true_eq,List.isPrefixOf_iff_prefix,List.prefix_iff_eq_take]
 have h1:sB (s.extract 0 p.size)=(sB s).take (sB p).length:=by rw [dP0]; simp
 constructor
 ·intro h2; rw [<- h1,h2]
 ·intro h2; rw [<- h1] at h2
  obtain ⟨⟨p⟩⟩:=p
  generalize s.extract 0 _=q at h2
  obtain ⟨⟨q⟩⟩:=q
  simp [sB] at h2; rw [h2]
theorem prefix_no {s p:ByteArray} (h:¬ p.size<=s.size):(sB p).isPrefixOf (sB s)=false:=by
 rw [<- Bool.not_eq_true,List.isPrefixOf_iff_prefix]
 intro h2
 exact h h2.length_le
theorem dm0 (s p:ByteArray):Ret prog cm0 [vS s,vS p] (vB ((sB p).isPrefixOf (sB s))):=by
 refine cZ0 ee0 (by simp) ?_
 by_cases h:p.size<=s.size
 ·have h':(p.size:Int)<=s.size:=by omega
  refine rS3 @bg0.eq_1 h h' ?_
  simpa [eqS,sB] using prefix_eq h
 ·have h':¬ (p.size:Int)<=s.size:=by omega
  simp +contextual (maxSteps:=2000000) (disch:=omega) [-Int.not_lt,-Int.not_le,-Nat.not_lt,-Nat.not_le,sx,bg0,h,h',prefix_no h]
theorem it0 (s p:ByteArray):Ret prog gk0 [vS s,vS p] (vB ((sB p).isPrefixOf (sB s))):=by
 refine cZ0 jL0 (by simp) ?_
 refine rS1 @fv0.eq_1 ?_
 refine ao0 ?_; simp; refine aj0 (dm0 s p) (by simp) ?_
 exact rT0
end Go.Am
end

section
namespace Go.Proofs
open Go.Shelf
def Tryz.qE0:Go.Shelf.Ren:=⟨fun | 246=>70 | 283=>86 | 284=>87 | 285=>88 | 286=>89 | 129=>115 | 317=>114 | 318=>116 | 319=>117 | 320=>118 | 337=>134 | 338=>135 | n=>n,fun | 2=>2 | 3=>3 | 9=>9 | 4=>4 | 171=>127 | 0=>0 | 53=>128 | 37=>65 | 5=>5 | 173=>131 | 212=>151 | 51=>152 | 20=>20 | 213=>153 | 46=>52 | 232=>186 | 233=>187 | n=>n,fun | 17=>0 | 18=>2 | 19=>3 | n=>n⟩
theorem Tryz.lays246:Go.Proofs.LaysM.n246 Tryz.prog Tryz.qE0:={
 mixed:=by kernel_rfl
 f129:=Tryz.func115.trans (congrArg some (by kernel_rfl))
 f246:=Tryz.func70.trans (congrArg some (by kernel_rfl))
 f283:=Tryz.func86.trans (congrArg some (by kernel_rfl))
 f284:=Tryz.func87.trans (congrArg some (by kernel_rfl))
 f285:=Tryz.func88.trans (congrArg some (by kernel_rfl))
 f286:=Tryz.func89.trans (congrArg some (by kernel_rfl))
 f317:=Tryz.func114.trans (congrArg some (by kernel_rfl))
 f318:=Tryz.func116.trans (congrArg some (by kernel_rfl))
 f319:=Tryz.func117.trans (congrArg some (by kernel_rfl))
 f320:=Tryz.func118.trans (congrArg some (by kernel_rfl))
 f337:=Tryz.func134.trans (congrArg some (by kernel_rfl))
 f338:=Tryz.func135.trans (congrArg some (by kernel_rfl))
 t0:=Tryz.underlying0
 a0:=Tryz.isAgg0
 z0:=Tryz.sizeOf0
 v0:=Tryz.zeroValue0
 t2:=Tryz.underlying2
 a2:=Tryz.isAgg2
 z2:=Tryz.sizeOf2
 v2:=Tryz.zeroValue2
 t3:=Tryz.underlying3
 a3:=Tryz.isAgg3
 z3:=Tryz.sizeOf3
 v3:=Tryz.zeroValue3
 t4:=Tryz.underlying4
 a4:=Tryz.isAgg4
 z4:=Tryz.sizeOf4
 v4:=Tryz.zeroValue4
 t5:=Tryz.underlying5
 a5:=Tryz.isAgg5
 z5:=Tryz.sizeOf5
 v5:=Tryz.zeroValue5
 t9:=Tryz.underlying9
 a9:=Tryz.isAgg9
 z9:=Tryz.sizeOf9
 v9:=Tryz.zeroValue9
 t20:=Tryz.underlying20
 a20:=Tryz.isAgg20
 z20:=Tryz.sizeOf20
 v20:=Tryz.zeroValue20
 t37:=Tryz.underlying65
 a37:=Tryz.isAgg65
 z37:=Tryz.sizeOf65
 v37:=Tryz.zeroValue65
 t46:=Tryz.underlying52
 a46:=Tryz.isAgg52
 z46:=Tryz.sizeOf52
 v46:=Tryz.zeroValue52
 t51:=Tryz.underlying152
 a51:=Tryz.isAgg152
 z51:=Tryz.sizeOf152
 v51:=Tryz.zeroValue152
 t53:=Tryz.underlying128
 a53:=Tryz.isAgg128
 z53:=Tryz.sizeOf128
 v53:=Tryz.zeroValue128
 t171:=Tryz.underlying127
 a171:=Tryz.isAgg127
 z171:=Tryz.sizeOf127
 v171:=Tryz.zeroValue127
 t173:=Tryz.underlying131
 a173:=Tryz.isAgg131
 z173:=Tryz.sizeOf131
 v173:=Tryz.zeroValue131
 t212:=Tryz.underlying151
 a212:=Tryz.isAgg151
 z212:=Tryz.sizeOf151
 v212:=Tryz.zeroValue151
 t213:=Tryz.underlying153
 a213:=Tryz.isAgg153
 z213:=Tryz.sizeOf153
 t232:=Tryz.underlying186
 a232:=Tryz.isAgg186
 z232:=Tryz.sizeOf186
 v232:=Tryz.zeroValue186
 t233:=Tryz.underlying187
 a233:=Tryz.isAgg187
 z233:=Tryz.sizeOf187
 v233:=Tryz.zeroValue187
 g17:=by kernel_rfl
 g18:=by kernel_rfl
 g19:=by kernel_rfl
 i0:=by kernel_rfl
 i2:=by kernel_rfl
 i3:=by kernel_rfl
 i4:=by kernel_rfl
 i5:=by kernel_rfl
 i9:=by kernel_rfl
 i20:=by kernel_rfl
 i37:=by kernel_rfl
 i46:=by kernel_rfl
 i51:=by kernel_rfl
 i53:=by kernel_rfl
 i171:=by kernel_rfl
 i173:=by kernel_rfl
 i212:=by kernel_rfl
 i232:=by kernel_rfl
 i233:=by kernel_rfl
 m17:=by kernel_rfl
 m18:=by kernel_rfl
 m19:=by kernel_rfl }
end Go.Proofs
end

section
namespace Go.Am
set_option maxRecDepth 100000
attribute [local irreducible] vc vcIs vcI vcOp vcD vcDp vcDR vcT vcAR bY0 aX0 panD neG ne pv J bJ0 bP0 b20 bc0 evK evsK nthK objK boxK rowK bC0 intK strK aggK fnK ifcK ay0 az0 ldK ldaK iaK srcK stK appK appD b40 pvK bD0 aV0 bO0 bs0 slAV bI0
def sc0 (n:Int):ByteArray:=⟨(Lib.itoa n).toArray⟩
theorem nm0 (n:Int) (h0:-9223372036854775808<=n) (h1:n < 9223372036854775808):Ret prog fD0 [vI n,vI 10] (vS (sc0 n)):=by
 obtain ⟨c,hc⟩:∃ c,Go.Proofs.Tryz.f70.body=some c:=⟨_,rfl⟩
 exact J_calls (fn:=Go.Proofs.Tryz.f70) (c:=c) (vs:=#[.int .i64 n,.int .i64 10]) (x:=.string (sc0 n)) Go.Proofs.Tryz.func70 (by kernel_rfl) hc (fun H μ us h=>h.two) (fun H μ=>.c _)
  fun w hl=>Go.Proofs.Any.internal_strconv_FormatInt_10 Go.Proofs.Tryz.lays246 n h0 (by omega) w (sf0 (by kernel_rfl) hl)
theorem kO0 (n:Int) (h0:-9223372036854775808<=n) (h1:n < 9223372036854775808):Ret prog d00 [vI n] (vS (sc0 n)):=by
 refine cZ0 hC0 (by simp) ?_
 refine rS1 @dH0.eq_1 ?_
 refine ao0 ?_; simp; refine aj0 (nm0 n h0 h1) (by simp) ?_
 exact rT0
theorem hN0 (n:Int) (h0:-9223372036854775808<=n) (h1:n < 9223372036854775808):Ret prog jY0 [vI n] (vS (sc0 n)):=by
 refine cZ0 mI0 (by simp) ?_
 refine rS1 @iA0.eq_1 ?_
 refine ao0 ?_; simp; refine aj0 (kO0 n h0 h1) (by simp) ?_
 exact rT0
theorem iv0 (b:Bool):Ret prog fy0 [vB b] (vS (bS (if b then hG0 else eG0))):=by
 have h:Ret prog cJ0 [vB b] (vS (bS (if b then hG0 else eG0))):=by
  refine cZ0 eV0 (by simp) ?_
  cases b
  ·exact rT3 @bn0.eq_1 @hG0.eq_1 @eG0.eq_1
  ·exact rT3 @bn0.eq_1 @hG0.eq_1 @eG0.eq_1
 refine cZ0 iH0 (by simp) ?_
 refine rS1 @eQ0.eq_1 ?_
 refine ao0 ?_; simp; refine aj0 (h) (by simp) ?_
 exact rT0
def cutP (s p:ByteArray):V:=if (sB p).isPrefixOf (sB s) then .tup [vS (s.extract p.size s.size),vB true] else .tup [vS s,vB false]
theorem gC0 (s p:ByteArray):Ret prog cl0 [vS s,vS p] (cutP s p):=by
 refine cZ0 ed0 (by simp) ?_
 refine rS1 @b60.eq_1 ?_
 refine ao0 ?_; simp; refine aj0 (dm0 s p) (by simp) ?_
 unfold cutP
 cases h:(sB p).isPrefixOf (sB s) with
 | true =>
  have hle:p.size<=s.size:=(List.isPrefixOf_iff_prefix.1 h).length_le
  exact rT0
 | false=>simp +contextual (maxSteps:=2000000) (disch:=omega) [-Int.not_lt,-Int.not_le,-Nat.not_lt,-Nat.not_le,sx]
@[simp] theorem cutP_pure (s p:ByteArray):(cutP s p).pure=true:=by unfold cutP; split <;> simp
theorem cT0 (s p:ByteArray):Ret prog gj0 [vS s,vS p] (cutP s p):=by
 refine cZ0 jK0 (by simp) ?_
 refine rS1 @fu0.eq_1 ?_
 refine ao0 ?_; simp; refine aj0 (gC0 s p) (by simp) ?_
 cases h:(sB p).isPrefixOf (sB s) with
 | true=>simp +contextual (maxSteps:=2000000) (disch:=omega) [-Int.not_lt,-Int.not_le,-Nat.not_lt,-Nat.not_le,sx,cutP,h]
 | false=>simp +contextual (maxSteps:=2000000) (disch:=omega) [-Int.not_lt,-Int.not_le,-Nat.not_lt,-Nat.not_le,sx,cutP,h]
def TEnd (ts:List Tok):Prop:=∀ n,n < ts.length->(tk ts n).kind ≠ 5->n + 1 < ts.length
variable {ts:List Tok} {n:Nat}
theorem aw0 (hE:TEnd ts) (hn:n < ts.length) {k:Int} {t:Bs} (h:isT ts n k t=true) (hk:k ≠ 5):n + 1 < ts.length:=by
 unfold isT at h
 simp only [Bool.and_eq_true,decide_eq_true_eq] at h
 exact hE n hn (by rw [h.1]; exact hk)
theorem ak0 (hE:TEnd ts) (hn:n < ts.length) {t:Bs} {m:Nat} (h:bh0 ts n t=.ok m):n < m/\m < ts.length:=by
 unfold bh0 at h
 split at h
 ·rename_i hi; injection h with h; subst h; exact ⟨by omega,aw0 hE hn hi (by decide)⟩
 ·cases h
theorem kW0 (hE:TEnd ts) (hn:n < ts.length) {t:Bs} {m:Nat} (h:m00 ts n t=.ok m):n < m/\m < ts.length:=by
 unfold m00 at h
 split at h
 ·rename_i hi; injection h with h; subst h; exact ⟨by omega,aw0 hE hn hi (by decide)⟩
 ·cases h
theorem a00 (hE:TEnd ts) (hn:n < ts.length) {a:Tok} {m:Nat} (h:dA0 ts n=.ok (a,m)):n < m/\m < ts.length:=by
 unfold dA0 at h
 split at h
 ·rename_i hi; injection h with h; injection h with h1 h2; subst h2; exact ⟨by omega,hE n hn (by rw [hi.1]; decide)⟩
 ·cases h
theorem qK0 (hE:TEnd ts) (hn:n < ts.length) {a:Tok} {m:Nat} (h:pInt ts n=.ok (a,m)):n < m/\m < ts.length:=by
 unfold pInt at h
 split at h
 ·rename_i hi; injection h with h; injection h with h1 h2; subst h2; exact ⟨by omega,hE n hn (by rw [hi]; decide)⟩
 ·cases h
theorem qL0 (hE:TEnd ts) (hn:n < ts.length) {a:Bs} {m:Nat} (h:pKey ts n=.ok (a,m)):n < m/\m < ts.length/\a.length<=4:=by
 unfold pKey at h
 split at h
 ·rename_i hi; injection h with h; injection h with h1 h2; subst h1; subst h2; exact ⟨by omega,aw0 hE hn hi (by decide),by decide⟩
 split at h
 ·rename_i hi; injection h with h; injection h with h1 h2; subst h1; subst h2; exact ⟨by omega,aw0 hE hn hi (by decide),by decide⟩
 ·cases h
theorem ag0 {α β:Type} {r:LxR α} {f:α->LxR β} {b:β} (h:r.bind f=.ok b):∃ a,r=.ok a/\f a=.ok b:=by
 cases r with
 | ok a=>exact ⟨a,rfl,h⟩
 | bad a e=>cases h
theorem eN0 (hE:TEnd ts):∀ {r n:Nat},n < ts.length->∀ {a:Bs} {m:Nat},fI0 ts r n=.ok (a,m)->n < m/\m < ts.length/\a.length<=4 + 7 * r
 | 0,n,hn,a,m,h=>by simp [fI0,e70] at h
 | r + 1,n,hn,a,m,h=>by
  rw [fI0] at h
  split at h
  ·rename_i hi; injection h with h; injection h with h1 h2; subst h1; subst h2; exact ⟨by omega,aw0 hE hn hi (by decide),by simp [ek0]⟩
  split at h
  ·rename_i hi
   have h0:=aw0 hE hn hi (by decide)
   obtain ⟨⟨t,n1⟩,e1,h⟩:=ag0 h
   obtain ⟨n2,e2,h⟩:=ag0 h
   injection h with h; injection h with h1 h2; subst h1; subst h2
   have:=eN0 hE h0 e1
   have:=ak0 hE this.2.1 e2
   dsimp only at *
   refine ⟨by omega,by omega,by simp; omega⟩
  split at h
  ·rename_i hi
   have h0:=aw0 hE hn hi (by decide)
   obtain ⟨⟨k,n0⟩,e0,h⟩:=ag0 h
   obtain ⟨n1,e1,h⟩:=ag0 h
   obtain ⟨⟨t,n2⟩,e2,h⟩:=ag0 h
   obtain ⟨n3,e3,h⟩:=ag0 h
   injection h with h; injection h with h1 h2; subst h1; subst h2
   have q0:=qL0 hE h0 e0
   have q1:=ak0 hE q0.2.1 e1
   have q2:=eN0 hE q1.2 e2
   have q3:=ak0 hE q2.2.1 e3
   dsimp only at *
   refine ⟨by omega,by omega,by simp; omega⟩
  ·have:=qL0 hE hn h; omega
theorem ia0 (hE:TEnd ts) (hn:n < ts.length) {a:Slo} {m:Nat} (h:ko0 ts n=.ok (a,m)):n < m/\m < ts.length:=by
 unfold ko0 at h
 obtain ⟨⟨t,n1⟩,e1,h⟩:=ag0 h
 obtain ⟨n2,e2,h⟩:=ag0 h
 obtain ⟨⟨t,n3⟩,e3,h⟩:=ag0 h
 injection h with h; injection h with h1 h2; subst h2
 have q1:=a00 hE hn e1
 have q2:=ak0 hE q1.2 e2
 have q3:=eN0 hE q2.2 e3
 dsimp only at *
 omega
abbrev bsV (b:Bs):V:=vS (bS b)
theorem fQ0 (a b:Bs):bS a++bS b=bS (a++b):=by
 apply ByteArray.ext; apply Array.ext'; simp
theorem dn0 (l:Bs):(ByteArray.mk (Array.mk l)).size=l.length:=rfl
theorem j60 (hE:TEnd ts) (hl:ts.length < 2 ^ 40) (hn:n < ts.length):J prog gI0 [.bp (.e 0) 0] (pObs ts n) (·=pAns ts bsV (pKey ts n)):=by
 refine at0 kg0 (by simp [pObs]) ?_
 refine rS4 @fT0.eq_1 @pObs.eq_1 @hpE.eq_1 @hpE.eq_2 ?_
 refine aH0 (fun y:Nat=>2 - y) (fun y=>[(7,vI y),(6,vI 2),(5,.arr (.l 5 0) 0 2),(0,.bp (.e 0) 0)])
  (fun _=>[(.e 0,.box [.lst (ts.map Tok.cells),vI n]),(.l 5 0,.row 9 1 true [[vS (bS gB0)],[vS (bS dk0)]])])
  (fun y=>y<=2/\(0 < y->isT ts n 1 gB0=false)/\(1 < y->isT ts n 1 dk0=false)) 0 (by simp) (Wk.subs (by simp) (by simp [gB0,dk0])) ?_
 rintro y ⟨hy,h1,h2⟩
 have:y=0\/y=1\/y=2:=by omega
 rcases this with rfl | rfl | rfl
 ·refine rS0 ?_
  rw [aO0 (e:=[vS (bS gB0)]) rfl]
  refine rS0 ?_
  refine aa0 [.e 0] ?_
  simp
  have hO:=ai0 hn hl 1 gB0
  try simp [pObs] at hO
  refine ab0 13 hO ?_
  cases h:isT ts n 1 gB0 with
  | true =>
   refine rS0 ?_
   refine ax0 [] ?_
   exact rT5 @pKey.eq_1 h @pAns.eq_1 @pAns.eq_2 @pObs.eq_1
  | false =>
   refine rS0 ?_
   refine .of 1 ⟨by omega,fun q=>absurd q (by omega)⟩ (by omega) (Wk.subs (by simp) (by simp))
 ·have h1:=h1 (by omega)
  refine rS0 ?_
  rw [aO0 (e:=[vS (bS dk0)]) rfl]
  refine rS0 ?_
  refine aa0 [.e 0] ?_
  simp
  have hO:=ai0 hn hl 1 dk0
  try simp [pObs] at hO
  refine ab0 13 hO ?_
  cases h:isT ts n 1 dk0 with
  | true =>
   refine rS0 ?_
   refine ax0 [] ?_
   exact rT6 @pKey.eq_1 h h1 @pAns.eq_1 @pAns.eq_2 @pObs.eq_1
  | false =>
   refine rS0 ?_
   refine .of 2 ⟨by omega,fun _=>h1⟩ (by omega) (Wk.subs (by simp) (by simp))
 ·have h1:=h1 (by omega)
  have h2:=h2 (by omega)
  refine rS0 ?_
  refine aa0 [.e 0] ?_
  simp
  have hO:=aW0 hn 31
  try simp [pObs] at hO
  refine af0 hO ?_
  refine rS0 ?_
  refine endP ?_
  exact rT7 @pKey.eq_1 h1 h2 @pAns.eq_1 @pAns.eq_2 @pObs.eq_1 @e70.eq_1
theorem c90 (hE:TEnd ts) (hl:ts.length < 2 ^ 40):∀ (r d n:Nat),d + r=5->n < ts.length->J prog gd0 [.bp (.e 0) 0,vI d] (pObs ts n) (·=pAns ts bsV (fI0 ts r n))
 | 0,d,n,hd,hn=>by
  have hd':(4:Int) < d:=by omega
  refine at0 fz0 (by simp [pObs]) ?_
  refine rS5 @dp0.eq_1 @pObs.eq_1 @hpE.eq_1 @hpE.eq_2 hd' ?_
  refine aa0 [.e 0] ?_
  simp
  have hO:=aW0 hn 32
  try simp [pObs] at hO
  refine af0 hO ?_
  refine rS0 ?_
  refine endP ?_
  exact rT6 @fI0.eq_1 @fI0.eq_2 @e70.eq_1 @pAns.eq_1 @pAns.eq_2 @pObs.eq_1
 | r + 1,d,n,hd,hn=>by
  have hd':¬ (4:Int) < d:=by omega
  have hw:fI0 ts (r + 1) n=fI0 ts (r + 1) n:=rfl
  conv at hw=>rhs; rw [fI0]
  refine at0 fz0 (by simp [pObs]) ?_
  refine rS5 @dp0.eq_1 @pObs.eq_1 @hpE.eq_1 @hpE.eq_2 hd' ?_
  refine aa0 [.e 0] ?_
  simp
  have hO:=ai0 hn hl 1 ek0
  try simp [pObs] at hO
  refine ab0 14 hO ?_
  cases h1:isT ts n 1 ek0 with
  | true =>
   rw [h1] at hw
   simp only [if_true] at hw
   refine rS0 ?_
   refine ax0 [] ?_
   exact rT5 hw @pAns.eq_1 @pAns.eq_2 @pObs.eq_1 @ek0.eq_1
  | false =>
  rw [h1] at hw
  refine rS0 ?_
  refine aa0 [.e 0] ?_
  simp
  have hO:=ai0 hn hl 4 [91]
  try simp [pObs] at hO
  refine ab0 17 hO ?_
  cases h2:isT ts n 4 [91] with
  | true =>
   have h0:=aw0 hE hn h2 (by decide)
   rw [h2] at hw
   simp only [Bool.false_eq_true,if_false,if_true] at hw
   refine rS0 ?_
   have hJ:=c90 hE hl r (d + 1) (n + 1) (by omega) h0
   rcases hR21:fI0 ts r (n + 1) with ⟨t,n1⟩ | ⟨aa,ae⟩
   rotate_left
   ·rw [hR21] at hJ hw
    try simp only [LxR.bind] at hw
    simp only [pAns,ar0] at hJ
    refine aa0 [.e 0] ?_
    simp
    have hO:=hJ
    try simp [pObs] at hO
    refine af0 hO ?_
    refine rS0 ?_
    refine endP ?_
    exact rT6 hw @pAns.eq_1 @pAns.eq_2 @ar0.eq_1 @ar0.eq_2 @pObs.eq_1
   rw [hR21] at hJ hw
   try simp only [LxR.bind] at hw
   simp only [pAns,ar0] at hJ
   refine aa0 [.e 0] ?_
   simp
   have hO:=hJ
   try simp [pObs] at hO
   refine ab0 21 hO ?_
   have q1:=eN0 hE h0 hR21
   refine rS0 ?_
   have hJ:=aq0 q1.2.1 hl [93]
   rcases hR23:bh0 ts n1 [93] with n2 | ⟨aa,ae⟩
   rotate_left
   ·rw [hR23] at hJ hw
    try simp only [LxR.bind] at hw
    simp only [pAns,ar0] at hJ
    refine aa0 [.e 0] ?_
    simp
    have hO:=hJ
    try simp [pObs] at hO
    refine af0 hO ?_
    refine rS0 ?_
    refine endP ?_
    exact rT6 hw @pAns.eq_1 @pAns.eq_2 @ar0.eq_1 @ar0.eq_2 @pObs.eq_1
   rw [hR23] at hJ hw
   try simp only [LxR.bind] at hw
   simp only [pAns,ar0] at hJ
   refine aa0 [.e 0] ?_
   simp
   have hO:=hJ
   try simp [pObs] at hO
   refine ab0 23 hO ?_
   refine rS2 @fQ0 @dn0 ?_
   refine ax0 [] ?_
   exact rT4 hw @pAns.eq_1 @pAns.eq_2 @pObs.eq_1
  | false =>
  rw [h2] at hw
  refine rS0 ?_
  refine aa0 [.e 0] ?_
  simp
  have hO:=ai0 hn hl 4 [123]
  try simp [pObs] at hO
  refine ab0 29 hO ?_
  cases h3:isT ts n 4 [123] with
  | true =>
   have h0:=aw0 hE hn h3 (by decide)
   rw [h3] at hw
   simp only [Bool.false_eq_true,if_false,if_true] at hw
   refine rS0 ?_
   have hJ:=j60 hE hl h0
   rcases hR31:pKey ts (n + 1) with ⟨k,n0⟩ | ⟨aa,ae⟩
   rotate_left
   ·rw [hR31] at hJ hw
    try simp only [LxR.bind] at hw
    simp only [pAns,ar0] at hJ
    refine aa0 [.e 0] ?_
    simp
    have hO:=hJ
    try simp [pObs] at hO
    refine af0 hO ?_
    refine rS0 ?_
    refine endP ?_
    exact rT6 hw @pAns.eq_1 @pAns.eq_2 @ar0.eq_1 @ar0.eq_2 @pObs.eq_1
   rw [hR31] at hJ hw
   try simp only [LxR.bind] at hw
   simp only [pAns,ar0] at hJ
   refine aa0 [.e 0] ?_
   simp
   have hO:=hJ
   try simp [pObs] at hO
   refine ab0 31 hO ?_
   have q0:=qL0 hE h0 hR31
   refine rS0 ?_
   have hJ:=aq0 q0.2.1 hl [58]
   rcases hR33:bh0 ts n0 [58] with n1 | ⟨aa,ae⟩
   rotate_left
   ·rw [hR33] at hJ hw
    try simp only [LxR.bind] at hw
    simp only [pAns,ar0] at hJ
    refine aa0 [.e 0] ?_
    simp
    have hO:=hJ
    try simp [pObs] at hO
    refine af0 hO ?_
    refine rS0 ?_
    refine endP ?_
    exact rT6 hw @pAns.eq_1 @pAns.eq_2 @ar0.eq_1 @ar0.eq_2 @pObs.eq_1
   rw [hR33] at hJ hw
   try simp only [LxR.bind] at hw
   simp only [pAns,ar0] at hJ
   refine aa0 [.e 0] ?_
   simp
   have hO:=hJ
   try simp [pObs] at hO
   refine ab0 33 hO ?_
   have q1:=ak0 hE q0.2.1 hR33
   refine rS0 ?_
   have hJ:=c90 hE hl r (d + 1) n1 (by omega) q1.2
   rcases hR37:fI0 ts r n1 with ⟨t,n2⟩ | ⟨aa,ae⟩
   rotate_left
   ·rw [hR37] at hJ hw
    try simp only [LxR.bind] at hw
    simp only [pAns,ar0] at hJ
    refine aa0 [.e 0] ?_
    simp
    have hO:=hJ
    try simp [pObs] at hO
    refine af0 hO ?_
    refine rS0 ?_
    refine endP ?_
    exact rT6 hw @pAns.eq_1 @pAns.eq_2 @ar0.eq_1 @ar0.eq_2 @pObs.eq_1
   rw [hR37] at hJ hw
   try simp only [LxR.bind] at hw
   simp only [pAns,ar0] at hJ
   refine aa0 [.e 0] ?_
   simp
   have hO:=hJ
   try simp [pObs] at hO
   refine ab0 37 hO ?_
   have q2:=eN0 hE q1.2 hR37
   refine rS0 ?_
   have hJ:=aq0 q2.2.1 hl [125]
   rcases hR39:bh0 ts n2 [125] with n3 | ⟨aa,ae⟩
   rotate_left
   ·rw [hR39] at hJ hw
    try simp only [LxR.bind] at hw
    simp only [pAns,ar0] at hJ
    refine aa0 [.e 0] ?_
    simp
    have hO:=hJ
    try simp [pObs] at hO
    refine af0 hO ?_
    refine rS0 ?_
    refine endP ?_
    exact rT6 hw @pAns.eq_1 @pAns.eq_2 @ar0.eq_1 @ar0.eq_2 @pObs.eq_1
   rw [hR39] at hJ hw
   try simp only [LxR.bind] at hw
   simp only [pAns,ar0] at hJ
   refine aa0 [.e 0] ?_
   simp
   have hO:=hJ
   try simp [pObs] at hO
   refine ab0 39 hO ?_
   refine rS2 @fQ0 @dn0 ?_
   refine ax0 [] ?_
   exact rT4 hw @pAns.eq_1 @pAns.eq_2 @pObs.eq_1
  | false =>
  rw [h3] at hw
  simp only [Bool.false_eq_true,if_false,if_true] at hw
  refine rS0 ?_
  have hJ:=j60 hE hl hn
  rcases hR47:pKey ts n with ⟨k,n0⟩ | ⟨aa,ae⟩
  rotate_left
  ·rw [hR47] at hJ hw
   try simp only [LxR.bind] at hw
   simp only [pAns,ar0] at hJ
   refine aa0 [.e 0] ?_
   simp
   have hO:=hJ
   try simp [pObs] at hO
   refine af0 hO ?_
   refine rS0 ?_
   refine endP ?_
   exact rT6 hw @pAns.eq_1 @pAns.eq_2 @ar0.eq_1 @ar0.eq_2 @pObs.eq_1
  rw [hR47] at hJ hw
  try simp only [LxR.bind] at hw
  simp only [pAns,ar0] at hJ
  refine aa0 [.e 0] ?_
  simp
  have hO:=hJ
  try simp [pObs] at hO
  refine ab0 47 hO ?_
  refine rS0 ?_
  refine ax0 [] ?_
  exact rT4 hw @pAns.eq_1 @pAns.eq_2 @pObs.eq_1
def hasB (l:Bs) (c:UInt8):Bool:=l.contains c
def asV (l:Bs):List V:=(List.range 256).map fun b=>vB (l.contains (UInt8.ofNat b))
@[simp] theorem asV_len (l:Bs):(asV l).length=256:=by simp [asV]
theorem oj0 (l:Bs) {j:Nat} (h:j < 256):(asV l)[j]?=some (vB (l.contains (UInt8.ofNat j))):=by
 unfold asV
 rw [List.getElem?_map,List.getElem?_range h]; rfl
theorem jh0 (l:Bs):kG0 (asV l)=true:=by
 unfold asV kG0
 rw [List.all_eq_true]
 intro v hv
 obtain ⟨b,_,rfl⟩:=List.mem_map.1 hv
 rfl
section
variable {l:Bs} {K:V->Prop} {Ks:List V->Prop} {hp:Hp}
@[simp] theorem asV_has0 {i:Id}:V.hasL i (asV l)=false:=fE0 (jh0 l) i
@[simp] theorem asV_scalars0:scalars (asV l)=true:=ca0 (jh0 l)
@[simp] theorem asV_pure0:V.bt0 (asV l)=true:=ec0 (jh0 l)
@[simp] theorem asV_see0 {nl:Bool} {ks:List Id}:V.seeL nl ks hp (asV l) Ks=Ks (asV l):=gM0 (jh0 l) nl ks Ks
@[simp] theorem asV_map0 {f:Id->Option Id}:c70 f (asV l) Ks=Ks (asV l):=gL0 (jh0 l) f Ks
@[simp] theorem asV_hide0 {ks:List Id}:V.bq0 ks (asV l)=asV l:=eU0 (jh0 l) ks
@[simp] theorem asV_take:(asV l).take 256=asV l:=List.take_of_length_le (by simp)
@[simp] theorem asV_drop:(asV l).drop 256=[]:=List.drop_of_length_le (by simp)
theorem asV_nth {c:UInt8}:nthK (asV l) c.toNat K=K (vB (hasB l c)):=by
 unfold hasB
 have h:=c.toNat_lt
 rw [iO0,oj0 l h]
 apply propext
 constructor
 ·rintro ⟨v,e,hk⟩; injection e with e; subst e; simpa using hk
 ·intro hk; exact ⟨_,rfl,by simpa using hk⟩
end
theorem asV_set (l:Bs) (c:UInt8):setAt (asV l) c.toNat [vB true]=asV (l++[c]):=by
 have hc:=c.toNat_lt
 unfold setAt
 apply List.ext_getElem?
 intro j
 by_cases hj:j < 256
 ·rw [oj0 _ hj]
  rcases Nat.lt_trichotomy j c.toNat with h | h | h
  ·rw [List.append_assoc,List.getElem?_append_left (by simp; omega),List.getElem?_take,if_pos h,oj0 _ hj]
   have hne:¬ UInt8.ofNat j=c:=fun e=>by
    have:=congrArg UInt8.toNat e
    simp at this; omega
   have:(l++[c]).contains (UInt8.ofNat j)=l.contains (UInt8.ofNat j):=by
    rw [Bool.eq_iff_iff]; simp [hne]
   rw [this]
  ·subst h
   rw [List.append_assoc,List.getElem?_append_right (by simp; omega)]
   simp [Nat.min_eq_left (Nat.le_of_lt hc)]
  ·rw [List.append_assoc,List.getElem?_append_right (by simp; omega),List.getElem?_append_right (by simp; omega),List.getElem?_drop]
   have e:c.toNat + [vB true].length + (j - ((asV l).take c.toNat).length - [vB true].length)=j:=by simp; omega
   rw [e,oj0 _ hj]
   have hne:¬ UInt8.ofNat j=c:=fun e=>by
    have:=congrArg UInt8.toNat e
    simp at this; omega
   have:(l++[c]).contains (UInt8.ofNat j)=l.contains (UInt8.ofNat j):=by
    rw [Bool.eq_iff_iff]; simp [hne]
   rw [this]
 ·rw [List.getElem?_eq_none (by simp; omega),List.getElem?_eq_none (by simp; omega)]
theorem asV_set' (l:Bs) (c:UInt8):(asV l).take c.toNat++vB true :: (asV l).drop (c.toNat + 1)=asV (l++[c]):=by
 rw [<- asV_set]; simp [setAt]
def hP0 (l:Bs):List Ob:=[.box (asV l)]
theorem eq0 (l:Bs) (c:UInt8):J prog c40 [.bp (.e 0) 0,vU c] (hP0 l) (·=.ret (vB (hasB l c)) (hP0 l)):=by
 have hc:=c.toNat_lt
 have hc':(c.toNat:Int) < 256:=by omega
 refine at0 fF0 (by simp [hP0]) ?_
 refine rS5 @cU0.eq_1 @hP0.eq_1 @hpE.eq_1 @hpE.eq_2 hc' ?_
 rw [asV_nth]
 refine rS0 ?_
 refine ax0 [] ?_
 exact rT0
theorem cM0 (l:Bs) (i j:Nat):(bS l).extract i j=bS ((l.drop i).take (j - i)):=by
 have h:=dP0 (bS l) i j
 generalize (bS l).extract i j=x at h
 obtain ⟨⟨x⟩⟩:=x
 exact congrArg bS h
def iu0 (set s:Bs):Bs:=(s.reverse.dropWhile set.contains).reverse
def ku0 (set s:Bs):Bs:=s.dropWhile set.contains
theorem trimR_nil (set:Bs):iu0 set []=[]:=rfl
theorem sv0 (set s:Bs) (c:UInt8):iu0 set (s++[c])=if hasB set c then iu0 set s else s++[c]:=by
 unfold iu0 hasB
 rw [List.reverse_append]
 simp only [List.reverse_cons,List.reverse_nil,List.nil_append,List.singleton_append,List.dropWhile_cons]
 split
 ·rfl
 ·simp
theorem su0 (set s:Bs) (c:UInt8):ku0 set (c :: s)=if hasB set c then ku0 set s else c :: s:=by
 unfold ku0 hasB
 rw [List.dropWhile_cons]
theorem kv0 (l s:Bs) (hs:s.length < 2 ^ 40):J prog dM0 [vS (bS s),.bp (.e 0) 0] (hP0 l) (·=.ret (vS (bS (iu0 l s))) (hP0 l)):=by
 refine at0 g40 (by simp [hP0]) ?_
 refine rS4 @dv0.eq_1 @hP0.eq_1 @hpE.eq_1 @hpE.eq_2 ?_
 refine aH0 (fun r:Bs=>r.length) (fun r=>[(0,vS (bS r)),(1,.bp (.e 0) 0)]) (fun _=>[(.e 0,.box (asV l))]) (fun r=>r.length<=s.length/\iu0 l r=iu0 l s) s ⟨Nat.le_refl _,rfl⟩ (Wk.subs (by simp) (by simp)) ?_
 rintro r ⟨hr,ht⟩
 rcases List.eq_nil_or_concat r with rfl | ⟨r',c,rfl⟩
 ·rw [<- ht]
  refine rS1 @dn0 ?_
  refine ax0 [] ?_
  exact rT1 @trimR_nil
 ·rw [List.concat_eq_append] at *
  have hsz:(bS (r'++[c])).size=r'.length + 1:=by rw [dn0]; simp
  have hpos:(0:Int) < (r'.length:Int) + 1:=by omega
  have hr':r'.length + 1<=s.length:=by simpa using hr
  have hget:(r'++[c])[r'.length]?=some c:=by simp
  refine rS3 hsz hpos hget ?_
  refine aa0 [.e 0] ?_
  simp
  have hO:=eq0 l c
  try simp [hP0] at hO
  refine ab0 14 hO ?_
  rw [sv0] at ht
  cases h:hasB l c with
  | true =>
   rw [h,if_pos rfl] at ht
   refine rS2 hsz @cM0 ?_
   refine .of r' ⟨by omega,ht⟩ (by simp) (Wk.subs (by simp) (by simp))
  | false =>
   rw [h,if_neg (by simp)] at ht
   rw [<- ht]
   refine rS0 ?_
   refine ax0 [] ?_
   exact rT0
theorem k70 (l s:Bs) (hs:s.length < 2 ^ 40):J prog eb0 [vS (bS s),.bp (.e 0) 0] (hP0 l) (·=.ret (vS (bS (ku0 l s))) (hP0 l)):=by
 refine at0 hE0 (by simp [hP0]) ?_
 refine rS4 @dJ0.eq_1 @hP0.eq_1 @hpE.eq_1 @hpE.eq_2 ?_
 refine aH0 (fun r:Bs=>r.length) (fun r=>[(0,vS (bS r)),(1,.bp (.e 0) 0)]) (fun _=>[(.e 0,.box (asV l))]) (fun r=>r.length<=s.length/\ku0 l r=ku0 l s) s ⟨Nat.le_refl _,rfl⟩ (Wk.subs (by simp) (by simp)) ?_
 rintro r ⟨hr,ht⟩
 cases r with
 | nil =>
  rw [<- ht]
  refine rS1 @dn0 ?_
  refine ax0 [] ?_
  exact rT1 @ku0.eq_1
 | cons c r' =>
  have hsz:(bS (c :: r')).size=r'.length + 1:=by rw [dn0]; simp
  have hpos:(0:Int) < (r'.length:Int) + 1:=by omega
  have hr':r'.length + 1<=s.length:=by simpa using hr
  refine rS2 hsz hpos ?_
  refine aa0 [.e 0] ?_
  simp
  have hO:=eq0 l c
  try simp [hP0] at hO
  refine ab0 11 hO ?_
  rw [su0] at ht
  cases h:hasB l c with
  | true =>
   rw [h,if_pos rfl] at ht
   refine rS2 hsz @cM0 ?_
   refine .of r' ⟨by omega,ht⟩ (by simp) (Wk.subs (by simp) (by simp))
  | false =>
   rw [h,if_neg (by simp)] at ht
   rw [<- ht]
   refine rS0 ?_
   refine ax0 [] ?_
   exact rT0
end Go.Am
end

section
namespace Go.Am
def ep0 (s:Bs):Bool:=decide (s=gB0) || decide (s=ek0) || decide (s=dk0)
def dl0:Bs:=[123,105,110,116,58]
def cj0:Bs:=[123,116,101,120,116,58]
def tyB:Nat->Bs->Bool
 | 0,s=>ep0 s
 | r + 1,s =>
  if ep0 s then true
  else if s.length < 2 then false
  else if [91].isPrefixOf s.dropLast then decide (s.getLast?=some 93) && tyB r (s.dropLast.drop 1)
  else if dl0.isPrefixOf s.dropLast then decide (s.getLast?=some 125) && tyB r (s.dropLast.drop 5)
  else if cj0.isPrefixOf s.dropLast then decide (s.getLast?=some 125) && tyB r (s.dropLast.drop 6)
  else false
inductive IsTy:Nat->Bs->Prop
 | base {s:Bs} (h:ep0 s=true):IsTy 1 s
 | list {d:Nat} {s:Bs} (h:IsTy d s):IsTy (d + 1) ([91]++s++[93])
 | mapI {d:Nat} {s:Bs} (h:IsTy d s):IsTy (d + 1) (dl0++s++[125])
 | mapT {d:Nat} {s:Bs} (h:IsTy d s):IsTy (d + 1) (cj0++s++[125])
theorem gW0 {s:Bs} (h:ep0 s=true):s=gB0\/s=ek0\/s=dk0:=by
 simpa [ep0,or_assoc] using h
theorem nh0 {s:Bs} (h:ep0 s=true):s.head?=some 105\/s.head?=some 98\/s.head?=some 116:=by
 rcases gW0 h with rfl | rfl | rfl <;> simp [gB0,ek0,dk0]
theorem qZ0 (s:Bs):ep0 ([91]++s)=false:=by
 rw [<- Bool.not_eq_true]; intro h; have:=nh0 h; simp at this
theorem ob0 (s:Bs):ep0 (123 :: s)=false:=by
 rw [<- Bool.not_eq_true]; intro h; have:=nh0 h; simp at this
theorem ty_pos {d:Nat} {s:Bs} (h:IsTy d s):0 < d:=by cases h <;> omega
theorem tyB_list (r:Nat) (s:Bs):tyB (r + 1) ([91]++s++[93])=tyB r s:=by
 rw [tyB]
 have h0:ep0 ([91]++s++[93])=false:=by rw [List.append_assoc]; exact qZ0 _
 have h1:([91]++s++[93]:Bs).dropLast=[91]++s:=List.dropLast_concat
 have h2:([91]++s++[93]:Bs).getLast?=some 93:=List.getLast?_concat
 rw [h0,h1,h2]
 simp
theorem tyB_mapI (r:Nat) (s:Bs):tyB (r + 1) (dl0++s++[125])=tyB r s:=by
 rw [tyB]
 have h0:ep0 (dl0++s++[125])=false:=ob0 _
 have h1:(dl0++s++[125]:Bs).dropLast=dl0++s:=List.dropLast_concat
 have h2:(dl0++s++[125]:Bs).getLast?=some 125:=List.getLast?_concat
 rw [h0,h1,h2]
 simp [dl0]
theorem tyB_mapT (r:Nat) (s:Bs):tyB (r + 1) (cj0++s++[125])=tyB r s:=by
 rw [tyB]
 have h0:ep0 (cj0++s++[125])=false:=ob0 _
 have h1:(cj0++s++[125]:Bs).dropLast=cj0++s:=List.dropLast_concat
 have h2:(cj0++s++[125]:Bs).getLast?=some 125:=List.getLast?_concat
 rw [h0,h1,h2]
 simp [cj0,dl0]
theorem tyB_ty {d:Nat} {s:Bs} (h:IsTy d s):∀ r,tyB r s=decide (d<=r + 1):=by
 induction h with
 | base h=>intro r; cases r <;> simp [tyB,h]
 | list h ih=>intro r; cases r with
  | zero=>simp [tyB,ep0]; have:=ty_pos h; simp [gB0,ek0,dk0]; omega
  | succ r=>rw [tyB_list,ih]; simp
 | mapI h ih=>intro r; cases r with
  | zero=>simp [tyB,ep0]; have:=ty_pos h; simp [gB0,ek0,dk0,dl0]; omega
  | succ r=>rw [tyB_mapI,ih]; simp
 | mapT h ih=>intro r; cases r with
  | zero=>simp [tyB,ep0]; have:=ty_pos h; simp [gB0,ek0,dk0,cj0]; omega
  | succ r=>rw [tyB_mapT,ih]; simp
theorem hU0 {s:Bs} {c:UInt8} (h:s.getLast?=some c):s=s.dropLast++[c]:=by
 have hne:s ≠ []:=by rintro rfl; simp at h
 rw [List.getLast?_eq_some_getLast hne] at h
 injection h with h
 conv=>lhs; rw [<- List.dropLast_concat_getLast hne,h]
theorem tyB_is {r:Nat} {s:Bs} (h:tyB r s=true):∃ d,IsTy d s/\d<=r + 1:=by
 induction r generalizing s with
 | zero=>exact ⟨1,.base (by simpa [tyB] using h),by omega⟩
 | succ r ih =>
  rw [tyB] at h
  split at h
  ·exact ⟨1,.base ‹_›,by omega⟩
  split at h
  ·cases h
  split at h
  ·rename_i hp
   obtain ⟨t,ht⟩:=List.isPrefixOf_iff_prefix.1 hp
   simp only [Bool.and_eq_true,decide_eq_true_eq] at h
   rw [<- ht] at h
   change _/\tyB r t=true at h
   obtain ⟨d,hd,hle⟩:=ih h.2
   have e:=hU0 h.1
   rw [<- ht] at e
   rw [e]; exact ⟨d + 1,.list hd,by omega⟩
  split at h
  ·rename_i hp
   obtain ⟨t,ht⟩:=List.isPrefixOf_iff_prefix.1 hp
   simp only [Bool.and_eq_true,decide_eq_true_eq] at h
   rw [<- ht] at h
   change _/\tyB r t=true at h
   obtain ⟨d,hd,hle⟩:=ih h.2
   have e:=hU0 h.1
   rw [<- ht] at e
   rw [e]; exact ⟨d + 1,.mapI hd,by omega⟩
  split at h
  ·rename_i hp
   obtain ⟨t,ht⟩:=List.isPrefixOf_iff_prefix.1 hp
   simp only [Bool.and_eq_true,decide_eq_true_eq] at h
   rw [<- ht] at h
   change _/\tyB r t=true at h
   obtain ⟨d,hd,hle⟩:=ih h.2
   have e:=hU0 h.1
   rw [<- ht] at e
   rw [e]; exact ⟨d + 1,.mapT hd,by omega⟩
  ·cases h
end Go.Am
end

section
namespace Go.Am
def cS0 (s:Bs):Bool:=decide (s ≠ []) && decide (s.length<=16) && !(al0.contains (s.headD 0)) && s.all (fun c=>(au0++al0).contains c) && !(qC0.contains s)
def qg0 (s:Bs):Bool:=tyB 3 s
def gt0 (s:Bs):Bool:=decide (s.length<=256) && s.all (fun c=>decide (32<=c/\c<=126))
def io0 (s:Bs):Bs:=[34]++s.flatMap (fun c=>if c=92 then [92,92] else if c=34 then [92,34] else [c])++[34]
def numB (n:Int):Bs:=Lib.itoa n
def sepB (ts:List Bs):Bs:=(ts.mapIdx fun i t=>(if i=0 then [] else [44,32])++t).flatten
def opOk (op:Int):Bool:=decide (1<=op/\op<=13)
def lvl (op:Int):Int:=if op<=2 then op else if op<=8 then 3 else if op<=10 then 4 else 5
def opB (op:Int):Bs:=pOps.getD (op.toNat - 1) []
def within (s:Bs) (b:Bool):Bs:=if b then [40]++s++[41] else s
def dT0 (x:Exq) (n:Int):Bool:=decide (x.kind=15) && decide (lvl x.op < n)
def oC0 (x:Exq):Bool:=decide (x.kind=15\/x.kind=13\/x.kind=14)
mutual
def shE:Exq->Option Bs
 | .mk k op num text slot type args at_ =>
  if k=1 then (if args=[]/\0<=num then some (numB num) else none)
  else if k=2 then (if args=[]/\(num=0\/num=1) then some (if num=1 then hG0 else eG0) else none)
  else if k=3 then (if args=[]/\gt0 (sB text)=true then some (io0 (sB text)) else none)
  else if k=6 then (if args=[]/\cS0 (sB text)=true then some (sB text) else none)
  else if k=7 then (if cS0 (sB text)=true then (shL args).map fun l=>sB text++[40]++sepB l++[41] else none)
  else if k=12 then (match args,shL args with
   | [x,y],some [a,b]=>some (within a (oC0 x)++[91]++b++[93])
   | _,_=>none)
  else if k=13\/k=14 then (match args,shL args with
   | [x],some [a]=>some ((if k=13 then [45] else [33])++within a (decide (x.kind=15)))
   | _,_=>none)
  else if k=15 then (match args,shL args with
   | [x,y],some [a,b]=>if opOk op then some (within a (dT0 x (if lvl op=3 then 4 else lvl op))++[32]++opB op++[32]++within b (dT0 y (lvl op + 1))) else none
   | _,_=>none)
  else none
def shL:List Exq->Option (List Bs)
 | []=>some []
 | x :: l=>match shE x,shL l with
  | some a,some b=>some (a :: b)
  | _,_=>none
end
mutual
def plE:Exq->Bool
 | .mk k op num text slot type args at_=>decide (num < 9223372036854775808/\args.length < 1073741824) && plL args
def plL:List Exq->Bool
 | []=>true
 | x :: l=>plE x && plL l
end
def tabs (n:Nat):Bs:=List.replicate n 9
mutual
def shS (n:Nat):Stm->Option Bs
 | .mk k name slot state num e body els at_ =>
  if k=1 then (match shL e with
   | some [a]=>if cS0 (sB name)=true then some (e30++[32]++sB name++[32,61,32]++a++[59]) else none
   | _=>none)
  else if k=2 then (match shL e with
   | some [a]=>if cS0 (sB name)=true then some (dE0++[32]++sB name++[32,61,32]++a++[59]) else none
   | some [a,b]=>if cS0 (sB name)=true then some (dE0++[32]++sB name++[91]++a++[93]++[32,61,32]++b++[59]) else none
   | _=>none)
  else if k=3 then (match shL e with
   | some [a]=>if cS0 (sB name)=true then some (e00++[32]++sB name++[91]++a++[93,59]) else none
   | _=>none)
  else if k=4 then (match shL e,shB n body,shB n els with
   | some [a],some b,some c=>some (kwIf++[32]++a++[32]++b++(if els=[] then [] else [32]++co0++[32]++c))
   | _,_,_=>none)
  else if k=5 then (match shL e,shB n body with
   | some [a],some b=>if cS0 (sB name)=true then some (e20++[32]++sB name++[32]++kwTo++[32]++a++[32]++b) else none
   | _,_=>none)
  else if k=6 then (match shL e with
   | some [a]=>some (e40++[32]++a++[59])
   | _=>none)
  else none
def shB (n:Nat):List Stm->Option Bs
 | []=>some [123,125]
 | x :: l=>match shS (n + 1) x,shT n l with
  | some a,some b=>some ([123,10]++(tabs (n + 1)++a++[10]++b)++tabs n++[125])
  | _,_=>none
def shT (n:Nat):List Stm->Option Bs
 | []=>some []
 | x :: l=>match shS (n + 1) x,shT n l with
  | some a,some b=>some (tabs (n + 1)++a++[10]++b)
  | _,_=>none
end
theorem o20 (n:Nat) (x:Stm) (l:List Stm):shB n (x :: l)=(shT n (x :: l)).map fun t=>[123,10]++t++tabs n++[125]:=by
 rw [shB.eq_def,shT.eq_def]
 dsimp only
 cases shS (n + 1) x <;> cases shT n l <;> rfl
mutual
def plS:Stm->Bool
 | .mk k name slot state num e body els at_=>plL e && decide (e.length < 1073741824/\body.length < 1073741824/\els.length < 1073741824) && plB body && plB els
def plB:List Stm->Bool
 | []=>true
 | x :: l=>plS x && plB l
end
def gT0 (s:Slo):Option Bs:=if qg0 (sB s.type) && cS0 (sB s.name) then some (sB s.name++[58,32]++sB s.type) else none
def ck0:List Slo->Option (List Bs)
 | []=>some []
 | s :: l=>match gT0 s,ck0 l with
  | some a,some b=>some (a :: b)
  | _,_=>none
def b00:List Slo->Option Bs
 | []=>some []
 | s :: l=>match gT0 s,b00 l with
  | some a,some b=>some (el0++[32]++a++[59,10]++b)
  | _,_=>none
def nG0 (f:Fun):Option Bs :=
 match ck0 f.params,shB 0 f.body with
 | some ps,some b=>if qg0 (sB f.result) && cS0 (sB f.name) then some ((if f.on then kwOn else kwFn)++[32]++sB f.name++[40]++sepB ps++[41,58,32]++sB f.result++[32]++b++[10]) else none
 | _,_=>none
def ez0:List Fun->Option Bs
 | []=>some []
 | f :: l=>match nG0 f,ez0 l with
  | some a,some b=>some (a++b)
  | _,_=>none
def shP (p:Prg):Option Bs :=
 if 0<=p.version then match b00 p.bN0,ez0 p.fns with
  | some a,some b=>some (bH0++[32]++numB p.version++[59,10]++a++b)
  | _,_=>none
 else none
end Go.Am
end

section
namespace Go.Am
set_option maxRecDepth 100000
attribute [local irreducible] vc vcIs vcI vcOp vcD vcDp vcDR vcT vcAR bY0 aX0 panD neG ne pv J bJ0 bP0 b20 bc0 evK evsK nthK objK boxK rowK bC0 intK strK aggK fnK ifcK ay0 az0 ldK ldaK iaK srcK stK appK appD b40 pvK bD0 aV0 bO0 bs0 slAV bI0
set_option maxHeartbeats 3200000 in
theorem ln0 (s:Bs) (hs:s.length < 2 ^ 20) (ha:∀ c ∈ s,c.toNat < 128):Ret prog ew0 [vS (bS s)] (.tup [.agg (asV s),vB true]):=by
 have hsz:(bS s).size=s.length:=rfl
 refine at0 h50 (by simp) ?_
 refine rS1 @dY0.eq_1 ?_
 refine bm0 s.length (fun i=>[(4,vI i),(2,.bp (.l 2 0) 0),(0,vS (bS s))]) (fun i=>[(.l 2 0,.box (asV (s.take i)))]) (Wk.subs (by simp) (by simp; rfl)) ?_
 intro i hi
 by_cases hlt:i < s.length
 ·have hlt':(i:Int) < s.length:=by omega
  have hc:=ha _ (List.getElem_mem hlt)
  have hget:s[i]?=some s[i]:=List.getElem?_eq_getElem hlt
  have htk:s.take (i + 1)=s.take i++[s[i]]:=by rw [List.take_add_one,hget]; rfl
  have hset:=asV_set' (s.take i) s[i]
  rw [<- htk] at hset
  have hc':¬ (128:Int)<=(s[i].toNat:Int):=by omega
  have hc2:(s[i].toNat:Int) < 256:=by omega
  refine rS5 hsz hlt' hget hc' hc2 ?_
  refine .of hlt (Wk.subs (by simp) (by simp [hset]))
 ·have hge':¬ (i:Int) < s.length:=by omega
  have:i=s.length:=by omega
  subst this
  refine rS2 hsz hge' ?_
  refine ax0 [] ?_
  exact rT0
set_option maxHeartbeats 3200000 in
theorem lB0 (s cut:Bs) (hs:s.length < 2 ^ 40) (h1:1 < cut.length) (h2:cut.length < 2 ^ 20) (ha:∀ c ∈ cut,c.toNat < 128):Ret prog jZ0 [vS (bS s),vS (bS cut)] (vS (bS (ku0 cut (iu0 cut s)))):=by
 have hsz:(bS cut).size=cut.length:=rfl
 have hne:¬ cut=[]:=by rintro rfl; simp at h1
 have h1':¬ (cut.length:Int)=1:=by omega
 refine at0 mK0 (by simp) ?_
 by_cases he:s=[]
 ·subst he
  refine rS1 @fV0.eq_1 ?_
  refine ax0 [] ?_
  exact rT2 @ku0.eq_1 @iu0.eq_1
 refine rS5 @fV0.eq_1 he hne hsz h1' ?_
 refine ao0 ?_; simp; refine aj0 (ln0 cut h2 ha) (by simp) ?_
 refine rS0 ?_
 have hr:(iu0 cut s).length < 2 ^ 40:=by
  unfold iu0
  have:=(List.dropWhile_sublist (l:=s.reverse) cut.contains).length_le
  rw [List.length_reverse] at this ⊢; omega
 refine aa0 [.l 5 0] ?_
 simp
 have hO:=kv0 cut s hs
 try simp [hP0] at hO
 refine ab0 36 hO ?_
 refine rS0 ?_
 refine aa0 [.l 5 0] ?_
 simp
 have hO:=k70 cut (iu0 cut s) hr
 try simp [hP0] at hO
 refine ab0 37 hO ?_
 refine rS0 ?_
 refine ax0 [] ?_
 exact rT0
theorem os0 (p:UInt8->Bool) (r:Bs):(r.dropWhile p).all p=r.all p:=by
 induction r with
 | nil=>rfl
 | cons a r ih =>
  rw [List.dropWhile_cons]
  split
  ·rename_i h; rw [ih,List.all_cons,h]; rfl
  ·rfl
theorem dropWhile_nil (p:UInt8->Bool) (r:Bs):r.dropWhile p=[] ↔ r.all p=true:=by
 induction r with
 | nil=>simp
 | cons a r ih =>
  rw [List.dropWhile_cons,List.all_cons]
  cases p a with
  | true=>simpa using ih
  | false=>simp
theorem trim_nil (set s:Bs):ku0 set (iu0 set s)=[] ↔ s.all set.contains=true:=by
 unfold ku0
 rw [dropWhile_nil]
 unfold iu0
 rw [List.all_reverse,os0,List.all_reverse]
def pb0 (s:Bs):Bool:=decide (s ≠ []) && decide (s.length<=16) && !(al0.contains (s.headD 0)) && s.all (fun c=>(au0++al0).contains c)
theorem nameB_eq (s:Bs):cS0 s=(pb0 s && !(qC0.contains s)):=rfl
theorem oE0 (s:Bs) (hs:s.length < 2 ^ 40):Ret prog nM0 [vS (bS s)] (vB (pb0 s)):=by
 have hsz:(bS s).size=s.length:=rfl
 refine cZ0 qA0 (by simp) ?_
 cases s with
 | nil=>simp +contextual (maxSteps:=2000000) (disch:=omega) [-Int.not_lt,-Int.not_le,-Nat.not_lt,-Nat.not_le,sx,hQ0,pb0]
 | cons c s =>
 by_cases h16:s.length + 1<=16
 rotate_left
 ·have h16':¬ (s.length:Int) + 1<=16:=by omega
  exact rT5 @hQ0.eq_1 hsz h16' @pb0.eq_1 h16
 have h16':(s.length:Int) + 1<=16:=by omega
 refine rS3 @hQ0.eq_1 hsz h16' ?_
 refine ao0 ?_; simp; refine aj0 (aM0 ⟨⟨al0⟩⟩ c) (by simp) ?_
 rw [show sB ⟨⟨al0⟩⟩=al0 from rfl]
 have hm:=cc0 al0 c
 cases hd:al0.contains c with
 | true =>
  have hI:¬ Lib.indexByte al0 c < 0:=by have:=hm.2 hd; omega
  have hw:pb0 (c :: s)=false:=by
   unfold pb0
   rw [show List.headD (c :: s) 0=c from rfl,hd]; simp
  exact rT2 hI hw
 | false =>
  have hI:Lib.indexByte al0 c < 0:=by
   have:¬ 0<=Lib.indexByte al0 c:=fun h=>by rw [hm.1 h] at hd; cases hd
   omega
  refine rS1 hI ?_
  refine ao0 ?_; simp; refine aj0 (lB0 (c :: s) (au0++al0) hs (by decide) (by decide) (by decide)) (by simp) ?_
  have ht:=trim_nil (au0++al0) (c :: s)
  have hb:eqS (bS (ku0 (au0++al0) (iu0 (au0++al0) (c :: s)))) (bS [])=pb0 (c :: s):=by
   unfold eqS pb0
   rw [Bool.eq_iff_iff,decide_eq_true_eq]
   have h3:bS (ku0 (au0++al0) (iu0 (au0++al0) (c :: s)))=bS [] ↔ ku0 (au0++al0) (iu0 (au0++al0) (c :: s))=[]:=⟨fun h=>congrArg sB h,fun h=>by rw [h]⟩
   rw [h3,ht]
   have h4:(List.headD (c :: s) 0)=c:=rfl
   rw [h4,hd]
   simp [h16]
  generalize ku0 (au0++al0) (iu0 (au0++al0) (c :: s))=x at *
  rw [<- hb]
  exact rT1 @eqS.eq_1
abbrev noneV:V:=.ifc 61 (.agg [])
def mRes (b:Bool) (v:V):Res:=if b then .ret v [] else .pan noneV []
theorem j80 (b:Bool):J prog hY0 [vB b] [] (·=mRes b (.tup [])):=by
 refine at0 pw0 (by simp) ?_
 cases b with
 | true =>
  refine rS1 @iz0.eq_1 ?_
  refine b10 [] ?_
  exact rT1 @mRes.eq_1
 | false =>
  refine rS1 @iz0.eq_1 ?_
  refine endP ?_
  exact rT1 @mRes.eq_1
theorem am0:J prog hY0 [vB true] [] (·=.ret (.tup []) []):=j80 true
theorem jc0:J prog hY0 [vB false] [] (·=.pan noneV []):=j80 false
theorem nI0 (s:Bs) (hs:s.length < 2 ^ 40):J prog eB0 [vS (bS s)] [] (·=mRes (cS0 s) (vS (bS s))):=by
 refine at0 px0 (by simp) ?_
 generalize hn:cS0 s=nb
 rw [nameB_eq] at hn
 refine rS1 @lG0.eq_1 ?_
 refine ao0 ?_; simp; refine aj0 (oE0 s hs) (by simp) ?_
 cases h1:pb0 s with
 | false =>
  rw [h1] at hn; subst hn
  refine rS0 ?_
  refine aa0 [] ?_
  simp
  have hO:=jc0
  try simp [hP0] at hO
  refine af0 hO ?_
  refine rS0 ?_
  refine endP ?_
  exact rT1 @mRes.eq_1
 | true =>
  refine rS0 ?_
  refine ao0 ?_; simp; refine aj0 (gr0 (bS s)) (by simp) ?_
  have hr:e90 (bS s)=qC0.contains s:=rfl
  rw [hr]
  cases h2:qC0.contains s with
  | true =>
   rw [h1,h2] at hn; subst hn
   refine rS0 ?_
   refine aa0 [] ?_
   simp
   have hO:=jc0
   try simp [hP0] at hO
   refine af0 hO ?_
   refine rS0 ?_
   refine endP ?_
   exact rT1 @mRes.eq_1
  | false =>
   rw [h1,h2] at hn; subst hn
   refine rS0 ?_
   refine aa0 [] ?_
   simp
   have hO:=am0
   try simp [hP0] at hO
   refine ab0 10 hO ?_
   refine rS0 ?_
   refine ax0 [] ?_
   exact rT1 @mRes.eq_1
theorem tyB_snoc {r:Nat} {l:Bs} {c:UInt8} (hb:ep0 (l++[c])=false) (hl:l ≠ []):tyB (r + 1) (l++[c]) =
  (if [91].isPrefixOf l then decide (c=93) && tyB r (l.drop 1)
  else if dl0.isPrefixOf l then decide (c=125) && tyB r (l.drop 5)
  else if cj0.isPrefixOf l then decide (c=125) && tyB r (l.drop 6)
  else false):=by
 have h2:¬ (l++[c]).length < 2:=by
  have:=List.length_pos_iff.2 hl
  simp; omega
 rw [tyB,hb,List.dropLast_concat,List.getLast?_concat]
 simp only [Bool.false_eq_true,if_false,if_neg h2,Option.some.injEq]
theorem jy0 {r:Nat} {s:Bs} (h:ep0 s=true):tyB r s=true:=by cases r <;> simp [tyB,h]
theorem nH0:∀ (r d:Nat) (s:Bs),d + r=4->s.length < 2 ^ 40->Ret prog mD0 [vS (bS s),vI d] (vB (tyB r s)):=by
 intro r
 induction r with
 | zero =>
  intro d s hd hs
  have hd4:d=4:=by omega
  subst hd4
  refine at0 lQ0 (by simp) ?_
  by_cases h1:s=gB0
  ·subst h1
   refine rS2 @bo0.eq_1 @gB0.eq_1 ?_
   refine ax0 [] ?_
   simp +contextual (maxSteps:=2000000) (disch:=omega) [-Int.not_lt,-Int.not_le,-Nat.not_lt,-Nat.not_le,sx,jy0 (s:=[105,110,116]) (by decide)]
  by_cases h2:s=ek0
  ·subst h2
   refine rS2 @bo0.eq_1 @ek0.eq_1 ?_
   refine ax0 [] ?_
   simp +contextual (maxSteps:=2000000) (disch:=omega) [-Int.not_lt,-Int.not_le,-Nat.not_lt,-Nat.not_le,sx,jy0 (s:=[98,111,111,108]) (by decide)]
  by_cases h3:s=dk0
  ·subst h3
   refine rS2 @bo0.eq_1 @dk0.eq_1 ?_
   refine ax0 [] ?_
   simp +contextual (maxSteps:=2000000) (disch:=omega) [-Int.not_lt,-Int.not_le,-Nat.not_lt,-Nat.not_le,sx,jy0 (s:=[116,101,120,116]) (by decide)]
  have hb:tyB 0 s=false:=by simp [tyB,ep0,h1,h2,h3]
  rw [hb]
  have h1':¬ s=[105,110,116]:=h1
  have h2':¬ s=[98,111,111,108]:=h2
  have h3':¬ s=[116,101,120,116]:=h3
  have hsz:(bS s).size=s.length:=rfl
  by_cases hl:s.length < 2
  ·have hl':(s.length:Int) < 2:=by omega
   refine rS6 @bo0.eq_1 h1' h2' h3' hsz hl' ?_
   refine ax0 [] ?_
   exact rT0
  ·have hl':¬ (s.length:Int) < 2:=by omega
   refine rS6 @bo0.eq_1 h1' h2' h3' hsz hl' ?_
   refine ax0 [] ?_
   exact rT0
 | succ r ih =>
  intro d s hd hs
  have hd3:d<=3:=by omega
  have hd4:(d:Int)<=4:=by omega
  have hd4':¬ (4:Int)<=d:=by omega
  refine at0 lQ0 (by simp) ?_
  by_cases h1:s=gB0
  ·subst h1
   refine rS3 @bo0.eq_1 @gB0.eq_1 hd4 ?_
   refine ax0 [] ?_
   simp +contextual (maxSteps:=2000000) (disch:=omega) [-Int.not_lt,-Int.not_le,-Nat.not_lt,-Nat.not_le,sx,jy0 (s:=[105,110,116]) (by decide),hd4]
  by_cases h2:s=ek0
  ·subst h2
   refine rS3 @bo0.eq_1 @ek0.eq_1 hd4 ?_
   refine ax0 [] ?_
   simp +contextual (maxSteps:=2000000) (disch:=omega) [-Int.not_lt,-Int.not_le,-Nat.not_lt,-Nat.not_le,sx,jy0 (s:=[98,111,111,108]) (by decide),hd4]
  by_cases h3:s=dk0
  ·subst h3
   refine rS3 @bo0.eq_1 @dk0.eq_1 hd4 ?_
   refine ax0 [] ?_
   simp +contextual (maxSteps:=2000000) (disch:=omega) [-Int.not_lt,-Int.not_le,-Nat.not_lt,-Nat.not_le,sx,jy0 (s:=[116,101,120,116]) (by decide),hd4]
  have hb:ep0 s=false:=by simp [ep0,h1,h2,h3]
  have h1':¬ s=[105,110,116]:=h1
  have h2':¬ s=[98,111,111,108]:=h2
  have h3':¬ s=[116,101,120,116]:=h3
  have hsz:(bS s).size=s.length:=rfl
  generalize hw:tyB (r + 1) s=R
  by_cases hl:s.length < 2
  ·have hl':(s.length:Int) < 2:=by omega
   rw [tyB,hb,if_neg (by simp),if_pos hl] at hw
   subst hw
   refine rS6 @bo0.eq_1 h1' h2' h3' hsz hl' ?_
   refine ax0 [] ?_
   exact rT0
  have hl':¬ (s.length:Int) < 2:=by omega
  rcases List.eq_nil_or_concat s with rfl | ⟨l,c,rfl⟩
  ·exact absurd (by simp) hl
  rw [List.concat_eq_append] at *
  have hne:l ≠ []:=by rintro rfl; simp at hl
  rw [tyB_snoc hb hne] at hw
  have hsz':(bS (l++[c])).size=l.length + 1:=by rw [hsz]; simp
  have hl2:¬ ((l.length:Int) + 1 < 2):=by simp at hl'; omega
  have hls:l.length + 1 < 2 ^ 40:=by simpa using hs
  have hx:(bS (l++[c])).extract 0 l.length=bS l:=by rw [cM0]; simp
  have hgc:(l++[c])[l.length]?=some c:=by simp
  clear hsz hs hl hl'
  refine rS8 @bo0.eq_1 h1' h2' h3' hsz' hl2 hd4' hx ?_
  refine ao0 ?_; simp; refine aj0 (cT0 (bS l) (bS [91])) (by simp) ?_
  unfold cutP
  rw [show sB (bS l)=l from rfl,show sB (bS [91])=[91] from rfl]
  cases hp1:[91].isPrefixOf l with
  | true =>
   have hx1:(bS l).extract (bS [91]).size (bS l).size=bS (l.drop 1):=by
    rw [cM0,List.take_of_length_le (by rw [List.length_drop]; exact Nat.le_refl _)]; rfl
   rw [hp1,if_pos rfl] at hw
   rw [hx1]
   by_cases hc:c=93
   ·subst hc
    refine rS2 hsz' hgc ?_
    refine ao0 ?_; simp; refine aj0 (ih (d + 1) l.tail (by omega) (by rw [List.length_tail]; omega)) (by simp) ?_
    rw [List.drop_one] at hw
    simp only [decide_true,Bool.true_and] at hw
    rw [hw]
    refine rS0 ?_
    refine ax0 [] ?_
    exact rT0
   ·have hc':¬ (c.toNat:Int)=93:=fun h=>hc (UInt8.toNat_inj.1 (by exact_mod_cast h))
    simp only [hc,decide_false,Bool.false_and] at hw
    subst hw
    refine rS3 hsz' hgc hc' ?_
    refine ax0 [] ?_
    exact rT0
  | false =>
  rw [hp1,if_neg (by simp)] at hw
  refine rS0 ?_
  refine aH0 (fun y:Nat=>2 - y) (fun y=>[(49,vI y),(48,vI 2),(47,.arr (.l 47 0) 0 2),(0,vS (bS (l++[c]))),(1,vI d)])
   (fun _=>[(.l 47 0,.row 9 1 true [[vS (bS dl0)],[vS (bS cj0)]])])
   (fun y=>y<=2/\(0 < y->dl0.isPrefixOf l=false)/\(1 < y->cj0.isPrefixOf l=false)) 0 (by simp) (Wk.subs (by simp) (by simp [dl0,cj0])) ?_
  rintro y ⟨hy,g1,g2⟩
  have:y=0\/y=1\/y=2:=by omega
  rcases this with rfl | rfl | rfl
  ·refine rS0 ?_
   rw [aO0 (e:=[vS (bS dl0)]) rfl]
   refine rS3 hsz' hl2 hx ?_
   refine ao0 ?_; simp; refine aj0 (cT0 (bS l) (bS dl0)) (by simp) ?_
   unfold cutP
   rw [show sB (bS l)=l from rfl,show sB (bS dl0)=dl0 from rfl]
   cases hp2:dl0.isPrefixOf l with
   | true =>
    have hx1:(bS l).extract (bS dl0).size (bS l).size=bS (l.drop 5):=by
     rw [cM0,List.take_of_length_le (by rw [List.length_drop]; exact Nat.le_refl _)]; rfl
    rw [hp2,if_pos rfl] at hw
    rw [hx1]
    by_cases hc:c=125
    ·subst hc
     refine rS2 hsz' hgc ?_
     refine ao0 ?_; simp; refine aj0 (ih (d + 1) (l.drop 5) (by omega) (by simp; omega)) (by simp) ?_
     simp only [decide_true,Bool.true_and] at hw
     rw [hw]
     refine rS0 ?_
     refine ax0 [] ?_
     exact rT0
    ·have hc':¬ (c.toNat:Int)=125:=fun h=>hc (UInt8.toNat_inj.1 (by exact_mod_cast h))
     simp only [hc,decide_false,Bool.false_and] at hw
     subst hw
     refine rS3 hsz' hgc hc' ?_
     refine ax0 [] ?_
     exact rT0
   | false =>
    refine rS0 ?_
    refine .of 1 ⟨by omega,fun q=>absurd q (by omega)⟩ (by omega) (Wk.subs (by simp) (by simp))
  ·have g1:=g1 (by omega)
   rw [g1,if_neg (by simp)] at hw
   refine rS0 ?_
   rw [aO0 (e:=[vS (bS cj0)]) rfl]
   refine rS3 hsz' hl2 hx ?_
   refine ao0 ?_; simp; refine aj0 (cT0 (bS l) (bS cj0)) (by simp) ?_
   unfold cutP
   rw [show sB (bS l)=l from rfl,show sB (bS cj0)=cj0 from rfl]
   cases hp2:cj0.isPrefixOf l with
   | true =>
    have hx1:(bS l).extract (bS cj0).size (bS l).size=bS (l.drop 6):=by
     rw [cM0,List.take_of_length_le (by rw [List.length_drop]; exact Nat.le_refl _)]; rfl
    rw [hp2,if_pos rfl] at hw
    rw [hx1]
    by_cases hc:c=125
    ·subst hc
     refine rS2 hsz' hgc ?_
     refine ao0 ?_; simp; refine aj0 (ih (d + 1) (l.drop 6) (by omega) (by simp; omega)) (by simp) ?_
     simp only [decide_true,Bool.true_and] at hw
     rw [hw]
     refine rS0 ?_
     refine ax0 [] ?_
     exact rT0
    ·have hc':¬ (c.toNat:Int)=125:=fun h=>hc (UInt8.toNat_inj.1 (by exact_mod_cast h))
     simp only [hc,decide_false,Bool.false_and] at hw
     subst hw
     refine rS3 hsz' hgc hc' ?_
     refine ax0 [] ?_
     exact rT0
   | false =>
    refine rS0 ?_
    refine .of 2 ⟨by omega,fun _=>g1⟩ (by omega) (Wk.subs (by simp) (by simp))
  ·have g1:=g1 (by omega)
   have g2:=g2 (by omega)
   rw [g1,g2] at hw
   simp only [Bool.false_eq_true,if_false] at hw
   subst hw
   refine rS0 ?_
   refine ax0 [] ?_
   exact rT0
theorem g90 (s:Bs) (hs:s.length < 2 ^ 40):Ret prog mC0 [vS (bS s)] (vB (qg0 s)):=by
 have h:=nH0 3 1 s rfl hs
 refine cZ0 pv0 (by simp) ?_
 refine rS1 @lF0.eq_1 ?_
 refine ao0 ?_; simp; refine aj0 (h) (by simp) ?_
 exact rT1 @qg0.eq_1
abbrev q70 (a e:Int):V:=.ifc ks0 (.agg [vI a,vI e])
def LxS.after (x:LxS):LxR (Int × Bs × Int × Nat)->Res
 | .bad a e=>.pan (q70 a e) x.obs
 | .ok (k,t,n,j)=>if 4096<=x.out.length then .pan (q70 x.at_ 36) x.obs else .ret (.tup []) ({ x with out:=x.out++[⟨k,bS t,n,x.at_⟩],at_:=j }:LxS).obs'
theorem UInt8.sub48 {c:UInt8} (h:al0.contains c=true):48<=c.toNat/\c.toNat<=57:=by
 simp [al0] at h
 rcases h with h | h | h | h | h | h | h | h | h | h <;> subst h <;> decide
def numR (s:Bs) (i:Nat):LxR (Int × Bs × Int × Nat) :=
 if bf0 al0 s i - i > 1/\s[i]?=some 48 then .bad i 30 else match numV ((s.drop i).take (bf0 al0 s i - i)) 0 with
  | none=>.bad i 3
  | some n=>.ok (2,(s.drop i).take (bf0 al0 s i - i),n,bf0 al0 s i)
theorem runTo_all (set s:Bs) (i:Nat):∀ c ∈ (s.drop i).take (bf0 set s i - i),set.contains c=true:=by
 unfold bf0
 rw [Nat.add_sub_cancel_left]
 intro c hc
 rw [<- List.prefix_iff_eq_take.1 (List.takeWhile_prefix _)] at hc
 generalize s.drop i=l at hc
 induction l with
 | nil=>simp at hc
 | cons a l ih =>
  rw [List.takeWhile_cons] at hc
  split at hc
  ·rcases List.mem_cons.1 hc with rfl | hc
   ·assumption
   ·exact ih hc
  ·simp at hc
theorem mS0 (x:LxS) (i:Nat) (hx:x.at_=i) (hi:i < x.s.size) (hs:x.s.size < 2 ^ 40) (ho:x.out.length<=4096) :
  J prog gH0 [.bp (.e 0) 0] x.obs (·=x.after (numR (sB x.s) i)):=by
 obtain ⟨s,a,out⟩:=x
 dsimp only at hx hi hs ho ⊢
 subst hx
 have hz:s.size=(sB s).length:=rfl
 have hge:=jt0 al0 (sB s) i
 have hle:bf0 al0 (sB s) i<=s.size:=ju0 (by omega)
 have hall:=runTo_all al0 (sB s) i
 have hget:(sB s)[i]?=some (sB s)[i]:=List.getElem?_eq_getElem (by omega)
 refine at0 kf0 (by simp [LxS.obs]) ?_
 refine rS4 @fS0.eq_1 @LxS.obs.eq_1 @hpE.eq_1 @hpE.eq_2 ?_
 refine aa0 [.e 0,.e 1] ?_
 simp
 have hO:=iN0 ⟨s,i,out⟩ ⟨⟨[48,49,50,51,52,53,54,55,56,57]⟩⟩ i rfl hs
 try simp [LxS.obs,LxS.obs',Tok.ac0] at hO
 refine ab0 9 hO ?_
 rw [show sB ⟨⟨[48,49,50,51,52,53,54,55,56,57]⟩⟩=al0 from rfl]
 unfold numR
 generalize hp:bf0 al0 (sB s) i=p at *
 have hlen:(sB (s.extract i p)).length=p - i:=by rw [dP0]; simp; omega
 by_cases h0:1 < p - i/\(sB s)[i]=48
 ·obtain ⟨h1,h2⟩:=h0
  rw [if_pos ⟨h1,by rw [hget,h2]⟩]
  refine rS0 ?_
  refine ⟨(sB s)[i],by simp [sB],fun _=>?_,fun h=>absurd (by rw [h2]; rfl) h⟩
  refine aa0 [.e 0,.e 1] ?_
  simp
  have hO:=aU0 ⟨s,i,out⟩ i 30
  try simp [LxS.obs,LxS.obs',Tok.ac0] at hO
  refine af0 hO ?_
  refine rS0 ?_
  refine endP ?_
  exact rT3 @LxS.after.eq_1 @LxS.after.eq_2 @LxS.obs.eq_1
 rw [if_neg (fun h=>h0 ⟨h.1,by rw [hget] at h; exact Option.some.inj h.2⟩)]
 have hll:((sB s).drop i).take (p - i)=sB (s.extract i p):=(dP0 s i p).symm
 rw [hll] at hall ⊢
 have hsz:(s.extract i p).size=p - i:=hlen
 generalize hT:s.extract i p=T at *
 refine rS0 ?_
 rw [hT]
 refine ⟨fun h1=>⟨(sB s)[i],by simp [sB],fun h2=>?_,fun h2=>?_⟩,fun h1=>?_⟩
 ·exact absurd ⟨by omega,UInt8.toNat_inj.1 (by exact_mod_cast h2)⟩ h0
 all_goals
  refine aH0 (fun y:Nat × Int=>(sB T).length - y.1) (fun y=>[(37,vI y.1),(36,vI (sB T).length),(35,.lst (a10 T)),(4,vI y.2),(3,vS T),(2,vI p),(0,.bp (.e 0) 0)])
   (fun _=>[(.e 0,.box [vS s,vI i,.arr (.e 1) 0 out.length]),(.e 1,.row bZ0 4 true (out.map Tok.cells))])
   (fun y=>y.1<=(sB T).length/\0<=y.2/\y.2<=9223372036854775807/\numV ((sB T).drop y.1) y.2=numV (sB T) 0) (0,0) ⟨by simp,by simp,by simp,rfl⟩ (Wk.subs (by simp [a10]) (by simp)) ?_
  rintro ⟨j,m⟩ ⟨hj,hm0,hm1,hv⟩
  dsimp only at hj hm0 hm1 hv
  refine rS1 @a10.eq_1 ?_
  refine ⟨fun hl=>?_,fun hl=>?_⟩
  ·have hl':j < (sB T).length:=hl
   have hc:=hall _ (List.getElem_mem hl')
   obtain ⟨c0,c1⟩:=UInt8.sub48 hc
   have e:(List.map (fun b=>[V.c (Value.int IntKind.u8 ↑b.toNat)]) T.data.toList)[j]?=some [vU (sB T)[j]]:=by
    rw [List.getElem?_map,show T.data.toList=sB T from rfl,List.getElem?_eq_getElem hl']; rfl
   rw [aO0 e]
   rw [List.drop_eq_getElem_cons hl',numV] at hv
   generalize (sB T)[j]=c at *
   have w1:IntKind.u8.wrap ((c.toNat:Int) - 48)=c.toNat - 48:=by
    simp [IntKind.wrap,IntKind.signed,IntKind.bits]; omega
   have w2:IntKind.i64.wrap ((c.toNat:Int) - 48)=c.toNat - 48:=by
    simp [IntKind.wrap,IntKind.signed,IntKind.bits]; omega
   have w3:IntKind.i64.wrap (9223372036854775807 - ((c.toNat:Int) - 48))=9223372036854775807 - ((c.toNat:Int) - 48):=by
    simp [IntKind.wrap,IntKind.signed,IntKind.bits]; omega
   have q1:(9223372036854775807 - ((c.toNat:Int) - 48)).tdiv 10=(9223372036854775807 - ((c.toNat:Int) - 48)) / 10:=Int.tdiv_eq_ediv_of_nonneg (by omega)
   rw [q1] at hv
   refine rS4 w1 w2 w3 q1 ?_
   refine ⟨fun hb=>?_,fun hb=>?_⟩
   ·rw [if_pos (by omega)] at hv
    rw [<- hv]
    refine aa0 [.e 0,.e 1] ?_
    simp
    have hO:=aU0 ⟨s,i,out⟩ i 3
    try simp [LxS.obs,LxS.obs',Tok.ac0] at hO
    refine af0 hO ?_
    refine rS0 ?_
    refine endP ?_
    exact rT3 @LxS.after.eq_1 @LxS.after.eq_2 @LxS.obs.eq_1
   ·rw [if_neg (by omega)] at hv
    refine .of (j + 1,m * 10 + ((c.toNat:Int) - 48)) ⟨by dsimp only; omega,by dsimp only; omega,by dsimp only; omega,hv⟩ (by dsimp only; omega) (Wk.subs (by simp [a10]) (by simp))
  ·rw [List.drop_of_length_le (by show T.size<=j; omega),numV] at hv
   rw [<- hv]
   by_cases hfull:4096<=out.length
   ·refine aa0 [.e 0,.e 1] ?_
    simp
    have hO:=dF0 ⟨s,i,out⟩ ⟨2,T,m,0⟩ p hfull (by dsimp only; omega)
    try simp [LxS.obs,LxS.obs',Tok.ac0] at hO
    refine af0 hO ?_
    refine rS0 ?_
    refine endP ?_
    exact rT4 @LxS.after.eq_1 @LxS.after.eq_2 @LxS.obs.eq_1 hfull
   ·refine aa0 [.e 0,.e 1] ?_
    simp
    have hO:=eH0 ⟨s,i,out⟩ ⟨2,T,m,0⟩ p (by dsimp only; omega)
    try simp [LxS.obs,LxS.obs',Tok.ac0] at hO
    refine ab0 65 hO ?_
    refine rS0 ?_
    refine b10 [.l 65 0] ?_
    exact rT5 @LxS.after.eq_1 @LxS.after.eq_2 @LxS.obs'.eq_1 hfull @Tok.ac0
end Go.Am
end

section
namespace Go.Proofs
open Go.Shelf
def Tryz.mR0:Go.Shelf.Ren:=⟨fun | 240=>69 | 276=>85 | n=>n,fun | 70=>64 | 72=>67 | 37=>65 | 164=>125 | n=>n,fun | n=>n⟩
theorem Tryz.lays240:Go.Proofs.Lays.n240 Tryz.prog Tryz.mR0:={
 mixed:=by kernel_rfl
 f240:=Tryz.func69.trans (congrArg some (by kernel_rfl))
 f276:=Tryz.func85.trans (congrArg some (by kernel_rfl))
 t0:=Tryz.underlying0
 a0:=Tryz.isAgg0
 z0:=Tryz.sizeOf0
 v0:=Tryz.zeroValue0
 t4:=Tryz.underlying4
 a4:=Tryz.isAgg4
 z4:=Tryz.sizeOf4
 v4:=Tryz.zeroValue4
 t9:=Tryz.underlying9
 a9:=Tryz.isAgg9
 z9:=Tryz.sizeOf9
 v9:=Tryz.zeroValue9
 t20:=Tryz.underlying20
 a20:=Tryz.isAgg20
 z20:=Tryz.sizeOf20
 v20:=Tryz.zeroValue20
 t70:=Tryz.underlying64
 a70:=Tryz.isAgg64
 z70:=Tryz.sizeOf64
 v70:=Tryz.zeroValue64
 t72:=Tryz.underlying67
 a72:=Tryz.isAgg67
 z72:=Tryz.sizeOf67
 v72:=Tryz.zeroValue67
 t164:=Tryz.underlying125
 a164:=Tryz.isAgg125
 z164:=Tryz.sizeOf125
 v164:=Tryz.zeroValue125 }
theorem Tryz.bx72:Builder.X72 Tryz.prog Tryz.mR0:=⟨by kernel_rfl,by kernel_rfl⟩
variable {P:Program} {ρ:Ren}
set_option maxHeartbeats 1000000 in
set_option maxRecDepth 100000 in
theorem mw0 (L:Lays.n240 P ρ) (X:Builder.X72 P ρ) (b e cells:Nat) (w:World) (h0:w.cell? ⟨b,0,none⟩=some (.pointer none)) (hsh:w.shape? b=some (e,cells)) (hc:0 < cells)
  (hlies:liesAt P P.depth e (cells / P.cellsOf e) 0 (ρ.t 72) 1=true) (hfz:w.frozen? ⟨b,0,none⟩=false) :
  Calls P (ρ.f 240) #[.pointer (some ⟨b,0,none⟩)] w fun e w'=>e=.returned (.tuple #[])/\w'=w.setCell ⟨b,0,none⟩ (.pointer (some ⟨b,0,none⟩)):=by
 obtain ⟨j,hj,hjs⟩:=Option.map_eq_some_iff.1 X.sizeBuilder
 have mixed:=L.mixed
 have t72:=L.t72; have a72:=L.a72; have z72:=L.z72; have v72:=L.v72; have u72:=run_underlying L.t72
 have t70:=L.t70; have a70:=L.a70; have z70:=L.z70; have v70:=L.v70; have u70:=run_underlying L.t70
 have t9:=L.t9; have a9:=L.a9; have z9:=L.z9; have v9:=L.v9; have u9:=run_underlying L.t9
 have t4:=L.t4; have a4:=L.a4; have z4:=L.z4; have v4:=L.v4; have u4:=run_underlying L.t4
 have t164:=L.t164; have a164:=L.a164; have z164:=L.z164; have v164:=L.v164; have u164:=run_underlying L.t164
 go_enter L.f240,Body.n240_ntmps ρ
 go_wp2
 rw [Lib.run_to_unsafe w ⟨b,0,none⟩ L.t70 L.t164 hj (by rw [hjs]; decide) hsh hc]
 simp only [Result.andThen]
 rw [Oper.upon_value]
 go_wp2
 rw [run_callFunc_extern L.f276 (by kernel_rfl) (by kernel_rfl) (by kernel_rfl) (e:=Extern.AbiNoEscape.same) (by kernel_rfl)]
 rw [Lib.run_noEscape]
 simp only [Result.andThen]
 rw [Oper.upon_value]
 go_wp2
 rw [Lib.run_from_unsafe w ⟨b,0,none⟩ L.t164 L.t70 hj hsh hlies]
 simp only [Result.andThen]
 rw [Oper.upon_value]
 go_wp2
 go_end0
 exact ⟨rfl,rfl⟩
end Go.Proofs
end

section
namespace Go.Am
set_option maxRecDepth 100000
theorem hpE_set {o:Ob}:∀ {l:List Ob} {k:Nat},0 < k->Hp.set (.e 0) o (hpE k l)=hpE k l
 | [],k,h=>rfl
 | x :: l,k,h=>by
  have:=hpE_set (o:=o) (l:=l) (k:=k + 1) (by omega)
  simp only [Hp.set] at this ⊢
  simp only [hpE,List.map_cons,this]
  rw [if_neg (by simp; omega)]
theorem hpE_set0 {o:Ob} {l:List Ob}:Hp.set (.e 0) o (hpE 0 (o :: l))=hpE 0 (o :: l):=by
 have:=hpE_set (o:=o) (l:=l) (k:=1) (by omega)
 simp only [Hp.set] at this ⊢
 simp only [hpE,List.map_cons,if_true,this]
theorem gX0 {T:Nat} {x:V} {more:List Ob} (hT:liesAt prog prog.depth T (2 / prog.cellsOf T) 0 67 1=true) :
  J prog bX0 [.bp (.e 0) 0] (.box [.self (.e 0) T,x] :: more) (·=.ret (.tup []) (.box [.self (.e 0) T,x] :: more)):=by
 intro H μ vs w hv hW
 have r0:=hv.2 0 _ rfl
 have hvs:vs=#[vs.getD 0 undef]:=by
  apply Array.ext
  ·have:=hv.1; simpa using this
  ·intro i h1 h2
   have h3:i=0:=by simp at h2; omega
   have hs:vs.size=1:=by have:=hv.1; simpa using this
   subst h3; simp [Array.getD,hs]
 rw [hvs]
 generalize vs.getD 0 undef=p at r0
 cases r0 with
 | bp _ _ blk hb =>
 have hl0:(hpE 0 (.box [.self (.e 0) T,x] :: more)).lookup (.e 0)=some (.box [.self (.e 0) T,x]):=rfl
 obtain ⟨blk',vals,ty,k1,k2,k3,⟨k4,k6⟩,k5⟩:=hW.ob _ _ hl0
 rw [hb] at k1; injection k1 with k1; subst k1
 obtain ⟨c0,q1,q2⟩:=k5 0 _ rfl
 cases q2 with
 | self _ _ a blk2 h2 ht ha =>
 rw [hb] at h2; injection h2 with h2; subst h2
 have hty:ty=T:=by rw [k6,ht]
 subst hty
 have hcell:w.cell? ⟨blk.b,0,none⟩=some (.pointer a):=by simpa [World.cell?,k2] using q1
 have hshape:w.shape? blk.b=some (ty,2):=by simp [World.shape?,k2,k3]
 have hfroz:w.frozen? ⟨blk.b,0,none⟩=false:=by simp [World.frozen?,k2]
 have hgo:(callFunc bX0 #[.pointer (some ⟨blk.b,0,none⟩)]).run prog w=.ok (.enter bX0 #[.pointer (some ⟨blk.b,0,none⟩)]) w:=by
  have hf:=Go.Proofs.Tryz.func69
  obtain ⟨c,hc⟩:∃ c,Go.Proofs.Tryz.f69.body=some c:=⟨_,rfl⟩
  have hn:(Go.Proofs.Tryz.f69.name == "runtime.NumGoroutine")=false:=by kernel_rfl
  have hn':¬ Go.Proofs.Tryz.f69.name = "runtime.NumGoroutine":=by simpa using hn
  simp [callFunc,hf,hn',hc]
 unfold dG0
 rw [hgo]
 rcases ha with rfl | rfl
 ·refine Calls.mono (Go.Proofs.mw0 Go.Proofs.Tryz.lays240 Go.Proofs.Tryz.bx72 blk.b ty 2 w hcell hshape (by omega) hT hfroz) ?_
  rintro e w' ⟨rfl,rfl⟩
  rw [setCell_eq_setRow w blk.b 0 vals ty (0,0) _ k2]
  have hO:ObOk H μ (w.setRow blk.b (vals.setIfInBounds 0 (.pointer (some ⟨blk.b,0,none⟩)))) (.e 0) (.box [.self (.e 0) ty,x]):=by
   refine ⟨blk,_,ty,hb,setRow_heap w blk.b vals _ ty _ k2,by simpa using k3,⟨k4,k6⟩,fun j v hj=>?_⟩
   cases j with
   | zero =>
    simp at hj; subst hj
    refine ⟨.pointer (some ⟨blk.b,0,none⟩),?_,.self _ _ _ blk hb ht (.inr rfl)⟩
    have:0 < vals.size:=by rw [k3]; simp
    simp [this]
   | succ j =>
    obtain ⟨y,g1,g2⟩:=k5 (j + 1) v hj
    exact ⟨y,by simpa using g1,g2⟩
  obtain ⟨g1,g2⟩:=hW.write hl0 rfl hb k2 rfl hO
  rw [hpE_set0] at g1 g2
  exact ⟨_,H,μ,rfl,⟨_,rfl,.tup [] #[] rfl (fun j v h=>by simp at h)⟩,g2.toNj,g1,Nat.le_refl _,fun _ _ _ _ _=>rfl⟩
 ·refine Calls.mono (Go.Proofs.Any.Builder_copyCheck_used Go.Proofs.Tryz.lays240 Go.Proofs.Tryz.bx72 blk.b _ hcell) ?_
  rintro e w' ⟨rfl,rfl⟩
  exact ⟨_,H,μ,rfl,⟨_,rfl,.tup [] #[] rfl (fun j v h=>by simp at h)⟩,(Nx.refl H μ _ _).toNj,hW,Nat.le_refl _,fun _ _ _ _ _=>rfl⟩
end Go.Am
end

section
namespace Go.Am
set_option maxRecDepth 100000
attribute [local irreducible] vc vcIs vcI vcOp vcD vcDp vcDR vcT vcAR bY0 aX0 panD neG ne pv J bJ0 bP0 b20 bc0 evK evsK nthK objK boxK rowK bC0 intK strK aggK fnK ifcK ay0 az0 ldK ldaK iaK srcK stK appK appD b40 pvK bD0 aV0 bO0 bs0 slAV bI0
theorem br0:ofConst .nilIface=.c .nilIface:=_root_.id rfl
def an0 (b:UInt8):List V:=[vU b]
def ae0 (T:Nat) (bs:List UInt8):List Ob:=[.box [.self (.e 0) T,.arr (.e 1) 0 bs.length],.row 5 1 true (bs.map an0)]
def ad0 (T:Nat) (bs:List UInt8):List Ob:=[.box [.self (.e 0) T,.arr (.e 2) 0 bs.length],.gone,.row 5 1 true (bs.map an0)]
theorem ie0 (T:Nat) (bs:List UInt8):J prog c30 [.bp (.e 0) 0] (ae0 T bs) (·=.ret (vI bs.length) (ae0 T bs)):=by
 refine at0 ey0 (by simp [ae0]) ?_
 refine rS4 @cR0.eq_1 @ae0.eq_1 @hpE.eq_1 @hpE.eq_2 ?_
 refine ax0 [] ?_
 exact rT0
theorem cQ0 (T:Nat) (bs:List UInt8) (c:UInt8) (hT:liesAt prog prog.depth T (2 / prog.cellsOf T) 0 67 1=true) (hl:bs.length < 2 ^ 40) :
  J prog bW0 [.bp (.e 0) 0,vU c] (ae0 T bs) (·=.ret (.c .nilIface) (ad0 T (bs++[c]))):=by
 refine at0 cX0 (by simp [ae0]) ?_
 refine rS4 @bK0.eq_1 @ae0.eq_1 @hpE.eq_1 @hpE.eq_2 ?_
 refine aa0 [.e 0,.e 1] ?_
 simp
 have hO:=gX0 (T:=T) (x:=.arr (.e 1) 0 bs.length) (more:=[.row 5 1 true (bs.map an0)]) hT
 try simp [ae0,ad0] at hO
 refine ab0 6 hO ?_
 refine rS1 @br0 ?_
 refine ax0 [.l 14 0] ?_
 exact rT3 @ad0.eq_1 @an0.eq_1 @br0
def aB0 (T:Nat):List Ob:=[.box [.self (.e 0) T,.nil]]
theorem ml0 (T:Nat):J prog c30 [.bp (.e 0) 0] (aB0 T) (·=.ret (vI 0) (aB0 T)):=by
 refine at0 ey0 (by simp [aB0]) ?_
 refine rS4 @cR0.eq_1 @aB0.eq_1 @hpE.eq_1 @hpE.eq_2 ?_
 refine ax0 [] ?_
 exact rT0
theorem cY0 (T:Nat) (c:UInt8) (hT:liesAt prog prog.depth T (2 / prog.cellsOf T) 0 67 1=true) :
  J prog bW0 [.bp (.e 0) 0,vU c] (aB0 T) (·=.ret (.c .nilIface) (ae0 T [c])):=by
 refine at0 cX0 (by simp [aB0]) ?_
 refine rS4 @bK0.eq_1 @aB0.eq_1 @hpE.eq_1 @hpE.eq_2 ?_
 refine aa0 [.e 0] ?_
 simp
 have hO:=gX0 (T:=T) (x:=.nil) (more:=[]) hT
 try simp [ae0,ad0] at hO
 refine ab0 6 hO ?_
 refine rS1 @br0 ?_
 refine ax0 [.l 14 0] ?_
 exact rT3 @ae0.eq_1 @an0.eq_1 @br0
end Go.Am
end

section
namespace Go.Proofs
open Go.Shelf
def Tryz.mQ0:Go.Shelf.Ren:=⟨fun | 169=>29 | n=>n,fun | 70=>64 | 9=>9 | 0=>0 | 72=>67 | 37=>65 | 127=>108 | 3=>3 | 5=>5 | n=>n,fun | n=>n⟩
theorem Tryz.lays169:Go.Proofs.Lays.n169 Tryz.prog Tryz.mQ0:={
 mixed:=by kernel_rfl
 f169:=Tryz.func29.trans (congrArg some (by kernel_rfl))
 t0:=Tryz.underlying0
 a0:=Tryz.isAgg0
 z0:=Tryz.sizeOf0
 v0:=Tryz.zeroValue0
 t3:=Tryz.underlying3
 a3:=Tryz.isAgg3
 z3:=Tryz.sizeOf3
 v3:=Tryz.zeroValue3
 t9:=Tryz.underlying9
 a9:=Tryz.isAgg9
 z9:=Tryz.sizeOf9
 v9:=Tryz.zeroValue9
 t37:=Tryz.underlying65
 a37:=Tryz.isAgg65
 z37:=Tryz.sizeOf65
 v37:=Tryz.zeroValue65
 t70:=Tryz.underlying64
 a70:=Tryz.isAgg64
 z70:=Tryz.sizeOf64
 v70:=Tryz.zeroValue64
 t72:=Tryz.underlying67
 a72:=Tryz.isAgg67
 z72:=Tryz.sizeOf67
 v72:=Tryz.zeroValue67
 t127:=Tryz.underlying108
 a127:=Tryz.isAgg108
 z127:=Tryz.sizeOf108
 v127:=Tryz.zeroValue108 }
theorem Tryz.bx169:Builder.Extra Tryz.prog Tryz.mQ0:=⟨⟨by kernel_rfl,by kernel_rfl⟩,Tryz.underlying5,Tryz.isAgg5,Tryz.sizeOf5,Tryz.zeroValue5,by kernel_rfl,by kernel_rfl,by kernel_rfl,by decide⟩
variable {P:Program} {ρ:Ren}
set_option maxHeartbeats 1000000 in
set_option maxRecDepth 100000 in
theorem om0 (L:Lays.n169 P ρ) (X:Builder.Extra P ρ) (T b g cap:Nat) (p:Value) (l:List UInt8) (cur:Array Value) (w:World) (h0:l ≠ []) (hbk:w.heap[b]?=some (.cells #[p,.slice (some ⟨g,0,none⟩) l.length cap] T (0,0)))
  (hg:w.heap[g]?=some (.cells cur (ρ.t 5) (0,0))) (hnc:l.length<=cap) (hcm:cap<=maxLen) (hcs:cur.size=cap) (hcell:∀ (j:Nat) (x:UInt8),l[j]?=some x->w.cell? ⟨g,j,none⟩=some (.int .u8 x.toNat)) :
  Calls P (ρ.f 169) #[.pointer (some ⟨b,0,none⟩)] w fun e w'=>e=.returned (.string ⟨l.toArray⟩)/\w'=w.drew.freeze ⟨g,0,none⟩ l.length:=by
 have hl0:l.length ≠ 0:=by simpa using h0
 have c1:w.drew.cell? ⟨b,1,none⟩=some (.slice (some ⟨g,0,none⟩) l.length cap):=by
  have:w.drew.heap[b]?=some (.cells #[p,.slice (some ⟨g,0,none⟩) l.length cap] T (0,0)):=hbk
  rw [Lib.cell_of_heap this]; rfl
 have hSD:(Builtin.unsafeSliceData_ #[(ρ.t 37)] (ρ.t 127) #[.slice (some ⟨g,0,none⟩) l.length cap]).run P w.drew=.ok (.pointer (some ⟨g,0,none⟩)) w.drew :=
  Lib.run_unsafeSliceData_row _ _ _ _ _ _ (by omega)
 have hUS:(Builtin.unsafeString_ #[(ρ.t 127),(ρ.t 3)] (ρ.t 9) #[.pointer (some ⟨g,0,none⟩),.int .i64 l.length]).run P w.drew=.ok (.string ⟨l.toArray⟩) (w.drew.freeze ⟨g,0,none⟩ l.length):=by
  refine Lib.run_unsafeString_row w.drew (ρ.t 127) (ρ.t 3) (ρ.t 9) (ρ.t 5) L.t127 X.cellsByte g cur.size (by have hg':w.drew.heap[g]?=some (.cells cur (ρ.t 5) (0,0)):=hg; simp [World.shape?,hg']) l h0 (by omega) (by unfold maxLen at hcm; omega) ?_
  intro j x hx
  have h1:=hcell j x hx
  have h2:Addr.add ⟨g,0,none⟩ j=⟨g,j,none⟩:=by simp [Addr.add]; omega
  rw [h2]; exact h1
 have mixed:=L.mixed
 have t72:=L.t72; have a72:=L.a72; have z72:=L.z72; have v72:=L.v72; have u72:=run_underlying L.t72
 have t70:=L.t70; have a70:=L.a70; have z70:=L.z70; have v70:=L.v70; have u70:=run_underlying L.t70
 have t37:=L.t37; have a37:=L.a37; have z37:=L.z37; have v37:=L.v37; have u37:=run_underlying L.t37
 have t127:=L.t127; have a127:=L.a127; have z127:=L.z127; have v127:=L.v127; have u127:=run_underlying L.t127
 have t3:=L.t3; have a3:=L.a3; have z3:=L.z3; have v3:=L.v3; have u3:=run_underlying L.t3
 have t9:=L.t9; have a9:=L.a9; have z9:=L.z9; have v9:=L.v9; have u9:=run_underlying L.t9
 have t5:=X.t5; have a5:=X.a5; have z5:=X.z5; have v5:=X.v5; have u5:=run_underlying X.t5
 go_enter L.f169,Body.n169_ntmps ρ
 go_wp2
 go_region_o
 all_goals (go_wp2; go_ret; exact ⟨rfl,rfl⟩)
set_option maxHeartbeats 2000000 in
set_option maxRecDepth 100000 in
theorem la0 (L:Lays.n169 P ρ) (X:Builder.Extra P ρ) (T b:Nat) (p:Value) (w:World) (hbk:w.heap[b]?=some (.cells #[p,.slice none 0 0] T (0,0))) :
  Calls P (ρ.f 169) #[.pointer (some ⟨b,0,none⟩)] w fun e w'=>e=.returned (.string ⟨#[]⟩)/\w'=w.drew:=by
 have hUS:=Any.unsafeString_none L X
 have c1:w.drew.cell? ⟨b,1,none⟩=some (.slice none 0 0):=by
  have:w.drew.heap[b]?=some (.cells #[p,.slice none 0 0] T (0,0)):=hbk
  rw [Lib.cell_of_heap this]; rfl
 have hSD:(Builtin.unsafeSliceData_ #[(ρ.t 37)] (ρ.t 127) #[.slice none 0 0]).run P w.drew=.ok (.pointer none) w.drew:=rfl
 have mixed:=L.mixed
 have t72:=L.t72; have a72:=L.a72; have z72:=L.z72; have v72:=L.v72; have u72:=run_underlying L.t72
 have t70:=L.t70; have a70:=L.a70; have z70:=L.z70; have v70:=L.v70; have u70:=run_underlying L.t70
 have t37:=L.t37; have a37:=L.a37; have z37:=L.z37; have v37:=L.v37; have u37:=run_underlying L.t37
 have t127:=L.t127; have a127:=L.a127; have z127:=L.z127; have v127:=L.v127; have u127:=run_underlying L.t127
 have t3:=L.t3; have a3:=L.a3; have z3:=L.z3; have v3:=L.v3; have u3:=run_underlying L.t3
 have t9:=L.t9; have a9:=L.a9; have z9:=L.z9; have v9:=L.v9; have u9:=run_underlying L.t9
 have t5:=X.t5; have a5:=X.a5; have z5:=X.z5; have v5:=X.v5; have u5:=run_underlying X.t5
 go_enter L.f169,Body.n169_ntmps ρ
 go_wp2
 go_region_o
 all_goals (go_wp2; go_ret; exact ⟨rfl,rfl⟩)
end Go.Proofs
end

section
namespace Go.Am
set_option maxRecDepth 100000
theorem one_arg {H:Imm} {μ:Mu} {v:V} {vs:Array Value} (hv:RL H μ [v] vs):vs=#[vs.getD 0 undef]:=by
 apply Array.ext
 ·have:=hv.1; simpa using this
 ·intro i h1 h2
  have h3:i=0:=by simp at h2; omega
  have hs:vs.size=1:=by have:=hv.1; simpa using this
  subst h3; simp [Array.getD,hs]
theorem mo0 (p:Value) (w:World):(callFunc bv0 #[p]).run prog w=.ok (.enter bv0 #[p]) w:=by
 have hf:=Go.Proofs.Tryz.func29
 obtain ⟨c,hc⟩:∃ c,Go.Proofs.Tryz.f29.body=some c:=⟨_,rfl⟩
 have hn:(Go.Proofs.Tryz.f29.name == "runtime.NumGoroutine")=false:=by kernel_rfl
 have hn':¬ Go.Proofs.Tryz.f29.name = "runtime.NumGoroutine":=by simpa using hn
 simp [callFunc,hf,hn',hc]
theorem vals2 {vals:Array Value} {c0 c1:Value} (hs:vals.size=2) (h0:vals[0 + 0]?=some c0) (h1:vals[0 + 1]?=some c1):vals=#[c0,c1]:=by
 apply Array.ext_getElem?
 intro i
 match i with
 | 0=>simpa using h0
 | 1=>simpa using h1
 | i + 2=>simp [hs]
theorem Builder_String_nil (T:Nat):J prog bv0 [.bp (.e 0) 0] (aB0 T) (·=.ret (vS (bS [])) (aB0 T)):=by
 intro H μ vs w hv hW
 have r0:=hv.2 0 _ rfl
 rw [one_arg hv]
 generalize vs.getD 0 undef=p at r0
 cases r0 with
 | bp _ _ blk hb =>
 have hl0:(hpE 0 (aB0 T)).lookup (.e 0)=some (.box [.self (.e 0) T,.nil]):=rfl
 obtain ⟨blk',vals,ty,k1,k2,k3,k4,k5⟩:=hW.ob _ _ hl0
 rw [hb] at k1; injection k1 with k1; subst k1
 obtain ⟨c0,q1,q2⟩:=k5 0 _ rfl
 obtain ⟨c1,p1,p2⟩:=k5 1 _ rfl
 cases p2
 rw [vals2 k3 q1 p1] at k2
 unfold dG0
 rw [mo0]
 refine Calls.mono (Go.Proofs.la0 Go.Proofs.Tryz.lays169 Go.Proofs.Tryz.bx169 ty blk.b c0 w k2) ?_
 rintro e w' ⟨rfl,rfl⟩
 exact ⟨_,H,μ,rfl,⟨_,rfl,.c _⟩,(Nx.drew H μ _ w).toNj,hW.drew,Nat.le_refl _,fun _ _ _ _ _=>rfl⟩
def aN0 (T:Nat):List Ob:=[.box [.self (.e 0) T,.any],.gone]
theorem fN0 (T:Nat) (bs:List UInt8) (h0:bs ≠ []):J prog bv0 [.bp (.e 0) 0] (ae0 T bs) (·=.ret (vS (bS bs)) (aN0 T)):=by
 intro H μ vs w hv hW
 have r0:=hv.2 0 _ rfl
 rw [one_arg hv]
 generalize vs.getD 0 undef=p at r0
 cases r0 with
 | bp _ _ blk hb =>
 have hl0:(hpE 0 (ae0 T bs)).lookup (.e 0)=some (.box [.self (.e 0) T,.arr (.e 1) 0 bs.length]):=rfl
 have hl1:(hpE 0 (ae0 T bs)).lookup (.e 1)=some (.row 5 1 true (bs.map an0)):=rfl
 obtain ⟨blk',vals,ty,k1,k2,k3,k4,k5⟩:=hW.ob _ _ hl0
 rw [hb] at k1; injection k1 with k1; subst k1
 obtain ⟨c0,q1,q2⟩:=k5 0 _ rfl
 obtain ⟨c1,p1,p2⟩:=k5 1 _ rfl
 have hl:bs.length ≠ 0:=by simpa using h0
 cases p2 with
 | arr _ _ _ a cap hc ha =>
 obtain ⟨bg,g1,g2,g3⟩:=ha.resolve_left (by omega)
 subst g2
 rw [vals2 k3 q1 p1] at k2
 rcases hW.ob _ _ hl1 with ⟨z,_⟩ | ⟨bg',cur,m1,⟨m2,m3,m4⟩,m5,m6,m7,m8,m9,m10,m11⟩
 ·exact absurd (by simpa using z) h0
 rw [g1] at m1; injection m1 with m1; subst m1
 have hne:blk.b ≠ bg.b:=fun e=>by
  have:=hW.inj _ _ _ _ blk bg hl0 rfl hl1 rfl hb g1 e
  cases this
 unfold dG0
 rw [mo0]
 refine Calls.mono (Go.Proofs.om0 Go.Proofs.Tryz.lays169 Go.Proofs.Tryz.bx169 ty blk.b bg.b cap c0 bs cur w h0 (by simpa using k2) m5 hc (by omega) (by rw [m6]; omega) (fun j x hx=>?_)) ?_
 ·obtain ⟨y,y1,y2⟩:=m11 j (an0 x) (by rw [List.getElem?_map,hx]; rfl) 0 (vU x) rfl
  cases y2
  simpa [World.cell?,m5] using y1
 rintro e w' ⟨rfl,rfl⟩
 have hoth:∀ b,b ≠ bg.b->(w.drew.freeze ⟨bg.b,0,none⟩ bs.length).heap[b]?=w.heap[b]?:=by
  intro b h
  simp [World.freeze,World.drew,-World.drew_eq,h0,Array.getElem?_modify,Ne.symm h]
 have hlk:∀ (i:Id) (o:Ob),(hpE 0 (aN0 T)).lookup i=some o->(i=.e 0/\o=.box [.self (.e 0) T,.any])\/o=.gone:=by
  intro i o h
  simp only [hpE,aN0,List.lookup_cons] at h
  split at h
  ·rename_i hh; exact .inl ⟨by simpa using hh,by injection h with h; exact h.symm⟩
  ·split at h
   ·injection h with h; exact .inr h.symm
   ·cases h
 refine ⟨_,H,μ,rfl,⟨_,rfl,.c _⟩,⟨Imm.le_refl H,by simp [World.freeze,World.drew,-World.drew_eq,h0],by simp [World.freeze,World.drew,-World.drew_eq,h0],by simp [World.freeze,World.drew,-World.drew_eq,h0],?_,fun b hb' hno=>hoth b fun e=>hno ⟨.e 1,_,bg,hl1,rfl,g1,e.symm⟩,fun b ho hb'=>?_,fr0⟩,⟨fun i o h=>?_,fun i j oi oj bi bj hi hio hj hjo _ _ _=>?_,fun b cs h=>?_,hW.glo⟩,Nat.le_refl _,fun _ _ _ _ _=>rfl⟩
 ·simp [World.freeze,World.drew,-World.drew_eq,h0]
 ·obtain ⟨i,o,bq,o1,o2,o3,o4⟩:=ho
  rcases hlk i o o1 with ⟨rfl,rfl⟩ | rfl
  ·exact ⟨.e 0,_,bq,hl0,rfl,o3,o4⟩
  ·cases o2
 ·rcases hlk i o h with ⟨rfl,rfl⟩ | rfl
  ·refine ⟨blk,_,ty,hb,by rw [hoth _ hne]; exact k2,rfl,k4,fun j v hj=>?_⟩
   match j with
   | 0=>simp at hj; subst hj; exact ⟨c0,rfl,q2⟩
   | 1=>simp at hj; subst hj; exact ⟨_,rfl,.any _⟩
   | j + 2=>simp at hj
  ·trivial
 ·rcases hlk i oi hi with ⟨rfl,rfl⟩ | rfl
  ·rcases hlk j oj hj with ⟨rfl,rfl⟩ | rfl
   ·rfl
   ·cases hjo
  ·cases hio
 ·obtain ⟨ty',fz,hh⟩:=hW.imm b cs h
  exact ⟨ty',fz,by rw [hoth b fun e=>by subst e; rw [m9 rfl] at h; cases h]; exact hh⟩
end Go.Am
end

section
namespace Go.Am
set_option maxRecDepth 100000
attribute [local irreducible] vc vcIs vcI vcOp vcD vcDp vcDR vcT vcAR bY0 aX0 panD neG ne pv J bJ0 bP0 b20 bc0 evK evsK nthK objK boxK rowK bC0 intK strK aggK fnK ifcK ay0 az0 ldK ldaK iaK srcK stK appK appD b40 pvK bD0 aV0 bO0 bs0 slAV bI0
variable {ts:List Tok} {n:Nat}
theorem en0 (hn:n < ts.length) (hl:ts.length < 2 ^ 40):J prog cB0 [.bp (.e 0) 0,vI 1] (pObs ts n) (·=pAns ts Tok.V (dA0 ts n)):=by
 rw [<- pNext_1]; exact iU0 hn hl 1
theorem nD0 (hn:n < ts.length) (hl:ts.length < 2 ^ 40):J prog cB0 [.bp (.e 0) 0,vI 2] (pObs ts n) (·=pAns ts Tok.V (pInt ts n)):=by
 rw [<- pNext_2]; exact iU0 hn hl 2
theorem iV0 (hE:TEnd ts) (hl:ts.length < 2 ^ 40) (hn:n < ts.length):J prog gf0 [.bp (.e 0) 0] (pObs ts n) (·=pAns ts Slo.V (ko0 ts n)):=by
 have hw:ko0 ts n=ko0 ts n:=rfl
 conv at hw=>rhs; rw [ko0]
 refine at0 jH0 (by simp [pObs]) ?_
 refine rS4 @fq0.eq_1 @pObs.eq_1 @hpE.eq_1 @hpE.eq_2 ?_
 have hJ:=en0 hn hl
 rcases hR5:dA0 ts n with ⟨t,n1⟩ | ⟨aa,ae⟩
 rotate_left
 ·rw [hR5] at hJ hw
  try simp only [LxR.bind] at hw
  simp only [pAns,ar0] at hJ
  refine aa0 [.e 0] ?_
  simp
  have hO:=hJ
  try simp [pObs] at hO
  refine af0 hO ?_
  refine rS0 ?_
  refine endP ?_
  exact rT6 hw @pAns.eq_1 @pAns.eq_2 @ar0.eq_1 @ar0.eq_2 @pObs.eq_1
 rw [hR5] at hJ hw
 try simp only [LxR.bind] at hw
 simp only [pAns,ar0] at hJ
 refine aa0 [.e 0] ?_
 simp
 have hO:=hJ
 try simp [pObs] at hO
 refine ab0 5 hO ?_
 have q1:=a00 hE hn hR5
 refine rS0 ?_
 have hJ:=aq0 q1.2 hl [58]
 rcases hR7:bh0 ts n1 [58] with n2 | ⟨aa,ae⟩
 rotate_left
 ·rw [hR7] at hJ hw
  try simp only [LxR.bind] at hw
  simp only [pAns,ar0] at hJ
  refine aa0 [.e 0] ?_
  simp
  have hO:=hJ
  try simp [pObs] at hO
  refine af0 hO ?_
  refine rS0 ?_
  refine endP ?_
  exact rT6 hw @pAns.eq_1 @pAns.eq_2 @ar0.eq_1 @ar0.eq_2 @pObs.eq_1
 rw [hR7] at hJ hw
 try simp only [LxR.bind] at hw
 simp only [pAns,ar0] at hJ
 refine aa0 [.e 0] ?_
 simp
 have hO:=hJ
 try simp [pObs] at hO
 refine ab0 7 hO ?_
 have q2:=ak0 hE q1.2 hR7
 refine rS0 ?_
 have hJ:=c90 hE hl 4 1 n2 rfl q2.2
 rcases hR11:fI0 ts 4 n2 with ⟨k,n3⟩ | ⟨aa,ae⟩
 rotate_left
 ·rw [hR11] at hJ hw
  try simp only [LxR.bind] at hw
  simp only [pAns,ar0] at hJ
  refine bk0 [.e 0] ?_
  simp
  have hO:=hJ
  try simp [pObs] at hO
  refine cN0 hO ?_
  refine rS0 ?_
  refine endP ?_
  exact rT6 hw @pAns.eq_1 @pAns.eq_2 @ar0.eq_1 @ar0.eq_2 @pObs.eq_1
 rw [hR11] at hJ hw
 try simp only [LxR.bind] at hw
 simp only [pAns,ar0] at hJ
 refine bk0 [.e 0] ?_
 simp
 have hO:=hJ
 try simp [pObs] at hO
 refine cH0 11 hO ?_
 refine rS0 ?_
 refine ax0 [] ?_
 exact rT5 hw @pAns.eq_1 @pAns.eq_2 @pObs.eq_1 @Slo.ac0
def gP0 (L:List (List Bs)):List V:=L.map fun l=>.lst (l.map fun m=>[vS (bS m)])
theorem h70 (L:List (List Bs)):kG0 (gP0 L)=true:=by
 unfold gP0 kG0
 rw [List.all_eq_true]
 intro v hv
 obtain ⟨l,_,rfl⟩:=List.mem_map.1 hv
 rfl
@[simp] theorem lCells_len (L:List (List Bs)):(gP0 L).length=L.length:=by simp [gP0]
section
variable {L:List (List Bs)} {K:V->Prop} {Ks:List V->Prop} {hp:Hp}
@[simp] theorem lCells_has0 {i:Id}:V.hasL i (gP0 L)=false:=fE0 (h70 L) i
@[simp] theorem lCells_hasS0 {ss:List Nat}:V.fG0 ss (gP0 L)=false:=eT0 (h70 L) ss
@[simp] theorem lCells_scalars0:scalars (gP0 L)=true:=ca0 (h70 L)
@[simp] theorem lCells_pure0:V.bt0 (gP0 L)=true:=ec0 (h70 L)
end
theorem nS0 {L:List (List Bs)} {K:V->Prop} {i:Nat} (h:i < L.length):nthK (gP0 L) i K=K (.lst (L[i].map fun m=>[vS (bS m)])):=by
 rw [iO0]
 apply propext
 constructor
 ·rintro ⟨v,h1,h2⟩
  simp only [gP0,List.getElem?_map,List.getElem?_eq_getElem h,Option.map_some,Option.some.injEq] at h1
  subst h1; exact h2
 ·intro h2
  exact ⟨_,by simp only [gP0,List.getElem?_map,List.getElem?_eq_getElem h,Option.map_some],h2⟩
theorem dh0:Ret prog jX0 [] (.agg (gP0 ci0)):=by
 refine cZ0 mH0 (by simp) ?_
 exact rT3 @iy0.eq_1 @gP0.eq_1 @ci0.eq_1
theorem o50 (k:Nat) (hk:0 < k) (hk2:k < 2 ^ 40):J prog cW0 [.nil,vI k] [] (·=.ret (.arr (.e 0) 0 0) [.row 9 1 true (List.replicate k [vS (bS [])])]):=by
 have hk':(0:Int) < k:=by omega
 refine at0 ff0 (by simp) ?_
 refine rS2 @cI0.eq_1 hk' ?_
 refine ax0 [.l 22 0] ?_
 exact rT0
abbrev aP0 (m:Bs):List V:=[vS (bS m)]
abbrev se0 (l:List Bs):List V:=[.lst (l.map aP0)]
def sumL (L:List (List Bs)):Nat:=(L.map List.length).sum
theorem qe0 {L:List (List Bs)} {i:Nat} (h:i < L.length):sumL (L.take (i + 1))=sumL (L.take i) + L[i].length:=by
 unfold sumL
 rw [List.take_add_one,List.getElem?_eq_getElem h]
 simp only [List.map_append,List.sum_append,Option.toList_some,List.map_cons,List.map_nil,List.sum_cons,List.sum_nil,Nat.add_zero]
theorem sumL_flat (L:List (List Bs)):L.flatten.length=sumL L:=by
 unfold sumL; simp [List.length_flatten]
theorem o60 (L:List (List Bs)) (i:Nat):sumL (L.take i)<=sumL L:=by
 have h:=List.take_append_drop i L
 unfold sumL
 conv=>rhs; rw [<- h]
 simp only [List.map_append,List.sum_append]; omega
def kI0 (L:List (List Bs)) (i:Nat):List (List V):=(L.take i).flatten.map aP0
@[simp] theorem flatT_zero (L:List (List Bs)):kI0 L 0=[]:=by simp [kI0]
@[simp] theorem pr0 (L:List (List Bs)) (i:Nat):(kI0 L i).length=sumL (L.take i):=by rw [kI0,List.length_map,sumL_flat]
theorem r30 {L:List (List Bs)} {i:Nat} (h:i < L.length):kI0 L (i + 1)=kI0 L i++L[i].map aP0:=by
 unfold kI0
 rw [List.take_add_one,List.getElem?_eq_getElem h]
 simp only [Option.toList_some,List.flatten_append,List.map_append,List.flatten_cons,List.flatten_nil,List.append_nil]
theorem flatT_all (L:List (List Bs)):kI0 L L.length=L.flatten.map aP0:=by rw [kI0,List.take_length]
@[simp] theorem flatT_take (L:List (List Bs)) (i:Nat):(kI0 L i).take (sumL (L.take i))=kI0 L i:=List.take_of_length_le (by rw [pr0]; exact Nat.le_refl _)
@[simp ↓] theorem mCell_head {l:List Bs}:(l.map aP0=[]\/∃ e,(l.map aP0)[0]?=some e/\e.length=1)=True:=head_map fun x=>rfl
theorem l70 (L:List (List Bs)) (h0:0 < sumL L) (h1:sumL L < 2 ^ 20) (h2:L.length < 2 ^ 20):Ret prog cz0 [.lst (L.map se0)] (.lst (L.flatten.map aP0)):=by
 rw [<- flatT_all]
 refine at0 eE0 (by simp) ?_
 refine rS1 @ct0.eq_1 ?_
 refine bm0 L.length (fun i=>[(11,vI i),(10,vI L.length),(9,.lst (L.map se0)),(3,vI (sumL (L.take i))),(0,.lst (L.map se0))]) (fun i=>[]) (Wk.subs (by simp [sumL]) (by simp)) ?_
 intro i hi
 have hle:=o60 L i
 by_cases hlt:i < L.length
 ·have hlt':(i:Int) < L.length:=by omega
  have hst:=qe0 hlt
  have hle2:=o60 L (i + 1)
  have hnn:¬ ((sumL (L.take i):Int) + (L[i].length:Int) < 0):=by omega
  refine rS2 hlt' hnn ?_
  refine .of hlt (Wk.subs (by simp [hst]) (by simp))
 ·have hge':¬ (i:Int) < L.length:=by omega
  have hi:i=L.length:=by omega
  subst hi
  rw [List.take_length] at *
  refine rS1 hge' ?_
  refine rU0 [] rfl rfl (by simp) ?_
  simp
  have hO:=o50 (sumL L) h0 (by omega)
  try simp [pObs] at hO
  refine ab0 24 hO ?_
  refine rS0 ?_
  refine bm0 L.length (fun i=>[(27,vI i),(26,vI L.length),(25,.lst (L.map se0)),(6,.arr (.l 999 0) 0 (sumL (L.take i)))]) (fun i=>[(.l 999 0,.row 9 1 true (kI0 L i))])
   (Wk.trans (Wk.pre (by simp [sumL]) ?_) (Wk.rens (.l 24 0) (.l 999 0) rfl (by simp) (E:=[(27,vI 0),(26,vI L.length),(25,.lst (L.map se0)),(6,.arr (.l 999 0) 0 0)]) (h:=[(.l 999 0,.row 9 1 true (List.replicate (sumL L) [vS (bS [])]))]) (by simp [renF]) (by simp [renF,bR0]))) ?_
  ·simp
   exact preO_row (t:=List.replicate (sumL L) [vS (bS [])]) rfl
  intro i hi
  have hle:=o60 L i
  by_cases hlt:i < L.length
  ·have hlt':(i:Int) < L.length:=by omega
   have hst:=qe0 hlt
   have hle2:=o60 L (i + 1)
   refine rS1 hlt' ?_
   refine .of hlt (Wk.rens (.l 33 0) (.l 999 0) rfl (by simp) (by simp [renF,hst]) (by simp [renF,bR0,r30 hlt]))
  ·have hge':¬ (i:Int) < L.length:=by omega
   have hi:i=L.length:=by omega
   subst hi
   have hfl:(kI0 L L.length).length=sumL L:=by rw [pr0,List.take_length]
   rw [List.take_length] at *
   refine rS2 hge' hfl ?_
   refine ax0 [] ?_
   generalize kI0 L L.length=X at *
   simp +contextual (maxSteps:=2000000) (disch:=omega) [-Int.not_lt,-Int.not_le,-Nat.not_lt,-Nat.not_le,sx,<- hfl]
theorem jP0:Ret prog hw0 [] (.lst (pOps.map aP0)):=by
 have hl5:ci0.length=5:=rfl
 have hc:chunk 5 1 (gP0 ci0)=ci0.map se0:=rfl
 refine cZ0 kJ0 (by simp) ?_
 refine rS1 @gF0.eq_1 ?_
 refine ao0 ?_; simp; refine aj0 (dh0) (by simp) ?_
 refine rS2 hl5 hc ?_
 refine ao0 ?_; simp; refine aj0 (l70 ci0 (by decide) (by decide) (by decide)) (by simp) ?_
 exact rT1 @pOps.eq_1
theorem lb0 (s:Bs):a10 (bS s)=s.map an0:=rfl
theorem fa0 (T:Nat) (bs s:Bs) (hT:liesAt prog prog.depth T (2 / prog.cellsOf T) 0 67 1=true) (hl:bs.length + s.length < 2 ^ 40) :
  J prog cK0 [.bp (.e 0) 0,vS (bS s)] (ae0 T bs) (·=.ret (.tup [vI s.length,.c .nilIface]) (ad0 T (bs++s))):=by
 have hsz:(bS s).size=s.length:=rfl
 refine at0 eY0 (by simp [ae0]) ?_
 refine rS4 @cy0.eq_1 @ae0.eq_1 @hpE.eq_1 @hpE.eq_2 ?_
 refine aa0 [.e 0,.e 1] ?_
 simp
 have hO:=gX0 (T:=T) (x:=.arr (.e 1) 0 bs.length) (more:=[.row 5 1 true (bs.map an0)]) hT
 try simp [ae0,ad0] at hO
 refine ab0 7 hO ?_
 refine rS3 @br0 @lb0 hsz ?_
 refine ax0 [.l 14 0] ?_
 exact rT2 @ad0.eq_1 @br0
theorem hT69:liesAt prog prog.depth 69 (2 / prog.cellsOf 69) 0 67 1=true:=by kernel_rfl
def aY0 (L:List Bs) (i:Nat):Bs:=(L.take i).flatten
theorem eC0 {L:List Bs} {i:Nat} (h:i < L.length):aY0 L (i + 1)=aY0 L i++L[i]:=by
 unfold aY0
 rw [List.take_add_one,List.getElem?_eq_getElem h]
 simp only [Option.toList_some,List.flatten_append,List.flatten_cons,List.flatten_nil,List.append_nil]
theorem b90 (L:List Bs):aY0 L L.length=L.flatten:=by rw [aY0,List.take_length]
theorem bi0 (L:List Bs):aY0 L 0=[]:=by simp [aY0]
theorem h20 (L:List Bs) (i:Nat):(aY0 L i).length<=L.flatten.length:=by
 have h:(L.take i++L.drop i).flatten.length=L.flatten.length:=by rw [List.take_append_drop]
 rw [List.flatten_append,List.length_append] at h
 unfold aY0; omega
theorem as0 (bs:Bs) (L:List Bs) (hl:bs.length + L.flatten.length < 2 ^ 40) (hL:L.length < 2 ^ 30) :
  J prog cV0 [.bp (.e 0) 0,.lst (L.map aP0)] (ae0 69 bs) (·=.ret (.tup []) (ad0 69 (bs++L.flatten))):=by
 rw [<- b90] at *
 refine at0 dD0 (by simp [ae0]) ?_
 refine rS4 @cA0.eq_1 @ae0.eq_1 @hpE.eq_1 @hpE.eq_2 ?_
 refine bm0 L.length (fun i=>[(8,vI i),(7,vI L.length),(6,.lst (L.map aP0)),(0,.bp (.e 0) 0)])
  (fun i=>[(.e 0,.box [.self (.e 0) 69,.arr (.l 999 0) 0 (bs++aY0 L i).length]),(.l 999 0,.row 5 1 true ((bs++aY0 L i).map an0))])
  (Wk.rens (.e 1) (.l 999 0) rfl (by simp) (by simp [renF,bi0]) (by simp [renF,bR0,bi0])) ?_
 intro i hi
 by_cases hlt:i < L.length
 ·have hlt':(i:Int) < L.length:=by omega
  have hle:=h20 L (i + 1)
  rw [<- b90] at hle
  have hsucc:=eC0 hlt
  have hlen:(aY0 L (i + 1)).length=(aY0 L i).length + L[i].length:=by rw [hsucc,List.length_append]
  refine rS1 hlt' ?_
  refine aa0 [.e 0,.l 999 0] ?_
  simp
  have hO:=fa0 69 (bs++aY0 L i) L[i] hT69 (by rw [List.length_append]; omega)
  try simp [ae0,ad0] at hO
  refine ab0 16 hO ?_
  refine rS0 ?_
  refine .of hlt (Wk.rens (.l 16 0) (.l 999 0) rfl (by simp) (by simp [renF,hsucc]) (by simp [renF,bR0,hsucc]))
 ·have hge':¬ (i:Int) < L.length:=by omega
  have:i=L.length:=by omega
  subst this
  refine rS1 hge' ?_
  refine b10 [.l 999 0] ?_
  exact rT1 @ad0.eq_1
theorem put_JD (bs:Bs) (L:List Bs) (hl:bs.length + L.flatten.length < 2 ^ 40) (hL:L.length < 2 ^ 30) :
  JD prog false cV0 [.bp (.e 0) 0,.lst (L.map aP0)] (ae0 69 bs) none (·=.ret (.tup []) (ad0 69 (bs++L.flatten))):=by
 rw [<- b90] at *
 refine JD_of dD0 (by simp [ae0]) ?_
 refine rS4 @cA0.eq_1 @ae0.eq_1 @hpE.eq_1 @hpE.eq_2 ?_
 refine bm0 L.length (fun i=>[(8,vI i),(7,vI L.length),(6,.lst (L.map aP0)),(0,.bp (.e 0) 0)])
  (fun i=>[(.e 0,.box [.self (.e 0) 69,.arr (.l 999 0) 0 (bs++aY0 L i).length]),(.l 999 0,.row 5 1 true ((bs++aY0 L i).map an0))])
  (Wk.rens (.e 1) (.l 999 0) rfl (by simp) (by simp [renF,bi0]) (by simp [renF,bR0,bi0])) ?_
 intro i hi
 by_cases hlt:i < L.length
 ·have hlt':(i:Int) < L.length:=by omega
  have hle:=h20 L (i + 1)
  rw [<- b90] at hle
  have hsucc:=eC0 hlt
  have hlen:(aY0 L (i + 1)).length=(aY0 L i).length + L[i].length:=by rw [hsucc,List.length_append]
  refine rS1 hlt' ?_
  refine aa0 [.e 0,.l 999 0] ?_
  simp
  have hO:=fa0 69 (bs++aY0 L i) L[i] hT69 (by rw [List.length_append]; omega)
  try simp [ae0,ad0] at hO
  refine ab0 16 hO ?_
  refine rS0 ?_
  refine .of hlt (Wk.rens (.l 16 0) (.l 999 0) rfl (by simp) (by simp [renF,hsucc]) (by simp [renF,bR0,hsucc]))
 ·have hge':¬ (i:Int) < L.length:=by omega
  have:i=L.length:=by omega
  subst this
  refine rS1 hge' ?_
  refine b10 [.l 999 0] ?_
  exact rT1 @ad0.eq_1
theorem jb0:Ret prog lN0 [] (.lst (pOps.map aP0)):=by
 refine cZ0 oz0 (by simp) ?_
 exact rT3 @kB0.eq_1 @pOps.eq_1 @ci0.eq_1
theorem ja0 (op:Int) (h:opOk op=true):Ret prog lM0 [vI op] (vI (lvl op)):=by
 unfold opOk at h
 simp only [decide_eq_true_eq] at h
 obtain ⟨h1,h2⟩:=h
 refine at0 oy0 (by simp) ?_
 refine rS1 @kA0.eq_1 ?_
 refine aa0 [] ?_
 simp
 have hO:=am0
 try simp [ae0,ad0] at hO
 refine ab0 9 hO ?_
 by_cases a:op<=2
 ·refine rS1 a ?_
  refine ax0 [] ?_
  exact rT2 @lvl.eq_1 a
 by_cases b:op<=8
 ·refine rS2 a b ?_
  refine ax0 [] ?_
  exact rT3 @lvl.eq_1 a b
 by_cases c:op<=10
 ·refine rS3 a b c ?_
  refine ax0 [] ?_
  exact rT4 @lvl.eq_1 a b c
 ·refine rS3 a b c ?_
  refine ax0 [] ?_
  exact rT4 @lvl.eq_1 a b c
theorem eo0 (x:Exq) (n:Int) (h:x.kind=15->opOk x.op=true):Ret prog lL0 [x.V,vI n] (vB (dT0 x n)):=by
 refine at0 ox0 (by simp) ?_
 by_cases hk:x.kind=15
 ·refine rS2 @hR0.eq_1 hk ?_
  refine ao0 ?_; simp; refine aj0 (ja0 x.op (h hk)) (by simp) ?_
  refine rS0 ?_
  refine ax0 [] ?_
  exact rT2 @dT0.eq_1 hk
 ·refine rS2 @hR0.eq_1 hk ?_
  refine ax0 [] ?_
  exact rT2 @dT0.eq_1 hk
attribute [local irreducible] vcF dfrS dEnd kC0 dJ JD
def db0 (x:Exq) (t:Bs):Prop:=∀ bs:Bs,bs.length + t.length < 2 ^ 40->J prog gh0 [.bp (.e 0) 0,x.V] (ae0 69 bs) (·=.ret (.tup []) (ad0 69 (bs++t)))
theorem cg0 {x:Exq} {t:Bs} (h:db0 x t) (b:Bool) (bs:Bs) (hl:bs.length + (within t b).length < 2 ^ 40) :
  J prog eR0 [.bp (.e 0) 0,x.V,vB b] (ae0 69 bs) (·=.ret (.tup []) (ad0 69 (bs++within t b))):=by
 refine J_dfr false ir0 (by simp [ae0]) ?_
 refine rS8 @ex0.eq_1 @fj0 @fi0 @nj0 @jg0 @ae0.eq_1 @hpE.eq_1 @hpE.eq_2 ?_
 cases b with
 | false =>
  have hl':bs.length + t.length < 2 ^ 40:=hl
  refine rS4 @fj0 @fi0 @nj0 @jg0 ?_
  refine aa0 [.e 0,.e 1] ?_
  simp
  have hO:=h bs hl'
  try simp [ae0,ad0] at hO
  refine ab0 14 hO ?_
  refine rS4 @fj0 @fi0 @nj0 @jg0 ?_
  refine b10 [.l 14 0] ?_
  exact rT2 @ad0.eq_1 @within.eq_1
 | true =>
  have hl':bs.length + (t.length + 2) < 2 ^ 40:=by simp [within] at hl; omega
  refine rS4 @fj0 @fi0 @nj0 @jg0 ?_
  refine aa0 [.e 0,.e 1] ?_
  simp
  have hO:=as0 bs [[40]] (by simp; omega) (by simp)
  try simp [ae0,ad0] at hO
  refine ab0 9 hO ?_
  refine rS4 @fj0 @fi0 @nj0 @jg0 ?_
  refine or0 rfl rfl (.ren (.l 11 0) 2 (by simp) (by simp) (E:=[(0,.bp (.e 0) 0),(4,.bp (.l 4 0) 0)])
   (h:=[(.e 2,.row 9 1 true [[vS (bS [41])]]),(.e 0,.box [.self (.e 0) 69,.arr (.l 9 0) 0 (bs.length + 1)]),(.l 9 0,.row 5 1 true (bs.map an0++[an0 40])),(.l 4 0,.box x.cells)])
   (cs':=[.bp (.e 0) 0,.arr (.e 2) 0 1]) (by simp [renF]) (by simp [renF,bR0]) (by simp [renF])) rfl ?_
  refine rS0 ?_
  refine aa0 [.e 0,.l 9 0] ?_
  simp
  have hO:=h (bs++[40]) (by simp; omega)
  try simp [ae0,ad0] at hO
  refine ab0 14 hO ?_
  refine rS0 ?_
  refine dEnd_nrm _ _ (Wk.refl _ _) (dZ0 [.e 0,.l 14 0] (by simp) ?_)
  simp
  have hp:=put_JD (bs++[40]++t) [[41]] (by simp; omega) (by simp)
  simp [ae0,ad0] at hp
  refine dJ_retB 900 hp ?_
  simp
  refine ax0 [.l 900 0] ?_
  exact rT2 @ad0.eq_1 @within.eq_1
end Go.Am
end

section
namespace Go.Am
theorem mj0 {H:Imm} {μ:Mu} {v v':V} {vs:Array Value} (hv:RL H μ [v,v'] vs):vs=#[vs.getD 0 undef,vs.getD 1 undef]:=by
 have hs:vs.size=2:=by have:=hv.1; simpa using this
 apply Array.ext
 ·simp [hs]
 ·intro i h1 h2
  have h3:i < 2:=by simpa using h2
  match i,h3 with
  | 0,_=>simp [Array.getD,hs]
  | 1,_=>simp [Array.getD,hs]
end Go.Am
end

section
namespace Go.Am
variable {ts:List Tok}
structure GoesX (ts:List Tok) (f:Nat):Prop where
 ex:∀ {d n:Nat} {a:Exq} {m:Nat},n < ts.length->b50 ts f d n=.ok (a,m)->n < m/\m < ts.length
 bin:∀ {l d n:Nat} {a:Exq} {m:Nat},n < ts.length->pBin ts f l d n=.ok (a,m)->n < m/\m < ts.length
 loop:∀ {l d:Nat} {out:Exq} {n:Nat} {a:Exq} {m:Nat},n < ts.length->lq0 ts f l d out n=.ok (a,m)->n<=m/\m < ts.length
 un:∀ {d n:Nat} {a:Exq} {m:Nat},n < ts.length->pUn ts f d n=.ok (a,m)->n < m/\m < ts.length
 post:∀ {d:Nat} {out:Exq} {n:Nat} {a:Exq} {m:Nat},n < ts.length->lr0 ts f d out n=.ok (a,m)->n<=m/\m < ts.length
 prim:∀ {d n:Nat} {a:Exq} {m:Nat},n < ts.length->jO0 ts f d n=.ok (a,m)->n < m/\m < ts.length
 args:∀ {d:Nat} {out:List Exq} {n:Nat} {a:List Exq} {m:Nat},n < ts.length->iP0 ts f d out n=.ok (a,m)->n < m/\m < ts.length
theorem iK0 {l:Nat} {t:Tok} (h:ej0 l t=true):t.kind=4:=by
 unfold ej0 at h
 simp only [Bool.and_eq_true,decide_eq_true_eq] at h
 exact h.1
theorem ki0 (hE:TEnd ts):∀ f,GoesX ts f
 | 0=>⟨fun _ h=>by simp [b50] at h,fun _ h=>by simp [pBin] at h,fun _ h=>by simp [lq0] at h,fun _ h=>by simp [pUn] at h,fun _ h=>by simp [lr0] at h,fun _ h=>by simp [jO0] at h,fun _ h=>by simp [iP0] at h⟩
 | f + 1=>by
  have ih:=ki0 hE f
  refine ⟨fun hn h=>?_,fun hn h=>?_,fun hn h=>?_,fun hn h=>?_,fun hn h=>?_,fun hn h=>?_,fun hn h=>?_⟩
  ·rw [b50] at h
   obtain ⟨_,_,h⟩:=ag0 h
   exact ih.bin hn h
  ·rw [pBin] at h
   split at h
   ·exact ih.un hn h
   ·obtain ⟨⟨b,n1⟩,e1,h⟩:=ag0 h
    have q1:=ih.bin hn e1
    have q2:=ih.loop q1.2 h
    dsimp only at *; omega
  ·rw [lq0] at h
   split at h
   ·rename_i hi
    have h0:=hE _ hn (by rw [iK0 hi]; decide)
    obtain ⟨⟨b,n1⟩,e1,h⟩:=ag0 h
    have q1:=ih.bin h0 e1
    dsimp only at *
    split at h
    ·split at h
     ·cases h
     ·injection h with h; injection h with h1 h2; subst h2; omega
    ·have q2:=ih.loop q1.2 h; omega
   ·injection h with h; injection h with h1 h2; subst h2; omega
  ·rw [pUn] at h
   split at h
   ·rename_i hi
    have h0:=aw0 hE hn hi (by decide)
    obtain ⟨_,_,h⟩:=ag0 h
    obtain ⟨⟨b,n1⟩,e1,h⟩:=ag0 h
    have q1:=ih.un h0 e1
    injection h with h; injection h with h1 h2; subst h2
    dsimp only at *; omega
   split at h
   ·rename_i hi
    have h0:=aw0 hE hn hi (by decide)
    obtain ⟨_,_,h⟩:=ag0 h
    obtain ⟨⟨b,n1⟩,e1,h⟩:=ag0 h
    have q1:=ih.un h0 e1
    injection h with h; injection h with h1 h2; subst h2
    dsimp only at *; omega
   ·obtain ⟨⟨b,n1⟩,e1,h⟩:=ag0 h
    have q1:=ih.prim hn e1
    have q2:=ih.post q1.2 h
    dsimp only at *; omega
  ·rw [lr0] at h
   split at h
   ·rename_i hi
    have h0:=aw0 hE hn hi (by decide)
    obtain ⟨⟨b,n1⟩,e1,h⟩:=ag0 h
    obtain ⟨n2,e2,h⟩:=ag0 h
    have q1:=ih.ex h0 e1
    have q2:=ak0 hE q1.2 e2
    have q3:=ih.post q2.2 h
    dsimp only at *; omega
   ·injection h with h; injection h with h1 h2; subst h2; omega
  ·rw [jO0] at h
   split at h
   ·rename_i hi; have:=hE _ hn (by rw [hi]; decide); injection h with h; injection h with h1 h2; subst h2; omega
   split at h
   ·rename_i hi; have:=hE _ hn (by rw [hi]; decide); injection h with h; injection h with h1 h2; subst h2; omega
   split at h
   ·rename_i hi; have:=aw0 hE hn hi (by decide); injection h with h; injection h with h1 h2; subst h2; omega
   split at h
   ·rename_i hi; have:=aw0 hE hn hi (by decide); injection h with h; injection h with h1 h2; subst h2; omega
   split at h
   ·rename_i hi
    have h0:=aw0 hE hn hi (by decide)
    obtain ⟨⟨b,n1⟩,e1,h⟩:=ag0 h
    obtain ⟨n2,e2,h⟩:=ag0 h
    have q1:=ih.ex h0 e1
    have q2:=ak0 hE q1.2 e2
    injection h with h; injection h with h1 h2; subst h2
    dsimp only at *; omega
   ·obtain ⟨⟨b,n1⟩,e1,h⟩:=ag0 h
    have q1:=a00 hE hn e1
    have e1':=e1
    unfold dA0 at e1'
    split at e1'
    ·rename_i hk
     injection e1' with e1'; injection e1' with e2 e3; subst e3
     split at h
     ·rename_i hi
      have h0:=aw0 hE q1.2 hi (by decide)
      split at h
      ·rename_i hi2
       have h00:=aw0 hE h0 hi2 (by decide)
       injection h with h; injection h with h1 h2; subst h2; omega
      ·obtain ⟨⟨b,n2⟩,e4,h⟩:=ag0 h
       have q2:=ih.args h0 e4
       injection h with h; injection h with h1 h2; subst h2
       dsimp only at *; omega
     ·injection h with h; injection h with h1 h2; subst h2; omega
    ·cases e1'
  ·rw [iP0] at h
   obtain ⟨⟨b,n1⟩,e1,h⟩:=ag0 h
   have q1:=ih.ex hn e1
   dsimp only at *
   split at h
   ·rename_i hi
    have h0:=aw0 hE q1.2 hi (by decide)
    injection h with h; injection h with h1 h2; subst h2; omega
   ·obtain ⟨n2,e2,h⟩:=ag0 h
    have q2:=ak0 hE q1.2 e2
    have q3:=ih.args q2.2 h
    omega
end Go.Am
end

section
namespace Go.Am
set_option maxRecDepth 100000
attribute [local irreducible] vc vcIs vcI vcOp vcD vcDp vcDR vcT vcAR bY0 aX0 panD neG ne pv J bJ0 bP0 b20 bc0 evK evsK nthK objK boxK rowK bC0 intK strK aggK fnK ifcK ay0 az0 ldK ldaK iaK srcK stK appK appD b40 pvK bD0 aV0 bO0 bs0 slAV bI0
variable {ts:List Tok} {n:Nat}
def ap0 (text:ByteArray) (args:V) (at_:Int):Ob:=.box [vI 7,vI 0,vI 0,vS text,vI 0,vS (bS []),args,vI at_]
def hf0 (ts:List Tok) (n:Int) (text:ByteArray) (at_:Int) (d:Nat) (out:List Exq):List Ob :=
 [ap0 text (.arr (.e 4) 0 out.length) at_,.box [.bp (.e 3) 0],.box [vI d],.box [.lst (ts.map Tok.cells),vI n],.row dQ0 8 true (out.map Exq.cells)]
def fP0 (ts:List Tok) (n:Int) (text:ByteArray) (at_:Int) (d:Nat) (out:List Exq):List Ob :=
 [ap0 text (.arr (.e 5) 0 out.length) at_,.box [.bp (.e 3) 0],.box [vI d],.box [.lst (ts.map Tok.cells),vI n],.gone,.row dQ0 8 true (out.map Exq.cells)]
@[simp] theorem elemK_last {α:Type} {g:α->List V} {l:List α} {e:List V} {K:List V->Prop}:fW0 (l.map g++[e]) l.length K=K e :=
 aO0 (by rw [List.getElem?_append_right (by simp)]; simp)
@[simp] theorem set_last {α:Type} {g:α->List V} {l:List α} {e e':List V}:(l.map g++[e]).set l.length e'=l.map g++[e']:=by
 rw [List.set_append_right _ _ (by simp)]; simp
theorem kq0 {e us:List V} (h:us.length=e.length):setAt e 0 us=us:=by
 unfold setAt
 rw [List.take_zero,Nat.zero_add,h,List.drop_length]; simp
theorem qO0 (f d:Nat) (hd:d<=24) (text:ByteArray) (at_:Int) (out:List Exq) (hl:ts.length < 2 ^ 40) (ho:out.length < 2 ^ 40)
  (hx:J prog a90 [.bp (.e 0) 0,vI (d + 1:Nat)] (pObs ts n) (·=pAns ts Exq.V (b50 ts f (d + 1) n))) :
  J prog bb0 [.bp (.e 0) 0,.bp (.e 1) 0,.bp (.e 2) 0] (hf0 ts n text at_ d out) (fun r=>r=match b50 ts f (d + 1) n with
   | .ok (x,m)=>.ret (.tup []) (fP0 ts m text at_ d (out++[x]))
   | .bad a e=>.pan (iQ0 ts a e) (hf0 ts a text at_ d out)):=by
 have hw:b50 ts f (d + 1) n=b50 ts f (d + 1) n:=rfl
 refine at0 gZ0 (by simp [hf0]) ?_
 refine rS5 @dr0.eq_1 @hf0.eq_1 @ap0.eq_1 @hpE.eq_1 @hpE.eq_2 ?_
 have hJ:=hx
 rcases hR8:b50 ts f (d + 1) n with ⟨x,m⟩ | ⟨aa,ae⟩
 rotate_left
 ·rw [hR8] at hJ hw
  try simp only [LxR.bind] at hw
  simp only [pAns,ar0] at hJ
  refine bk0 [.e 3] ?_
  simp
  have hO:=hJ
  try simp [pObs,ap0,hf0,fP0] at hO
  refine cN0 hO ?_
  refine rS0 ?_
  refine endP ?_
  exact rT6 hw @pAns.eq_1 @pAns.eq_2 @ar0.eq_1 @ar0.eq_2 @pObs.eq_1
 rw [hR8] at hJ hw
 try simp only [LxR.bind] at hw
 simp only [pAns,ar0] at hJ
 refine bk0 [.e 3] ?_
 simp
 have hO:=hJ
 try simp [pObs,ap0,hf0,fP0] at hO
 refine cH0 8 hO ?_
 refine rS1 @kq0 ?_
 refine b10 [.l 11 0] ?_
 exact rT2 @fP0.eq_1 @ap0.eq_1
end Go.Am
end

section
namespace Go.Am
set_option maxRecDepth 100000
theorem cO0 {P:Program} {env:Env} {hp:Hp} {α:Type} {g:Nat} {args:List V} {obs:List Ob} {obs':α->List Ob} {ids:List Id} {d:Option Nat} {K:Env->Hp->Prop} {Kp:V->Hp->Prop} {v:V} (h:J P g args obs (fun r=>∃ y,r=.pan v (obs' y)))
  (hK:∀ y,fB0 env hp ids 0 v (obs' y) fun v' _ hp'=>Kp v' hp'):bD0 P g args obs env hp ids d K Kp:=J.mono h fun r e=>by obtain ⟨y,e⟩:=e; subst e; exact hK y
attribute [local irreducible] vc vcIs vcI vcOp vcD vcDp vcDR vcT vcAR bY0 aX0 panD neG ne pv J bJ0 bP0 b20 bc0 evK evsK nthK objK boxK rowK bC0 intK strK aggK fnK ifcK ay0 az0 ldK ldaK iaK srcK stK appK appD b40 pvK bD0 aV0 bO0 bs0 slAV bI0
variable {ts:List Tok} {n:Nat}
def av0 (ts:List Tok) (n:Int) (text:ByteArray) (args:V) (at_:Int) (d:Nat):List Ob :=
 [.box [.lst (ts.map Tok.cells),vI n],ap0 text args at_,.box [.bp (.e 0) 0],.box [vI d]]
theorem nr0 (hl:ts.length < 2 ^ 40) (hn:n < ts.length) (h:isT ts n 4 [41]=true) (text:ByteArray) (at_:Int) (d:Nat) :
  J prog bV0 [.bp (.e 0) 0,vS (bS [41]),.fn bb0 [.bp (.e 1) 0,.bp (.e 2) 0,.bp (.e 3) 0]] (av0 ts n text .nil at_ d) (·=.ret (.tup []) (av0 ts (n + 1:Nat) text .nil at_ d)):=by
 refine at0 cs0 (by simp [av0]) ?_
 refine rS5 @bE0.eq_1 @av0.eq_1 @ap0.eq_1 @hpE.eq_1 @hpE.eq_2 ?_
 refine aa0 [.e 0] ?_
 simp
 have hO:=ai0 hn hl 4 [41]
 try simp [pObs,ap0,hf0,fP0,av0] at hO
 refine ab0 8 hO ?_
 refine rS1 h ?_
 refine ax0 [] ?_
 exact rT0
theorem ns0 (hE:TEnd ts) (hl:ts.length < 2 ^ 40) (hn:n < ts.length) (h:isT ts n 4 [41]=false) (text:ByteArray) (at_:Int) (d:Nat) (hd:d<=24) (F:Nat)
  (IH:∀ g,g < F->∀ n,n < ts.length->(b50 ts g (d + 1) n).live->J prog a90 [.bp (.e 0) 0,vI (d + 1:Nat)] (pObs ts n) (·=pAns ts Exq.V (b50 ts g (d + 1) n)))
  (hlive:(iP0 ts F (d + 1) [] n).live) :
  J prog bV0 [.bp (.e 0) 0,vS (bS [41]),.fn bb0 [.bp (.e 1) 0,.bp (.e 2) 0,.bp (.e 3) 0]] (av0 ts n text .nil at_ d) (fun r=>match iP0 ts F (d + 1) [] n with
   | .ok (xs,m)=>r=.ret (.tup []) (av0 ts m text (.arr (.e 4) 0 xs.length) at_ d++[.row dQ0 8 true (xs.map Exq.cells)])
   | .bad a e=>∃ y:List (List V),r=.pan (iQ0 ts a e) (av0 ts a text (.lst y) at_ d)):=by
 generalize hR:iP0 ts F (d + 1) [] n=R at *
 refine at0 cs0 (by simp [av0]) ?_
 refine rS5 @bE0.eq_1 @av0.eq_1 @ap0.eq_1 @hpE.eq_1 @hpE.eq_2 ?_
 refine aa0 [.e 0] ?_
 simp
 have hO:=ai0 hn hl 4 [41]
 try simp [pObs,ap0,hf0,fP0,av0] at hO
 refine ab0 8 hO ?_
 refine rS1 h ?_
 refine aH0 (fun y:Nat × Nat × List Exq=>y.1) (fun y=>[(0,.bp (.e 0) 0),(1,vS (bS [41])),(2,.fn bb0 [.bp (.e 1) 0,.bp (.e 2) 0,.bp (.e 3) 0])])
  (fun y=>[(.e 0,.box [.lst (ts.map Tok.cells),vI y.2.1]),(.e 1,ap0 text (.arr (.l 999 0) 0 y.2.2.length) at_),(.e 2,.box [.bp (.e 0) 0]),(.e 3,.box [vI d]),(.l 999 0,.row dQ0 8 true (y.2.2.map Exq.cells))])
  (fun y=>y.1<=F/\y.2.1 < ts.length/\y.2.2.length<=y.2.1/\iP0 ts y.1 (d + 1) y.2.2 y.2.1=R) (F,n,[]) ⟨Nat.le_refl _,hn,by simp,hR⟩
  (Wk.trans (Wk.subs (by simp) (by simp [ap0])) (Wk.rowB (b:=.e 1) (id:=.l 999 0) (off:=6) (ty:=dQ0) (sz:=8) rfl rfl (by simp) (by simp))) ?_
 rintro ⟨g,n',out⟩ ⟨hg,hn',ho,hw⟩
 dsimp only at hg hn' ho hw
 obtain _ | g:=g
 ·rw [iP0] at hw; subst hw; exact absurd rfl hlive
 rw [iP0] at hw
 have hlv:=hlive
 rw [<- hw] at hlv
 obtain ⟨hlx,hcont⟩:=LxR.aJ0 hlv
 have hJ:=qO0 g d hd text at_ out hl (by omega) (IH g (by omega) n' hn' hlx)
 rcases hx:b50 ts g (d + 1) n' with ⟨x,m⟩ | ⟨a,e⟩
 ·rw [hx] at hJ hw
  simp only [LxR.bind] at hw
  have q1:=(ki0 hE g).ex hn' hx
  refine rS1 @ap0.eq_1 ?_
  refine aa0 [.e 1,.e 2,.e 3,.e 0,.l 999 0] ?_
  simp
  have hO:=hJ
  try simp [pObs,ap0,hf0,fP0,av0] at hO
  refine ab0 10 hO ?_
  refine rS0 ?_
  refine aa0 [.e 0] ?_
  simp
  have hO:=ai0 q1.2 hl 4 [41]
  try simp [pObs,ap0,hf0,fP0,av0] at hO
  refine ab0 13 hO ?_
  cases h2:isT ts m 4 [41] with
  | true =>
   rw [h2,if_pos rfl] at hw
   subst hw
   refine rS0 ?_
   refine ax0 [.l 10 0] ?_
   exact rT0
  | false =>
   rw [h2,if_neg (by simp)] at hw
   refine rS0 ?_
   rcases h3:bh0 ts m [44] with m2 | ⟨a,e⟩
   ·have q2:=ak0 hE q1.2 h3
    have hJ2:=aq0 q1.2 hl [44]
    rw [h3] at hJ2 hw
    simp only [LxR.bind] at hw
    simp only [ar0] at hJ2
    refine aa0 [.e 0] ?_
    simp
    have hO:=hJ2
    try simp [pObs,ap0,hf0,fP0,av0] at hO
    refine ab0 15 hO ?_
    refine rS0 ?_
    refine .of (g,m2,out++[x]) ⟨by dsimp only; omega,q2.2,by simp; omega,hw⟩ (by dsimp only; omega) (Wk.rens (.l 10 0) (.l 999 0) rfl (by simp) (by simp [renF,ap0]) (by simp [renF,bR0,ap0]))
   ·have hJ2:=aq0 q1.2 hl [44]
    rw [h3] at hJ2 hw
    simp only [LxR.bind] at hw
    simp only [ar0] at hJ2
    subst hw
    refine aa0 [.e 0] ?_
    simp
    have hO:=hJ2
    try simp [pObs,ap0,hf0,fP0,av0] at hO
    refine af0 hO ?_
    refine rS0 ?_
    refine endP ?_
    exact rT0
 ·rw [hx] at hJ hw
  simp only [LxR.bind] at hw
  subst hw
  refine rS1 @ap0.eq_1 ?_
  refine aa0 [.e 1,.e 2,.e 3,.e 0,.l 999 0] ?_
  simp
  have hO:=hJ
  try simp [pObs,ap0,hf0,fP0,av0] at hO
  refine af0 hO ?_
  refine rS0 ?_
  refine endP ?_
  exact rT0
end Go.Am
end

section
namespace Go.Am
set_option maxRecDepth 100000
attribute [local irreducible] vc vcIs vcI vcOp vcD vcDp vcDR vcT vcAR bY0 aX0 panD neG ne pv J bJ0 bP0 b20 bc0 evK evsK nthK objK boxK rowK bC0 intK strK aggK fnK ifcK ay0 az0 ldK ldaK iaK srcK stK appK appD b40 pvK bD0 aV0 bO0 bs0 slAV bI0
variable {ts:List Tok} {n:Nat}
theorem k00 (hE:TEnd ts) (hl:ts.length < 2 ^ 40) (F d:Nat) (hd:d<=24)
  (IH:∀ g,g < F->∀ n,n < ts.length->(b50 ts g (d + 1) n).live->J prog a90 [.bp (.e 0) 0,vI (d + 1:Nat)] (pObs ts n) (·=pAns ts Exq.V (b50 ts g (d + 1) n)))
  (hn:n < ts.length) (hlive:(jO0 ts F d n).live):J prog et0 [.bp (.e 0) 0,vI d] (pObs ts n) (·=pAns ts Exq.V (jO0 ts F d n)):=by
 obtain _ | F:=F
 ·rw [jO0] at hlive; exact absurd rfl hlive
 have hw:jO0 ts (F + 1) d n=jO0 ts (F + 1) d n:=rfl
 conv at hw=>rhs; rw [jO0]
 rw [hw] at hlive ⊢
 clear hw
 refine at0 h30 (by simp [pObs]) ?_
 refine rS4 @dV0.eq_1 @pObs.eq_1 @hpE.eq_1 @hpE.eq_2 ?_
 refine aa0 [.e 0] ?_
 simp
 have hO:=a50 hn
 try simp [pObs,ap0,av0] at hO
 refine ab0 9 hO ?_
 by_cases k2:(tk ts n).kind=2
 ·rw [if_pos k2]
  refine rS1 k2 ?_
  refine ax0 [] ?_
  simp +contextual (maxSteps:=2000000) (disch:=omega) [-Int.not_lt,-Int.not_le,-Nat.not_lt,-Nat.not_le,sx,pAns,pObs,Exq.ac0,Exq.kind,Exq.op,Exq.num,Exq.text,Exq.slot,Exq.type,Exq.args,Exq.at_]
 rw [if_neg k2] at hlive ⊢
 by_cases k3:(tk ts n).kind=3
 ·rw [if_pos k3]
  refine rS2 k2 k3 ?_
  refine ax0 [] ?_
  simp +contextual (maxSteps:=2000000) (disch:=omega) [-Int.not_lt,-Int.not_le,-Nat.not_lt,-Nat.not_le,sx,pAns,pObs,Exq.ac0,Exq.kind,Exq.op,Exq.num,Exq.text,Exq.slot,Exq.type,Exq.args,Exq.at_]
 rw [if_neg k3] at hlive ⊢
 refine rS2 k2 k3 ?_
 refine aa0 [.e 0] ?_
 simp
 have hO:=ai0 hn hl 1 hG0
 try simp [pObs,ap0,av0] at hO
 refine ab0 44 hO ?_
 cases h1:isT ts n 1 hG0 with
 | true =>
  refine rS0 ?_
  refine ax0 [] ?_
  simp +contextual (maxSteps:=2000000) (disch:=omega) [-Int.not_lt,-Int.not_le,-Nat.not_lt,-Nat.not_le,sx,pAns,pObs,Exq.ac0,Exq.kind,Exq.op,Exq.num,Exq.text,Exq.slot,Exq.type,Exq.args,Exq.at_]
 | false =>
 rw [h1] at hlive
 simp only [Bool.false_eq_true,if_false] at hlive ⊢
 refine rS0 ?_
 refine aa0 [.e 0] ?_
 simp
 have hO:=ai0 hn hl 1 eG0
 try simp [pObs,ap0,av0] at hO
 refine ab0 50 hO ?_
 cases h2:isT ts n 1 eG0 with
 | true =>
  refine rS0 ?_
  refine ax0 [] ?_
  simp +contextual (maxSteps:=2000000) (disch:=omega) [-Int.not_lt,-Int.not_le,-Nat.not_lt,-Nat.not_le,sx,pAns,pObs,Exq.ac0,Exq.kind,Exq.op,Exq.num,Exq.text,Exq.slot,Exq.type,Exq.args,Exq.at_]
 | false =>
 rw [h2] at hlive
 simp only [Bool.false_eq_true,if_false] at hlive ⊢
 refine rS0 ?_
 refine aa0 [.e 0] ?_
 simp
 have hO:=ai0 hn hl 4 [40]
 try simp [pObs,ap0,av0] at hO
 refine ab0 56 hO ?_
 cases h3:isT ts n 4 [40] with
 | true =>
  have h0:=aw0 hE hn h3 (by decide)
  rw [h3] at hlive
  simp only [if_true] at hlive ⊢
  obtain ⟨hlx,_⟩:=LxR.aJ0 hlive
  have hJ:=IH F (by omega) (n + 1) h0 hlx
  refine rS0 ?_
  rcases hx:b50 ts F (d + 1) (n + 1) with ⟨x,m⟩ | ⟨a,e⟩
  ·rw [hx] at hJ
   have q1:=(ki0 hE F).ex h0 hx
   simp only [pAns,LxR.bind] at hJ ⊢
   refine aa0 [.e 0] ?_
   simp
   have hO:=hJ
   try simp [pObs,ap0,av0] at hO
   refine ab0 60 hO ?_
   refine rS0 ?_
   have hJ2:=aq0 q1.2 hl [41]
   rcases h4:bh0 ts m [41] with m2 | ⟨a,e⟩
   ·rw [h4] at hJ2
    simp only [ar0] at hJ2
    refine aa0 [.e 0] ?_
    simp
    have hO:=hJ2
    try simp [pObs,ap0,av0] at hO
    refine ab0 62 hO ?_
    refine rS0 ?_
    refine ax0 [] ?_
    exact rT1 @pObs.eq_1
   ·rw [h4] at hJ2
    simp only [ar0] at hJ2
    refine aa0 [.e 0] ?_
    simp
    have hO:=hJ2
    try simp [pObs,ap0,av0] at hO
    refine af0 hO ?_
    refine rS0 ?_
    refine endP ?_
    exact rT1 @pObs.eq_1
  ·rw [hx] at hJ
   simp only [pAns,LxR.bind] at hJ ⊢
   refine aa0 [.e 0] ?_
   simp
   have hO:=hJ
   try simp [pObs,ap0,av0] at hO
   refine af0 hO ?_
   refine rS0 ?_
   refine endP ?_
   exact rT1 @pObs.eq_1
 | false =>
 rw [h3] at hlive
 simp only [Bool.false_eq_true,if_false] at hlive ⊢
 refine rS0 ?_
 have hJ:=en0 hn hl
 rcases hN:dA0 ts n with ⟨t,n1⟩ | ⟨a,e⟩
 rotate_left
 ·rw [hN] at hJ
  simp only [pAns,LxR.bind] at hJ ⊢
  refine aa0 [.e 0] ?_
  simp
  have hO:=hJ
  try simp [pObs,ap0,av0] at hO
  refine af0 hO ?_
  refine rS0 ?_
  refine endP ?_
  exact rT1 @pObs.eq_1
 have hlt:=a00 hE hn hN
 have hnn:t=tk ts n/\n1=n + 1:=by
  unfold dA0 at hN
  split at hN
  ·injection hN with hN; injection hN with h5 h6; exact ⟨h5.symm,h6.symm⟩
  ·cases hN
 obtain ⟨rfl,rfl⟩:=hnn
 rw [hN] at hJ hlive
 simp only [pAns,LxR.bind] at hJ hlive ⊢
 refine aa0 [.e 0] ?_
 simp
 have hO:=hJ
 try simp [pObs,ap0,av0] at hO
 refine ab0 65 hO ?_
 refine rS0 ?_
 refine aa0 [.e 0] ?_
 simp
 have hO:=ai0 hlt.2 hl 4 [40]
 try simp [pObs,ap0,av0] at hO
 refine ab0 67 hO ?_
 cases h4:isT ts (n + 1) 4 [40] with
 | false =>
  refine rS0 ?_
  refine ax0 [] ?_
  simp +contextual (maxSteps:=2000000) (disch:=omega) [-Int.not_lt,-Int.not_le,-Nat.not_lt,-Nat.not_le,sx,pObs,Exq.ac0,Exq.kind,Exq.op,Exq.num,Exq.text,Exq.slot,Exq.type,Exq.args,Exq.at_]
 | true =>
 have h5:=aw0 hE hlt.2 h4 (by decide)
 rw [h4] at hlive
 simp only [if_true] at hlive ⊢
 refine rS0 ?_
 cases h6:isT ts (n + 2) 4 [41] with
 | true =>
  refine aa0 [.e 0,.l 7 0,.l 2 0,.l 3 0] ?_
  simp
  have hO:=nr0 hl h5 h6 (tk ts n).text (tk ts n).at_ d
  try simp [pObs,ap0,av0] at hO
  refine ab0 81 hO ?_
  refine rS0 ?_
  refine ax0 [] ?_
  simp +contextual (maxSteps:=2000000) (disch:=omega) [-Int.not_lt,-Int.not_le,-Nat.not_lt,-Nat.not_le,sx,pObs,Exq.ac0,Exq.kind,Exq.op,Exq.num,Exq.text,Exq.slot,Exq.type,Exq.args,Exq.at_]
  omega
 | false =>
  rw [h6] at hlive
  simp only [Bool.false_eq_true,if_false] at hlive ⊢
  have hla:=(LxR.aJ0 hlive).1
  have hJ2:=ns0 hE hl h5 h6 (tk ts n).text (tk ts n).at_ d hd F (fun g hg=>IH g (by omega)) hla
  rcases hA:iP0 ts F (d + 1) [] (n + 2) with ⟨xs,m⟩ | ⟨a,e⟩
  ·rw [hA] at hJ2
   simp only [LxR.bind] at hJ2 ⊢
   refine aa0 [.e 0,.l 7 0,.l 2 0,.l 3 0] ?_
   simp
   have hO:=hJ2
   try simp [pObs,ap0,av0] at hO
   refine ab0 81 hO ?_
   refine rS0 ?_
   refine ax0 [] ?_
   simp +contextual (maxSteps:=2000000) (disch:=omega) [-Int.not_lt,-Int.not_le,-Nat.not_lt,-Nat.not_le,sx,pObs,Exq.ac0,Exq.kind,Exq.op,Exq.num,Exq.text,Exq.slot,Exq.type,Exq.args,Exq.at_]
  ·rw [hA] at hJ2
   simp only [LxR.bind] at hJ2 ⊢
   refine c00 [.e 0,.l 7 0,.l 2 0,.l 3 0] rfl rfl (by simp) ?_
   simp
   have hpO:=hJ2
   try simp [pObs,ap0,av0] at hpO
   refine cO0 hpO ?_
   clear hpO
   intro y
   refine rS0 ?_
   refine endP ?_
   exact rT3 @pObs.eq_1 @pAns.eq_1 @pAns.eq_2
end Go.Am
end

section
namespace Go.Am
variable {P:Program} {n:Sz} {H:Imm} {μ:Mu} {env:Env} {hp:Hp} {a:Act} {w:World}
def V.fz (i:Id) (xs:List (List V)):V->V
 | .arr j o m=>if j=i then (if o + m<=xs.length then .lst ((xs.drop o).take m) else .any) else .arr j o m
 | v=>v
def Ob.fz (i:Id) (xs:List (List V)):Ob->Ob
 | .box cs=>.box (cs.map (V.fz i xs))
 | o=>o
theorem fz_ok {i:Id} {ty sz:Nat} {xs:List (List V)} (hW:Wd H μ hp w) (hl:hp.lookup i=some (.row ty sz false xs)) {v:V} {x:Value} (h:R H μ v x):R H μ (V.fz i xs v) x:=by
 unfold V.fz
 split
 ·rename_i j o m
  split
  ·rename_i e; subst e
   split
   ·rename_i hle; exact mr0 hW hl hle h μ
   ·exact .any x
  ·exact h
 ·exact h
theorem Ob.fz_own {i:Id} {xs:List (List V)} (o:Ob):(o.fz i xs).own=o.own:=by cases o <;> rfl
theorem Wk.frz {E:Env} {h:Hp} (i:Id) {ty sz:Nat} {xs:List (List V)} (hi:hp.lookup i=some (.row ty sz true xs)) (hE:∀ p ∈ E,bc0 env p.1 fun v=>V.fz i xs v=p.2)
  (hh:∀ p ∈ h,p.1 ≠ i/\objK hp p.1 fun o=>Ob.fz i xs o=p.2):Wk E h env hp:=fun n H μ a w hS=>by
 obtain ⟨H1,hle,hS1,hx1⟩:=hS.frz (.arr i 0 0)
 have hl1:(Hp.frz (.arr i 0 0) hp).lookup i=some (.row ty sz false xs):=by rw [hH0,hi]; simp [V.has,Ob.frz]
 have hoth:∀ j,j ≠ i->(Hp.frz (.arr i 0 0) hp).lookup j=hp.lookup j:=by
  intro j hj
  rw [hH0]
  have:V.has j (.arr i 0 0)=false:=by simp [V.has,Ne.symm hj]
  rw [this]
  cases hp.lookup j <;> rfl
 have hW:=hS1.wd
 have hob:∀ j o,h.lookup j=some o->∃ o',(Hp.frz (.arr i 0 0) hp).lookup j=some o'/\o=o'.fz i xs:=by
  intro j o hl
  obtain ⟨h1,h2⟩:=hh (j,o) (bB0 hl)
  rw [h90] at h2
  obtain ⟨o',h3,h4⟩:=h2
  exact ⟨o',by rw [hoth j h1]; exact h3,h4.symm⟩
 refine ⟨H1,μ,⟨hS1.defers,hS1.size,fun s v hs=>?_,⟨fun j o hl=>?_,fun j k oj ok bj bk hj hoj hk hok hbj hbk heq=>?_,hW.imm,hW.glo⟩⟩,hx1.trans ⟨⟨Imm.le_refl _,rfl,rfl,rfl,Nat.le_refl _,fun _ _ _=>rfl,fun b hO hb=>?_,fr0⟩,fun _=>rfl⟩⟩
 ·have h1:=hE (s,v) (bB0 hs)
  rw [eM0] at h1
  obtain ⟨u,h2,rfl⟩:=h1
  exact fz_ok hW hl1 (hS1.env s u h2)
 ·obtain ⟨o',h1,rfl⟩:=hob j o hl
  have hO:=hW.ob j o' h1
  cases o' with
  | box cs =>
   obtain ⟨blk,vals,ty',k1,k2,k3,k4,k5⟩:=hO
   refine ⟨blk,vals,ty',k1,k2,by rw [k3]; simp,k4,fun q v hq=>?_⟩
   rw [List.getElem?_map] at hq
   obtain ⟨u,h3,rfl⟩:=Option.map_eq_some_iff.1 hq
   obtain ⟨x,r1,r2⟩:=k5 q u h3
   exact ⟨x,r1,fz_ok hW hl1 r2⟩
  | gone=>exact hO
  | row ty' sz' own ys=>exact hO
  | mpo kd kvs=>exact hO
 ·obtain ⟨o1,h1,rfl⟩:=hob j oj hj
  obtain ⟨o2,h2,rfl⟩:=hob k ok hk
  exact hW.inj j k o1 o2 bj bk h1 (by rw [<- Ob.fz_own]; exact hoj) h2 (by rw [<- Ob.fz_own]; exact hok) hbj hbk heq
 ·obtain ⟨j,o,blk,h1,h2,h3,h4⟩:=hO
  obtain ⟨o',k1,rfl⟩:=hob j o h1
  exact ⟨j,o',blk,k1,by rw [<- Ob.fz_own]; exact h2,h3,h4⟩
end Go.Am
end

section
namespace Go.Am
set_option maxRecDepth 100000
attribute [local irreducible] vc vcIs vcI vcOp vcD vcDp vcDR vcT vcAR bY0 aX0 panD neG ne pv J bJ0 bP0 b20 bc0 evK evsK nthK objK boxK rowK bC0 intK strK aggK fnK ifcK ay0 az0 ldK ldaK iaK srcK stK appK appD b40 pvK bD0 aV0 bO0 bs0 slAV bI0
variable {ts:List Tok} {n:Nat}
abbrev zE:List V:=[vI 0,vI 0,vI 0,vS (bS []),vI 0,vS (bS []),.nil,vI 0]
theorem oq0 {d:Nat} (h:d<=24):km0 ts n d=.ok ():=by rw [km0,if_neg (by omega)]
theorem md0 {d:Nat} (h:¬ d<=24):km0 ts n d=.bad n 32:=by rw [km0,if_pos (by omega)]; rfl
set_option maxHeartbeats 1600000 in
theorem l50 (hE:TEnd ts) (hl:ts.length < 2 ^ 40) (F d:Nat) (hd:d<=24)
  (IHx:∀ g,g < F->∀ d n,d<=25->n < ts.length->(b50 ts g d n).live->J prog a90 [.bp (.e 0) 0,vI d] (pObs ts n) (·=pAns ts Exq.V (b50 ts g d n)))
  (IHu:∀ g,g < F->∀ d n,d<=24->n < ts.length->(pUn ts g d n).live->J prog bG0 [.bp (.e 0) 0,vI d] (pObs ts n) (·=pAns ts Exq.V (pUn ts g d n)))
  (hn:n < ts.length) (hlive:(pUn ts F d n).live):J prog bG0 [.bp (.e 0) 0,vI d] (pObs ts n) (·=pAns ts Exq.V (pUn ts F d n)):=by
 obtain _ | F:=F
 ·rw [pUn] at hlive; exact absurd rfl hlive
 generalize hw:pUn ts (F + 1) d n=R at *
 rw [pUn] at hw
 refine at0 iG0 (by simp [pObs]) ?_
 refine rS4 @eP0.eq_1 @pObs.eq_1 @hpE.eq_1 @hpE.eq_2 ?_
 refine aa0 [.e 0] ?_
 simp
 have hO:=a50 hn
 try simp [pObs,ap0,av0] at hO
 refine ab0 12 hO ?_
 refine rS0 ?_
 refine aH0 (fun y:Nat=>2 - y) (fun y=>[(15,vI y),(14,vI 2),(13,.arr (.l 13 0) 0 2),(5,.bp (.l 5 0) 0),(4,.bp (.l 4 0) 0),(0,.bp (.e 0) 0),(1,vI d)])
  (fun _=>[(.e 0,.box [.lst (ts.map Tok.cells),vI n]),(.l 13 0,.row 9 1 true [[vS (bS [45])],[vS (bS [33])]]),(.l 5 0,.box (tk ts n).cells),(.l 4 0,.box zE)])
  (fun y=>y<=2/\(0 < y->isT ts n 4 [45]=false)/\(1 < y->isT ts n 4 [33]=false)) 0 (by simp) (Wk.subs (by simp) (by simp)) ?_
 rintro y ⟨hy,h1,h2⟩
 have:y=0\/y=1\/y=2:=by omega
 rcases this with rfl | rfl | rfl
 ·refine rS0 ?_
  rw [aO0 (e:=[vS (bS [45])]) rfl]
  refine rS0 ?_
  refine aa0 [.e 0] ?_
  simp
  have hO:=ai0 hn hl 4 [45]
  try simp [pObs,ap0,av0] at hO
  refine ab0 22 hO ?_
  cases h:isT ts n 4 [45] with
  | true =>
   have h0:=aw0 hE hn h (by decide)
   rw [h] at hw
   simp only [if_true] at hw
   refine rS0 ?_
   by_cases hd1:d + 1<=24
   ·have hJ:=cw0 h0 (d + 1)
    rw [oq0 hd1] at hJ hw
    simp only [LxR.bind] at hJ hw
    refine aa0 [.e 0] ?_
    simp
    have hO:=hJ
    try simp [pObs,ap0,av0] at hO
    refine ab0 26 hO ?_
    refine rS0 ?_
    have hlv:=hlive
    rw [<- hw] at hlv
    have hJ2:=IHu F (by omega) (d + 1) (n + 1) hd1 h0 (LxR.aJ0 hlv).1
    rcases hx:pUn ts F (d + 1) (n + 1) with ⟨x,m⟩ | ⟨a,e⟩
    ·rw [hx] at hJ2 hw
     simp only [pAns,LxR.bind] at hJ2 hw
     subst hw
     refine bk0 [.e 0] ?_
     simp
     have hO:=hJ2
     try simp [pObs,ap0,av0] at hO
     refine cH0 32 hO ?_
     refine rS0 ?_
     refine ax0 [] ?_
     rw [pAns,Exq.V,Exq.ac0 (.mk _ _ _ _ _ _ _ _)]
     simp +contextual (maxSteps:=2000000) (disch:=omega) [-Int.not_lt,-Int.not_le,-Nat.not_lt,-Nat.not_le,sx,pObs,Exq.kind,Exq.op,Exq.num,Exq.text,Exq.slot,Exq.type,Exq.args,Exq.at_]
    ·rw [hx] at hJ2 hw
     simp only [pAns,LxR.bind] at hJ2 hw
     subst hw
     refine bk0 [.e 0] ?_
     simp
     have hO:=hJ2
     try simp [pObs,ap0,av0] at hO
     refine cN0 hO ?_
     refine rS0 ?_
     refine endP ?_
     exact rT3 @pObs.eq_1 @pAns.eq_1 @pAns.eq_2
   ·have hJ:=cw0 h0 (d + 1)
    rw [md0 hd1] at hJ hw
    simp only [LxR.bind] at hJ hw
    subst hw
    refine aa0 [.e 0] ?_
    simp
    have hO:=hJ
    try simp [pObs,ap0,av0] at hO
    refine af0 hO ?_
    refine rS0 ?_
    refine endP ?_
    exact rT3 @pObs.eq_1 @pAns.eq_1 @pAns.eq_2
  | false =>
   refine rS0 ?_
   refine .of 1 ⟨by omega,fun q=>absurd q (by omega)⟩ (by omega) (Wk.subs (by simp) (by simp))
 ·have h1:=h1 (by omega)
  rw [h1] at hw
  simp only [Bool.false_eq_true,if_false] at hw
  refine rS0 ?_
  rw [aO0 (e:=[vS (bS [33])]) rfl]
  refine rS0 ?_
  refine aa0 [.e 0] ?_
  simp
  have hO:=ai0 hn hl 4 [33]
  try simp [pObs,ap0,av0] at hO
  refine ab0 22 hO ?_
  cases h:isT ts n 4 [33] with
  | true =>
   have h0:=aw0 hE hn h (by decide)
   rw [h] at hw
   simp only [if_true] at hw
   refine rS0 ?_
   by_cases hd1:d + 1<=24
   ·have hJ:=cw0 h0 (d + 1)
    rw [oq0 hd1] at hJ hw
    simp only [LxR.bind] at hJ hw
    refine aa0 [.e 0] ?_
    simp
    have hO:=hJ
    try simp [pObs,ap0,av0] at hO
    refine ab0 26 hO ?_
    refine rS0 ?_
    have hlv:=hlive
    rw [<- hw] at hlv
    have hJ2:=IHu F (by omega) (d + 1) (n + 1) hd1 h0 (LxR.aJ0 hlv).1
    rcases hx:pUn ts F (d + 1) (n + 1) with ⟨x,m⟩ | ⟨a,e⟩
    ·rw [hx] at hJ2 hw
     simp only [pAns,LxR.bind] at hJ2 hw
     subst hw
     refine bk0 [.e 0] ?_
     simp
     have hO:=hJ2
     try simp [pObs,ap0,av0] at hO
     refine cH0 32 hO ?_
     refine rS0 ?_
     refine ax0 [] ?_
     rw [pAns,Exq.V,Exq.ac0 (.mk _ _ _ _ _ _ _ _)]
     simp +contextual (maxSteps:=2000000) (disch:=omega) [-Int.not_lt,-Int.not_le,-Nat.not_lt,-Nat.not_le,sx,pObs,Exq.kind,Exq.op,Exq.num,Exq.text,Exq.slot,Exq.type,Exq.args,Exq.at_]
    ·rw [hx] at hJ2 hw
     simp only [pAns,LxR.bind] at hJ2 hw
     subst hw
     refine bk0 [.e 0] ?_
     simp
     have hO:=hJ2
     try simp [pObs,ap0,av0] at hO
     refine cN0 hO ?_
     refine rS0 ?_
     refine endP ?_
     exact rT3 @pObs.eq_1 @pAns.eq_1 @pAns.eq_2
   ·have hJ:=cw0 h0 (d + 1)
    rw [md0 hd1] at hJ hw
    simp only [LxR.bind] at hJ hw
    subst hw
    refine aa0 [.e 0] ?_
    simp
    have hO:=hJ
    try simp [pObs,ap0,av0] at hO
    refine af0 hO ?_
    refine rS0 ?_
    refine endP ?_
    exact rT3 @pObs.eq_1 @pAns.eq_1 @pAns.eq_2
  | false =>
   refine rS0 ?_
   refine .of 2 ⟨by omega,fun _=>h1⟩ (by omega) (Wk.subs (by simp) (by simp))
 ·have h1:=h1 (by omega)
  have h2:=h2 (by omega)
  rw [h1,h2] at hw
  simp only [Bool.false_eq_true,if_false] at hw
  have hlv:=hlive
  rw [<- hw] at hlv
  refine rS0 ?_
  have hJ:=k00 hE hl F d hd (fun g hg n=>IHx g (by omega) (d + 1) n (by omega)) hn (LxR.aJ0 hlv).1
  rcases hx:jO0 ts F d n with ⟨x,m⟩ | ⟨a,e⟩
  rotate_left
  ·rw [hx] at hJ hw
   simp only [pAns,LxR.bind] at hJ hw
   subst hw
   refine aa0 [.e 0] ?_
   simp
   have hO:=hJ
   try simp [pObs,ap0,av0] at hO
   refine af0 hO ?_
   refine rS0 ?_
   refine endP ?_
   exact rT3 @pObs.eq_1 @pAns.eq_1 @pAns.eq_2
  have q1:=(ki0 hE F).prim hn hx
  rw [hx] at hJ hw
  simp only [pAns,LxR.bind] at hJ hw
  refine aa0 [.e 0] ?_
  simp
  have hO:=hJ
  try simp [pObs,ap0,av0] at hO
  refine ab0 40 hO ?_
  refine rS0 ?_
  refine aH0 (fun y:Nat × Nat × Exq=>y.1) (fun y=>[(8,.bp (.l 8 0) 0),(4,.bp (.l 4 0) 0),(0,.bp (.e 0) 0),(1,vI d)])
   (fun y=>[(.e 0,.box [.lst (ts.map Tok.cells),vI y.2.1]),(.l 8 0,.box y.2.2.cells),(.l 4 0,.box zE)])
   (fun y=>y.1<=F/\y.2.1 < ts.length/\lr0 ts y.1 d y.2.2 y.2.1=R) (F,m,x) ⟨Nat.le_refl _,q1.2,hw⟩ (Wk.subs (by simp) (by simp)) ?_
  rintro ⟨g,n',out⟩ ⟨hg,hn',hw⟩
  dsimp only at hg hn' hw
  obtain _ | g:=g
  ·rw [lr0] at hw; subst hw; exact absurd rfl hlive
  rw [lr0] at hw
  refine rS0 ?_
  refine aa0 [.e 0] ?_
  simp
  have hO:=kZ0 hn' 4 [91]
  try simp [pObs,ap0,av0] at hO
  refine ab0 42 hO ?_
  cases h3:isT ts n' 4 [91] with
  | false =>
   rw [h3] at hw
   simp only [Bool.false_eq_true,if_false] at hw
   subst hw
   refine rS0 ?_
   refine ax0 [] ?_
   exact rT3 @pObs.eq_1 @pAns.eq_1 @pAns.eq_2
  | true =>
   have h0:=aw0 hE hn' h3 (by decide)
   rw [h3] at hw
   simp only [if_true] at hw
   have hlv:=hlive
   rw [<- hw] at hlv
   have hJ:=IHx g (by omega) (d + 1) (n' + 1) (by omega) h0 (LxR.aJ0 hlv).1
   refine rS0 ?_
   refine aa0 [.e 0] ?_
   simp
   have hO:=a50 hn'
   try simp [pObs,ap0,av0] at hO
   refine ab0 44 hO ?_
   refine rS0 ?_
   rcases hx2:b50 ts g (d + 1) (n' + 1) with ⟨p,m2⟩ | ⟨a,e⟩
   ·rw [hx2] at hJ hw
    simp only [pAns,LxR.bind] at hJ hw
    have q2:=(ki0 hE g).ex h0 hx2
    refine aa0 [.e 0] ?_
    simp
    have hO:=hJ
    try simp [pObs,ap0,av0] at hO
    refine ab0 56 hO ?_
    refine rS0 ?_
    have hJ2:=aq0 q2.2 hl [93]
    rcases hm:bh0 ts m2 [93] with m3 | ⟨a,e⟩
    ·rw [hm] at hJ2 hw
     simp only [ar0] at hJ2 hw
     have q3:=ak0 hE q2.2 hm
     refine aa0 [.e 0] ?_
     simp
     have hO:=hJ2
     try simp [pObs,ap0,av0] at hO
     refine ab0 58 hO ?_
     refine rS0 ?_
     refine .of (g,m3,.mk 12 0 0 (bS []) 0 (bS []) [out,p] (tk ts n').at_) ⟨by dsimp only; omega,q3.2,hw⟩ (by dsimp only; omega) (Wk.frz (.l 61 0) rfl (by simp [V.fz]) ?_)
     rw [Exq.ac0 (.mk _ _ _ _ _ _ _ _)]
     simp [Ob.fz,V.fz,Exq.kind,Exq.op,Exq.num,Exq.text,Exq.slot,Exq.type,Exq.args,Exq.at_]
    ·rw [hm] at hJ2 hw
     simp only [ar0] at hJ2 hw
     subst hw
     refine aa0 [.e 0] ?_
     simp
     have hO:=hJ2
     try simp [pObs,ap0,av0] at hO
     refine af0 hO ?_
     refine rS0 ?_
     refine endP ?_
     exact rT3 @pObs.eq_1 @pAns.eq_1 @pAns.eq_2
   ·rw [hx2] at hJ hw
    simp only [pAns,LxR.bind] at hJ hw
    subst hw
    refine aa0 [.e 0] ?_
    simp
    have hO:=hJ
    try simp [pObs,ap0,av0] at hO
    refine af0 hO ?_
    refine rS0 ?_
    refine endP ?_
    exact rT3 @pObs.eq_1 @pAns.eq_1 @pAns.eq_2
variable {ts:List Tok} {n:Nat}
theorem qd0 (l:List Bs) (s:ByteArray) (h:l.contains (sB s)=true):je0 (l.map bS) s=(l.idxOf (sB s):Nat):=by
 rw [List.contains_iff_mem] at h
 have hlt:l.idxOf (sB s) < l.length:=List.idxOf_lt_length_iff.2 h
 have hge:l[l.idxOf (sB s)]=sB s:=List.getElem_idxOf hlt
 have:(l.map bS).findIdx? (fun x=>decide (s=x))=some (l.idxOf (sB s)):=by
  rw [List.findIdx?_eq_some_iff_getElem]
  refine ⟨by simpa using hlt,by simp [hge],fun j hj=>?_⟩
  have hne:=List.not_of_lt_findIdx (p:=(· == sB s)) (xs:=l) hj
  simp only [List.getElem_map,decide_eq_true_eq]
  intro e
  have h3:sB s=l[j]:=congrArg sB e
  have h4:(l[j] == sB s)=true:=by rw [beq_iff_eq]; exact h3.symm
  rw [h4] at hne; cases hne
 rw [je0,this]
theorem level_op {l:Nat} (hl5:l < 5) {b:Bs} (h:(ci0[l]'hl5).contains b=true):pOps.contains b=true:=by
 rw [List.contains_iff_mem] at h ⊢
 exact List.mem_flatten.2 ⟨_,List.getElem_mem hl5,h⟩
theorem nQ0 {l:Nat} (hl5:l < 5) {t:Tok} (hk:t.kind=4):ej0 l t=(ci0[l]'hl5).contains (sB t.text):=by
 unfold ej0
 rw [hk,List.getD_eq_getElem?_getD,List.getElem?_eq_getElem hl5]
 simp
theorem nR0 {l:Nat} {t:Tok} (hk:¬ t.kind=4):ej0 l t=false:=by
 unfold ej0
 simp [hk]
theorem oN0:∀ x ∈ ci0,x.length < 2 ^ 40:=by decide
theorem j30 {l:Nat} (hl5:l < 5) (s:ByteArray):Ret prog bj0 [.lst ((ci0[l]'hl5).map fun m=>[vS (bS m)]),vS s] (vB ((ci0[l]'hl5).contains (sB s))):=by
 have h:=gV0 ((ci0[l]'hl5).map bS) s (by rw [List.length_map]; exact oN0 _ (List.getElem_mem _))
 rw [mv0,List.map_map] at h
 exact h
theorem ops_Index (s:ByteArray) (h:pOps.contains (sB s)=true):Ret prog bA0 [.lst (pOps.map aP0),vS s] (vI (pOps.idxOf (sB s):Nat)):=by
 have h2:=jf0 (pOps.map bS) s (by decide)
 rw [qd0 _ _ h,List.map_map] at h2
 exact h2
set_option maxHeartbeats 1600000 in
theorem lu0 (hE:TEnd ts) (hl:ts.length < 2 ^ 40) (F l d:Nat) (hl5:l<=5) (hd:d<=24)
  (IHb:∀ g,g < F->∀ l n,l<=5->n < ts.length->(pBin ts g l d n).live->J prog bp0 [.bp (.e 0) 0,vI l,vI d] (pObs ts n) (·=pAns ts Exq.V (pBin ts g l d n)))
  (IHu:∀ g,g < F->∀ n,n < ts.length->(pUn ts g d n).live->J prog bG0 [.bp (.e 0) 0,vI d] (pObs ts n) (·=pAns ts Exq.V (pUn ts g d n)))
  (hn:n < ts.length) (hlive:(pBin ts F l d n).live):J prog bp0 [.bp (.e 0) 0,vI l,vI d] (pObs ts n) (·=pAns ts Exq.V (pBin ts F l d n)):=by
 obtain _ | F:=F
 ·rw [pBin] at hlive; exact absurd rfl hlive
 generalize hw:pBin ts (F + 1) l d n=R at *
 rw [pBin] at hw
 refine at0 iq0 (by simp [pObs]) ?_
 refine rS4 @er0.eq_1 @pObs.eq_1 @hpE.eq_1 @hpE.eq_2 ?_
 refine ao0 ?_; simp; refine aj0 (dh0) (by simp) ?_
 by_cases h5:l=5
 ·subst h5
  rw [if_pos rfl] at hw
  subst hw
  have hJ:=IHu F (by omega) n hn hlive
  rcases hx:pUn ts F d n with ⟨x,m⟩ | ⟨a,e⟩
  ·rw [hx] at hJ
   simp only [pAns] at hJ
   refine rS0 ?_
   refine aa0 [.e 0] ?_
   simp
   have hO:=hJ
   try simp [pObs,ap0,av0] at hO
   refine ab0 17 hO ?_
   refine rS0 ?_
   refine ax0 [] ?_
   exact rT3 @pObs.eq_1 @pAns.eq_1 @pAns.eq_2
  ·rw [hx] at hJ
   simp only [pAns] at hJ
   refine rS0 ?_
   refine aa0 [.e 0] ?_
   simp
   have hO:=hJ
   try simp [pObs,ap0,av0] at hO
   refine af0 hO ?_
   refine rS0 ?_
   refine endP ?_
   exact rT3 @pObs.eq_1 @pAns.eq_1 @pAns.eq_2
 rw [if_neg h5] at hw
 have hlt5:l < 5:=by omega
 have h5':¬ (l:Int)=5:=by omega
 have hlv:=hlive
 rw [<- hw] at hlv
 have hJ:=IHb F (by omega) (l + 1) n (by omega) hn (LxR.aJ0 hlv).1
 refine rS1 h5' ?_
 rcases hx:pBin ts F (l + 1) d n with ⟨x,m⟩ | ⟨a,e⟩
 rotate_left
 ·rw [hx] at hJ hw
  simp only [pAns,LxR.bind] at hJ hw
  subst hw
  refine aa0 [.e 0] ?_
  simp
  have hO:=hJ
  try simp [pObs,ap0,av0] at hO
  refine af0 hO ?_
  refine rS0 ?_
  refine endP ?_
  exact rT3 @pObs.eq_1 @pAns.eq_1 @pAns.eq_2
 have q1:=(ki0 hE F).bin hn hx
 rw [hx] at hJ hw
 simp only [pAns,LxR.bind] at hJ hw
 refine aa0 [.e 0] ?_
 simp
 have hO:=hJ
 try simp [pObs,ap0,av0] at hO
 refine ab0 22 hO ?_
 refine rS0 ?_
 refine aH0 (fun y:Nat × Nat × Exq=>y.1) (fun y=>[(7,.bp (.l 7 0) 0),(6,.bp (.l 6 0) 0),(0,.bp (.e 0) 0),(1,vI l),(2,vI d)])
  (fun y=>[(.e 0,.box [.lst (ts.map Tok.cells),vI y.2.1]),(.l 7 0,.box y.2.2.cells),(.l 6 0,.box zE)])
  (fun y=>y.1<=F/\y.2.1 < ts.length/\lq0 ts y.1 l d y.2.2 y.2.1=R) (F,m,x) ⟨Nat.le_refl _,q1.2,hw⟩ (Wk.subs (by simp) (by simp)) ?_
 rintro ⟨g,n',out⟩ ⟨hg,hn',hw⟩
 dsimp only at hg hn' hw
 obtain _ | g:=g
 ·rw [lq0] at hw; subst hw; exact absurd rfl hlive
 rw [lq0] at hw
 refine rS0 ?_
 refine aa0 [.e 0] ?_
 simp
 have hO:=a50 hn'
 try simp [pObs,ap0,av0] at hO
 refine ab0 24 hO ?_
 have done:ej0 l (tk ts n')=false->R=.ok (out,n'):=fun h=>by rw [h] at hw; simpa using hw.symm
 by_cases hk:(tk ts n').kind=4
 rotate_left
 ·have hR:=done (nR0 hk)
  rw [hR]
  refine rS1 hk ?_
  refine ax0 [] ?_
  exact rT3 @pObs.eq_1 @pAns.eq_1 @pAns.eq_2
 have hin:=nQ0 hlt5 hk
 refine rS1 hk ?_
 refine dd0 ?_; simp; refine aj0 (dh0) (by simp) ?_
 refine rS0 ?_
 rw [nS0 hlt5]
 refine rS0 ?_
 refine ao0 ?_; simp; refine aj0 (j30 hlt5 (tk ts n').text) (by simp) ?_
 rw [<- hin]
 cases hi:ej0 l (tk ts n') with
 | false =>
  rw [done hi]
  refine rS0 ?_
  refine ax0 [] ?_
  exact rT3 @pObs.eq_1 @pAns.eq_1 @pAns.eq_2
 | true =>
 have hop:pOps.contains (sB (tk ts n').text)=true:=level_op hlt5 (by rw [<- hin]; exact hi)
 rw [hi] at hw
 simp only [if_true] at hw
 have h0:=hE n' hn' (by rw [hk]; decide)
 have hlv:=hlive
 rw [<- hw] at hlv
 have hJ2:=IHb g (by omega) (l + 1) (n' + 1) (by omega) h0 (LxR.aJ0 hlv).1
 refine rS0 ?_
 rcases hx2:pBin ts g (l + 1) d (n' + 1) with ⟨p,m2⟩ | ⟨a,e⟩
 rotate_left
 ·rw [hx2] at hJ2 hw
  simp only [pAns,LxR.bind] at hJ2 hw
  subst hw
  refine aa0 [.e 0] ?_
  simp
  have hO:=hJ2
  try simp [pObs,ap0,av0] at hO
  refine af0 hO ?_
  refine rS0 ?_
  refine endP ?_
  exact rT3 @pObs.eq_1 @pAns.eq_1 @pAns.eq_2
 rw [hx2] at hJ2 hw
 simp only [pAns,LxR.bind] at hJ2 hw
 have q2:=(ki0 hE g).bin h0 hx2
 refine aa0 [.e 0] ?_
 simp
 have hO:=hJ2
 try simp [pObs,ap0,av0] at hO
 refine ab0 49 hO ?_
 refine rS0 ?_
 refine dd0 ?_; simp; refine aj0 (jP0) (by simp) ?_
 refine rS0 ?_
 refine dd0 ?_; simp; refine aj0 (ops_Index (tk ts n').text hop) (by simp) ?_
 have hq:pOps.idxOf (sB (tk ts n').text) < 13:=List.idxOf_lt_length_iff.2 (List.contains_iff_mem.1 hop)
 generalize pOps.idxOf (sB (tk ts n').text)=q at *
 by_cases h2:l=2
 ·subst h2
  rw [if_pos rfl] at hw
  refine rS0 ?_
  refine aa0 [.e 0] ?_
  simp
  have hO:=a50 q2.2
  try simp [pObs,ap0,av0] at hO
  refine ab0 64 hO ?_
  have ends:ej0 2 (tk ts m2)=false->R=.ok (.mk 15 ((q:Nat) + 1) 0 (bS []) 0 (bS []) [out,p] (tk ts n').at_,m2):=fun h=>by rw [h] at hw; simpa using hw.symm
  by_cases hk2:(tk ts m2).kind=4
  rotate_left
  ·rw [ends (nR0 hk2)]
   refine rS1 hk2 ?_
   refine ax0 [] ?_
   rw [pAns,Exq.V,Exq.ac0 (.mk _ _ _ _ _ _ _ _)]
   simp +contextual (maxSteps:=2000000) (disch:=omega) [-Int.not_lt,-Int.not_le,-Nat.not_lt,-Nat.not_le,sx,pObs,Exq.kind,Exq.op,Exq.num,Exq.text,Exq.slot,Exq.type,Exq.args,Exq.at_]
  have hin2:=nQ0 hlt5 hk2
  refine rS1 hk2 ?_
  refine dd0 ?_; simp; refine aj0 (dh0) (by simp) ?_
  refine rS0 ?_
  rw [nS0 hlt5]
  refine rS0 ?_
  refine ao0 ?_; simp; refine aj0 (j30 hlt5 (tk ts m2).text) (by simp) ?_
  rw [<- hin2]
  cases hi2:ej0 2 (tk ts m2) with
  | false =>
   rw [ends hi2]
   refine rS0 ?_
   refine ax0 [] ?_
   rw [pAns,Exq.V,Exq.ac0 (.mk _ _ _ _ _ _ _ _)]
   simp +contextual (maxSteps:=2000000) (disch:=omega) [-Int.not_lt,-Int.not_le,-Nat.not_lt,-Nat.not_le,sx,pObs,Exq.kind,Exq.op,Exq.num,Exq.text,Exq.slot,Exq.type,Exq.args,Exq.at_]
  | true =>
   rw [hi2] at hw
   simp only [if_true,e70] at hw
   subst hw
   refine rS0 ?_
   refine aa0 [.e 0] ?_
   simp
   have hO:=aW0 q2.2 31
   try simp [pObs,ap0,av0] at hO
   refine af0 hO ?_
   refine rS0 ?_
   refine endP ?_
   exact rT3 @pObs.eq_1 @pAns.eq_1 @pAns.eq_2
 ·rw [if_neg h2] at hw
  have h2':¬ (l:Int)=2:=by omega
  refine rS1 h2' ?_
  refine .of (g,m2,.mk 15 ((q:Nat) + 1) 0 (bS []) 0 (bS []) [out,p] (tk ts n').at_) ⟨by dsimp only; omega,q2.2,hw⟩ (by dsimp only; omega) (Wk.frz (.l 57 0) rfl (by simp [V.fz]) ?_)
  rw [Exq.ac0 (.mk _ _ _ _ _ _ _ _)]
  simp [Ob.fz,V.fz,Exq.kind,Exq.op,Exq.num,Exq.text,Exq.slot,Exq.type,Exq.args,Exq.at_]
variable {ts:List Tok}
structure DoesX (ts:List Tok) (f:Nat):Prop where
 ex:∀ d n,d<=25->n < ts.length->(b50 ts f d n).live->J prog a90 [.bp (.e 0) 0,vI d] (pObs ts n) (·=pAns ts Exq.V (b50 ts f d n))
 bin:∀ l d n,l<=5->d<=24->n < ts.length->(pBin ts f l d n).live->J prog bp0 [.bp (.e 0) 0,vI l,vI d] (pObs ts n) (·=pAns ts Exq.V (pBin ts f l d n))
 un:∀ d n,d<=24->n < ts.length->(pUn ts f d n).live->J prog bG0 [.bp (.e 0) 0,vI d] (pObs ts n) (·=pAns ts Exq.V (pUn ts f d n))
theorem expr_step {F d n:Nat} (hd:d<=25) (hn:n < ts.length)
  (IHb:∀ g,g < F->∀ l d n,l<=5->d<=24->n < ts.length->(pBin ts g l d n).live->J prog bp0 [.bp (.e 0) 0,vI l,vI d] (pObs ts n) (·=pAns ts Exq.V (pBin ts g l d n)))
  (hlive:(b50 ts F d n).live):J prog a90 [.bp (.e 0) 0,vI d] (pObs ts n) (·=pAns ts Exq.V (b50 ts F d n)):=by
 obtain _ | F:=F
 ·rw [b50] at hlive; exact absurd rfl hlive
 generalize hw:b50 ts (F + 1) d n=R at *
 rw [b50] at hw
 have hJ:=cw0 hn d
 refine at0 jC0 (by simp [pObs]) ?_
 refine rS4 @fl0.eq_1 @pObs.eq_1 @hpE.eq_1 @hpE.eq_2 ?_
 by_cases h:d<=24
 ·rw [oq0 h] at hJ hw
  simp only [LxR.bind] at hJ hw
  subst hw
  have hJ2:=IHb F (by omega) 0 d n (by omega) h hn hlive
  refine aa0 [.e 0] ?_
  simp
  have hO:=hJ
  try simp [pObs,ap0,av0] at hO
  refine ab0 7 hO ?_
  refine rS0 ?_
  rcases hx:pBin ts F 0 d n with ⟨x,m⟩ | ⟨a,e⟩
  ·rw [hx] at hJ2
   simp only [pAns] at hJ2
   refine aa0 [.e 0] ?_
   simp
   have hO:=hJ2
   try simp [pObs,ap0,av0] at hO
   refine ab0 10 hO ?_
   refine rS0 ?_
   refine ax0 [] ?_
   exact rT3 @pObs.eq_1 @pAns.eq_1 @pAns.eq_2
  ·rw [hx] at hJ2
   simp only [pAns] at hJ2
   refine aa0 [.e 0] ?_
   simp
   have hO:=hJ2
   try simp [pObs,ap0,av0] at hO
   refine af0 hO ?_
   refine rS0 ?_
   refine endP ?_
   exact rT3 @pObs.eq_1 @pAns.eq_1 @pAns.eq_2
 ·rw [md0 h] at hJ hw
  simp only [LxR.bind] at hJ hw
  subst hw
  refine aa0 [.e 0] ?_
  simp
  have hO:=hJ
  try simp [pObs,ap0,av0] at hO
  refine af0 hO ?_
  refine rS0 ?_
  refine endP ?_
  exact rT3 @pObs.eq_1 @pAns.eq_1 @pAns.eq_2
theorem doesX (hE:TEnd ts) (hl:ts.length < 2 ^ 40) (f:Nat):DoesX ts f:=by
 induction f using Nat.strongRecOn with
 | ind f ih =>
  refine ⟨fun d n hd hn h=>expr_step hd hn (fun g hg l d n=>(ih g hg).bin l d n) h,
   fun l d n hl5 hd hn h=>lu0 hE hl f l d hl5 hd (fun g hg l n h1 h2=>(ih g hg).bin l d n h1 hd h2) (fun g hg n h2=>(ih g hg).un d n hd h2) hn h,
   fun d n hd hn h=>l50 hE hl f d hd (fun g hg=>(ih g hg).ex) (fun g hg=>(ih g hg).un) hn h⟩
variable {ts:List Tok} {n:Nat}
structure GoesS (ts:List Tok) (f:Nat):Prop where
 block:∀ {d n:Nat} {a:List Stm} {m:Nat},n < ts.length->cf0 ts f d n=.ok (a,m)->n < m/\m < ts.length
 stms:∀ {d:Nat} {out:List Stm} {n:Nat} {a:List Stm} {m:Nat},n < ts.length->lt0 ts f d out n=.ok (a,m)->n < m/\m < ts.length
 stm:∀ {d n:Nat} {a:Stm} {m:Nat},n < ts.length->pStm ts f d n=.ok (a,m)->n < m/\m < ts.length
theorem mL0 (hE:TEnd ts):∀ f,GoesS ts f
 | 0=>⟨fun _ h=>by simp [cf0] at h,fun _ h=>by simp [lt0] at h,fun _ h=>by simp [pStm] at h⟩
 | f + 1=>by
  have ih:=mL0 hE f
  have ix:=ki0 hE f
  refine ⟨fun hn h=>?_,fun hn h=>?_,fun hn h=>?_⟩
  ·rw [cf0] at h
   obtain ⟨_,_,h⟩:=ag0 h
   obtain ⟨n1,e1,h⟩:=ag0 h
   have q1:=ak0 hE hn e1
   have q2:=ih.stms q1.2 h
   omega
  ·rw [lt0] at h
   split at h
   ·rename_i hi
    have h0:=aw0 hE hn hi (by decide)
    injection h with h; injection h with h1 h2; subst h2; omega
   ·obtain ⟨⟨s,n1⟩,e1,h⟩:=ag0 h
    have q1:=ih.stm hn e1
    have q2:=ih.stms q1.2 h
    dsimp only at *; omega
  ·rw [pStm] at h
   split at h
   ·rename_i hi
    have h0:=aw0 hE hn hi (by decide)
    obtain ⟨⟨t,n1⟩,e1,h⟩:=ag0 h
    obtain ⟨n2,e2,h⟩:=ag0 h
    obtain ⟨⟨x,n3⟩,e3,h⟩:=ag0 h
    obtain ⟨n4,e4,h⟩:=ag0 h
    have q1:=a00 hE h0 e1
    have q2:=ak0 hE q1.2 e2
    have q3:=ix.ex q2.2 e3
    have q4:=ak0 hE q3.2 e4
    injection h with h; injection h with h1 h2; subst h2
    dsimp only at *; omega
   split at h
   ·rename_i hi
    have h0:=aw0 hE hn hi (by decide)
    obtain ⟨⟨t,n1⟩,e1,h⟩:=ag0 h
    have q1:=a00 hE h0 e1
    split at h
    ·rename_i hi2
     have h00:=aw0 hE q1.2 hi2 (by decide)
     obtain ⟨⟨x,n3⟩,e3,h⟩:=ag0 h
     obtain ⟨n4,e4,h⟩:=ag0 h
     obtain ⟨n5,e5,h⟩:=ag0 h
     obtain ⟨⟨y,n6⟩,e6,h⟩:=ag0 h
     obtain ⟨n7,e7,h⟩:=ag0 h
     have q3:=ix.ex h00 e3
     have q4:=ak0 hE q3.2 e4
     have q5:=ak0 hE q4.2 e5
     have q6:=ix.ex q5.2 e6
     have q7:=ak0 hE q6.2 e7
     injection h with h; injection h with h1 h2; subst h2
     dsimp only at *; omega
    ·obtain ⟨n2,e2,h⟩:=ag0 h
     obtain ⟨⟨x,n3⟩,e3,h⟩:=ag0 h
     obtain ⟨n4,e4,h⟩:=ag0 h
     have q2:=ak0 hE q1.2 e2
     have q3:=ix.ex q2.2 e3
     have q4:=ak0 hE q3.2 e4
     injection h with h; injection h with h1 h2; subst h2
     dsimp only at *; omega
   split at h
   ·rename_i hi
    have h0:=aw0 hE hn hi (by decide)
    obtain ⟨⟨t,n1⟩,e1,h⟩:=ag0 h
    obtain ⟨n2,e2,h⟩:=ag0 h
    obtain ⟨⟨x,n3⟩,e3,h⟩:=ag0 h
    obtain ⟨n4,e4,h⟩:=ag0 h
    obtain ⟨n5,e5,h⟩:=ag0 h
    have q1:=a00 hE h0 e1
    have q2:=ak0 hE q1.2 e2
    have q3:=ix.ex q2.2 e3
    have q4:=ak0 hE q3.2 e4
    have q5:=ak0 hE q4.2 e5
    injection h with h; injection h with h1 h2; subst h2
    dsimp only at *; omega
   split at h
   ·rename_i hi
    have h0:=aw0 hE hn hi (by decide)
    obtain ⟨⟨x,n1⟩,e1,h⟩:=ag0 h
    obtain ⟨⟨b,n2⟩,e2,h⟩:=ag0 h
    have q1:=ix.ex h0 e1
    have q2:=ih.block q1.2 e2
    split at h
    ·rename_i hi2
     have h00:=aw0 hE q2.2 hi2 (by decide)
     obtain ⟨⟨c,n3⟩,e3,h⟩:=ag0 h
     have q3:=ih.block h00 e3
     injection h with h; injection h with h1 h2; subst h2
     dsimp only at *; omega
    ·injection h with h; injection h with h1 h2; subst h2
     dsimp only at *; omega
   split at h
   ·rename_i hi
    have h0:=aw0 hE hn hi (by decide)
    obtain ⟨⟨t,n1⟩,e1,h⟩:=ag0 h
    obtain ⟨n2,e2,h⟩:=ag0 h
    obtain ⟨⟨x,n3⟩,e3,h⟩:=ag0 h
    obtain ⟨⟨b,n4⟩,e4,h⟩:=ag0 h
    have q1:=a00 hE h0 e1
    have q2:=kW0 hE q1.2 e2
    have q3:=ix.ex q2.2 e3
    have q4:=ih.block q3.2 e4
    injection h with h; injection h with h1 h2; subst h2
    dsimp only at *; omega
   split at h
   ·rename_i hi
    have h0:=aw0 hE hn hi (by decide)
    obtain ⟨⟨x,n3⟩,e3,h⟩:=ag0 h
    obtain ⟨n4,e4,h⟩:=ag0 h
    have q3:=ix.ex h0 e3
    have q4:=ak0 hE q3.2 e4
    injection h with h; injection h with h1 h2; subst h2
    dsimp only at *; omega
   ·cases h
def aL0 (kind:Int) (name:ByteArray) (e body els:V) (at_:Int):Ob:=.box [vI kind,vS name,vI 0,vB false,vI 0,e,body,els,vI at_]
def be0 (ts:List Tok) (n:Int) (kind:Int) (name:ByteArray) (at_:Int):List Ob :=
 [.box [.bp (.e 2) 0],aL0 kind name .nil .nil .nil at_,.box [.lst (ts.map Tok.cells),vI n]]
theorem fK0 (hl:ts.length < 2 ^ 40) (hn:n < ts.length) (k:Int) (at_:Int) :
  J prog dj0 [vI k,.bp (.e 0) 0,.bp (.e 1) 0] (be0 ts n 0 (bS []) at_) (fun r=>r=match dA0 ts n with
   | .ok (t,m)=>.ret (.tup []) (be0 ts m k t.text at_)
   | .bad a e=>.pan (iQ0 ts a e) (be0 ts a 0 (bS []) at_)):=by
 have hJ:=en0 hn hl
 refine at0 go0 (by simp [be0]) ?_
 refine rS5 @c10.eq_1 @be0.eq_1 @aL0.eq_1 @hpE.eq_1 @hpE.eq_2 ?_
 rcases hx:dA0 ts n with ⟨t,m⟩ | ⟨a,e⟩
 ·rw [hx] at hJ
  simp only [pAns] at hJ
  refine aa0 [.e 2] ?_
  simp
  have hO:=hJ
  try simp [pObs,be0,aL0] at hO
  refine ab0 6 hO ?_
  refine rS0 ?_
  refine b10 [] ?_
  exact rT2 @be0.eq_1 @aL0.eq_1
 ·rw [hx] at hJ
  simp only [pAns] at hJ
  refine aa0 [.e 2] ?_
  simp
  have hO:=hJ
  try simp [pObs,be0,aL0] at hO
  refine af0 hO ?_
  refine rS0 ?_
  refine endP ?_
  exact rT2 @be0.eq_1 @aL0.eq_1
def optV:Option (List (List V))->V
 | none=>.nil
 | some l=>.lst l
def pVal (ts:List Tok) (f d:Nat) (mark:Bs) (n:Nat):PR Exq:=(b50 ts f (d + 1) n).bind fun p=>if mark=[] then .ok p else (bh0 ts p.2 mark).bind fun m=>.ok (p.1,m)
def aK0 (ts:List Tok) (n:Int) (kind:Int) (name:ByteArray) (e:V) (at_:Int) (d:Nat):List Ob :=
 [aL0 kind name e .nil .nil at_,.box [.bp (.e 3) 0],.box [vI d],.box [.lst (ts.map Tok.cells),vI n]]
theorem cE0 (hE:TEnd ts) (hl:ts.length < 2 ^ 40) (hn:n < ts.length) (f d:Nat) (hd:d<=24) (mark:Bs) (kind:Int) (name:ByteArray) (at_:Int) (hlive:(pVal ts f d mark n).live) :
  J prog b30 [vS (bS mark),.bp (.e 0) 0,.bp (.e 1) 0,.bp (.e 2) 0] (aK0 ts n kind name .nil at_ d) (fun r=>match pVal ts f d mark n with
   | .ok (x,m)=>r=.ret (.tup []) (aK0 ts m kind name (.arr (.e 4) 0 1) at_ d++[.row dQ0 8 true [x.cells]])
   | .bad a e=>∃ y,r=.pan (iQ0 ts a e) (aK0 ts a kind name (optV y) at_ d)):=by
 generalize hw:pVal ts f d mark n=R at *
 unfold pVal at hw
 have hlv:=hlive
 rw [<- hw] at hlv
 have hJ:=(doesX hE hl f).ex (d + 1) n (by omega) hn (LxR.aJ0 hlv).1
 refine at0 c50 (by simp [aK0]) ?_
 refine rS5 @bT0.eq_1 @aK0.eq_1 @aL0.eq_1 @hpE.eq_1 @hpE.eq_2 ?_
 rcases hx:b50 ts f (d + 1) n with ⟨x,m⟩ | ⟨a,e⟩
 ·rw [hx] at hJ hw
  simp only [pAns,LxR.bind] at hJ hw
  have q1:=(ki0 hE f).ex hn hx
  refine bk0 [.e 3] ?_
  simp
  have hO:=hJ
  try simp [pObs,be0,aL0,aK0] at hO
  refine cH0 10 hO ?_
  refine rS0 ?_
  rw [aO0 (e:=[vI 0,vI 0,vI 0,vS (bS []),vI 0,vS (bS []),.lst [],vI 0]) rfl]
  refine rS1 @kq0 ?_
  by_cases hm:mark=[]
  ·subst hm
   rw [if_pos rfl] at hw
   subst hw
   refine rS0 ?_
   refine b10 [.l 13 0] ?_
   exact rT2 @aK0.eq_1 @aL0.eq_1
  ·rw [if_neg hm] at hw
   have hm':¬ bS mark=bS []:=fun h=>hm (congrArg sB h)
   have hm2:¬ bS mark=⟨⟨[]⟩⟩:=hm'
   refine rS1 hm ?_
   have hJ2:=aq0 q1.2 hl mark
   rcases hx2:bh0 ts m mark with m2 | ⟨a,e⟩
   ·rw [hx2] at hJ2 hw
    simp only [ar0,LxR.bind] at hJ2 hw
    subst hw
    refine aa0 [.e 3] ?_
    simp
    have hO:=hJ2
    try simp [pObs,be0,aL0,aK0] at hO
    refine ab0 20 hO ?_
    refine rS0 ?_
    refine b10 [.l 13 0] ?_
    exact rT2 @aK0.eq_1 @aL0.eq_1
   ·rw [hx2] at hJ2 hw
    simp only [ar0,LxR.bind] at hJ2 hw
    subst hw
    refine aa0 [.e 3] ?_
    simp
    have hO:=hJ2
    try simp [pObs,be0,aL0,aK0] at hO
    refine af0 hO ?_
    refine rS0 ?_
    refine endP ?_
    refine rS2 @aK0.eq_1 @aL0.eq_1 ?_
    exact ⟨some [x.cells],rfl⟩
 ·rw [hx] at hJ hw
  simp only [pAns,LxR.bind] at hJ hw
  subst hw
  refine bk0 [.e 3] ?_
  simp
  have hO:=hJ
  try simp [pObs,be0,aL0,aK0] at hO
  refine cN0 hO ?_
  refine rS0 ?_
  refine endP ?_
  refine rS2 @aK0.eq_1 @aL0.eq_1 ?_
  exact ⟨none,rfl⟩
variable {ts:List Tok} {n:Nat}
theorem bind_assoc {α β γ:Type} (r:LxR α) (f:α->LxR β) (g:β->LxR γ):(r.bind f).bind g=r.bind fun a=>(f a).bind g:=by cases r <;> rfl
theorem bind_okk {α β:Type} (a:α) (f:α->LxR β):(LxR.ok a).bind f=f a:=rfl
theorem bind_ok_r {α:Type} (r:LxR α):r.bind .ok=r:=by cases r <;> rfl
theorem iR0 (hE:TEnd ts) (hn:n < ts.length) {f d:Nat} {mark:Bs} {x:Exq} {m:Nat} (h:pVal ts f d mark n=.ok (x,m)):n < m/\m < ts.length:=by
 unfold pVal at h
 obtain ⟨⟨y,n1⟩,e1,h⟩:=ag0 h
 have q1:=(ki0 hE f).ex hn e1
 split at h
 ·injection h with h; injection h with h1 h2; subst h2; exact q1
 ·obtain ⟨n2,e2,h⟩:=ag0 h
  have q2:=ak0 hE q1.2 e2
  injection h with h; injection h with h1 h2; subst h2
  dsimp only at *; omega
def pStmV (ts:List Tok) (f d n:Nat):PR Stm :=
  if isT ts n 1 e30 then (dA0 ts (n + 1)).bind fun t=>(bh0 ts t.2 [61]).bind fun n1=>(pVal ts f d [59] n1).bind fun p=>.ok (stm0 1 t.1.text [p.1] [] [] (tk ts n).at_,p.2)
  else if isT ts n 1 dE0 then (dA0 ts (n + 1)).bind fun t =>
   if isT ts t.2 4 [91] then (pVal ts f d [93] (t.2 + 1)).bind fun p=>(bh0 ts p.2 [61]).bind fun n2=>(pVal ts f d [59] n2).bind fun q=>.ok (stm0 2 t.1.text [p.1,q.1] [] [] (tk ts n).at_,q.2)
   else (bh0 ts t.2 [61]).bind fun n1=>(pVal ts f d [59] n1).bind fun p=>.ok (stm0 2 t.1.text [p.1] [] [] (tk ts n).at_,p.2)
  else if isT ts n 1 e00 then (dA0 ts (n + 1)).bind fun t=>(bh0 ts t.2 [91]).bind fun n1=>(pVal ts f d [93] n1).bind fun p=>(bh0 ts p.2 [59]).bind fun n3=>.ok (stm0 3 t.1.text [p.1] [] [] (tk ts n).at_,n3)
  else if isT ts n 1 kwIf then (pVal ts f d [] (n + 1)).bind fun p=>(cf0 ts f (d + 1) p.2).bind fun b =>
   if isT ts b.2 1 co0 then (cf0 ts f (d + 1) (b.2 + 1)).bind fun c=>.ok (stm0 4 (bS []) [p.1] b.1 c.1 (tk ts n).at_,c.2) else .ok (stm0 4 (bS []) [p.1] b.1 [] (tk ts n).at_,b.2)
  else if isT ts n 1 e20 then (dA0 ts (n + 1)).bind fun t=>(m00 ts t.2 kwTo).bind fun n1=>(pVal ts f d [] n1).bind fun p=>(cf0 ts f (d + 1) p.2).bind fun b=>.ok (stm0 5 t.1.text [p.1] b.1 [] (tk ts n).at_,b.2)
  else if isT ts n 1 e40 then (pVal ts f d [59] (n + 1)).bind fun p=>.ok (stm0 6 (bS []) [p.1] [] [] (tk ts n).at_,p.2)
  else e70 ts n 31
theorem pVal_nil (f d:Nat):pVal ts f d [] n=b50 ts f (d + 1) n:=by
 unfold pVal
 simp only [if_true]
 exact bind_ok_r _
theorem pVal_mark (f d:Nat) (c:UInt8):pVal ts f d [c] n=(b50 ts f (d + 1) n).bind fun p=>(bh0 ts p.2 [c]).bind fun m=>.ok (p.1,m):=by
 unfold pVal
 simp only [List.cons_ne_nil,if_false]
theorem pStm_eq (f d:Nat):pStm ts (f + 1) d n=pStmV ts f d n:=by
 rw [pStm,pStmV]
 simp only [pVal_nil,pVal_mark,bind_assoc,bind_okk]
def aE0 (ts:List Tok) (n:Int) (kind:Int) (name:ByteArray) (at_:Int) (d:Nat) (y:Exq):List Ob :=
 aK0 ts n kind name (.arr (.e 4) 0 1) at_ d++[.row dQ0 8 true [y.cells]]
def fk0 (ts:List Tok) (n:Int) (kind:Int) (name:ByteArray) (at_:Int) (d:Nat) (y:Exq):Option (List (List V))->List Ob
 | none=>aE0 ts n kind name at_ d y
 | some l=>aK0 ts n kind name (.lst l) at_ d++[.gone]
theorem o40 (hE:TEnd ts) (hl:ts.length < 2 ^ 40) (hn:n < ts.length) (f d:Nat) (hd:d<=24) (mark:Bs) (kind:Int) (name:ByteArray) (at_:Int) (y:Exq) (hlive:(pVal ts f d mark n).live) :
  J prog b30 [vS (bS mark),.bp (.e 0) 0,.bp (.e 1) 0,.bp (.e 2) 0] (aE0 ts n kind name at_ d y) (fun r=>match pVal ts f d mark n with
   | .ok (x,m)=>r=.ret (.tup []) (aK0 ts m kind name (.arr (.e 5) 0 2) at_ d++[.gone,.row dQ0 8 true [y.cells,x.cells]])
   | .bad a e=>∃ z,r=.pan (iQ0 ts a e) (fk0 ts a kind name at_ d y z)):=by
 generalize hw:pVal ts f d mark n=R at *
 unfold pVal at hw
 have hlv:=hlive
 rw [<- hw] at hlv
 have hJ:=(doesX hE hl f).ex (d + 1) n (by omega) hn (LxR.aJ0 hlv).1
 refine at0 c50 (by simp [aK0,aE0]) ?_
 refine rS6 @bT0.eq_1 @aK0.eq_1 @aE0.eq_1 @aL0.eq_1 @hpE.eq_1 @hpE.eq_2 ?_
 rcases hx:b50 ts f (d + 1) n with ⟨x,m⟩ | ⟨a,e⟩
 ·rw [hx] at hJ hw
  simp only [pAns,LxR.bind] at hJ hw
  have q1:=(ki0 hE f).ex hn hx
  refine bk0 [.e 3] ?_
  simp
  have hO:=hJ
  try simp [pObs,be0,aL0,aK0,aE0] at hO
  refine cH0 10 hO ?_
  refine rS0 ?_
  rw [aO0 (e:=[vI 0,vI 0,vI 0,vS (bS []),vI 0,vS (bS []),.lst [],vI 0]) rfl]
  refine rS1 @kq0 ?_
  by_cases hm:mark=[]
  ·subst hm
   rw [if_pos rfl] at hw
   subst hw
   refine rS0 ?_
   refine b10 [.l 13 0] ?_
   exact rT3 @aK0.eq_1 @aE0.eq_1 @aL0.eq_1
  ·rw [if_neg hm] at hw
   refine rS1 hm ?_
   have hJ2:=aq0 q1.2 hl mark
   rcases hx2:bh0 ts m mark with m2 | ⟨a,e⟩
   ·rw [hx2] at hJ2 hw
    simp only [ar0,LxR.bind] at hJ2 hw
    subst hw
    refine aa0 [.e 3] ?_
    simp
    have hO:=hJ2
    try simp [pObs,be0,aL0,aK0,aE0] at hO
    refine ab0 20 hO ?_
    refine rS0 ?_
    refine b10 [.l 13 0] ?_
    exact rT3 @aK0.eq_1 @aE0.eq_1 @aL0.eq_1
   ·rw [hx2] at hJ2 hw
    simp only [ar0,LxR.bind] at hJ2 hw
    subst hw
    refine aa0 [.e 3] ?_
    simp
    have hO:=hJ2
    try simp [pObs,be0,aL0,aK0,aE0] at hO
    refine af0 hO ?_
    refine rS0 ?_
    refine endP ?_
    refine rS3 @aK0.eq_1 @aE0.eq_1 @aL0.eq_1 ?_
    exact ⟨some [y.cells,x.cells],rfl⟩
 ·rw [hx] at hJ hw
  simp only [pAns,LxR.bind] at hJ hw
  subst hw
  refine bk0 [.e 3] ?_
  simp
  have hO:=hJ
  try simp [pObs,be0,aL0,aK0,aE0] at hO
  refine cN0 hO ?_
  refine rS0 ?_
  refine endP ?_
  refine rS3 @aK0.eq_1 @aE0.eq_1 @aL0.eq_1 ?_
  exact ⟨none,rfl⟩
variable {ts:List Tok} {n:Nat}
abbrev stmsV (l:List Stm):V:=.lst (l.map Stm.cells)
set_option maxHeartbeats 3200000 in
theorem jQ0 (hE:TEnd ts) (hl:ts.length < 2 ^ 40) (F d:Nat) (hd:d<=24)
  (IHk:∀ g,g < F->∀ d n,d<=25->n < ts.length->(cf0 ts g d n).live->J prog cr0 [.bp (.e 0) 0,vI d] (pObs ts n) (·=pAns ts stmsV (cf0 ts g d n)))
  (hn:n < ts.length) (hlive:(pStm ts F d n).live):J prog bu0 [.bp (.e 0) 0,vI d] (pObs ts n) (·=pAns ts Stm.V (pStm ts F d n)):=by
 obtain _ | F:=F
 ·rw [pStm] at hlive; exact absurd rfl hlive
 generalize hw:pStm ts (F + 1) d n=R at *
 rw [pStm_eq,pStmV] at hw
 refine at0 g00 (by simp [pObs]) ?_
 refine rS4 @dt0.eq_1 @pObs.eq_1 @hpE.eq_1 @hpE.eq_2 ?_
 refine aa0 [.e 0] ?_
 simp
 have hO:=a50 hn
 try simp [pObs,be0,aL0,aK0,aE0] at hO
 refine ab0 9 hO ?_
 refine rS0 ?_
 refine aa0 [.e 0] ?_
 simp
 have hO:=ai0 hn hl 1 e30
 try simp [pObs,be0,aL0,aK0,aE0] at hO
 refine ab0 18 hO ?_
 cases hkwLet:isT ts n 1 e30 with
 | true =>
  have h0:=aw0 hE hn hkwLet (by decide)
  rw [hkwLet] at hw
  simp only [if_true] at hw
  refine rS0 ?_
  have hJ:=fK0 hl h0 1 (tk ts n).at_
  rcases hx1:dA0 ts (n + 1) with ⟨t1,n1⟩ | ⟨a,e⟩
  rotate_left
  ·rw [hx1] at hJ hw
   simp only [pAns,ar0,LxR.bind] at hJ hw
   subst hw
   refine aa0 [.l 2 0,.l 5 0,.e 0] ?_
   simp
   have hO:=hJ
   try simp [pObs,be0,aL0,aK0,aE0] at hO
   refine af0 hO ?_
   refine rS0 ?_
   refine endP ?_
   exact rT3 @pObs.eq_1 @pAns.eq_1 @pAns.eq_2
  have q1:=a00 hE h0 hx1
  rw [hx1] at hJ hw
  simp only [pAns,ar0,LxR.bind] at hJ hw
  refine aa0 [.l 2 0,.l 5 0,.e 0] ?_
  simp
  have hO:=hJ
  try simp [pObs,be0,aL0,aK0,aE0] at hO
  refine ab0 20 hO ?_
  refine rS0 ?_
  have hJ:=aq0 q1.2 hl [61]
  rcases hx2:bh0 ts n1 [61] with n2 | ⟨a,e⟩
  rotate_left
  ·rw [hx2] at hJ hw
   simp only [pAns,ar0,LxR.bind] at hJ hw
   subst hw
   refine aa0 [.e 0] ?_
   simp
   have hO:=hJ
   try simp [pObs,be0,aL0,aK0,aE0] at hO
   refine af0 hO ?_
   refine rS0 ?_
   refine endP ?_
   exact rT3 @pObs.eq_1 @pAns.eq_1 @pAns.eq_2
  have q2:=ak0 hE q1.2 hx2
  rw [hx2] at hJ hw
  simp only [pAns,ar0,LxR.bind] at hJ hw
  refine aa0 [.e 0] ?_
  simp
  have hO:=hJ
  try simp [pObs,be0,aL0,aK0,aE0] at hO
  refine ab0 22 hO ?_
  refine rS0 ?_
  have hlv:=hlive
  rw [<- hw] at hlv
  have hJ:=cE0 hE hl q2.2 F d hd [59] 1 t1.text (tk ts n).at_ (LxR.aJ0 hlv).1
  rcases hx3:pVal ts F d [59] n2 with ⟨x3,n3⟩ | ⟨a,e⟩
  rotate_left
  ·rw [hx3] at hJ hw
   simp only [pAns,ar0,LxR.bind] at hJ hw
   subst hw
   refine c00 [.l 5 0,.l 2 0,.l 3 0,.e 0] rfl rfl (by simp) ?_
   simp
   have hpO:=hJ
   try simp [pObs,aK0,aE0,fk0,aL0] at hpO
   refine cO0 hpO ?_
   clear hpO hJ
   intro y
   rcases y with _ | y
   all_goals
    refine rS6 @optV.eq_1 @optV.eq_2 @fk0.eq_1 @fk0.eq_2 @aK0.eq_1 @aL0.eq_1 ?_
    refine endP ?_
    exact rT3 @pObs.eq_1 @pAns.eq_1 @pAns.eq_2
  have q3:=iR0 hE q2.2 hx3
  rw [hx3] at hJ hw
  simp only [pAns,ar0,LxR.bind] at hJ hw
  refine aa0 [.l 5 0,.l 2 0,.l 3 0,.e 0] ?_
  simp
  have hO:=hJ
  try simp [pObs,be0,aL0,aK0,aE0] at hO
  refine ab0 24 hO ?_
  refine rS0 ?_
  subst hw
  refine ax0 [] ?_
  rw [pAns,stm0,Stm.V,Stm.ac0 (.mk _ _ _ _ _ _ _ _ _)]
  simp +contextual (maxSteps:=2000000) (disch:=omega) [-Int.not_lt,-Int.not_le,-Nat.not_lt,-Nat.not_le,sx,pObs,Stm.kind,Stm.name,Stm.slot,Stm.state,Stm.num,Stm.e,Stm.body,Stm.els,Stm.at_]
 | false =>
 rw [hkwLet] at hw
 simp only [Bool.false_eq_true,if_false] at hw
 refine rS0 ?_
 refine aa0 [.e 0] ?_
 simp
 have hO:=ai0 hn hl 1 dE0
 try simp [pObs,be0,aL0,aK0,aE0] at hO
 refine ab0 27 hO ?_
 cases hkwSet:isT ts n 1 dE0 with
 | true =>
  have h0:=aw0 hE hn hkwSet (by decide)
  rw [hkwSet] at hw
  simp only [if_true] at hw
  refine rS0 ?_
  have hJ:=fK0 hl h0 2 (tk ts n).at_
  rcases hx1:dA0 ts (n + 1) with ⟨t1,n1⟩ | ⟨a,e⟩
  rotate_left
  ·rw [hx1] at hJ hw
   simp only [pAns,ar0,LxR.bind] at hJ hw
   subst hw
   refine aa0 [.l 2 0,.l 5 0,.e 0] ?_
   simp
   have hO:=hJ
   try simp [pObs,be0,aL0,aK0,aE0] at hO
   refine af0 hO ?_
   refine rS0 ?_
   refine endP ?_
   exact rT3 @pObs.eq_1 @pAns.eq_1 @pAns.eq_2
  have q1:=a00 hE h0 hx1
  rw [hx1] at hJ hw
  simp only [pAns,ar0,LxR.bind] at hJ hw
  refine aa0 [.l 2 0,.l 5 0,.e 0] ?_
  simp
  have hO:=hJ
  try simp [pObs,be0,aL0,aK0,aE0] at hO
  refine ab0 29 hO ?_
  refine rS0 ?_
  refine aa0 [.e 0] ?_
  simp
  have hO:=ai0 q1.2 hl 4 [91]
  try simp [pObs,be0,aL0,aK0,aE0] at hO
  refine ab0 31 hO ?_
  cases hb:isT ts n1 4 [91] with
  | true =>
   have h00:=aw0 hE q1.2 hb (by decide)
   rw [hb] at hw
   simp only [if_true] at hw
   refine rS0 ?_
   have hlv:=hlive
   rw [<- hw] at hlv
   have hJ:=cE0 hE hl h00 F d hd [93] 2 t1.text (tk ts n).at_ (LxR.aJ0 hlv).1
   rcases hx2:pVal ts F d [93] (n1 + 1) with ⟨x2,n2⟩ | ⟨a,e⟩
   rotate_left
   ·rw [hx2] at hJ hw
    simp only [pAns,ar0,LxR.bind] at hJ hw
    subst hw
    refine c00 [.l 5 0,.l 2 0,.l 3 0,.e 0] rfl rfl (by simp) ?_
    simp
    have hpO:=hJ
    try simp [pObs,aK0,aE0,fk0,aL0] at hpO
    refine cO0 hpO ?_
    clear hpO hJ
    intro y
    rcases y with _ | y
    all_goals
     refine rS6 @optV.eq_1 @optV.eq_2 @fk0.eq_1 @fk0.eq_2 @aK0.eq_1 @aL0.eq_1 ?_
     refine endP ?_
     exact rT3 @pObs.eq_1 @pAns.eq_1 @pAns.eq_2
   have q2:=iR0 hE h00 hx2
   rw [hx2] at hJ hw
   simp only [pAns,ar0,LxR.bind] at hJ hw
   refine aa0 [.l 5 0,.l 2 0,.l 3 0,.e 0] ?_
   simp
   have hO:=hJ
   try simp [pObs,be0,aL0,aK0,aE0] at hO
   refine ab0 33 hO ?_
   refine rS0 ?_
   have hJ:=aq0 q2.2 hl [61]
   rcases hx3:bh0 ts n2 [61] with n3 | ⟨a,e⟩
   rotate_left
   ·rw [hx3] at hJ hw
    simp only [pAns,ar0,LxR.bind] at hJ hw
    subst hw
    refine aa0 [.e 0] ?_
    simp
    have hO:=hJ
    try simp [pObs,be0,aL0,aK0,aE0] at hO
    refine af0 hO ?_
    refine rS0 ?_
    refine endP ?_
    exact rT3 @pObs.eq_1 @pAns.eq_1 @pAns.eq_2
   have q3:=ak0 hE q2.2 hx3
   rw [hx3] at hJ hw
   simp only [pAns,ar0,LxR.bind] at hJ hw
   refine aa0 [.e 0] ?_
   simp
   have hO:=hJ
   try simp [pObs,be0,aL0,aK0,aE0] at hO
   refine ab0 35 hO ?_
   refine rS0 ?_
   have hlv:=hlive
   rw [<- hw] at hlv
   have hJ:=o40 hE hl q3.2 F d hd [59] 2 t1.text (tk ts n).at_ x2 (LxR.aJ0 hlv).1
   rcases hx4:pVal ts F d [59] n3 with ⟨x4,n4⟩ | ⟨a,e⟩
   rotate_left
   ·rw [hx4] at hJ hw
    simp only [pAns,ar0,LxR.bind] at hJ hw
    subst hw
    refine c00 [.l 5 0,.l 2 0,.l 3 0,.e 0,.l 33 0] rfl rfl (by simp) ?_
    simp
    have hpO:=hJ
    try simp [pObs,aK0,aE0,fk0,aL0] at hpO
    refine cO0 hpO ?_
    clear hpO hJ
    intro y
    rcases y with _ | y
    all_goals
     refine rS6 @optV.eq_1 @optV.eq_2 @fk0.eq_1 @fk0.eq_2 @aK0.eq_1 @aL0.eq_1 ?_
     refine endP ?_
     exact rT3 @pObs.eq_1 @pAns.eq_1 @pAns.eq_2
   have q4:=iR0 hE q3.2 hx4
   rw [hx4] at hJ hw
   simp only [pAns,ar0,LxR.bind] at hJ hw
   refine aa0 [.l 5 0,.l 2 0,.l 3 0,.e 0,.l 33 0] ?_
   simp
   have hO:=hJ
   try simp [pObs,be0,aL0,aK0,aE0] at hO
   refine ab0 37 hO ?_
   refine rS0 ?_
   subst hw
   refine ax0 [] ?_
   rw [pAns,stm0,Stm.V,Stm.ac0 (.mk _ _ _ _ _ _ _ _ _)]
   simp +contextual (maxSteps:=2000000) (disch:=omega) [-Int.not_lt,-Int.not_le,-Nat.not_lt,-Nat.not_le,sx,pObs,Stm.kind,Stm.name,Stm.slot,Stm.state,Stm.num,Stm.e,Stm.body,Stm.els,Stm.at_]
  | false =>
  rw [hb] at hw
  simp only [Bool.false_eq_true,if_false] at hw
  refine rS0 ?_
  have hJ:=aq0 q1.2 hl [61]
  rcases hx2:bh0 ts n1 [61] with n2 | ⟨a,e⟩
  rotate_left
  ·rw [hx2] at hJ hw
   simp only [pAns,ar0,LxR.bind] at hJ hw
   subst hw
   refine aa0 [.e 0] ?_
   simp
   have hO:=hJ
   try simp [pObs,be0,aL0,aK0,aE0] at hO
   refine af0 hO ?_
   refine rS0 ?_
   refine endP ?_
   exact rT3 @pObs.eq_1 @pAns.eq_1 @pAns.eq_2
  have q2:=ak0 hE q1.2 hx2
  rw [hx2] at hJ hw
  simp only [pAns,ar0,LxR.bind] at hJ hw
  refine aa0 [.e 0] ?_
  simp
  have hO:=hJ
  try simp [pObs,be0,aL0,aK0,aE0] at hO
  refine ab0 35 hO ?_
  refine rS0 ?_
  have hlv:=hlive
  rw [<- hw] at hlv
  have hJ:=cE0 hE hl q2.2 F d hd [59] 2 t1.text (tk ts n).at_ (LxR.aJ0 hlv).1
  rcases hx3:pVal ts F d [59] n2 with ⟨x3,n3⟩ | ⟨a,e⟩
  rotate_left
  ·rw [hx3] at hJ hw
   simp only [pAns,ar0,LxR.bind] at hJ hw
   subst hw
   refine c00 [.l 5 0,.l 2 0,.l 3 0,.e 0] rfl rfl (by simp) ?_
   simp
   have hpO:=hJ
   try simp [pObs,aK0,aE0,fk0,aL0] at hpO
   refine cO0 hpO ?_
   clear hpO hJ
   intro y
   rcases y with _ | y
   all_goals
    refine rS6 @optV.eq_1 @optV.eq_2 @fk0.eq_1 @fk0.eq_2 @aK0.eq_1 @aL0.eq_1 ?_
    refine endP ?_
    exact rT3 @pObs.eq_1 @pAns.eq_1 @pAns.eq_2
  have q3:=iR0 hE q2.2 hx3
  rw [hx3] at hJ hw
  simp only [pAns,ar0,LxR.bind] at hJ hw
  refine aa0 [.l 5 0,.l 2 0,.l 3 0,.e 0] ?_
  simp
  have hO:=hJ
  try simp [pObs,be0,aL0,aK0,aE0] at hO
  refine ab0 37 hO ?_
  refine rS0 ?_
  subst hw
  refine ax0 [] ?_
  rw [pAns,stm0,Stm.V,Stm.ac0 (.mk _ _ _ _ _ _ _ _ _)]
  simp +contextual (maxSteps:=2000000) (disch:=omega) [-Int.not_lt,-Int.not_le,-Nat.not_lt,-Nat.not_le,sx,pObs,Stm.kind,Stm.name,Stm.slot,Stm.state,Stm.num,Stm.e,Stm.body,Stm.els,Stm.at_]
 | false =>
 rw [hkwSet] at hw
 simp only [Bool.false_eq_true,if_false] at hw
 refine rS0 ?_
 refine aa0 [.e 0] ?_
 simp
 have hO:=ai0 hn hl 1 e00
 try simp [pObs,be0,aL0,aK0,aE0] at hO
 refine ab0 40 hO ?_
 cases hkwDel:isT ts n 1 e00 with
 | true =>
  have h0:=aw0 hE hn hkwDel (by decide)
  rw [hkwDel] at hw
  simp only [if_true] at hw
  refine rS0 ?_
  have hJ:=fK0 hl h0 3 (tk ts n).at_
  rcases hx1:dA0 ts (n + 1) with ⟨t1,n1⟩ | ⟨a,e⟩
  rotate_left
  ·rw [hx1] at hJ hw
   simp only [pAns,ar0,LxR.bind] at hJ hw
   subst hw
   refine aa0 [.l 2 0,.l 5 0,.e 0] ?_
   simp
   have hO:=hJ
   try simp [pObs,be0,aL0,aK0,aE0] at hO
   refine af0 hO ?_
   refine rS0 ?_
   refine endP ?_
   exact rT3 @pObs.eq_1 @pAns.eq_1 @pAns.eq_2
  have q1:=a00 hE h0 hx1
  rw [hx1] at hJ hw
  simp only [pAns,ar0,LxR.bind] at hJ hw
  refine aa0 [.l 2 0,.l 5 0,.e 0] ?_
  simp
  have hO:=hJ
  try simp [pObs,be0,aL0,aK0,aE0] at hO
  refine ab0 42 hO ?_
  refine rS0 ?_
  have hJ:=aq0 q1.2 hl [91]
  rcases hx2:bh0 ts n1 [91] with n2 | ⟨a,e⟩
  rotate_left
  ·rw [hx2] at hJ hw
   simp only [pAns,ar0,LxR.bind] at hJ hw
   subst hw
   refine aa0 [.e 0] ?_
   simp
   have hO:=hJ
   try simp [pObs,be0,aL0,aK0,aE0] at hO
   refine af0 hO ?_
   refine rS0 ?_
   refine endP ?_
   exact rT3 @pObs.eq_1 @pAns.eq_1 @pAns.eq_2
  have q2:=ak0 hE q1.2 hx2
  rw [hx2] at hJ hw
  simp only [pAns,ar0,LxR.bind] at hJ hw
  refine aa0 [.e 0] ?_
  simp
  have hO:=hJ
  try simp [pObs,be0,aL0,aK0,aE0] at hO
  refine ab0 44 hO ?_
  refine rS0 ?_
  have hlv:=hlive
  rw [<- hw] at hlv
  have hJ:=cE0 hE hl q2.2 F d hd [93] 3 t1.text (tk ts n).at_ (LxR.aJ0 hlv).1
  rcases hx3:pVal ts F d [93] n2 with ⟨x3,n3⟩ | ⟨a,e⟩
  rotate_left
  ·rw [hx3] at hJ hw
   simp only [pAns,ar0,LxR.bind] at hJ hw
   subst hw
   refine c00 [.l 5 0,.l 2 0,.l 3 0,.e 0] rfl rfl (by simp) ?_
   simp
   have hpO:=hJ
   try simp [pObs,aK0,aE0,fk0,aL0] at hpO
   refine cO0 hpO ?_
   clear hpO hJ
   intro y
   rcases y with _ | y
   all_goals
    refine rS6 @optV.eq_1 @optV.eq_2 @fk0.eq_1 @fk0.eq_2 @aK0.eq_1 @aL0.eq_1 ?_
    refine endP ?_
    exact rT3 @pObs.eq_1 @pAns.eq_1 @pAns.eq_2
  have q3:=iR0 hE q2.2 hx3
  rw [hx3] at hJ hw
  simp only [pAns,ar0,LxR.bind] at hJ hw
  refine aa0 [.l 5 0,.l 2 0,.l 3 0,.e 0] ?_
  simp
  have hO:=hJ
  try simp [pObs,be0,aL0,aK0,aE0] at hO
  refine ab0 46 hO ?_
  refine rS0 ?_
  have hJ:=aq0 q3.2 hl [59]
  rcases hx4:bh0 ts n3 [59] with n4 | ⟨a,e⟩
  rotate_left
  ·rw [hx4] at hJ hw
   simp only [pAns,ar0,LxR.bind] at hJ hw
   subst hw
   refine aa0 [.e 0] ?_
   simp
   have hO:=hJ
   try simp [pObs,be0,aL0,aK0,aE0] at hO
   refine af0 hO ?_
   refine rS0 ?_
   refine endP ?_
   exact rT3 @pObs.eq_1 @pAns.eq_1 @pAns.eq_2
  have q4:=ak0 hE q3.2 hx4
  rw [hx4] at hJ hw
  simp only [pAns,ar0,LxR.bind] at hJ hw
  refine aa0 [.e 0] ?_
  simp
  have hO:=hJ
  try simp [pObs,be0,aL0,aK0,aE0] at hO
  refine ab0 48 hO ?_
  refine rS0 ?_
  subst hw
  refine ax0 [] ?_
  rw [pAns,stm0,Stm.V,Stm.ac0 (.mk _ _ _ _ _ _ _ _ _)]
  simp +contextual (maxSteps:=2000000) (disch:=omega) [-Int.not_lt,-Int.not_le,-Nat.not_lt,-Nat.not_le,sx,pObs,Stm.kind,Stm.name,Stm.slot,Stm.state,Stm.num,Stm.e,Stm.body,Stm.els,Stm.at_]
 | false =>
 rw [hkwDel] at hw
 simp only [Bool.false_eq_true,if_false] at hw
 refine rS0 ?_
 refine aa0 [.e 0] ?_
 simp
 have hO:=ai0 hn hl 1 kwIf
 try simp [pObs,be0,aL0,aK0,aE0] at hO
 refine ab0 51 hO ?_
 cases hkwIf:isT ts n 1 kwIf with
 | true =>
  have h0:=aw0 hE hn hkwIf (by decide)
  rw [hkwIf] at hw
  simp only [if_true] at hw
  refine rS0 ?_
  have hlv:=hlive
  rw [<- hw] at hlv
  have hJ:=cE0 hE hl h0 F d hd [] 4 (bS []) (tk ts n).at_ (LxR.aJ0 hlv).1
  rcases hx1:pVal ts F d [] (n + 1) with ⟨x1,n1⟩ | ⟨a,e⟩
  rotate_left
  ·rw [hx1] at hJ hw
   simp only [pAns,ar0,LxR.bind] at hJ hw
   subst hw
   refine c00 [.l 5 0,.l 2 0,.l 3 0,.e 0] rfl rfl (by simp) ?_
   simp
   have hpO:=hJ
   try simp [pObs,aK0,aE0,fk0,aL0] at hpO
   refine cO0 hpO ?_
   clear hpO hJ
   intro y
   rcases y with _ | y
   all_goals
    refine rS6 @optV.eq_1 @optV.eq_2 @fk0.eq_1 @fk0.eq_2 @aK0.eq_1 @aL0.eq_1 ?_
    refine endP ?_
    exact rT3 @pObs.eq_1 @pAns.eq_1 @pAns.eq_2
  have q1:=iR0 hE h0 hx1
  rw [hx1] at hJ hw
  simp only [pAns,ar0,LxR.bind] at hJ hw
  refine aa0 [.l 5 0,.l 2 0,.l 3 0,.e 0] ?_
  simp
  have hO:=hJ
  try simp [pObs,be0,aL0,aK0,aE0] at hO
  refine ab0 54 hO ?_
  refine rS0 ?_
  have hlv:=hlive
  rw [<- hw] at hlv
  have hJ:=IHk F (by omega) (d + 1) n1 (by omega) q1.2 (LxR.aJ0 hlv).1
  rcases hx2:cf0 ts F (d + 1) n1 with ⟨b2,n2⟩ | ⟨a,e⟩
  rotate_left
  ·rw [hx2] at hJ hw
   simp only [pAns,ar0,LxR.bind] at hJ hw
   subst hw
   refine aa0 [.e 0] ?_
   simp
   have hO:=hJ
   try simp [pObs,be0,aL0,aK0,aE0] at hO
   refine af0 hO ?_
   refine rS0 ?_
   refine endP ?_
   exact rT3 @pObs.eq_1 @pAns.eq_1 @pAns.eq_2
  have q2:=(mL0 hE F).block q1.2 hx2
  rw [hx2] at hJ hw
  simp only [pAns,ar0,LxR.bind] at hJ hw
  refine aa0 [.e 0] ?_
  simp
  have hO:=hJ
  try simp [pObs,be0,aL0,aK0,aE0] at hO
  refine ab0 58 hO ?_
  refine rS0 ?_
  refine aa0 [.e 0] ?_
  simp
  have hO:=ai0 q2.2 hl 1 co0
  try simp [pObs,be0,aL0,aK0,aE0] at hO
  refine ab0 61 hO ?_
  cases hb:isT ts n2 1 co0 with
  | true =>
   have h00:=aw0 hE q2.2 hb (by decide)
   rw [hb] at hw
   simp only [if_true] at hw
   refine rS0 ?_
   have hlv:=hlive
   rw [<- hw] at hlv
   have hJ:=IHk F (by omega) (d + 1) (n2 + 1) (by omega) h00 (LxR.aJ0 hlv).1
   rcases hx3:cf0 ts F (d + 1) (n2 + 1) with ⟨b3,n3⟩ | ⟨a,e⟩
   rotate_left
   ·rw [hx3] at hJ hw
    simp only [pAns,ar0,LxR.bind] at hJ hw
    subst hw
    refine aa0 [.e 0] ?_
    simp
    have hO:=hJ
    try simp [pObs,be0,aL0,aK0,aE0] at hO
    refine af0 hO ?_
    refine rS0 ?_
    refine endP ?_
    exact rT3 @pObs.eq_1 @pAns.eq_1 @pAns.eq_2
   have q3:=(mL0 hE F).block h00 hx3
   rw [hx3] at hJ hw
   simp only [pAns,ar0,LxR.bind] at hJ hw
   refine aa0 [.e 0] ?_
   simp
   have hO:=hJ
   try simp [pObs,be0,aL0,aK0,aE0] at hO
   refine ab0 65 hO ?_
   refine rS0 ?_
   subst hw
   refine ax0 [] ?_
   rw [pAns,stm0,Stm.V,Stm.ac0 (.mk _ _ _ _ _ _ _ _ _)]
   simp +contextual (maxSteps:=2000000) (disch:=omega) [-Int.not_lt,-Int.not_le,-Nat.not_lt,-Nat.not_le,sx,pObs,Stm.kind,Stm.name,Stm.slot,Stm.state,Stm.num,Stm.e,Stm.body,Stm.els,Stm.at_]
  | false =>
  rw [hb] at hw
  simp only [Bool.false_eq_true,if_false] at hw
  refine rS0 ?_
  subst hw
  refine ax0 [] ?_
  rw [pAns,stm0,Stm.V,Stm.ac0 (.mk _ _ _ _ _ _ _ _ _)]
  simp +contextual (maxSteps:=2000000) (disch:=omega) [-Int.not_lt,-Int.not_le,-Nat.not_lt,-Nat.not_le,sx,pObs,Stm.kind,Stm.name,Stm.slot,Stm.state,Stm.num,Stm.e,Stm.body,Stm.els,Stm.at_]
 | false =>
 rw [hkwIf] at hw
 simp only [Bool.false_eq_true,if_false] at hw
 refine rS0 ?_
 refine aa0 [.e 0] ?_
 simp
 have hO:=ai0 hn hl 1 e20
 try simp [pObs,be0,aL0,aK0,aE0] at hO
 refine ab0 68 hO ?_
 cases hkwFor:isT ts n 1 e20 with
 | true =>
  have h0:=aw0 hE hn hkwFor (by decide)
  rw [hkwFor] at hw
  simp only [if_true] at hw
  refine rS0 ?_
  have hJ:=fK0 hl h0 5 (tk ts n).at_
  rcases hx1:dA0 ts (n + 1) with ⟨t1,n1⟩ | ⟨a,e⟩
  rotate_left
  ·rw [hx1] at hJ hw
   simp only [pAns,ar0,LxR.bind] at hJ hw
   subst hw
   refine aa0 [.l 2 0,.l 5 0,.e 0] ?_
   simp
   have hO:=hJ
   try simp [pObs,be0,aL0,aK0,aE0] at hO
   refine af0 hO ?_
   refine rS0 ?_
   refine endP ?_
   exact rT3 @pObs.eq_1 @pAns.eq_1 @pAns.eq_2
  have q1:=a00 hE h0 hx1
  rw [hx1] at hJ hw
  simp only [pAns,ar0,LxR.bind] at hJ hw
  refine aa0 [.l 2 0,.l 5 0,.e 0] ?_
  simp
  have hO:=hJ
  try simp [pObs,be0,aL0,aK0,aE0] at hO
  refine ab0 71 hO ?_
  refine rS0 ?_
  refine aa0 [.e 0] ?_
  simp
  have hO:=ai0 q1.2 hl 1 kwTo
  try simp [pObs,be0,aL0,aK0,aE0] at hO
  refine ab0 73 hO ?_
  cases hb:isT ts n1 1 kwTo with
  | false =>
   rw [m00,hb] at hw
   simp only [Bool.false_eq_true,if_false,e70,LxR.bind] at hw
   subst hw
   refine rS0 ?_
   refine aa0 [.e 0] ?_
   simp
   have hO:=aW0 q1.2 31
   try simp [pObs,be0,aL0,aK0,aE0] at hO
   refine af0 hO ?_
   refine rS0 ?_
   refine endP ?_
   exact rT3 @pObs.eq_1 @pAns.eq_1 @pAns.eq_2
  | true =>
  have h00:=aw0 hE q1.2 hb (by decide)
  rw [m00,hb] at hw
  simp only [if_true,LxR.bind] at hw
  refine rS0 ?_
  have hlv:=hlive
  rw [<- hw] at hlv
  have hJ:=cE0 hE hl h00 F d hd [] 5 t1.text (tk ts n).at_ (LxR.aJ0 hlv).1
  rcases hx2:pVal ts F d [] (n1 + 1) with ⟨x2,n2⟩ | ⟨a,e⟩
  rotate_left
  ·rw [hx2] at hJ hw
   simp only [pAns,ar0,LxR.bind] at hJ hw
   subst hw
   refine c00 [.l 5 0,.l 2 0,.l 3 0,.e 0] rfl rfl (by simp) ?_
   simp
   have hpO:=hJ
   try simp [pObs,aK0,aE0,fk0,aL0] at hpO
   refine cO0 hpO ?_
   clear hpO hJ
   intro y
   rcases y with _ | y
   all_goals
    refine rS6 @optV.eq_1 @optV.eq_2 @fk0.eq_1 @fk0.eq_2 @aK0.eq_1 @aL0.eq_1 ?_
    refine endP ?_
    exact rT3 @pObs.eq_1 @pAns.eq_1 @pAns.eq_2
  have q2:=iR0 hE h00 hx2
  rw [hx2] at hJ hw
  simp only [pAns,ar0,LxR.bind] at hJ hw
  refine aa0 [.l 5 0,.l 2 0,.l 3 0,.e 0] ?_
  simp
  have hO:=hJ
  try simp [pObs,be0,aL0,aK0,aE0] at hO
  refine ab0 78 hO ?_
  refine rS0 ?_
  have hlv:=hlive
  rw [<- hw] at hlv
  have hJ:=IHk F (by omega) (d + 1) n2 (by omega) q2.2 (LxR.aJ0 hlv).1
  rcases hx3:cf0 ts F (d + 1) n2 with ⟨b3,n3⟩ | ⟨a,e⟩
  rotate_left
  ·rw [hx3] at hJ hw
   simp only [pAns,ar0,LxR.bind] at hJ hw
   subst hw
   refine aa0 [.e 0] ?_
   simp
   have hO:=hJ
   try simp [pObs,be0,aL0,aK0,aE0] at hO
   refine af0 hO ?_
   refine rS0 ?_
   refine endP ?_
   exact rT3 @pObs.eq_1 @pAns.eq_1 @pAns.eq_2
  have q3:=(mL0 hE F).block q2.2 hx3
  rw [hx3] at hJ hw
  simp only [pAns,ar0,LxR.bind] at hJ hw
  refine aa0 [.e 0] ?_
  simp
  have hO:=hJ
  try simp [pObs,be0,aL0,aK0,aE0] at hO
  refine ab0 82 hO ?_
  refine rS0 ?_
  subst hw
  refine ax0 [] ?_
  rw [pAns,stm0,Stm.V,Stm.ac0 (.mk _ _ _ _ _ _ _ _ _)]
  simp +contextual (maxSteps:=2000000) (disch:=omega) [-Int.not_lt,-Int.not_le,-Nat.not_lt,-Nat.not_le,sx,pObs,Stm.kind,Stm.name,Stm.slot,Stm.state,Stm.num,Stm.e,Stm.body,Stm.els,Stm.at_]
 | false =>
 rw [hkwFor] at hw
 simp only [Bool.false_eq_true,if_false] at hw
 refine rS0 ?_
 refine aa0 [.e 0] ?_
 simp
 have hO:=ai0 hn hl 1 e40
 try simp [pObs,be0,aL0,aK0,aE0] at hO
 refine ab0 86 hO ?_
 cases hkwRet:isT ts n 1 e40 with
 | true =>
  have h0:=aw0 hE hn hkwRet (by decide)
  rw [hkwRet] at hw
  simp only [if_true] at hw
  refine rS0 ?_
  have hlv:=hlive
  rw [<- hw] at hlv
  have hJ:=cE0 hE hl h0 F d hd [59] 6 (bS []) (tk ts n).at_ (LxR.aJ0 hlv).1
  rcases hx1:pVal ts F d [59] (n + 1) with ⟨x1,n1⟩ | ⟨a,e⟩
  rotate_left
  ·rw [hx1] at hJ hw
   simp only [pAns,ar0,LxR.bind] at hJ hw
   subst hw
   refine c00 [.l 5 0,.l 2 0,.l 3 0,.e 0] rfl rfl (by simp) ?_
   simp
   have hpO:=hJ
   try simp [pObs,aK0,aE0,fk0,aL0] at hpO
   refine cO0 hpO ?_
   clear hpO hJ
   intro y
   rcases y with _ | y
   all_goals
    refine rS6 @optV.eq_1 @optV.eq_2 @fk0.eq_1 @fk0.eq_2 @aK0.eq_1 @aL0.eq_1 ?_
    refine endP ?_
    exact rT3 @pObs.eq_1 @pAns.eq_1 @pAns.eq_2
  have q1:=iR0 hE h0 hx1
  rw [hx1] at hJ hw
  simp only [pAns,ar0,LxR.bind] at hJ hw
  refine aa0 [.l 5 0,.l 2 0,.l 3 0,.e 0] ?_
  simp
  have hO:=hJ
  try simp [pObs,be0,aL0,aK0,aE0] at hO
  refine ab0 89 hO ?_
  refine rS0 ?_
  subst hw
  refine ax0 [] ?_
  rw [pAns,stm0,Stm.V,Stm.ac0 (.mk _ _ _ _ _ _ _ _ _)]
  simp +contextual (maxSteps:=2000000) (disch:=omega) [-Int.not_lt,-Int.not_le,-Nat.not_lt,-Nat.not_le,sx,pObs,Stm.kind,Stm.name,Stm.slot,Stm.state,Stm.num,Stm.e,Stm.body,Stm.els,Stm.at_]
 | false =>
 rw [hkwRet] at hw
 simp only [Bool.false_eq_true,if_false] at hw
 refine rS0 ?_
 simp only [e70] at hw
 subst hw
 refine aa0 [.e 0] ?_
 simp
 have hO:=aW0 hn 31
 try simp [pObs,be0,aL0,aK0,aE0] at hO
 refine af0 hO ?_
 refine rS0 ?_
 refine endP ?_
 exact rT3 @pObs.eq_1 @pAns.eq_1 @pAns.eq_2
variable {ts:List Tok} {n:Nat}
theorem l40 (hE:TEnd ts) (hl:ts.length < 2 ^ 40) (F d:Nat) (hd:d<=25)
  (IHs:∀ g,g < F->∀ d n,d<=24->n < ts.length->(pStm ts g d n).live->J prog bu0 [.bp (.e 0) 0,vI d] (pObs ts n) (·=pAns ts Stm.V (pStm ts g d n)))
  (hn:n < ts.length) (hlive:(cf0 ts F d n).live):J prog cr0 [.bp (.e 0) 0,vI d] (pObs ts n) (·=pAns ts stmsV (cf0 ts F d n)):=by
 obtain _ | F:=F
 ·rw [cf0] at hlive; exact absurd rfl hlive
 generalize hw:cf0 ts (F + 1) d n=R at *
 rw [cf0] at hw
 have hJ:=cw0 hn d
 refine at0 iF0 (by simp [pObs]) ?_
 refine rS4 @eO0.eq_1 @pObs.eq_1 @hpE.eq_1 @hpE.eq_2 ?_
 by_cases h:d<=24
 rotate_left
 ·rw [md0 h] at hJ hw
  simp only [LxR.bind] at hJ hw
  subst hw
  refine aa0 [.e 0] ?_
  simp
  have hO:=hJ
  try simp [pObs] at hO
  refine af0 hO ?_
  refine rS0 ?_
  refine endP ?_
  exact rT3 @pObs.eq_1 @pAns.eq_1 @pAns.eq_2
 rw [oq0 h] at hJ hw
 simp only [LxR.bind] at hJ hw
 refine aa0 [.e 0] ?_
 simp
 have hO:=hJ
 try simp [pObs] at hO
 refine ab0 8 hO ?_
 refine rS0 ?_
 have hJ:=aq0 hn hl [123]
 rcases hx:bh0 ts n [123] with n1 | ⟨a,e⟩
 rotate_left
 ·rw [hx] at hJ hw
  simp only [ar0] at hJ hw
  subst hw
  refine aa0 [.e 0] ?_
  simp
  have hO:=hJ
  try simp [pObs] at hO
  refine af0 hO ?_
  refine rS0 ?_
  refine endP ?_
  exact rT3 @pObs.eq_1 @pAns.eq_1 @pAns.eq_2
 have q1:=ak0 hE hn hx
 rw [hx] at hJ hw
 simp only [ar0] at hJ hw
 refine aa0 [.e 0] ?_
 simp
 have hO:=hJ
 try simp [pObs] at hO
 refine ab0 10 hO ?_
 refine rS0 ?_
 refine aH0 (fun y:Nat × Nat × List Stm=>y.1) (fun y=>[(5,.arr (.l 999 0) 0 y.2.2.length),(0,.bp (.e 0) 0),(1,vI d)])
  (fun y=>[(.e 0,.box [.lst (ts.map Tok.cells),vI y.2.1]),(.l 999 0,.row n90 9 true (y.2.2.map Stm.cells))])
  (fun y=>y.1<=F/\y.2.1 < ts.length/\y.2.2.length<=y.2.1/\lt0 ts y.1 d y.2.2 y.2.1=R) (F,n1,[]) ⟨Nat.le_refl _,q1.2,by simp,hw⟩
  (Wk.trans (Wk.subs (by simp) (by simp)) (Wk.row (s:=5) (id:=.l 999 0) (ty:=n90) (sz:=9) rfl)) ?_
 rintro ⟨g,n',out⟩ ⟨hg,hn',ho,hw⟩
 dsimp only at hg hn' ho hw
 obtain _ | g:=g
 ·rw [lt0] at hw; subst hw; exact absurd rfl hlive
 rw [lt0] at hw
 refine rS0 ?_
 refine aa0 [.e 0] ?_
 simp
 have hO:=ai0 hn' hl 4 [125]
 try simp [pObs] at hO
 refine ab0 12 hO ?_
 cases h2:isT ts n' 4 [125] with
 | true =>
  rw [h2,if_pos rfl] at hw
  subst hw
  refine rS0 ?_
  refine ax0 [] ?_
  exact rT3 @pObs.eq_1 @pAns.eq_1 @pAns.eq_2
 | false =>
  rw [h2,if_neg (by simp)] at hw
  have hlv:=hlive
  rw [<- hw] at hlv
  have hJ:=IHs g (by omega) d n' h hn' (LxR.aJ0 hlv).1
  refine rS0 ?_
  rcases hx:pStm ts g d n' with ⟨x,m⟩ | ⟨a,e⟩
  ·rw [hx] at hJ hw
   simp only [pAns,LxR.bind] at hJ hw
   have q2:=(mL0 hE g).stm hn' hx
   refine aa0 [.e 0] ?_
   simp
   have hO:=hJ
   try simp [pObs] at hO
   refine ab0 17 hO ?_
   refine rS0 ?_
   refine .of (g,m,out++[x]) ⟨by dsimp only; omega,q2.2,by simp; omega,hw⟩ (by dsimp only; omega) (Wk.rens (.l 19 0) (.l 999 0) rfl (by simp) (by simp [renF]) (by simp [renF,bR0]))
  ·rw [hx] at hJ hw
   simp only [pAns,LxR.bind] at hJ hw
   subst hw
   refine aa0 [.e 0] ?_
   simp
   have hO:=hJ
   try simp [pObs] at hO
   refine af0 hO ?_
   refine rS0 ?_
   refine endP ?_
   exact rT3 @pObs.eq_1 @pAns.eq_1 @pAns.eq_2
structure DoesS (ts:List Tok) (f:Nat):Prop where
 block:∀ d n,d<=25->n < ts.length->(cf0 ts f d n).live->J prog cr0 [.bp (.e 0) 0,vI d] (pObs ts n) (·=pAns ts stmsV (cf0 ts f d n))
 stm:∀ d n,d<=24->n < ts.length->(pStm ts f d n).live->J prog bu0 [.bp (.e 0) 0,vI d] (pObs ts n) (·=pAns ts Stm.V (pStm ts f d n))
theorem doesS (hE:TEnd ts) (hl:ts.length < 2 ^ 40) (f:Nat):DoesS ts f:=by
 induction f using Nat.strongRecOn with
 | ind f ih =>
  exact ⟨fun d n hd hn h=>l40 hE hl f d hd (fun g hg=>(ih g hg).stm) hn h,fun d n hd hn h=>jQ0 hE hl f d hd (fun g hg=>(ih g hg).block) hn h⟩
variable {ts:List Tok} {n:Nat}
theorem fL0 (hE:TEnd ts):∀ {f:Nat} {out:List Slo} {n:Nat},n < ts.length->∀ {a:List Slo} {m:Nat},c80 ts f out n=.ok (a,m)->n < m/\m < ts.length
 | 0,out,n,hn,a,m,h=>by simp [c80] at h
 | f + 1,out,n,hn,a,m,h=>by
  rw [c80] at h
  obtain ⟨⟨s,n1⟩,e1,h⟩:=ag0 h
  have q1:=ia0 hE hn e1
  dsimp only at *
  split at h
  ·rename_i hi
   have h0:=aw0 hE q1.2 hi (by decide)
   injection h with h; injection h with h1 h2; subst h2; omega
  ·obtain ⟨n2,e2,h⟩:=ag0 h
   have q2:=ak0 hE q1.2 e2
   have q3:=fL0 hE q2.2 h
   omega
def cq0 (name:ByteArray) (on:Bool) (params:V) (result:ByteArray) (body:V) (at_:Int):Ob:=.box [vS name,vB on,params,vS result,.nil,body,vI at_]
def dx0 (ts:List Tok) (n:Int) (name:ByteArray) (on:Bool) (at_:Int) (out:List Slo):List Ob :=
 [cq0 name on (.arr (.e 3) 0 out.length) (bS []) .nil at_,.box [.bp (.e 2) 0],.box [.lst (ts.map Tok.cells),vI n],.row eL0 3 true (out.map Slo.cells)]
def cb0 (ts:List Tok) (n:Int) (name:ByteArray) (on:Bool) (at_:Int) (out:List Slo):List Ob :=
 [cq0 name on (.arr (.e 4) 0 out.length) (bS []) .nil at_,.box [.bp (.e 2) 0],.box [.lst (ts.map Tok.cells),vI n],.gone,.row eL0 3 true (out.map Slo.cells)]
theorem r50 (hE:TEnd ts) (hl:ts.length < 2 ^ 40) (hn:n < ts.length) (name:ByteArray) (on:Bool) (at_:Int) (out:List Slo) (ho:out.length < 2 ^ 40) :
  J prog a30 [.bp (.e 0) 0,.bp (.e 1) 0] (dx0 ts n name on at_ out) (fun r=>r=match ko0 ts n with
   | .ok (x,m)=>.ret (.tup []) (cb0 ts m name on at_ (out++[x]))
   | .bad a e=>.pan (iQ0 ts a e) (dx0 ts a name on at_ out)):=by
 have hJ:=iV0 hE hl hn
 refine at0 gA0 (by simp [dx0]) ?_
 refine rS5 @di0.eq_1 @dx0.eq_1 @cq0.eq_1 @hpE.eq_1 @hpE.eq_2 ?_
 rcases hx:ko0 ts n with ⟨x,m⟩ | ⟨a,e⟩
 ·rw [hx] at hJ
  simp only [pAns] at hJ
  refine bk0 [.e 2] ?_
  simp
  have hO:=hJ
  try simp [pObs,cq0,dx0,cb0] at hO
  refine cH0 5 hO ?_
  refine rS0 ?_
  refine b10 [.l 7 0] ?_
  exact rT2 @cb0.eq_1 @cq0.eq_1
 ·rw [hx] at hJ
  simp only [pAns] at hJ
  refine bk0 [.e 2] ?_
  simp
  have hO:=hJ
  try simp [pObs,cq0,dx0,cb0] at hO
  refine cN0 hO ?_
  refine rS0 ?_
  refine endP ?_
  exact rT2 @dx0.eq_1 @cq0.eq_1
def aG0 (ts:List Tok) (n:Int) (name:ByteArray) (on:Bool) (params:V) (at_:Int):List Ob :=
 [.box [.lst (ts.map Tok.cells),vI n],cq0 name on params (bS []) .nil at_,.box [.bp (.e 0) 0]]
theorem lY0 (hl:ts.length < 2 ^ 40) (hn:n < ts.length) (h:isT ts n 4 [41]=true) (name:ByteArray) (on:Bool) (at_:Int) :
  J prog bV0 [.bp (.e 0) 0,vS (bS [41]),.fn a30 [.bp (.e 1) 0,.bp (.e 2) 0]] (aG0 ts n name on .nil at_) (·=.ret (.tup []) (aG0 ts (n + 1:Nat) name on .nil at_)):=by
 refine at0 cs0 (by simp [aG0]) ?_
 refine rS5 @bE0.eq_1 @aG0.eq_1 @cq0.eq_1 @hpE.eq_1 @hpE.eq_2 ?_
 refine aa0 [.e 0] ?_
 simp
 have hO:=ai0 hn hl 4 [41]
 try simp [pObs,cq0,dx0,cb0,aG0] at hO
 refine ab0 8 hO ?_
 refine rS1 h ?_
 refine ax0 [] ?_
 exact rT0
theorem lZ0 (hE:TEnd ts) (hl:ts.length < 2 ^ 40) (hn:n < ts.length) (h:isT ts n 4 [41]=false) (name:ByteArray) (on:Bool) (at_:Int) (F:Nat) (hlive:(c80 ts F [] n).live) :
  J prog bV0 [.bp (.e 0) 0,vS (bS [41]),.fn a30 [.bp (.e 1) 0,.bp (.e 2) 0]] (aG0 ts n name on .nil at_) (fun r=>match c80 ts F [] n with
   | .ok (xs,m)=>r=.ret (.tup []) (aG0 ts m name on (.arr (.e 3) 0 xs.length) at_++[.row eL0 3 true (xs.map Slo.cells)])
   | .bad a e=>∃ y:List (List V),r=.pan (iQ0 ts a e) (aG0 ts a name on (.lst y) at_)):=by
 generalize hR:c80 ts F [] n=R at *
 refine at0 cs0 (by simp [aG0]) ?_
 refine rS5 @bE0.eq_1 @aG0.eq_1 @cq0.eq_1 @hpE.eq_1 @hpE.eq_2 ?_
 refine aa0 [.e 0] ?_
 simp
 have hO:=ai0 hn hl 4 [41]
 try simp [pObs,cq0,dx0,cb0,aG0] at hO
 refine ab0 8 hO ?_
 refine rS1 h ?_
 refine aH0 (fun y:Nat × Nat × List Slo=>y.1) (fun y=>[(0,.bp (.e 0) 0),(1,vS (bS [41])),(2,.fn a30 [.bp (.e 1) 0,.bp (.e 2) 0])])
  (fun y=>[(.e 0,.box [.lst (ts.map Tok.cells),vI y.2.1]),(.e 1,cq0 name on (.arr (.l 999 0) 0 y.2.2.length) (bS []) .nil at_),(.e 2,.box [.bp (.e 0) 0]),(.l 999 0,.row eL0 3 true (y.2.2.map Slo.cells))])
  (fun y=>y.1<=F/\y.2.1 < ts.length/\y.2.2.length<=y.2.1/\c80 ts y.1 y.2.2 y.2.1=R) (F,n,[]) ⟨Nat.le_refl _,hn,by simp,hR⟩
  (Wk.trans (Wk.subs (by simp) (by simp [cq0])) (Wk.rowB (b:=.e 1) (id:=.l 999 0) (off:=2) (ty:=eL0) (sz:=3) rfl rfl (by simp) (by simp))) ?_
 rintro ⟨g,n',out⟩ ⟨hg,hn',ho,hw⟩
 dsimp only at hg hn' ho hw
 obtain _ | g:=g
 ·rw [c80] at hw; subst hw; exact absurd rfl hlive
 rw [c80] at hw
 have hJ:=r50 hE hl hn' name on at_ out (by omega)
 rcases hx:ko0 ts n' with ⟨x,m⟩ | ⟨a,e⟩
 ·rw [hx] at hJ hw
  simp only [LxR.bind] at hw
  have q1:=ia0 hE hn' hx
  refine rS1 @cq0.eq_1 ?_
  refine aa0 [.e 1,.e 2,.e 0,.l 999 0] ?_
  simp
  have hO:=hJ
  try simp [pObs,cq0,dx0,cb0,aG0] at hO
  refine ab0 10 hO ?_
  refine rS0 ?_
  refine aa0 [.e 0] ?_
  simp
  have hO:=ai0 q1.2 hl 4 [41]
  try simp [pObs,cq0,dx0,cb0,aG0] at hO
  refine ab0 13 hO ?_
  cases h2:isT ts m 4 [41] with
  | true =>
   rw [h2,if_pos rfl] at hw
   subst hw
   refine rS0 ?_
   refine ax0 [.l 10 0] ?_
   exact rT0
  | false =>
   rw [h2,if_neg (by simp)] at hw
   refine rS0 ?_
   have hJ2:=aq0 q1.2 hl [44]
   rcases h3:bh0 ts m [44] with m2 | ⟨a,e⟩
   ·have q2:=ak0 hE q1.2 h3
    rw [h3] at hJ2 hw
    simp only [LxR.bind] at hw
    simp only [ar0] at hJ2
    refine aa0 [.e 0] ?_
    simp
    have hO:=hJ2
    try simp [pObs,cq0,dx0,cb0,aG0] at hO
    refine ab0 15 hO ?_
    refine rS0 ?_
    refine .of (g,m2,out++[x]) ⟨by dsimp only; omega,q2.2,by simp; omega,hw⟩ (by dsimp only; omega) (Wk.rens (.l 10 0) (.l 999 0) rfl (by simp) (by simp [renF,cq0]) (by simp [renF,bR0,cq0]))
   ·rw [h3] at hJ2 hw
    simp only [LxR.bind] at hw
    simp only [ar0] at hJ2
    subst hw
    refine aa0 [.e 0] ?_
    simp
    have hO:=hJ2
    try simp [pObs,cq0,dx0,cb0,aG0] at hO
    refine af0 hO ?_
    refine rS0 ?_
    refine endP ?_
    exact rT0
 ·rw [hx] at hJ hw
  simp only [LxR.bind] at hw
  subst hw
  refine rS1 @cq0.eq_1 ?_
  refine aa0 [.e 1,.e 2,.e 0,.l 999 0] ?_
  simp
  have hO:=hJ
  try simp [pObs,cq0,dx0,cb0,aG0] at hO
  refine af0 hO ?_
  refine rS0 ?_
  refine endP ?_
  exact rT0
variable {ts:List Tok} {n:Nat}
theorem kn0 (hE:TEnd ts) (hn:n < ts.length) {f:Nat} {on:Bool} {a:Fun} {m:Nat} (h:pFun ts f on n=.ok (a,m)):n < m/\m < ts.length:=by
 unfold pFun at h
 obtain ⟨⟨t,n1⟩,e1,h⟩:=ag0 h
 obtain ⟨n2,e2,h⟩:=ag0 h
 obtain ⟨⟨ps,n3⟩,e3,h⟩:=ag0 h
 obtain ⟨n4,e4,h⟩:=ag0 h
 obtain ⟨⟨k,n5⟩,e5,h⟩:=ag0 h
 obtain ⟨⟨b,n6⟩,e6,h⟩:=ag0 h
 have q1:=a00 hE hn e1
 have q2:=ak0 hE q1.2 e2
 dsimp only at *
 have q3:n2 < n3/\n3 < ts.length:=by
  split at e3
  ·rename_i hi
   have h0:=aw0 hE q2.2 hi (by decide)
   injection e3 with e3; injection e3 with h1 h2; subst h2; omega
  ·exact fL0 hE q2.2 e3
 have q4:=ak0 hE q3.2 e4
 have q5:=eN0 hE q4.2 e5
 have q6:=(mL0 hE f).block q5.2.1 e6
 injection h with h; injection h with h1 h2; subst h2
 omega
set_option maxHeartbeats 1600000 in
theorem gs0 (hE:TEnd ts) (hl:ts.length < 2 ^ 40) (F:Nat) (on:Bool) (hn:n < ts.length) (hlive:(pFun ts F on n).live) :
  J prog ea0 [.bp (.e 0) 0,vB on] (pObs ts n) (·=pAns ts Fun.V (pFun ts F on n)):=by
 generalize hw:pFun ts F on n=R at *
 rw [pFun] at hw
 refine at0 hD0 (by simp [pObs]) ?_
 refine rS4 @dI0.eq_1 @pObs.eq_1 @hpE.eq_1 @hpE.eq_2 ?_
 have hJ:=en0 hn hl
 rcases hx1:dA0 ts n with ⟨t,n1⟩ | ⟨a,e⟩
 rotate_left
 ·rw [hx1] at hJ hw
  simp only [pAns,ar0,LxR.bind] at hJ hw
  subst hw
  refine aa0 [.e 0] ?_
  simp
  have hO:=hJ
  try simp [pObs,cq0,dx0,cb0,aG0] at hO
  refine af0 hO ?_
  refine rS0 ?_
  refine endP ?_
  exact rT3 @pObs.eq_1 @pAns.eq_1 @pAns.eq_2
 have q1:=a00 hE hn hx1
 rw [hx1] at hJ hw
 simp only [pAns,ar0,LxR.bind] at hJ hw
 refine aa0 [.e 0] ?_
 simp
 have hO:=hJ
 try simp [pObs,cq0,dx0,cb0,aG0] at hO
 refine ab0 8 hO ?_
 refine rS0 ?_
 have hJ:=aq0 q1.2 hl [40]
 rcases hx2:bh0 ts n1 [40] with n2 | ⟨a,e⟩
 rotate_left
 ·rw [hx2] at hJ hw
  simp only [pAns,ar0,LxR.bind] at hJ hw
  subst hw
  refine aa0 [.e 0] ?_
  simp
  have hO:=hJ
  try simp [pObs,cq0,dx0,cb0,aG0] at hO
  refine af0 hO ?_
  refine rS0 ?_
  refine endP ?_
  exact rT3 @pObs.eq_1 @pAns.eq_1 @pAns.eq_2
 have q2:=ak0 hE q1.2 hx2
 rw [hx2] at hJ hw
 simp only [pAns,ar0,LxR.bind] at hJ hw
 refine aa0 [.e 0] ?_
 simp
 have hO:=hJ
 try simp [pObs,cq0,dx0,cb0,aG0] at hO
 refine ab0 16 hO ?_
 refine rS0 ?_
 cases hb:isT ts n2 4 [41] with
 | true =>
  have h00:=aw0 hE q2.2 hb (by decide)
  rw [hb] at hw
  simp only [if_true,LxR.bind] at hw
  refine aa0 [.e 0,.l 6 0,.l 2 0] ?_
  simp
  have hO:=lY0 hl q2.2 hb t.text on t.at_
  try simp [pObs,cq0,dx0,cb0,aG0] at hO
  refine ab0 19 hO ?_
  refine rS0 ?_
  have hJ:=aq0 h00 hl [58]
  rcases hx3:bh0 ts (n2 + 1) [58] with n4 | ⟨a,e⟩
  rotate_left
  ·rw [hx3] at hJ hw
   simp only [pAns,ar0,LxR.bind] at hJ hw
   subst hw
   refine aa0 [.e 0] ?_
   simp
   have hO:=hJ
   try simp [pObs,cq0,dx0,cb0,aG0] at hO
   refine af0 hO ?_
   refine rS0 ?_
   refine endP ?_
   exact rT3 @pObs.eq_1 @pAns.eq_1 @pAns.eq_2
  have q3:=ak0 hE h00 hx3
  rw [hx3] at hJ hw
  simp only [pAns,ar0,LxR.bind] at hJ hw
  refine aa0 [.e 0] ?_
  simp
  have hO:=hJ
  try simp [pObs,cq0,dx0,cb0,aG0] at hO
  refine ab0 21 hO ?_
  refine rS0 ?_
  have hJ:=c90 hE hl 4 1 n4 rfl q3.2
  rcases hx4:fI0 ts 4 n4 with ⟨k,n5⟩ | ⟨a,e⟩
  rotate_left
  ·rw [hx4] at hJ hw
   simp only [pAns,ar0,LxR.bind] at hJ hw
   subst hw
   refine aa0 [.e 0] ?_
   simp
   have hO:=hJ
   try simp [pObs,cq0,dx0,cb0,aG0] at hO
   refine af0 hO ?_
   refine rS0 ?_
   refine endP ?_
   exact rT3 @pObs.eq_1 @pAns.eq_1 @pAns.eq_2
  have q4:=eN0 hE q3.2 hx4
  rw [hx4] at hJ hw
  simp only [pAns,ar0,LxR.bind] at hJ hw
  refine aa0 [.e 0] ?_
  simp
  have hO:=hJ
  try simp [pObs,cq0,dx0,cb0,aG0] at hO
  refine ab0 23 hO ?_
  refine rS0 ?_
  have hlv:=hlive
  rw [<- hw] at hlv
  have hJ:=(doesS hE hl F).block 1 n5 (by omega) q4.2.1 (LxR.aJ0 hlv).1
  rcases hx5:cf0 ts F 1 n5 with ⟨b,n6⟩ | ⟨a,e⟩
  rotate_left
  ·rw [hx5] at hJ hw
   simp only [pAns,ar0,LxR.bind] at hJ hw
   subst hw
   refine aa0 [.e 0] ?_
   simp
   have hO:=hJ
   try simp [pObs,cq0,dx0,cb0,aG0] at hO
   refine af0 hO ?_
   refine rS0 ?_
   refine endP ?_
   exact rT3 @pObs.eq_1 @pAns.eq_1 @pAns.eq_2
  have q5:=(mL0 hE F).block q4.2.1 hx5
  rw [hx5] at hJ hw
  simp only [pAns,ar0,LxR.bind] at hJ hw
  refine aa0 [.e 0] ?_
  simp
  have hO:=hJ
  try simp [pObs,cq0,dx0,cb0,aG0] at hO
  refine ab0 26 hO ?_
  refine rS0 ?_
  subst hw
  refine ax0 [] ?_
  exact rT4 @pObs.eq_1 @pAns.eq_1 @pAns.eq_2 @Fun.ac0
 | false =>
 rw [hb] at hw
 simp only [Bool.false_eq_true,if_false] at hw
 have hlv:=hlive
 rw [<- hw] at hlv
 have hJ:=lZ0 hE hl q2.2 hb t.text on t.at_ F (LxR.aJ0 hlv).1
 rcases hx3:c80 ts F [] n2 with ⟨ps,n3⟩ | ⟨a,e⟩
 rotate_left
 ·rw [hx3] at hJ hw
  simp only [pAns,ar0,LxR.bind] at hJ hw
  subst hw
  refine c00 [.e 0,.l 6 0,.l 2 0] rfl rfl (by simp) ?_
  simp
  have hpO:=hJ
  try simp [pObs,cq0,aG0] at hpO
  refine cO0 hpO ?_
  clear hpO hJ
  intro y
  refine rS0 ?_
  refine endP ?_
  exact rT3 @pObs.eq_1 @pAns.eq_1 @pAns.eq_2
 have q3:=fL0 hE q2.2 hx3
 rw [hx3] at hJ hw
 simp only [pAns,ar0,LxR.bind] at hJ hw
 refine aa0 [.e 0,.l 6 0,.l 2 0] ?_
 simp
 have hO:=hJ
 try simp [pObs,cq0,dx0,cb0,aG0] at hO
 refine ab0 19 hO ?_
 refine rS0 ?_
 have hJ:=aq0 q3.2 hl [58]
 rcases hx4:bh0 ts n3 [58] with n4 | ⟨a,e⟩
 rotate_left
 ·rw [hx4] at hJ hw
  simp only [pAns,ar0,LxR.bind] at hJ hw
  subst hw
  refine aa0 [.e 0] ?_
  simp
  have hO:=hJ
  try simp [pObs,cq0,dx0,cb0,aG0] at hO
  refine af0 hO ?_
  refine rS0 ?_
  refine endP ?_
  exact rT3 @pObs.eq_1 @pAns.eq_1 @pAns.eq_2
 have q4:=ak0 hE q3.2 hx4
 rw [hx4] at hJ hw
 simp only [pAns,ar0,LxR.bind] at hJ hw
 refine aa0 [.e 0] ?_
 simp
 have hO:=hJ
 try simp [pObs,cq0,dx0,cb0,aG0] at hO
 refine ab0 21 hO ?_
 refine rS0 ?_
 have hJ:=c90 hE hl 4 1 n4 rfl q4.2
 rcases hx5:fI0 ts 4 n4 with ⟨k,n5⟩ | ⟨a,e⟩
 rotate_left
 ·rw [hx5] at hJ hw
  simp only [pAns,ar0,LxR.bind] at hJ hw
  subst hw
  refine aa0 [.e 0] ?_
  simp
  have hO:=hJ
  try simp [pObs,cq0,dx0,cb0,aG0] at hO
  refine af0 hO ?_
  refine rS0 ?_
  refine endP ?_
  exact rT3 @pObs.eq_1 @pAns.eq_1 @pAns.eq_2
 have q5:=eN0 hE q4.2 hx5
 rw [hx5] at hJ hw
 simp only [pAns,ar0,LxR.bind] at hJ hw
 refine aa0 [.e 0] ?_
 simp
 have hO:=hJ
 try simp [pObs,cq0,dx0,cb0,aG0] at hO
 refine ab0 23 hO ?_
 refine rS0 ?_
 have hlv:=hlive
 rw [<- hw] at hlv
 have hJ:=(doesS hE hl F).block 1 n5 (by omega) q5.2.1 (LxR.aJ0 hlv).1
 rcases hx6:cf0 ts F 1 n5 with ⟨b,n6⟩ | ⟨a,e⟩
 rotate_left
 ·rw [hx6] at hJ hw
  simp only [pAns,ar0,LxR.bind] at hJ hw
  subst hw
  refine aa0 [.e 0] ?_
  simp
  have hO:=hJ
  try simp [pObs,cq0,dx0,cb0,aG0] at hO
  refine af0 hO ?_
  refine rS0 ?_
  refine endP ?_
  exact rT3 @pObs.eq_1 @pAns.eq_1 @pAns.eq_2
 have q6:=(mL0 hE F).block q5.2.1 hx6
 rw [hx6] at hJ hw
 simp only [pAns,ar0,LxR.bind] at hJ hw
 refine aa0 [.e 0] ?_
 simp
 have hO:=hJ
 try simp [pObs,cq0,dx0,cb0,aG0] at hO
 refine ab0 26 hO ?_
 refine rS0 ?_
 subst hw
 refine ax0 [] ?_
 exact rT4 @pObs.eq_1 @pAns.eq_1 @pAns.eq_2 @Fun.ac0
variable {ts:List Tok} {n:Nat}
set_option maxHeartbeats 1600000 in
theorem k20 (hE:TEnd ts) (hl:ts.length < 2 ^ 40) (F:Nat) (hn:0 < ts.length) (hlive:(ls0 ts F).live) :
  J prog eu0 [.bp (.e 0) 0] (pObs ts 0) (·=pAns ts Prg.V (ls0 ts F)):=by
 generalize hw:ls0 ts F=R at *
 rw [ls0] at hw
 refine at0 h40 (by simp [pObs]) ?_
 refine rS4 @dW0.eq_1 @pObs.eq_1 @hpE.eq_1 @hpE.eq_2 ?_
 refine aa0 [.e 0] ?_
 simp
 have hO:=ai0 (n:=0) hn hl 1 bH0
 try simp [pObs] at hO
 refine ab0 5 hO ?_
 cases hb:isT ts 0 1 bH0 with
 | false =>
  rw [m00,hb] at hw
  simp only [Bool.false_eq_true,if_false,e70,LxR.bind] at hw
  subst hw
  refine rS0 ?_
  refine aa0 [.e 0] ?_
  simp
  have hO:=aW0 (n:=0) hn 31
  try simp [pObs] at hO
  refine af0 hO ?_
  refine rS0 ?_
  refine endP ?_
  exact rT3 @pObs.eq_1 @pAns.eq_1 @pAns.eq_2
 | true =>
 have h00:=aw0 hE hn hb (by decide)
 rw [m00,hb] at hw
 simp only [if_true,LxR.bind] at hw
 refine rS0 ?_
 have hJ:=nD0 h00 hl
 rcases hx1:pInt ts (0 + 1) with ⟨v,n1⟩ | ⟨a,e⟩
 rotate_left
 ·rw [hx1] at hJ hw
  simp only [pAns,ar0,LxR.bind] at hJ hw
  subst hw
  refine aa0 [.e 0] ?_
  simp
  have hO:=hJ
  try simp [pObs] at hO
  refine af0 hO ?_
  refine rS0 ?_
  refine endP ?_
  exact rT3 @pObs.eq_1 @pAns.eq_1 @pAns.eq_2
 have q1:=qK0 hE h00 hx1
 rw [hx1] at hJ hw
 simp only [pAns,ar0,LxR.bind] at hJ hw
 refine aa0 [.e 0] ?_
 simp
 have hO:=hJ
 try simp [pObs] at hO
 refine ab0 10 hO ?_
 refine rS0 ?_
 have hJ:=aq0 q1.2 hl [59]
 rcases hx2:bh0 ts n1 [59] with n2 | ⟨a,e⟩
 rotate_left
 ·rw [hx2] at hJ hw
  simp only [pAns,ar0,LxR.bind] at hJ hw
  subst hw
  refine aa0 [.e 0] ?_
  simp
  have hO:=hJ
  try simp [pObs] at hO
  refine af0 hO ?_
  refine rS0 ?_
  refine endP ?_
  exact rT3 @pObs.eq_1 @pAns.eq_1 @pAns.eq_2
 have q2:=ak0 hE q1.2 hx2
 rw [hx2] at hJ hw
 simp only [pAns,ar0,LxR.bind] at hJ hw
 refine aa0 [.e 0] ?_
 simp
 have hO:=hJ
 try simp [pObs] at hO
 refine ab0 14 hO ?_
 refine rS0 ?_
 refine aH0 (fun y:Nat × Nat × Prg=>y.1) (fun y=>[(3,.bp (.l 3 0) 0),(2,.bp (.l 2 0) 0),(0,.bp (.e 0) 0)])
  (fun y=>[(.e 0,.box [.lst (ts.map Tok.cells),vI y.2.1]),(.l 3 0,.box [vI y.2.2.version,.arr (.l 998 0) 0 y.2.2.bN0.length,.arr (.l 999 0) 0 y.2.2.fns.length]),
   (.l 998 0,.row eL0 3 true (y.2.2.bN0.map Slo.cells)),(.l 999 0,.row rB0 7 true (y.2.2.fns.map Fun.cells)),(.l 2 0,.box [vI 0,.nil,.nil])])
  (fun y=>y.1<=F/\y.2.1 < ts.length/\y.2.2.bN0.length<=y.2.1/\y.2.2.fns.length<=y.2.1/\l30 ts y.1 y.2.2 y.2.1=R) (F,n2,⟨v.num,[],[]⟩) ⟨Nat.le_refl _,q2.2,by simp,by simp,hw⟩
  (Wk.trans (Wk.subs (by simp) (by simp)) (Wk.trans (Wk.rowB (b:=.l 3 0) (id:=.l 999 0) (off:=2) (ty:=rB0) (sz:=7) rfl rfl (by simp) (by simp)) (Wk.rowB (b:=.l 3 0) (id:=.l 998 0) (off:=1) (ty:=eL0) (sz:=3) rfl rfl (by simp) (by simp)))) ?_
 rintro ⟨g,n',⟨ver,sts,fns⟩⟩ ⟨hg,hn',ho1,ho2,hw⟩
 dsimp only at hg hn' ho1 ho2 hw
 obtain _ | g:=g
 ·rw [l30] at hw; subst hw; exact absurd rfl hlive
 rw [l30] at hw
 refine rS0 ?_
 refine aa0 [.e 0] ?_
 simp
 have hO:=a50 hn'
 try simp [pObs] at hO
 refine ab0 16 hO ?_
 by_cases hk:(tk ts n').kind=5
 ·rw [if_pos hk] at hw
  subst hw
  refine rS1 hk ?_
  refine ax0 [] ?_
  exact rT4 @pObs.eq_1 @pAns.eq_1 @pAns.eq_2 @Prg.ac0
 rw [if_neg hk] at hw
 refine rS1 hk ?_
 refine aa0 [.e 0] ?_
 simp
 have hO:=ai0 hn' hl 1 el0
 try simp [pObs] at hO
 refine ab0 23 hO ?_
 cases h1:isT ts n' 1 el0 with
 | true =>
  have h0:=aw0 hE hn' h1 (by decide)
  rw [h1] at hw
  simp only [if_true] at hw
  refine rS0 ?_
  have hJ:=iV0 hE hl h0
  rcases hx3:ko0 ts (n' + 1) with ⟨s,n3⟩ | ⟨a,e⟩
  rotate_left
  ·rw [hx3] at hJ hw
   simp only [pAns,ar0,LxR.bind] at hJ hw
   subst hw
   refine bk0 [.e 0] ?_
   simp
   have hO:=hJ
   try simp [pObs] at hO
   refine cN0 hO ?_
   refine rS0 ?_
   refine endP ?_
   exact rT3 @pObs.eq_1 @pAns.eq_1 @pAns.eq_2
  have q3:=ia0 hE h0 hx3
  rw [hx3] at hJ hw
  simp only [pAns,ar0,LxR.bind] at hJ hw
  refine bk0 [.e 0] ?_
  simp
  have hO:=hJ
  try simp [pObs] at hO
  refine cH0 27 hO ?_
  refine rS0 ?_
  have hJ:=aq0 q3.2 hl [59]
  rcases hx4:bh0 ts n3 [59] with n4 | ⟨a,e⟩
  rotate_left
  ·rw [hx4] at hJ hw
   simp only [pAns,ar0,LxR.bind] at hJ hw
   subst hw
   refine aa0 [.e 0] ?_
   simp
   have hO:=hJ
   try simp [pObs] at hO
   refine af0 hO ?_
   refine rS0 ?_
   refine endP ?_
   exact rT3 @pObs.eq_1 @pAns.eq_1 @pAns.eq_2
  have q4:=ak0 hE q3.2 hx4
  rw [hx4] at hJ hw
  simp only [pAns,ar0,LxR.bind] at hJ hw
  refine aa0 [.e 0] ?_
  simp
  have hO:=hJ
  try simp [pObs] at hO
  refine ab0 32 hO ?_
  refine rS0 ?_
  refine .of (g,n4,⟨ver,sts++[s],fns⟩) ⟨by dsimp only; omega,q4.2,by simp; omega,by dsimp only; omega,hw⟩ (by dsimp only; omega) (Wk.rens (.l 29 0) (.l 998 0) rfl (by simp) (by simp [renF]) (by simp [renF,bR0]))
 | false =>
 rw [h1] at hw
 simp only [Bool.false_eq_true,if_false] at hw
 refine rS0 ?_
 refine aa0 [.e 0] ?_
 simp
 have hO:=ai0 hn' hl 1 kwFn
 try simp [pObs] at hO
 refine ab0 35 hO ?_
 cases h2:isT ts n' 1 kwFn with
 | true =>
  have h0:=aw0 hE hn' h2 (by decide)
  rw [h2] at hw
  simp only [if_true] at hw
  refine rS0 ?_
  have hlv:=hlive
  rw [<- hw] at hlv
  have hJ:=gs0 hE hl g false h0 (LxR.aJ0 hlv).1
  rcases hx3:pFun ts g false (n' + 1) with ⟨s,n3⟩ | ⟨a,e⟩
  rotate_left
  ·rw [hx3] at hJ hw
   simp only [pAns,ar0,LxR.bind] at hJ hw
   subst hw
   refine bk0 [.e 0] ?_
   simp
   have hO:=hJ
   try simp [pObs] at hO
   refine cN0 hO ?_
   refine rS0 ?_
   refine endP ?_
   exact rT3 @pObs.eq_1 @pAns.eq_1 @pAns.eq_2
  have q3:=kn0 hE h0 hx3
  rw [hx3] at hJ hw
  simp only [pAns,ar0,LxR.bind] at hJ hw
  refine bk0 [.e 0] ?_
  simp
  have hO:=hJ
  try simp [pObs] at hO
  refine cH0 39 hO ?_
  refine rS0 ?_
  refine .of (g,n3,⟨ver,sts,fns++[s]⟩) ⟨by dsimp only; omega,q3.2,by dsimp only; omega,by simp; omega,hw⟩ (by dsimp only; omega) (Wk.rens (.l 41 0) (.l 999 0) rfl (by simp) (by simp [renF]) (by simp [renF,bR0]))
 | false =>
 rw [h2] at hw
 simp only [Bool.false_eq_true,if_false] at hw
 refine rS0 ?_
 refine aa0 [.e 0] ?_
 simp
 have hO:=ai0 hn' hl 1 kwOn
 try simp [pObs] at hO
 refine ab0 45 hO ?_
 cases h3:isT ts n' 1 kwOn with
 | true =>
  have h0:=aw0 hE hn' h3 (by decide)
  rw [h3] at hw
  simp only [if_true] at hw
  refine rS0 ?_
  have hlv:=hlive
  rw [<- hw] at hlv
  have hJ:=gs0 hE hl g true h0 (LxR.aJ0 hlv).1
  rcases hx3:pFun ts g true (n' + 1) with ⟨s,n3⟩ | ⟨a,e⟩
  rotate_left
  ·rw [hx3] at hJ hw
   simp only [pAns,ar0,LxR.bind] at hJ hw
   subst hw
   refine bk0 [.e 0] ?_
   simp
   have hO:=hJ
   try simp [pObs] at hO
   refine cN0 hO ?_
   refine rS0 ?_
   refine endP ?_
   exact rT3 @pObs.eq_1 @pAns.eq_1 @pAns.eq_2
  have q3:=kn0 hE h0 hx3
  rw [hx3] at hJ hw
  simp only [pAns,ar0,LxR.bind] at hJ hw
  refine bk0 [.e 0] ?_
  simp
  have hO:=hJ
  try simp [pObs] at hO
  refine cH0 49 hO ?_
  refine rS0 ?_
  refine .of (g,n3,⟨ver,sts,fns++[s]⟩) ⟨by dsimp only; omega,q3.2,by dsimp only; omega,by simp; omega,hw⟩ (by dsimp only; omega) (Wk.rens (.l 51 0) (.l 999 0) rfl (by simp) (by simp [renF]) (by simp [renF,bR0]))
 | false =>
 rw [h3] at hw
 simp only [Bool.false_eq_true,if_false,e70] at hw
 subst hw
 refine rS0 ?_
 refine aa0 [.e 0] ?_
 simp
 have hO:=aW0 hn' 31
 try simp [pObs] at hO
 refine af0 hO ?_
 refine rS0 ?_
 refine endP ?_
 exact rT3 @pObs.eq_1 @pAns.eq_1 @pAns.eq_2
theorem hT67:liesAt prog prog.depth 67 (2 / prog.cellsOf 67) 0 67 1=true:=by kernel_rfl
def np0 (acc:List UInt8):Hp :=
 match acc with
 | []=>[(.l 2 0,.box [.self (.l 2 0) 67,.nil])]
 | a :: l=>[(.l 2 0,.box [.self (.l 2 0) 67,.arr (.l 999 0) 0 (l.length + 1)]),(.l 999 0,.row 5 1 true ((a :: l).map an0))]
def jS0 (s:Bs) (i:Nat):LxR (Int × Bs × Int × Nat):=match ic0 i (s.drop (i + 1)) (i + 1) [] with
 | .bad a e=>.bad a e
 | .ok (t,j)=>.ok (3,t,0,j)
set_option maxHeartbeats 1600000 in
theorem oG0 (x:LxS) (i:Nat) (hx:x.at_=i) (hi:i < x.s.size) (hs:x.s.size < 2 ^ 39) (ho:x.out.length<=4096) :
  J prog ii0 [.bp (.e 0) 0] x.obs (·=x.after (jS0 (sB x.s) i)):=by
 obtain ⟨s,a,out⟩:=x
 dsimp only at hx hi hs ho ⊢
 subst hx
 have hz:s.size=(sB s).length:=rfl
 refine at0 li0 (by simp [LxS.obs]) ?_
 refine rS4 @hn0.eq_1 @LxS.obs.eq_1 @hpE.eq_1 @hpE.eq_2 ?_
 refine aH0 (fun y:Nat × List UInt8=>s.size - y.1) (fun y=>[(3,vI y.1),(2,.bp (.l 2 0) 0),(0,.bp (.e 0) 0)])
  (fun y=>(.e 0,.box [vS s,vI i,.arr (.e 1) 0 out.length]) :: (.e 1,.row bZ0 4 true (out.map Tok.cells)) :: np0 y.2)
  (fun y=>i < y.1/\y.1<=s.size/\y.2.length<=y.1/\ic0 i ((sB s).drop y.1) y.1 y.2=ic0 i ((sB s).drop (i + 1)) (i + 1) []) (i + 1,[]) ⟨by simp,by dsimp only; omega,by simp,rfl⟩ (Wk.subs (by simp) (by simp [np0])) ?_
 rintro ⟨j,acc⟩ ⟨hj0,hj,hacc,hv⟩
 dsimp only at hj0 hj hacc hv
 have key:(j < s.size/\∃ c,(sB s)[j]?=some c/\(sB s).drop j=c :: (sB s).drop (j + 1))\/j=s.size:=by
  rcases Nat.lt_or_ge j s.size with h | h
  ·exact .inl ⟨h,(sB s)[j],List.getElem?_eq_getElem (by omega),List.drop_eq_getElem_cons (by omega)⟩
  ·exact .inr (by omega)
 cases acc with
 | nil =>
  simp only [np0]
  rcases key with ⟨hl,c,hc,hd⟩ | rfl
  ·rw [hd,ic0.eq_def] at hv
   simp only at hv
   have hc':s.data[j]?=some c:=by simpa [sB] using hc
   by_cases h34:c=34
   ·subst h34
    refine rS1 hc' ?_
    refine aa0 [.l 2 0] ?_
    simp
    have hO:=ml0 67
    try simp [LxS.obs,LxS.obs',Tok.ac0,ae0,ad0,aB0,aN0] at hO
    refine ab0 28 hO ?_
    refine rS0 ?_
    refine aa0 [.l 2 0] ?_
    simp
    have hO:=Builder_String_nil 67
    try simp [LxS.obs,LxS.obs',Tok.ac0,ae0,ad0,aB0,aN0] at hO
    refine ab0 37 hO ?_
    rw [if_pos rfl,if_neg (by simp)] at hv
    refine rS0 ?_
    rw [jS0,<- hv]
    by_cases hfull:4096<=out.length
    ·refine aa0 [.e 0,.e 1] ?_
     simp
     have hO:=dF0 ⟨s,i,out⟩ ⟨3,bS [],0,0⟩ (j + 1) hfull (by dsimp only; omega)
     try simp [LxS.obs,LxS.obs',Tok.ac0,ae0,ad0,aB0,aN0] at hO
     refine af0 hO ?_
     refine rS0 ?_
     refine endP ?_
     exact rT4 @LxS.after.eq_1 @LxS.after.eq_2 @LxS.obs.eq_1 hfull
    ·refine aa0 [.e 0,.e 1] ?_
     simp
     have hO:=eH0 ⟨s,i,out⟩ ⟨3,bS [],0,0⟩ (j + 1) (by dsimp only; omega)
     try simp [LxS.obs,LxS.obs',Tok.ac0,ae0,ad0,aB0,aN0] at hO
     refine ab0 41 hO ?_
     refine rS0 ?_
     refine ax0 [.l 41 0] ?_
     exact rT5 @LxS.after.eq_1 @LxS.after.eq_2 @LxS.obs'.eq_1 hfull @Tok.ac0
   rw [if_neg h34] at hv
   have n34:¬ (c.toNat:Int)=34:=fun h=>h34 (UInt8.toNat_inj.1 (by exact_mod_cast h))
   by_cases hctl:c < 32\/126 < c
   ·rw [if_pos hctl] at hv
    have hctl':(c.toNat:Int) < 32\/126 < (c.toNat:Int):=by
     rcases hctl with h | h
     ·left; have:=UInt8.lt_iff_toNat_lt.1 h; simp at this; omega
     ·right; have:=UInt8.lt_iff_toNat_lt.1 h; simp at this; omega
    refine rS2 hc' n34 ?_
    refine ⟨fun h=>?_,fun h=>?_⟩
    all_goals first | (exfalso; omega) | skip
    all_goals
     refine aa0 [.e 0,.e 1] ?_
     simp
     have hO:=aU0 ⟨s,i,out⟩ j 30
     try simp [LxS.obs,LxS.obs',Tok.ac0,ae0,ad0,aB0,aN0] at hO
     refine af0 hO ?_
     refine rS0 ?_
     refine endP ?_
     rw [jS0,<- hv]
     exact rT3 @LxS.after.eq_1 @LxS.after.eq_2 @LxS.obs.eq_1
   rw [if_neg hctl] at hv
   have c32:¬ (c.toNat:Int) < 32:=fun h=>hctl (.inl (UInt8.lt_iff_toNat_lt.2 (by simp; omega)))
   have c126:¬ 126 < (c.toNat:Int):=fun h=>hctl (.inr (UInt8.lt_iff_toNat_lt.2 (by simp; omega)))
   by_cases h92:c=92
   ·subst h92
    rw [if_pos rfl] at hv
    rcases Nat.lt_or_ge (j + 1) s.size with hl2 | hl2
    ·obtain ⟨d,hd1,hd2⟩:∃ d,s.data[j + 1]?=some d/\(sB s).drop (j + 1)=d :: (sB s).drop (j + 2) :=
      ⟨(sB s)[j + 1]'(by omega),by simp [sB],List.drop_eq_getElem_cons (by omega)⟩
     rw [hd2] at hv
     simp only at hv
     by_cases hq:d=34\/d=92
     ·rw [if_pos hq] at hv
      rcases hq with rfl | rfl
      ·refine rS2 hc' hd1 ?_
       refine aa0 [.l 2 0] ?_
       simp
       have hO:=cY0 67 34 hT67
       try simp [LxS.obs,LxS.obs',Tok.ac0,ae0,ad0,aB0,aN0] at hO
       refine ab0 93 hO ?_
       refine rS0 ?_
       refine .of (j + 2,[34]) ⟨by dsimp only; omega,by dsimp only; omega,by simp,hv⟩ (by dsimp only; omega) (Wk.rens (.l 93 0) (.l 999 0) rfl (by simp) (by simp [renF,np0]; omega) (by simp [renF,bR0]))
      ·refine rS2 hc' hd1 ?_
       refine aa0 [.l 2 0] ?_
       simp
       have hO:=cY0 67 92 hT67
       try simp [LxS.obs,LxS.obs',Tok.ac0,ae0,ad0,aB0,aN0] at hO
       refine ab0 93 hO ?_
       refine rS0 ?_
       refine .of (j + 2,[92]) ⟨by dsimp only; omega,by dsimp only; omega,by simp,hv⟩ (by dsimp only; omega) (Wk.rens (.l 93 0) (.l 999 0) rfl (by simp) (by simp [renF,np0]; omega) (by simp [renF,bR0]))
     ·rw [if_neg hq] at hv
      have q34:¬ (d.toNat:Int)=34:=fun h=>hq (.inl (UInt8.toNat_inj.1 (by exact_mod_cast h)))
      have q92:¬ (d.toNat:Int)=92:=fun h=>hq (.inr (UInt8.toNat_inj.1 (by exact_mod_cast h)))
      refine rS4 hc' hd1 q34 q92 ?_
      refine aa0 [.e 0,.e 1] ?_
      simp
      have hO:=aU0 ⟨s,i,out⟩ j 30
      try simp [LxS.obs,LxS.obs',Tok.ac0,ae0,ad0,aB0,aN0] at hO
      refine af0 hO ?_
      refine rS0 ?_
      refine endP ?_
      rw [jS0,<- hv]
      exact rT3 @LxS.after.eq_1 @LxS.after.eq_2 @LxS.obs.eq_1
    ·rw [List.drop_of_length_le (by omega)] at hv
     simp only at hv
     refine rS1 hc' ?_
     refine aa0 [.e 0,.e 1] ?_
     simp
     have hO:=aU0 ⟨s,i,out⟩ j 30
     try simp [LxS.obs,LxS.obs',Tok.ac0,ae0,ad0,aB0,aN0] at hO
     refine af0 hO ?_
     refine rS0 ?_
     refine endP ?_
     rw [jS0,<- hv]
     exact rT3 @LxS.after.eq_1 @LxS.after.eq_2 @LxS.obs.eq_1
   ·rw [if_neg h92] at hv
    have n92:¬ (c.toNat:Int)=92:=fun h=>h92 (UInt8.toNat_inj.1 (by exact_mod_cast h))
    refine rS5 hc' n34 n92 c32 c126 ?_
    refine aa0 [.l 2 0] ?_
    simp
    have hO:=cY0 67 c hT67
    try simp [LxS.obs,LxS.obs',Tok.ac0,ae0,ad0,aB0,aN0] at hO
    refine ab0 93 hO ?_
    refine rS0 ?_
    refine .of (j + 1,[c]) ⟨by dsimp only; omega,by dsimp only; omega,by simp,hv⟩ (by dsimp only; omega) (Wk.rens (.l 93 0) (.l 999 0) rfl (by simp) (by simp [renF,np0]) (by simp [renF,bR0]))
  ·rw [List.drop_of_length_le (by omega),ic0] at hv
   refine rS0 ?_
   rw [jS0,<- hv]
   refine aa0 [.e 0,.e 1] ?_
   simp
   have hO:=aU0 ⟨s,i,out⟩ i 30
   try simp [LxS.obs,LxS.obs',Tok.ac0,ae0,ad0,aB0,aN0] at hO
   refine af0 hO ?_
   refine rS0 ?_
   refine endP ?_
   exact rT3 @LxS.after.eq_1 @LxS.after.eq_2 @LxS.obs.eq_1
 | cons b l =>
  simp only [np0]
  rcases key with ⟨hl,c,hc,hd⟩ | rfl
  ·rw [hd,ic0.eq_def] at hv
   simp only at hv
   have hc':s.data[j]?=some c:=by simpa [sB] using hc
   have hbl:(b :: l).length<=j:=hacc
   by_cases h34:c=34
   ·subst h34
    refine rS1 hc' ?_
    refine aa0 [.l 2 0,.l 999 0] ?_
    simp
    have hO:=ie0 67 (b :: l)
    try simp [LxS.obs,LxS.obs',Tok.ac0,ae0,ad0,aB0,aN0] at hO
    refine ab0 28 hO ?_
    refine rS0 ?_
    rw [if_pos rfl] at hv
    by_cases hlong:(b :: l).length > 256
    ·rw [if_pos hlong] at hv
     have hlong':256 < l.length + 1:=hlong
     refine rS1 hlong' ?_
     refine aa0 [.e 0,.e 1] ?_
     simp
     have hO:=aU0 ⟨s,i,out⟩ i 3
     try simp [LxS.obs,LxS.obs',Tok.ac0,ae0,ad0,aB0,aN0] at hO
     refine af0 hO ?_
     refine rS0 ?_
     refine endP ?_
     rw [jS0,<- hv]
     exact rT3 @LxS.after.eq_1 @LxS.after.eq_2 @LxS.obs.eq_1
    rw [if_neg hlong] at hv
    have hlong':¬ 256 < l.length + 1:=hlong
    refine rS1 hlong' ?_
    refine aa0 [.l 2 0,.l 999 0] ?_
    simp
    have hO:=fN0 67 (b :: l) (by simp)
    try simp [LxS.obs,LxS.obs',Tok.ac0,ae0,ad0,aB0,aN0] at hO
    refine ab0 37 hO ?_
    refine rS0 ?_
    rw [jS0,<- hv]
    by_cases hfull:4096<=out.length
    ·refine aa0 [.e 0,.e 1] ?_
     simp
     have hO:=dF0 ⟨s,i,out⟩ ⟨3,bS (b :: l),0,0⟩ (j + 1) hfull (by dsimp only; omega)
     try simp [LxS.obs,LxS.obs',Tok.ac0,ae0,ad0,aB0,aN0] at hO
     refine af0 hO ?_
     refine rS0 ?_
     refine endP ?_
     exact rT4 @LxS.after.eq_1 @LxS.after.eq_2 @LxS.obs.eq_1 hfull
    ·refine aa0 [.e 0,.e 1] ?_
     simp
     have hO:=eH0 ⟨s,i,out⟩ ⟨3,bS (b :: l),0,0⟩ (j + 1) (by dsimp only; omega)
     try simp [LxS.obs,LxS.obs',Tok.ac0,ae0,ad0,aB0,aN0] at hO
     refine ab0 41 hO ?_
     refine rS0 ?_
     refine ax0 [.l 41 0] ?_
     exact rT5 @LxS.after.eq_1 @LxS.after.eq_2 @LxS.obs'.eq_1 hfull @Tok.ac0
   rw [if_neg h34] at hv
   have n34:¬ (c.toNat:Int)=34:=fun h=>h34 (UInt8.toNat_inj.1 (by exact_mod_cast h))
   by_cases hctl:c < 32\/126 < c
   ·rw [if_pos hctl] at hv
    have hctl':(c.toNat:Int) < 32\/126 < (c.toNat:Int):=by
     rcases hctl with h | h
     ·left; have:=UInt8.lt_iff_toNat_lt.1 h; simp at this; omega
     ·right; have:=UInt8.lt_iff_toNat_lt.1 h; simp at this; omega
    refine rS2 hc' n34 ?_
    refine ⟨fun h=>?_,fun h=>?_⟩
    all_goals first | (exfalso; omega) | skip
    all_goals
     refine aa0 [.e 0,.e 1] ?_
     simp
     have hO:=aU0 ⟨s,i,out⟩ j 30
     try simp [LxS.obs,LxS.obs',Tok.ac0,ae0,ad0,aB0,aN0] at hO
     refine af0 hO ?_
     refine rS0 ?_
     refine endP ?_
     rw [jS0,<- hv]
     exact rT3 @LxS.after.eq_1 @LxS.after.eq_2 @LxS.obs.eq_1
   rw [if_neg hctl] at hv
   have c32:¬ (c.toNat:Int) < 32:=fun h=>hctl (.inl (UInt8.lt_iff_toNat_lt.2 (by simp; omega)))
   have c126:¬ 126 < (c.toNat:Int):=fun h=>hctl (.inr (UInt8.lt_iff_toNat_lt.2 (by simp; omega)))
   by_cases h92:c=92
   ·subst h92
    rw [if_pos rfl] at hv
    rcases Nat.lt_or_ge (j + 1) s.size with hl2 | hl2
    ·obtain ⟨d,hd1,hd2⟩:∃ d,s.data[j + 1]?=some d/\(sB s).drop (j + 1)=d :: (sB s).drop (j + 2) :=
      ⟨(sB s)[j + 1]'(by omega),by simp [sB],List.drop_eq_getElem_cons (by omega)⟩
     rw [hd2] at hv
     simp only at hv
     by_cases hq:d=34\/d=92
     ·rw [if_pos hq] at hv
      rcases hq with rfl | rfl
      ·refine rS2 hc' hd1 ?_
       refine aa0 [.l 2 0,.l 999 0] ?_
       simp
       have hO:=cQ0 67 (b :: l) 34 hT67 (by omega)
       try simp [LxS.obs,LxS.obs',Tok.ac0,ae0,ad0,aB0,aN0] at hO
       refine ab0 93 hO ?_
       refine rS0 ?_
       refine .of (j + 2,b :: l++[34]) ⟨by dsimp only; omega,by dsimp only; omega,by simp at hbl ⊢; omega,hv⟩ (by dsimp only; omega) (Wk.rens (.l 93 0) (.l 999 0) rfl (by simp) (by simp [renF,np0]; omega) (by simp [renF,bR0]))
      ·refine rS2 hc' hd1 ?_
       refine aa0 [.l 2 0,.l 999 0] ?_
       simp
       have hO:=cQ0 67 (b :: l) 92 hT67 (by omega)
       try simp [LxS.obs,LxS.obs',Tok.ac0,ae0,ad0,aB0,aN0] at hO
       refine ab0 93 hO ?_
       refine rS0 ?_
       refine .of (j + 2,b :: l++[92]) ⟨by dsimp only; omega,by dsimp only; omega,by simp at hbl ⊢; omega,hv⟩ (by dsimp only; omega) (Wk.rens (.l 93 0) (.l 999 0) rfl (by simp) (by simp [renF,np0]; omega) (by simp [renF,bR0]))
     ·rw [if_neg hq] at hv
      have q34:¬ (d.toNat:Int)=34:=fun h=>hq (.inl (UInt8.toNat_inj.1 (by exact_mod_cast h)))
      have q92:¬ (d.toNat:Int)=92:=fun h=>hq (.inr (UInt8.toNat_inj.1 (by exact_mod_cast h)))
      refine rS4 hc' hd1 q34 q92 ?_
      refine aa0 [.e 0,.e 1] ?_
      simp
      have hO:=aU0 ⟨s,i,out⟩ j 30
      try simp [LxS.obs,LxS.obs',Tok.ac0,ae0,ad0,aB0,aN0] at hO
      refine af0 hO ?_
      refine rS0 ?_
      refine endP ?_
      rw [jS0,<- hv]
      exact rT3 @LxS.after.eq_1 @LxS.after.eq_2 @LxS.obs.eq_1
    ·rw [List.drop_of_length_le (by omega)] at hv
     simp only at hv
     refine rS1 hc' ?_
     refine aa0 [.e 0,.e 1] ?_
     simp
     have hO:=aU0 ⟨s,i,out⟩ j 30
     try simp [LxS.obs,LxS.obs',Tok.ac0,ae0,ad0,aB0,aN0] at hO
     refine af0 hO ?_
     refine rS0 ?_
     refine endP ?_
     rw [jS0,<- hv]
     exact rT3 @LxS.after.eq_1 @LxS.after.eq_2 @LxS.obs.eq_1
   ·rw [if_neg h92] at hv
    have n92:¬ (c.toNat:Int)=92:=fun h=>h92 (UInt8.toNat_inj.1 (by exact_mod_cast h))
    refine rS5 hc' n34 n92 c32 c126 ?_
    refine aa0 [.l 2 0,.l 999 0] ?_
    simp
    have hO:=cQ0 67 (b :: l) c hT67 (by omega)
    try simp [LxS.obs,LxS.obs',Tok.ac0,ae0,ad0,aB0,aN0] at hO
    refine ab0 93 hO ?_
    refine rS0 ?_
    refine .of (j + 1,b :: l++[c]) ⟨by dsimp only; omega,by dsimp only; omega,by simp at hbl ⊢; omega,hv⟩ (by dsimp only; omega) (Wk.rens (.l 93 0) (.l 999 0) rfl (by simp) (by simp [renF,np0]) (by simp [renF,bR0]))
  ·rw [List.drop_of_length_le (by omega),ic0] at hv
   refine rS0 ?_
   rw [jS0,<- hv]
   refine aa0 [.e 0,.e 1] ?_
   simp
   have hO:=aU0 ⟨s,i,out⟩ i 30
   try simp [LxS.obs,LxS.obs',Tok.ac0,ae0,ad0,aB0,aN0] at hO
   refine af0 hO ?_
   refine rS0 ?_
   refine endP ?_
   exact rT3 @LxS.after.eq_1 @LxS.after.eq_2 @LxS.obs.eq_1
theorem l20:Ret prog kD0 [] (.lst (cv0.map fun m=>[vS (bS m)])):=by
 refine cZ0 nu0 (by simp) ?_
 exact rT2 @jV0.eq_1 @cv0.eq_1
theorem LxS.mq0 (x:LxS) (R:LxR (Int × Bs × Int × Nat)):(∃ a e,x.after R=.pan (q70 a e) x.obs)\/∃ y:LxS,x.after R=.ret (.tup []) y.obs':=by
 unfold LxS.after
 split
 ·exact .inl ⟨_,_,rfl⟩
 ·split
  ·exact .inl ⟨_,_,rfl⟩
  ·exact .inr ⟨_,rfl⟩
theorem oI0 {s:Bs} {i:Nat} {c:UInt8} (h:s[i]?=some c):lm0 s i =
  if au0.contains c then
   (if bf0 (au0++al0) s i - i > 16 then .bad i 3 else .ok (1,(s.drop i).take (bf0 (au0++al0) s i - i),0,bf0 (au0++al0) s i))
  else if al0.contains c then numR s i
  else if c=34 then jS0 s i
  else if cv0.contains ((s.drop i).take 2) then .ok (4,(s.drop i).take 2,0,i + 2)
  else if c60.contains c then .ok (4,[c],0,i + 1)
  else .bad i 30:=by
 unfold lm0
 rw [h]
 simp only [numR,h,Option.some.injEq]
 rfl
theorem sw0 {m l:Bs} (hm:m.length=2):m.isPrefixOf l=decide (l.take 2=m):=by
 rw [Bool.eq_iff_iff,decide_eq_true_eq,List.isPrefixOf_iff_prefix,List.prefix_iff_eq_take,hm]
 exact ⟨Eq.symm,Eq.symm⟩
theorem kR0:∀ m ∈ cv0,m.length=2:=by decide
set_option maxHeartbeats 1600000 in
theorem pI0 (x:LxS) (i:Nat) (hx:x.at_=i) (hi:i < x.s.size) (hs:x.s.size < 2 ^ 39) (ho:x.out.length<=4096) :
  J prog iE0 [.bp (.e 0) 0] x.obs (·=x.after (lm0 (sB x.s) i)):=by
 obtain ⟨s,a,out⟩:=x
 dsimp only at hx hi hs ho ⊢
 subst hx
 have hz:s.size=(sB s).length:=rfl
 have hget:(sB s)[i]?=some (sB s)[i]:=List.getElem?_eq_getElem (by omega)
 generalize hc:(sB s)[i]=c at *
 have hc':s.data[i]?=some c:=by simpa [sB] using hget
 refine at0 l00 (by simp [LxS.obs]) ?_
 have hone:=oI0 hget
 refine rS5 @ig0.eq_1 @LxS.obs.eq_1 @hpE.eq_1 @hpE.eq_2 hc' ?_
 refine ao0 ?_; simp; refine aj0 (aM0 ⟨⟨au0⟩⟩ c) (by simp) ?_
 rw [show sB ⟨⟨au0⟩⟩=au0 from rfl]
 have hm1:=cc0 au0 c
 by_cases h1:au0.contains c=true
 ·rw [if_pos h1] at hone
  have hI:=hm1.2 h1
  refine rS1 hI ?_
  refine aa0 [.e 0,.e 1] ?_
  simp
  have hO:=iN0 ⟨s,i,out⟩ ⟨⟨au0++al0⟩⟩ i rfl (by dsimp only; omega)
  try simp [LxS.obs,LxS.obs',Tok.ac0] at hO
  refine ab0 20 hO ?_
  rw [show sB ⟨⟨au0++al0⟩⟩=au0++al0 from rfl]
  have hge:=jt0 (au0++al0) (sB s) i
  have hle:bf0 (au0++al0) (sB s) i<=s.size:=ju0 (by omega)
  generalize hp:bf0 (au0++al0) (sB s) i=p at *
  by_cases h16:p - i > 16
  ·rw [if_pos h16] at hone
   rw [hone]
   have h16':(16:Int) < (p:Int) - i:=by omega
   refine rS1 h16' ?_
   refine aa0 [.e 0,.e 1] ?_
   simp
   have hO:=aU0 ⟨s,i,out⟩ i 3
   try simp [LxS.obs,LxS.obs',Tok.ac0] at hO
   refine af0 hO ?_
   refine rS0 ?_
   refine endP ?_
   exact rT3 @LxS.after.eq_1 @LxS.after.eq_2 @LxS.obs.eq_1
  ·rw [if_neg h16] at hone
   rw [hone]
   have h16':¬ (16:Int) < (p:Int) - i:=by omega
   refine rS1 h16' ?_
   by_cases hfull:4096<=out.length
   ·refine aa0 [.e 0,.e 1] ?_
    simp
    have hO:=dF0 ⟨s,i,out⟩ ⟨1,s.extract i p,0,0⟩ p hfull (by dsimp only; omega)
    try simp [LxS.obs,LxS.obs',Tok.ac0] at hO
    refine af0 hO ?_
    refine rS0 ?_
    refine endP ?_
    exact rT4 @LxS.after.eq_1 @LxS.after.eq_2 @LxS.obs.eq_1 hfull
   ·refine aa0 [.e 0,.e 1] ?_
    simp
    have hO:=eH0 ⟨s,i,out⟩ ⟨1,s.extract i p,0,0⟩ p (by dsimp only; omega)
    try simp [LxS.obs,LxS.obs',Tok.ac0] at hO
    refine ab0 47 hO ?_
    refine rS0 ?_
    refine ax0 [.l 47 0] ?_
    have hx:bS (((sB s).drop i).take (p - i))=s.extract i p:=by rw [<- dP0]
    exact rT6 @LxS.after.eq_1 @LxS.after.eq_2 @LxS.obs'.eq_1 hfull @Tok.ac0 hx
 rw [if_neg h1] at hone
 have hI:¬ 0<=Lib.indexByte au0 c:=fun h=>h1 (hm1.1 h)
 refine rS1 hI ?_
 refine ao0 ?_; simp; refine aj0 (aM0 ⟨⟨al0⟩⟩ c) (by simp) ?_
 rw [show sB ⟨⟨al0⟩⟩=al0 from rfl]
 have hm2:=cc0 al0 c
 by_cases h2:al0.contains c=true
 ·rw [if_pos h2] at hone
  have hI2:=hm2.2 h2
  have hJ:=mS0 ⟨s,i,out⟩ i rfl hi (by dsimp only; omega) ho
  rw [hone]
  dsimp only at hJ
  rcases LxS.mq0 ⟨s,i,out⟩ (numR (sB s) i) with ⟨a,e,hR⟩ | ⟨y,hR⟩
  ·rw [hR] at hJ ⊢
   refine rS1 hI2 ?_
   refine aa0 [.e 0,.e 1] ?_
   simp
   have hO:=hJ
   try simp [LxS.obs,LxS.obs',Tok.ac0] at hO
   refine af0 hO ?_
   refine rS0 ?_
   refine endP ?_
   exact rT1 @LxS.obs.eq_1
  ·rw [hR] at hJ ⊢
   refine rS1 hI2 ?_
   refine aa0 [.e 0,.e 1] ?_
   simp
   have hO:=hJ
   try simp [LxS.obs,LxS.obs',Tok.ac0] at hO
   refine ab0 53 hO ?_
   refine rS0 ?_
   refine ax0 [.l 53 0] ?_
   exact rT1 @LxS.obs'.eq_1
 rw [if_neg h2] at hone
 have hI2:¬ 0<=Lib.indexByte al0 c:=fun h=>h2 (hm2.1 h)
 by_cases h3:c=34
 ·subst h3
  rw [if_pos rfl] at hone
  have hJ:=oG0 ⟨s,i,out⟩ i rfl hi hs ho
  rw [hone]
  dsimp only at hJ
  rcases LxS.mq0 ⟨s,i,out⟩ (jS0 (sB s) i) with ⟨a,e,hR⟩ | ⟨y,hR⟩
  ·rw [hR] at hJ
   rw [hR]
   refine rS1 hI2 ?_
   refine aa0 [.e 0,.e 1] ?_
   simp
   have hO:=hJ
   try simp [LxS.obs,LxS.obs',Tok.ac0] at hO
   refine af0 hO ?_
   refine rS0 ?_
   refine endP ?_
   exact rT1 @LxS.obs.eq_1
  ·rw [hR] at hJ
   rw [hR]
   refine rS1 hI2 ?_
   refine aa0 [.e 0,.e 1] ?_
   simp
   have hO:=hJ
   try simp [LxS.obs,LxS.obs',Tok.ac0] at hO
   refine ab0 58 hO ?_
   refine rS0 ?_
   refine ax0 [.l 58 0] ?_
   exact rT1 @LxS.obs'.eq_1
 rw [if_neg h3] at hone
 have n34:¬ (c.toNat:Int)=34:=fun h=>h3 (UInt8.toNat_inj.1 (by exact_mod_cast h))
 refine rS2 hI2 n34 ?_
 refine ao0 ?_; simp; refine aj0 (l20) (by simp) ?_
 refine rS0 ?_
 have hgo:∀ (k:Nat),k < 6->∃ m,cv0[k]?=some m/\m.length=2:=fun k hk =>
  ⟨cv0[k]'hk,List.getElem?_eq_getElem hk,kR0 _ (List.getElem_mem _)⟩
 refine aH0 (fun y:Nat=>6 - y) (fun y=>[(61,vI y),(60,vI 6),(59,.lst (cv0.map fun m=>[vS (bS m)])),(2,vU c),(0,.bp (.e 0) 0)])
  (fun _=>[(.e 0,.box [vS s,vI i,.arr (.e 1) 0 out.length]),(.e 1,.row bZ0 4 true (out.map Tok.cells))])
  (fun y=>y<=6/\∀ k,k < y->∀ m,cv0[k]?=some m->((sB s).drop i).take 2 ≠ m) 0 ⟨by omega,fun k hk=>by omega⟩ (Wk.subs (by simp [cv0]) (by simp)) ?_
 rintro k ⟨hk6,hno⟩
 by_cases hk:k < 6
 ·obtain ⟨m,hm,hm2⟩:=hgo k hk
  have hml:(List.map (fun m=>[vS (bS m)]) cv0)[k]?=some [vS (bS m)]:=by rw [List.getElem?_map,hm]; rfl
  have hk':(k:Int) < 6:=by omega
  refine rS1 hk' ?_
  rw [aO0 hml]
  refine rS0 ?_
  have hpre:(sB (bS m)).isPrefixOf (sB (s.extract i s.size))=decide (((sB s).drop i).take 2=m):=by
   have hdl:((sB s).drop i).take (s.size - i)=(sB s).drop i:=List.take_of_length_le (by simp)
   rw [dP0,hdl,show sB (bS m)=m from rfl,sw0 hm2]
  refine ao0 ?_; simp; refine aj0 (it0 (s.extract i s.size) (bS m)) (by simp) ?_
  rw [hpre]
  by_cases he:((sB s).drop i).take 2=m
  ·have hcon:cv0.contains (((sB s).drop i).take 2)=true:=by
    rw [he]; exact List.contains_iff_mem.2 (List.mem_of_getElem? hm)
   rw [if_pos hcon,he] at hone
   rw [hone]
   refine rS1 he ?_
   by_cases hfull:4096<=out.length
   ·refine aa0 [.e 0,.e 1] ?_
    simp
    have hO:=dF0 ⟨s,i,out⟩ ⟨4,bS m,0,0⟩ (i + 2) hfull (by dsimp only; omega)
    try simp [LxS.obs,LxS.obs',Tok.ac0] at hO
    refine af0 hO ?_
    refine rS0 ?_
    refine endP ?_
    exact rT4 @LxS.after.eq_1 @LxS.after.eq_2 @LxS.obs.eq_1 hfull
   ·refine aa0 [.e 0,.e 1] ?_
    simp
    have hO:=eH0 ⟨s,i,out⟩ ⟨4,bS m,0,0⟩ (i + 2) (by dsimp only; omega)
    try simp [LxS.obs,LxS.obs',Tok.ac0] at hO
    refine ab0 84 hO ?_
    refine rS0 ?_
    refine ax0 [.l 84 0] ?_
    exact rT5 @LxS.after.eq_1 @LxS.after.eq_2 @LxS.obs'.eq_1 hfull @Tok.ac0
  ·refine rS1 he ?_
   refine .of (k + 1) ⟨by omega,fun q hq m' hm'=>?_⟩ (by omega) (Wk.subs (by simp) (by simp))
   rcases Nat.lt_or_ge q k with h | h
   ·exact hno q h m' hm'
   ·have:q=k:=by omega
    subst this
    rw [hm] at hm'; injection hm' with hm'; subst hm'; exact he
 ·have hcon:cv0.contains (((sB s).drop i).take 2)=false:=by
   rw [<- Bool.not_eq_true,List.contains_iff_mem]
   intro h
   obtain ⟨q,hq,hq2⟩:=List.getElem_of_mem h
   have hq6:q < 6:=hq
   exact hno q (by omega) _ (List.getElem?_eq_getElem hq) hq2.symm
  have hk':¬ (k:Int) < 6:=by omega
  rw [if_neg (by rw [hcon]; simp)] at hone
  refine rS1 hk' ?_
  refine ao0 ?_; simp; refine aj0 (aM0 ⟨⟨c60⟩⟩ c) (by simp) ?_
  rw [show sB ⟨⟨c60⟩⟩=c60 from rfl]
  have hm3:=cc0 c60 c
  by_cases h4:c60.contains c=true
  ·rw [if_pos h4] at hone
   rw [hone]
   have hI4:¬ Lib.indexByte c60 c < 0:=by have:=hm3.2 h4; omega
   have hc128:(c.toNat:Int) < 128:=by
    simp [c60] at h4
    rcases h4 with h | h | h | h | h | h | h | h | h | h | h | h | h | h | h | h | h | h | h <;> subst h <;> decide
   have hchr:chr (c.toNat:Int)=bS [c]:=by simp [chr]
   refine rS3 hI4 hc128 hchr ?_
   by_cases hfull:4096<=out.length
   ·refine aa0 [.e 0,.e 1] ?_
    simp
    have hO:=dF0 ⟨s,i,out⟩ ⟨4,bS [c],0,0⟩ (i + 1) hfull (by dsimp only; omega)
    try simp [LxS.obs,LxS.obs',Tok.ac0] at hO
    refine af0 hO ?_
    refine rS0 ?_
    refine endP ?_
    exact rT4 @LxS.after.eq_1 @LxS.after.eq_2 @LxS.obs.eq_1 hfull
   ·refine aa0 [.e 0,.e 1] ?_
    simp
    have hO:=eH0 ⟨s,i,out⟩ ⟨4,bS [c],0,0⟩ (i + 1) (by dsimp only; omega)
    try simp [LxS.obs,LxS.obs',Tok.ac0] at hO
    refine ab0 104 hO ?_
    refine rS0 ?_
    refine b10 [.l 104 0] ?_
    exact rT5 @LxS.after.eq_1 @LxS.after.eq_2 @LxS.obs'.eq_1 hfull @Tok.ac0
  ·rw [if_neg h4] at hone
   rw [hone]
   have hI4:Lib.indexByte c60 c < 0:=by
    have:¬ 0<=Lib.indexByte c60 c:=fun h=>h4 (hm3.1 h)
    omega
   refine rS1 hI4 ?_
   refine aa0 [.e 0,.e 1] ?_
   simp
   have hO:=aU0 ⟨s,i,out⟩ i 30
   try simp [LxS.obs,LxS.obs',Tok.ac0] at hO
   refine af0 hO ?_
   refine rS0 ?_
   refine endP ?_
   exact rT3 @LxS.after.eq_1 @LxS.after.eq_2 @LxS.obs.eq_1
attribute [local irreducible] vcF dfrS dEnd kC0 dJ JD
def LxS.obs0 (x:LxS):List Ob:=[.box [vS x.s,vI x.at_,.nil]]
theorem qF0 (x:LxS) (set:ByteArray) (i:Nat) (hx:x.at_=i) (hs:x.s.size < 2 ^ 40) :
  J prog fZ0 [.bp (.e 0) 0,vS set] x.obs0 (·=.ret (vI (bf0 (sB set) (sB x.s) i)) x.obs0):=by
 have hz:x.s.size=(sB x.s).length:=rfl
 refine at0 il0 (by simp [LxS.obs0]) ?_
 refine rS5 @fc0.eq_1 @LxS.obs0.eq_1 @hpE.eq_1 @hpE.eq_2 hx ?_
 refine aH0 (fun j:Nat=>x.s.size - j) (fun j=>[(5,vI j),(1,vS set),(0,.bp (.e 0) 0)])
  (fun _=>[(.e 0,.box [vS x.s,vI x.at_,.nil])])
  (fun j=>bf0 (sB set) (sB x.s) j=bf0 (sB set) (sB x.s) i) i rfl (Wk.subs (by simp) (by simp [hx])) ?_
 intro j hj
 refine rS0 ?_
 refine ⟨fun hl=>?_,fun hl=>?_⟩
 ·have hl':j < (sB x.s).length:=by rw [<- hz]; exact hl
  refine ⟨(sB x.s)[j],by simp [sB],?_⟩
  refine ao0 ?_; simp; refine aj0 (aM0 set (sB x.s)[j]) (by simp) ?_
  refine rS0 ?_
  refine ⟨fun hc=>?_,fun hc=>?_⟩
  ·have hm:=(cc0 _ _).1 hc
   refine .of (j + 1) (by rw [<- hj,oY0 hl' hm]) (by omega) (Wk.subs (by simp) (by simp [hx]))
  ·have hm:(sB set).contains (sB x.s)[j]=false:=by
    rw [<- Bool.not_eq_true]; intro h; exact hc ((cc0 _ _).2 h)
   rw [p60 hl' hm] at hj
   refine ax0 [] ?_
   exact rT2 hj hx
 ·rw [p50 (by omega)] at hj
  refine ax0 [] ?_
  exact rT2 hj hx
theorem oF0 (x:LxS) (i:Nat) (hx:x.at_=i) (hi:i<=x.s.size) (hs:x.s.size < 2 ^ 40) :
  J prog eA0 [.bp (.e 0) 0] x.obs0 (·=.ret (.tup []) ({ x with at_:=aR0 (sB x.s) (x.s.size + 1) i }:LxS).obs0):=by
 have hz:x.s.size=(sB x.s).length:=rfl
 refine at0 gN0 (by simp [LxS.obs0]) ?_
 refine rS4 @dU0.eq_1 @LxS.obs0.eq_1 @hpE.eq_1 @hpE.eq_2 ?_
 refine aH0 (fun y:Nat × Nat=>y.1) (fun y=>[(0,.bp (.e 0) 0)])
  (fun y=>[(.e 0,.box [vS x.s,vI y.2,.nil])])
  (fun y=>y.2<=x.s.size/\x.s.size - y.2 < y.1/\aR0 (sB x.s) y.1 y.2=aR0 (sB x.s) (x.s.size + 1) i) (x.s.size + 1,i) ⟨hi,by show x.s.size - i < x.s.size + 1; omega,rfl⟩ (Wk.subs (by simp) (by simp [hx])) ?_
 rintro ⟨f,j⟩ ⟨hj,hf,hb⟩
 dsimp only at hj hf hb
 obtain ⟨f,rfl⟩:∃ f',f=f' + 1:=⟨f - 1,by omega⟩
 have hge:=jt0 bd0 (sB x.s) j
 have hle:bf0 bd0 (sB x.s) j<=x.s.size:=ju0 hj
 refine rS0 ?_
 refine aa0 [.e 0] ?_
 simp
 have hO:=qF0 { x with at_:=j } ⟨⟨[32,10,9]⟩⟩ j rfl hs
 try simp [LxS.obs,LxS.obs',LxS.obs0,Tok.ac0] at hO
 refine ab0 5 hO ?_
 rw [show sB ⟨⟨[32,10,9]⟩⟩=bd0 from rfl]
 generalize hp:bf0 bd0 (sB x.s) j=p at *
 refine rS0 ?_
 refine ⟨fun hl=>?_,fun hl=>?_⟩
 ·rw [gE0 (by rw [hp,List.getElem?_eq_none (by omega)]; simp),hp] at hb
  refine ax0 [] ?_
  simp +contextual (maxSteps:=2000000) (disch:=omega) [-Int.not_lt,-Int.not_le,-Nat.not_lt,-Nat.not_le,sx,<- hb]
 have hl':p < (sB x.s).length:=by omega
 refine ⟨(sB x.s)[p],by simp [sB],fun hc=>?_,fun hc=>?_⟩
 ·rw [gE0 (by rw [hp,List.getElem?_eq_getElem hl']; intro h; apply hc; injection h with h; rw [h]; rfl),hp] at hb
  refine ax0 [] ?_
  simp +contextual (maxSteps:=2000000) (disch:=omega) [-Int.not_lt,-Int.not_le,-Nat.not_lt,-Nat.not_le,sx,<- hb]
 have hc':(sB x.s)[p]=35:=by
  apply UInt8.toNat_inj.1; exact_mod_cast hc
 refine ao0 ?_; simp; refine aj0 (aM0 (x.s.extract p x.s.size) 10) (by simp) ?_
 rw [dP0,List.take_of_length_le (by simp)]
 have hlt:=iL0 ((sB x.s).drop p) 10
 have h0:0 < (Lib.indexByte ((sB x.s).drop p) 10)\/(Lib.indexByte ((sB x.s).drop p) 10) < 0:=by
  rw [List.drop_eq_getElem_cons hl',hc']
  have hge:=Lib.indexByte_ge ((sB x.s).drop (p + 1)) 10
  unfold Lib.indexByte
  by_cases h5:Lib.indexByte ((sB x.s).drop (p + 1)) 10=-1
  ·rw [h5]; right; decide
  ·left
   have h6:(Lib.indexByte ((sB x.s).drop (p + 1)) 10 == -1)=false:=by simpa using h5
   rw [h6,show ((35:UInt8) == 10)=false from rfl]
   simp only [Bool.false_eq_true,if_false]; omega
 rw [lD0 (by rw [hp,List.getElem?_eq_getElem hl',hc']),hp] at hb
 generalize hq:Lib.indexByte ((sB x.s).drop p) 10=q at *
 simp only [List.length_drop] at hlt
 refine rS0 ?_
 refine ⟨fun hq0=>?_,fun hq0=>?_⟩
 ·obtain ⟨m,rfl⟩:=Int.eq_ofNat_of_zero_le hq0
  rw [if_neg (by omega)] at hb
  refine .of (f,p + m) ⟨by dsimp only; omega,by dsimp only; omega,hb⟩ (by simp) (Wk.subs (by simp) (by simp))
 ·rw [if_pos (by omega)] at hb
  refine .of (f,x.s.size) ⟨by dsimp only; omega,by dsimp only; omega,hb⟩ (by simp) (Wk.subs (by simp) (by simp))
theorem nf0 {i0:Nat}:∀ {l:Bs} {j:Nat} {acc t:Bs} {k:Nat},ic0 i0 l j acc=.ok (t,k)->j < k/\k<=j + l.length
 | [],j,acc,t,k,h=>by simp [ic0] at h
 | c :: l,j,acc,t,k,h=>by
  rw [ic0.eq_def] at h
  simp only at h
  split at h
  ·split at h
   ·cases h
   ·injection h with h; injection h with h1 h2; subst h2; simp only [List.length_cons]; omega
  split at h
  ·cases h
  split at h
  ·split at h
   ·cases h
   ·rename_i d l'
    split at h
    ·have:=nf0 h; simp only [List.length_cons]; omega
    ·cases h
  ·have:=nf0 h; simp only [List.length_cons]; omega
theorem pN0 {s:Bs} {i:Nat} {k:Int} {t:Bs} {n:Int} {j:Nat} (h:lm0 s i=.ok (k,t,n,j)):i < j/\j<=s.length:=by
 cases hg:s[i]? with
 | none=>unfold lm0 at h; rw [hg] at h; cases h
 | some c =>
 have hi:i < s.length:=(List.getElem?_eq_some_iff.1 hg).1
 have hc:s[i]=c:=(List.getElem?_eq_some_iff.1 hg).2
 rw [oI0 hg] at h
 have run:∀ set:Bs,set.contains c=true->i < bf0 set s i/\bf0 set s i<=s.length:=fun set hs=>by
  have h1:=oY0 (set:=set) hi (by rw [hc]; exact hs)
  have h2:=jt0 set s (i + 1)
  exact ⟨by omega,ju0 (by omega)⟩
 split at h
 ·rename_i h1
  split at h
  ·cases h
  ·injection h with h; simp only [Prod.mk.injEq] at h
   obtain ⟨_,_,_,rfl⟩:=h
   refine run _ ?_
   rw [List.contains_iff_mem,List.mem_append]
   exact .inl (List.contains_iff_mem.1 h1)
 split at h
 ·rename_i h1
  unfold numR at h
  split at h
  ·cases h
  ·split at h
   ·cases h
   ·injection h with h; simp only [Prod.mk.injEq] at h
    obtain ⟨_,_,_,rfl⟩:=h
    exact run _ h1
 split at h
 ·unfold jS0 at h
  split at h
  ·cases h
  ·rename_i t' j' ht
   injection h with h; simp only [Prod.mk.injEq] at h
   obtain ⟨_,_,_,rfl⟩:=h
   have:=nf0 ht
   simp only [List.length_drop] at this
   omega
 split at h
 ·rename_i h1
  injection h with h; simp only [Prod.mk.injEq] at h
  obtain ⟨_,_,_,rfl⟩:=h
  have:=kR0 _ (List.contains_iff_mem.1 h1)
  simp at this
  omega
 split at h
 ·injection h with h; simp only [Prod.mk.injEq] at h
  obtain ⟨_,_,_,rfl⟩:=h
  omega
 ·cases h
theorem ji0 (s:Bs):∀ (f i:Nat),i<=s.length->i<=aR0 s f i/\aR0 s f i<=s.length
 | 0,i,h=>⟨by simp [aR0],by simpa [aR0] using h⟩
 | f + 1,i,h=>by
  have h1:=jt0 bd0 s i
  have h2:=ju0 (set:=bd0) h
  rw [aR0]
  split
  ·have h4:=iL0 (s.drop (bf0 bd0 s i)) 10
   simp only [List.length_drop] at h4
   split
   ·have h3:=ji0 s f s.length (Nat.le_refl _); omega
   ·have h3:=ji0 s f (bf0 bd0 s i + (Lib.indexByte (s.drop (bf0 bd0 s i)) 10).toNat) (by omega); omega
  ·omega
def lexV:LxR (List Tok)->V
 | .ok ts=>.tup [.lst (ts.map Tok.cells),vI 0,vI 0]
 | .bad a e=>.tup [.lst [],vI a,vI e]
theorem nx0 (n:Nat) (a e:Int) (xs:List (List V)) :
  JD prog true kc0 [.bp (.e 0) 0,.bp (.e 1) 0,.bp (.e 2) 0] [.box [.arr (.e 3) 0 n],.box [vI a],.box [vI e],.row bZ0 4 true xs] none (·=.ret (.tup []) [.box [.arr (.e 3) 0 n],.box [vI a],.box [vI e],.row bZ0 4 true xs]):=by
 refine JR_of lP0 (by simp) (by simp) ?_
 refine rS5 @iw0.eq_1 @hpE.eq_1 @hpE.eq_2 @pvV.eq_1 @pvV.eq_2 ?_
 refine b10 [] ?_
 exact rT0
theorem g70 (a e:Int):JD prog true kc0 [.bp (.e 0) 0,.bp (.e 1) 0,.bp (.e 2) 0] [.box [.nil],.box [vI 0],.box [vI 0]] (some (q70 a e)) (·=.ret (.tup []) [.box [.nil],.box [vI a],.box [vI e]]):=by
 refine JR_of lP0 (by simp) (by simp) ?_
 refine rS5 @iw0.eq_1 @hpE.eq_1 @hpE.eq_2 @pvV.eq_1 @pvV.eq_2 ?_
 refine b10 [] ?_
 exact rT0
abbrev lexE (a b c:Id) (s:ByteArray):Env:=[(0,vS s),(2,.bp a 0),(3,.bp b 0),(4,.bp c 0)]
abbrev lexH (a b c:Id):Hp:=[(a,.box [.nil]),(b,.box [vI 0]),(c,.box [vI 0])]
theorem pM0 {s:Bs} {f i:Nat} {out:List Tok} (h:s.length<=aR0 s (s.length + 1) i) :
  jN0 s (f + 1) i out=if out.length>=4096 then .bad (aR0 s (s.length + 1) i) 36 else .ok (out++[⟨5,bS [],0,aR0 s (s.length + 1) i⟩]):=by
 rw [jN0,if_pos h]
theorem pL0 {s:Bs} {f i:Nat} {out:List Tok} (h:¬ s.length<=aR0 s (s.length + 1) i) {a e:Int} (h1:lm0 s (aR0 s (s.length + 1) i)=.bad a e):jN0 s (f + 1) i out=.bad a e:=by
 rw [jN0,if_neg h,h1]
theorem rh0 {s:Bs} {f i:Nat} {out:List Tok} (h:¬ s.length<=aR0 s (s.length + 1) i) {k:Int} {t:Bs} {n:Int} {j:Nat} (h1:lm0 s (aR0 s (s.length + 1) i)=.ok (k,t,n,j)) :
  jN0 s (f + 1) i out=if out.length>=4096 then .bad (aR0 s (s.length + 1) i) 36 else jN0 s f j (out++[⟨k,bS t,n,aR0 s (s.length + 1) i⟩]):=by
 rw [jN0,if_neg h,h1]
set_option maxHeartbeats 1600000 in
theorem pH0 (s:ByteArray) (hs:s.size < 2 ^ 39):Ret prog pq0 [vS s] (lexV (hJ0 (sB s))):=by
 have hz:s.size=(sB s).length:=rfl
 refine J_dfr true r40 (by simp) ?_
 by_cases hlong:16384 < s.size
 ·have hl:hJ0 (sB s)=.bad 16384 3:=by rw [hJ0,if_pos (by omega)]
  have hlong':(16384:Int) < s.size:=by omega
  rw [hl]
  refine rS6 @le0.eq_1 @fj0 @fi0 hlong' @hpE.eq_1 @hpE.eq_2 ?_
  refine ax0 [] ?_
  exact rT2 @lexV.eq_1 @lexV.eq_2
 have hl:hJ0 (sB s)=jN0 (sB s) (s.size + 1) 0 []:=by rw [hJ0,if_neg (by omega)]; rfl
 have hlong':¬ (16384:Int) < s.size:=by omega
 rw [hl]
 refine rS6 @le0.eq_1 @fj0 @fi0 hlong' @hpE.eq_1 @hpE.eq_2 ?_
 refine or0 rfl rfl (.trans (.ren (.l 2 0) 0 (by simp) (by simp) (E:=lexE (.e 0) (.l 3 0) (.l 4 0) s) (h:=lexH (.e 0) (.l 3 0) (.l 4 0)) (cs':=[.bp (.e 0) 0,.bp (.l 3 0) 0,.bp (.l 4 0) 0]) (by simp [renF]) (by simp [renF,bR0]) (by simp [renF]))
  (.trans (.ren (.l 3 0) 1 (by simp) (by simp) (E:=lexE (.e 0) (.e 1) (.l 4 0) s) (h:=lexH (.e 0) (.e 1) (.l 4 0)) (cs':=[.bp (.e 0) 0,.bp (.e 1) 0,.bp (.l 4 0) 0]) (by simp [renF]) (by simp [renF,bR0]) (by simp [renF]))
  (.ren (.l 4 0) 2 (by simp) (by simp) (E:=lexE (.e 0) (.e 1) (.e 2) s) (h:=lexH (.e 0) (.e 1) (.e 2)) (cs':=[.bp (.e 0) 0,.bp (.e 1) 0,.bp (.e 2) 0]) (by simp [renF]) (by simp [renF,bR0]) (by simp [renF])))) rfl ?_
 refine rS0 ?_
 refine aa0 [.l 12 0] ?_
 simp
 have hO:=oF0 ⟨s,0,[]⟩ 0 rfl (by simp) (by dsimp only; omega)
 try simp [LxS.obs,LxS.obs',LxS.obs0,Tok.ac0] at hO
 refine ab0 14 hO ?_
 refine rS0 ?_
 refine aH0 (fun y:Nat × Nat × List Tok=>y.1) (fun y=>[(5,.bp (.l 12 0) 0),(0,vS s),(2,.bp (.e 0) 0),(3,.bp (.e 1) 0),(4,.bp (.e 2) 0)])
  (fun y=>[(.l 12 0,.box [vS s,vI (aR0 (sB s) (s.size + 1) y.2.1),.arr (.l 999 0) 0 y.2.2.length]),(.l 999 0,.row bZ0 4 true (y.2.2.map Tok.cells)),(.e 0,.box [.nil]),(.e 1,.box [vI 0]),(.e 2,.box [vI 0])])
  (fun y=>y.2.1<=s.size/\s.size - y.2.1 < y.1/\y.2.2.length<=4096/\jN0 (sB s) y.1 y.2.1 y.2.2=jN0 (sB s) (s.size + 1) 0 []) (s.size + 1,0,[])
  ⟨by simp,by simp,by simp,rfl⟩ (Wk.trans (Wk.subs (by simp) (by simp)) (Wk.rowB (b:=.l 12 0) (id:=.l 999 0) (off:=2) (ty:=bZ0) (sz:=4) rfl rfl (by simp) (by simp))) ?_
 rintro ⟨f,i,out⟩ ⟨hi,hf,ho,hv⟩
 dsimp only at hi hf ho hv
 obtain ⟨f,rfl⟩:∃ f',f=f' + 1:=⟨f - 1,by omega⟩
 have hb:=ji0 (sB s) (s.size + 1) i (by omega)
 rw [<- hz] at hb
 generalize hB:aR0 (sB s) (s.size + 1) i=b at *
 by_cases hbl:b < s.size
 ·have hbl':(b:Int) < s.size:=by omega
  have hno:¬ (sB s).length<=aR0 (sB s) ((sB s).length + 1) i:=by rw [<- hz,hB]; omega
  have hJ:=pI0 ⟨s,b,out⟩ b rfl hbl hs ho
  dsimp only at hJ
  cases hR:lm0 (sB s) b with
  | bad a e =>
   rw [hR] at hJ
   rw [pL0 hno (by rw [<- hz,hB]; exact hR)] at hv
   rw [<- hv]
   simp only [LxS.after] at hJ
   refine rS1 hbl' ?_
   refine aa0 [.l 12 0,.l 999 0] ?_
   simp
   have hO:=hJ
   try simp [LxS.obs,LxS.obs',LxS.obs0,Tok.ac0] at hO
   refine af0 hO ?_
   refine rS0 ?_
   refine mb0 (by simp) _ _ (Wk.refl _ _) (dZ0 [.e 0,.e 1,.e 2] (by simp) ?_)
   simp
   refine lJ0 (g70 a e) (by simp) ?_
   simp
   refine ax0 [] ?_
   simp +contextual (maxSteps:=2000000) (disch:=omega) [-Int.not_lt,-Int.not_le,-Nat.not_lt,-Nat.not_le,sx,lexV,stab,V.allE,V.kz0,lexE,List.filter_cons,Id.isE]
  | ok q =>
   obtain ⟨k,t,n,j⟩:=q
   have hadv:=pN0 hR
   rw [hR] at hJ
   rw [rh0 hno (by rw [<- hz,hB]; exact hR),<- hz,hB] at hv
   by_cases hfull:4096<=out.length
   ·rw [if_pos hfull] at hv
    rw [<- hv]
    simp only [LxS.after,if_pos hfull] at hJ
    refine rS1 hbl' ?_
    refine aa0 [.l 12 0,.l 999 0] ?_
    simp
    have hO:=hJ
    try simp [LxS.obs,LxS.obs',LxS.obs0,Tok.ac0] at hO
    refine af0 hO ?_
    refine rS0 ?_
    refine mb0 (by simp) _ _ (Wk.refl _ _) (dZ0 [.e 0,.e 1,.e 2] (by simp) ?_)
    simp
    refine lJ0 (g70 b 36) (by simp) ?_
    simp
    refine ax0 [] ?_
    simp +contextual (maxSteps:=2000000) (disch:=omega) [-Int.not_lt,-Int.not_le,-Nat.not_lt,-Nat.not_le,sx,lexV,stab,V.allE,V.kz0,lexE,List.filter_cons,Id.isE]
   ·rw [if_neg (by omega)] at hv
    simp only [LxS.after,if_neg hfull] at hJ
    refine rS1 hbl' ?_
    refine aa0 [.l 12 0,.l 999 0] ?_
    simp
    have hO:=hJ
    try simp [LxS.obs,LxS.obs',LxS.obs0,Tok.ac0] at hO
    refine ab0 25 hO ?_
    refine rS0 ?_
    refine aa0 [.l 12 0,.l 25 0] ?_
    simp
    have hO:=nA0 ⟨s,j,out++[⟨k,bS t,n,b⟩]⟩ j rfl (by dsimp only; omega) (by dsimp only; omega)
    try simp [LxS.obs,LxS.obs',LxS.obs0,Tok.ac0] at hO
    refine ab0 23 hO ?_
    refine rS0 ?_
    refine .of (f,j,out++[⟨k,bS t,n,b⟩]) ⟨by dsimp only; omega,by dsimp only; omega,by simp; omega,hv⟩ (by dsimp only; omega) (Wk.rens (.l 25 0) (.l 999 0) rfl (by simp) (by simp [renF]) (by simp [renF,bR0,Tok.ac0]))
 ·have hbl':¬ (b:Int) < s.size:=by omega
  have hyes:(sB s).length<=aR0 (sB s) ((sB s).length + 1) i:=by rw [<- hz,hB]; omega
  rw [pM0 hyes,<- hz,hB] at hv
  refine rS1 hbl' ?_
  by_cases hfull:4096<=out.length
  ·rw [if_pos hfull] at hv
   rw [<- hv]
   refine aa0 [.l 12 0,.l 999 0] ?_
   simp
   have hO:=dF0 ⟨s,b,out⟩ ⟨5,bS [],0,0⟩ b hfull (by dsimp only; omega)
   try simp [LxS.obs,LxS.obs',LxS.obs0,Tok.ac0] at hO
   refine af0 hO ?_
   refine rS0 ?_
   refine mb0 (by simp) _ _ (Wk.refl _ _) (dZ0 [.e 0,.e 1,.e 2] (by simp) ?_)
   simp
   refine lJ0 (g70 b 36) (by simp) ?_
   simp
   refine ax0 [] ?_
   simp +contextual (maxSteps:=2000000) (disch:=omega) [-Int.not_lt,-Int.not_le,-Nat.not_lt,-Nat.not_le,sx,lexV,stab,V.allE,V.kz0,lexE,List.filter_cons,Id.isE]
  ·rw [if_neg hfull] at hv
   rw [<- hv]
   refine aa0 [.l 12 0,.l 999 0] ?_
   simp
   have hO:=eH0 ⟨s,b,out⟩ ⟨5,bS [],0,0⟩ b (by dsimp only; omega)
   try simp [LxS.obs,LxS.obs',LxS.obs0,Tok.ac0] at hO
   refine ab0 32 hO ?_
   refine rS0 ?_
   refine mc0 _ _ (Wk.refl _ _) (dZ0 [.e 0,.e 1,.e 2,.l 32 0] (by simp) ?_)
   simp
   refine lJ0 (nx0 (out.length + 1) 0 0 _) (by simp) ?_
   simp
   refine ax0 [] ?_
   exact rT3 @lexV.eq_1 @lexV.eq_2 @Tok.ac0
def nK0:LxR (List Tok)->Prop
 | .ok ts=>∃ o b,ts=o++[⟨5,bS [],0,b⟩]/\o.length < 4096
 | .bad _ e=>e ≠ 0/\e ≠ -1
theorem ng0 {i0:Nat}:∀ {l:Bs} {j:Nat} {acc:Bs} {a e:Int},ic0 i0 l j acc=.bad a e->e ≠ 0/\e ≠ -1
 | [],j,acc,a,e,h=>by simp [ic0] at h; omega
 | c :: l,j,acc,a,e,h=>by
  rw [ic0.eq_def] at h
  simp only at h
  split at h
  ·split at h
   ·injection h with h1 h2; omega
   ·cases h
  split at h
  ·injection h with h1 h2; omega
  split at h
  ·split at h
   ·injection h with h1 h2; omega
   ·split at h
    ·exact ng0 h
    ·injection h with h1 h2; omega
  ·exact ng0 h
theorem lxOne_bad {s:Bs} {i:Nat} (hi:i < s.length) {a e:Int} (h:lm0 s i=.bad a e):e ≠ 0/\e ≠ -1:=by
 rw [oI0 (List.getElem?_eq_getElem hi)] at h
 split at h
 ·split at h
  ·injection h with h1 h2; omega
  ·cases h
 split at h
 ·unfold numR at h
  split at h
  ·injection h with h1 h2; omega
  ·split at h
   ·injection h with h1 h2; omega
   ·cases h
 split at h
 ·unfold jS0 at h
  split at h
  ·rename_i ht; injection h with h1 h2; subst h2; exact ng0 ht
  ·cases h
 split at h
 ·cases h
 split at h
 ·cases h
 ·injection h with h1 h2; omega
theorem nU0 {s:Bs}:∀ (f i:Nat) (out:List Tok),i<=s.length->s.length - i < f->out.length<=4096->nK0 (jN0 s f i out)
 | 0,i,out,_,h,_=>by omega
 | f + 1,i,out,hi,hf,ho=>by
  have hb:=ji0 s (s.length + 1) i hi
  by_cases h:s.length<=aR0 s (s.length + 1) i
  ·rw [pM0 h]
   split
   ·exact ⟨by decide,by decide⟩
   ·exact ⟨out,_,rfl,by omega⟩
  ·cases h1:lm0 s (aR0 s (s.length + 1) i) with
   | bad a e=>rw [pL0 h h1]; exact lxOne_bad (by omega) h1
   | ok q =>
    obtain ⟨k,t,n,j⟩:=q
    have:=pN0 h1
    rw [rh0 h h1]
    split
    ·exact ⟨by decide,by decide⟩
    ·exact nU0 f j _ (by omega) (by omega) (by simp; omega)
theorem kk0 (s:Bs):nK0 (hJ0 s):=by
 unfold hJ0
 split
 ·exact ⟨by decide,by decide⟩
 ·exact nU0 _ _ _ (by omega) (by omega) (by simp)
theorem nK0.tend {o:List Tok} {b:Int}:TEnd (o++[⟨5,bS [],0,b⟩]):=by
 intro n hn hk
 have h1:n < o.length + 1:=by simpa using hn
 rcases Nat.lt_or_ge n o.length with h | h
 ·simp; omega
 ·exfalso
  have:n=o.length:=by omega
  subst this
  apply hk
  unfold tk
  rw [List.getD_eq_getElem?_getD,List.getElem?_append_right (Nat.le_refl _)]
  simp
def iT0:LxR Prg->V
 | .ok p=>.tup [.agg p.cells,vI 0,vI 0]
 | .bad a e=>.tup [.agg [vI 0,.lst [],.lst []],vI a,vI e]
theorem kX0 (p:Prg) (a e:Int) :
  JD prog true f00 [.bp (.e 0) 0,.bp (.e 1) 0,.bp (.e 2) 0] [.box p.cells,.box [vI a],.box [vI e]] none (·=.ret (.tup []) [.box p.cells,.box [vI a],.box [vI e]]):=by
 refine JR_of im0 (by simp) (by simp) ?_
 refine rS5 @fd0.eq_1 @hpE.eq_1 @hpE.eq_2 @pvV.eq_1 @pvV.eq_2 ?_
 refine b10 [] ?_
 exact rT0
theorem kY0 (a e:Int):JD prog true f00 [.bp (.e 0) 0,.bp (.e 1) 0,.bp (.e 2) 0] [.box [vI 0,.nil,.nil],.box [vI 0],.box [vI 0]] (some (.ifc k60 (.agg [vI a,vI e]))) (·=.ret (.tup []) [.box [vI 0,.nil,.nil],.box [vI a],.box [vI e]]):=by
 refine JR_of im0 (by simp) (by simp) ?_
 refine rS5 @fd0.eq_1 @hpE.eq_1 @hpE.eq_2 @pvV.eq_1 @pvV.eq_2 ?_
 refine b10 [] ?_
 exact rT0
@[simp] theorem lexV_pure (R:LxR (List Tok)):(lexV R).pure=true:=by cases R <;> simp [lexV]
abbrev prsE (a b c:Id) (ts:List Tok):Env:=[(5,.lst (ts.map Tok.cells)),(2,.bp a 0),(3,.bp b 0),(4,.bp c 0)]
abbrev prsH (a b c:Id):Hp:=[(a,.box [vI 0,.nil,.nil]),(b,.box [vI 0]),(c,.box [vI 0])]
theorem in0 (s:ByteArray) (hs:s.size < 2 ^ 39) (F:Nat) (hlive:(iS0 (sB s) F).live):Ret prog hX0 [vS s] (iT0 (iS0 (sB s) F)):=by
 generalize hw:iS0 (sB s) F=R at *
 unfold iS0 at hw
 have hgood:=kk0 (sB s)
 refine J_dfr true nv0 (by simp) ?_
 refine rS5 @j00.eq_1 @fj0 @fi0 @hpE.eq_1 @hpE.eq_2 ?_
 refine ao0 ?_; simp; refine aj0 (pH0 s hs) (by simp) ?_
 cases hx:hJ0 (sB s) with
 | bad a e =>
  rw [hx] at hw hgood
  simp only at hw
  subst hw
  have he:¬ e=0:=hgood.1
  refine rS5 @lexV.eq_1 @lexV.eq_2 he @fj0 @fi0 ?_
  refine ax0 [] ?_
  exact rT2 @iT0.eq_1 @iT0.eq_2
 | ok ts =>
 rw [hx] at hw hgood
 simp only at hw
 obtain ⟨o,b,rfl,ho⟩:=hgood
 have hE:TEnd (o++[⟨5,bS [],0,b⟩]):=nK0.tend
 have hn:0 < (o++[(⟨5,bS [],0,b⟩:Tok)]).length:=by simp
 have hl:(o++[(⟨5,bS [],0,b⟩:Tok)]).length < 2 ^ 40:=by simp; omega
 generalize o++[(⟨5,bS [],0,b⟩:Tok)]=ts at *
 have hlv:(ls0 ts F).live:=by
  cases hp:ls0 ts F with
  | ok q=>trivial
  | bad n e=>rw [hp] at hw; subst hw; exact hlive
 have hJ:=k20 hE hl F hn hlv
 refine rS4 @lexV.eq_1 @lexV.eq_2 @fj0 @fi0 ?_
 refine or0 rfl rfl (.trans (.ren (.l 2 0) 0 (by simp) (by simp) (E:=prsE (.e 0) (.l 3 0) (.l 4 0) ts) (h:=prsH (.e 0) (.l 3 0) (.l 4 0)) (cs':=[.bp (.e 0) 0,.bp (.l 3 0) 0,.bp (.l 4 0) 0]) (by simp [renF]) (by simp [renF,bR0]) (by simp [renF]))
  (.trans (.ren (.l 3 0) 1 (by simp) (by simp) (E:=prsE (.e 0) (.e 1) (.l 4 0) ts) (h:=prsH (.e 0) (.e 1) (.l 4 0)) (cs':=[.bp (.e 0) 0,.bp (.e 1) 0,.bp (.l 4 0) 0]) (by simp [renF]) (by simp [renF,bR0]) (by simp [renF]))
  (.ren (.l 4 0) 2 (by simp) (by simp) (E:=prsE (.e 0) (.e 1) (.e 2) ts) (h:=prsH (.e 0) (.e 1) (.e 2)) (cs':=[.bp (.e 0) 0,.bp (.e 1) 0,.bp (.e 2) 0]) (by simp [renF]) (by simp [renF,bR0]) (by simp [renF])))) rfl ?_
 refine rS0 ?_
 rcases hp:ls0 ts F with ⟨p,m⟩ | ⟨a,e⟩
 ·rw [hp] at hJ hw
  simp only [pAns] at hJ hw
  subst hw
  refine aa0 [.l 21 0] ?_
  simp
  have hO:=hJ
  try simp [pObs] at hO
  refine ab0 23 hO ?_
  refine rS0 ?_
  refine mc0 _ _ (Wk.refl _ _) (dZ0 [.e 0,.e 1,.e 2] (by simp) ?_)
  simp
  refine lJ0 (kX0 p 0 0) (by simp) ?_
  simp
  refine ax0 [] ?_
  exact rT2 @iT0.eq_1 @iT0.eq_2
 ·rw [hp] at hJ hw
  simp only [pAns] at hJ hw
  subst hw
  refine aa0 [.l 21 0] ?_
  simp
  have hO:=hJ
  try simp [pObs] at hO
  refine af0 hO ?_
  refine rS0 ?_
  refine mb0 (by simp) _ _ (Wk.refl _ _) (dZ0 [.e 0,.e 1,.e 2] (by simp) ?_)
  simp
  refine lJ0 (kY0 _ _) (by simp) ?_
  simp
  refine ax0 [] ?_
  simp +contextual (maxSteps:=2000000) (disch:=omega) [-Int.not_lt,-Int.not_le,-Nat.not_lt,-Nat.not_le,sx,iT0,stab,V.allE,V.kz0,prsE,List.filter_cons,Id.isE]
@[simp] theorem elemK_c0 {e:List V} {l:List (List V)} {K:List V->Prop}:fW0 (e :: l) 0 K=K e:=aO0 rfl
@[simp] theorem elemK_c1 {e e':List V} {l:List (List V)} {K:List V->Prop}:fW0 (e :: e' :: l) 1 K=K e':=aO0 rfl
theorem list_spec (xs:List Exq) (ts:List Bs) (hlen:ts.length=xs.length) (hx:xs.length < 2 ^ 30) (h:∀ i (hi:i < xs.length),db0 xs[i] (ts[i]'(by omega))) (bs:Bs) (hl:bs.length + (sepB ts).length < 2 ^ 40) :
  J prog gi0 [.bp (.e 0) 0,.lst (xs.map Exq.cells)] (ae0 69 bs) (·=.ret (.tup []) (ad0 69 (bs++sepB ts))):=by
 unfold sepB at *
 generalize hM:(ts.mapIdx fun i t=>(if i=0 then [] else [44,32])++t)=M at *
 have hMl:M.length=xs.length:=by rw [<- hM]; simp [hlen]
 have hMg:∀ i (hi:i < xs.length),M[i]'(by omega)=(if i=0 then [] else [44,32])++ts[i]'(by omega):=fun i hi=>by simp [<- hM]
 rw [<- b90,hMl] at hl ⊢
 refine at0 jJ0 (by simp [ae0]) ?_
 refine rS4 @ft0.eq_1 @ae0.eq_1 @hpE.eq_1 @hpE.eq_2 ?_
 refine bm0 xs.length (fun i=>[(8,vI i),(7,vI xs.length),(6,.lst (xs.map Exq.cells)),(0,.bp (.e 0) 0)])
  (fun i=>[(.e 0,.box [.self (.e 0) 69,.arr (.l 999 0) 0 (bs++aY0 M i).length]),(.l 999 0,.row 5 1 true ((bs++aY0 M i).map an0))])
  (Wk.rens (.e 1) (.l 999 0) rfl (by simp) (by simp [renF,bi0]) (by simp [renF,bR0,bi0])) ?_
 intro i hi
 by_cases hlt:i < xs.length
 ·have hlt':(i:Int) < xs.length:=by omega
  have hle:=h20 M (i + 1)
  rw [<- b90,hMl] at hle
  have hsucc:=eC0 (L:=M) (i:=i) (by omega)
  rw [hMg i hlt] at hsucc
  have hP:=h i hlt
  by_cases h0:i=0
  ·subst h0
   rw [if_pos rfl,List.nil_append,bi0,List.nil_append] at hsucc
   rw [hsucc] at hle
   refine rS1 hlt' ?_
   refine aa0 [.e 0,.l 999 0] ?_
   simp
   have hO:=hP (bs++aY0 M 0) (by rw [bi0,List.append_nil]; omega)
   try simp [ae0,ad0] at hO
   refine ab0 20 hO ?_
   refine rS0 ?_
   refine .of hlt (Wk.rens (.l 20 0) (.l 999 0) rfl (by simp) (by simp [renF,hsucc,bi0]) (by simp [renF,bR0,hsucc,bi0]))
  ·rw [if_neg h0] at hsucc
   rw [hsucc] at hle
   simp only [List.length_append,List.length_cons,List.length_nil] at hle
   have h0':(0:Int) < i:=by omega
   refine rS2 hlt' h0' ?_
   refine aa0 [.e 0,.l 999 0] ?_
   simp
   have hO:=as0 (bs++aY0 M i) [[44,32]] (by simp; omega) (by simp)
   try simp [ae0,ad0] at hO
   refine ab0 17 hO ?_
   refine rS0 ?_
   refine aa0 [.e 0,.l 17 0] ?_
   simp
   have hO:=hP (bs++aY0 M i++[44,32]) (by simp; omega)
   try simp [ae0,ad0] at hO
   refine ab0 20 hO ?_
   refine rS0 ?_
   refine .of hlt (Wk.rens (.l 20 0) (.l 999 0) rfl (by simp) (by simp [renF,hsucc]) (by simp [renF,bR0,hsucc]))
 ·have hge':¬ (i:Int) < xs.length:=by omega
  have:i=xs.length:=by omega
  subst this
  refine rS1 hge' ?_
  refine b10 [.l 999 0] ?_
  exact rT1 @ad0.eq_1
theorem lz0:∀ {l:List Exq} {ts:List Bs},shL l=some ts->ts.length=l.length/\∀ i (hi:i < l.length) (hi2:i < ts.length),shE l[i]=some ts[i]
 | [],ts,h=>by simp [shL] at h; subst h; exact ⟨rfl,fun i hi=>by simp at hi⟩
 | x :: l,ts,h=>by
  rw [shL] at h
  split at h
  ·rename_i a b h1 h2
   injection h with h; subst h
   obtain ⟨g1,g2⟩:=lz0 h2
   refine ⟨by simp [g1],fun i hi hi2=>?_⟩
   cases i with
   | zero=>exact h1
   | succ i=>exact g2 i (by simpa using hi) (by simpa using hi2)
  ·cases h
theorem qN0:∀ {l:List Exq},plL l=true->∀ x ∈ l,plE x=true
 | [],_,x,hx=>by simp at hx
 | y :: l,h,x,hx=>by
  rw [plL,Bool.and_eq_true] at h
  rcases List.mem_cons.1 hx with rfl | hx
  ·exact h.1
  ·exact qN0 h.2 x hx
theorem pT0 {s:Bs} (h:cS0 s=true):s.length<=16:=by
 unfold cS0 at h
 simp only [Bool.and_eq_true,decide_eq_true_eq] at h
 exact h.1.1.1.2
theorem g80 {s:Bs} (h:cS0 s=true):J prog eB0 [vS (bS s)] [] (·=.ret (vS (bS s)) []):=by
 have hJ:=nI0 s (by have:=pT0 h; omega)
 rw [h] at hJ; exact hJ
theorem pj0 (s:ByteArray):bS (sB s)=s:=rfl
set_option maxHeartbeats 3200000 in
theorem expr_int (num:Int) (op:Int) (text:ByteArray) (slot:Int) (type:ByteArray) (at_:Int) (h0:0<=num) (h1:num < 9223372036854775808):db0 (.mk 1 op num text slot type [] at_) (numB num):=by
 intro bs hl
 have hi:sc0 num=bS (numB num):=rfl
 refine at0 aF0 (by simp [ae0]) ?_
 rw [Exq.V,Exq.ac0]
 simp +contextual (maxSteps:=2000000) (disch:=omega) [-Int.not_lt,-Int.not_le,-Nat.not_lt,-Nat.not_le,sx,aC0,ae0,hpE,Exq.kind,Exq.op,Exq.num,Exq.text,Exq.slot,Exq.type,Exq.args,Exq.at_]
 refine aa0 [] ?_
 simp
 have hO:=am0
 try simp [ae0,ad0] at hO
 refine ab0 23 hO ?_
 refine rS0 ?_
 refine aa0 [] ?_
 simp
 have hO:=am0
 try simp [ae0,ad0] at hO
 refine ab0 32 hO ?_
 refine rS0 ?_
 refine ao0 ?_; simp; refine aj0 (hN0 num (by omega) h1) (by simp) ?_
 rw [hi]
 refine rS0 ?_
 refine aa0 [.e 0,.e 1] ?_
 simp
 have hO:=as0 bs [numB num] (by simp; omega) (by simp)
 try simp [ae0,ad0] at hO
 refine ab0 38 hO ?_
 refine rS0 ?_
 refine b10 [.l 38 0] ?_
 exact rT1 @ad0.eq_1
set_option maxHeartbeats 3200000 in
theorem rZ0 (op:Int) (text:ByteArray) (slot:Int) (type:ByteArray) (at_:Int):db0 (.mk 2 op 0 text slot type [] at_) eG0:=by
 intro bs hl
 refine at0 aF0 (by simp [ae0]) ?_
 rw [Exq.V,Exq.ac0]
 simp +contextual (maxSteps:=2000000) (disch:=omega) [-Int.not_lt,-Int.not_le,-Nat.not_lt,-Nat.not_le,sx,aC0,ae0,hpE,Exq.kind,Exq.op,Exq.num,Exq.text,Exq.slot,Exq.type,Exq.args,Exq.at_]
 refine aa0 [] ?_
 simp
 have hO:=am0
 try simp [ae0,ad0] at hO
 refine ab0 23 hO ?_
 refine rS0 ?_
 refine aa0 [] ?_
 simp
 have hO:=am0
 try simp [ae0,ad0] at hO
 refine ab0 49 hO ?_
 refine rS0 ?_
 refine ao0 ?_; simp; refine aj0 (iv0 false) (by simp) ?_
 refine rS0 ?_
 refine aa0 [.e 0,.e 1] ?_
 simp
 have hO:=as0 bs [eG0] (by simp; omega) (by simp)
 try simp [ae0,ad0] at hO
 refine ab0 56 hO ?_
 refine rS0 ?_
 refine b10 [.l 56 0] ?_
 exact rT1 @ad0.eq_1
set_option maxHeartbeats 3200000 in
theorem r00 (op:Int) (text:ByteArray) (slot:Int) (type:ByteArray) (at_:Int):db0 (.mk 2 op 1 text slot type [] at_) hG0:=by
 intro bs hl
 refine at0 aF0 (by simp [ae0]) ?_
 rw [Exq.V,Exq.ac0]
 simp +contextual (maxSteps:=2000000) (disch:=omega) [-Int.not_lt,-Int.not_le,-Nat.not_lt,-Nat.not_le,sx,aC0,ae0,hpE,Exq.kind,Exq.op,Exq.num,Exq.text,Exq.slot,Exq.type,Exq.args,Exq.at_]
 refine aa0 [] ?_
 simp
 have hO:=am0
 try simp [ae0,ad0] at hO
 refine ab0 23 hO ?_
 refine rS0 ?_
 refine aa0 [] ?_
 simp
 have hO:=am0
 try simp [ae0,ad0] at hO
 refine ab0 49 hO ?_
 refine rS0 ?_
 refine ao0 ?_; simp; refine aj0 (iv0 true) (by simp) ?_
 refine rS0 ?_
 refine aa0 [.e 0,.e 1] ?_
 simp
 have hO:=as0 bs [hG0] (by simp; omega) (by simp)
 try simp [ae0,ad0] at hO
 refine ab0 56 hO ?_
 refine rS0 ?_
 refine b10 [.l 56 0] ?_
 exact rT1 @ad0.eq_1
set_option maxHeartbeats 3200000 in
theorem expr_name (num:Int) (op:Int) (text:ByteArray) (slot:Int) (type:ByteArray) (at_:Int) (h:cS0 (sB text)=true):db0 (.mk 6 op num text slot type [] at_) (sB text):=by
 intro bs hl
 have hN:=g80 h
 rw [pj0] at hN
 refine at0 aF0 (by simp [ae0]) ?_
 rw [Exq.V,Exq.ac0]
 simp +contextual (maxSteps:=2000000) (disch:=omega) [-Int.not_lt,-Int.not_le,-Nat.not_lt,-Nat.not_le,sx,aC0,ae0,hpE,Exq.kind,Exq.op,Exq.num,Exq.text,Exq.slot,Exq.type,Exq.args,Exq.at_]
 refine aa0 [] ?_
 simp
 have hO:=am0
 try simp [ae0,ad0] at hO
 refine ab0 23 hO ?_
 refine rS0 ?_
 refine aa0 [] ?_
 simp
 have hO:=hN
 try simp [ae0,ad0] at hO
 refine ab0 74 hO ?_
 refine rS0 ?_
 refine aa0 [.e 0,.e 1] ?_
 simp
 have hO:=as0 bs [sB text] (by simp only [List.flatten_cons,List.flatten_nil,List.append_nil]; omega) (by simp)
 try simp [ae0,ad0] at hO
 refine ab0 76 hO ?_
 refine rS0 ?_
 refine b10 [.l 76 0] ?_
 exact rT1 @ad0.eq_1
set_option maxHeartbeats 3200000 in
theorem expr_call (num:Int) (op:Int) (text:ByteArray) (slot:Int) (type:ByteArray) (at_:Int) (xs:List Exq) (ts:List Bs) (h:cS0 (sB text)=true) (hlen:ts.length=xs.length) (hx:xs.length < 2 ^ 30) (hp:∀ i (hi:i < xs.length),db0 xs[i] (ts[i]'(by omega))) :
  db0 (.mk 7 op num text slot type xs at_) (sB text++[40]++sepB ts++[41]):=by
 intro bs hl
 simp only [List.length_append,List.length_cons,List.length_nil] at hl
 have hN:=g80 h
 rw [pj0] at hN
 refine at0 aF0 (by simp [ae0]) ?_
 rw [Exq.V,Exq.ac0]
 simp +contextual (maxSteps:=2000000) (disch:=omega) [-Int.not_lt,-Int.not_le,-Nat.not_lt,-Nat.not_le,sx,aC0,ae0,hpE,Exq.kind,Exq.op,Exq.num,Exq.text,Exq.slot,Exq.type,Exq.args,Exq.at_]
 refine aa0 [] ?_
 simp
 have hO:=am0
 try simp [ae0,ad0] at hO
 refine ab0 23 hO ?_
 refine rS0 ?_
 refine aa0 [] ?_
 simp
 have hO:=hN
 try simp [ae0,ad0] at hO
 refine ab0 82 hO ?_
 refine rS0 ?_
 refine aa0 [.e 0,.e 1] ?_
 simp
 have hO:=as0 bs [sB text,[40]] (by simp only [List.flatten_cons,List.flatten_nil,List.append_nil,List.length_append,List.length_cons,List.length_nil]; omega) (by simp)
 try simp [ae0,ad0] at hO
 refine ab0 84 hO ?_
 refine rS0 ?_
 refine aa0 [.e 0,.l 84 0] ?_
 simp
 have hO:=list_spec xs ts hlen hx hp (bs++[sB text,[40]].flatten) (by simp only [List.flatten_cons,List.flatten_nil,List.append_nil,List.length_append,List.length_cons,List.length_nil]; omega)
 try simp [ae0,ad0] at hO
 refine ab0 88 hO ?_
 refine rS0 ?_
 refine aa0 [.e 0,.l 88 0] ?_
 simp
 have hO:=as0 (bs++[sB text,[40]].flatten++sepB ts) [[41]] (by simp only [List.flatten_cons,List.flatten_nil,List.append_nil,List.length_append,List.length_cons,List.length_nil]; omega) (by simp)
 try simp [ae0,ad0] at hO
 refine ab0 91 hO ?_
 refine rS0 ?_
 refine b10 [.l 91 0] ?_
 exact rT1 @ad0.eq_1
set_option maxHeartbeats 3200000 in
theorem expr_at (num:Int) (op:Int) (text:ByteArray) (slot:Int) (type:ByteArray) (at_:Int) (x y:Exq) (a b:Bs) (hx:db0 x a) (hy:db0 y b):db0 (.mk 12 op num text slot type [x,y] at_) (within a (oC0 x)++[91]++b++[93]):=by
 intro bs hl
 simp only [List.length_append,List.length_cons,List.length_nil] at hl
 generalize hb:oC0 x=q at *
 refine at0 aF0 (by simp [ae0]) ?_
 rw [Exq.V,Exq.ac0]
 simp +contextual (maxSteps:=2000000) (disch:=omega) [-Int.not_lt,-Int.not_le,-Nat.not_lt,-Nat.not_le,sx,aC0,ae0,hpE,Exq.kind,Exq.op,Exq.num,Exq.text,Exq.slot,Exq.type,Exq.args,Exq.at_]
 refine aa0 [] ?_
 simp
 have hO:=am0
 try simp [ae0,ad0] at hO
 refine ab0 23 hO ?_
 have cs:(x.kind=15/\q=true)\/(¬ x.kind=15/\x.kind=13/\q=true)\/(¬ x.kind=15/\¬ x.kind=13/\x.kind=14/\q=true)\/(¬ x.kind=15/\¬ x.kind=13/\¬ x.kind=14/\q=false):=by
  subst hb
  by_cases c1:x.kind=15
  ·exact .inl ⟨c1,by simp [oC0,c1]⟩
  by_cases c2:x.kind=13
  ·exact .inr (.inl ⟨c1,c2,by simp [oC0,c2]⟩)
  by_cases c3:x.kind=14
  ·exact .inr (.inr (.inl ⟨c1,c2,c3,by simp [oC0,c3]⟩))
  ·exact .inr (.inr (.inr ⟨c1,c2,c3,by simp [oC0,c1,c2,c3]⟩))
 rcases cs with ⟨c1,rfl⟩ | ⟨c1,c2,rfl⟩ | ⟨c1,c2,c3,rfl⟩ | ⟨c1,c2,c3,rfl⟩
 ·skip
  refine rS1 c1 ?_
  refine aa0 [.e 0,.e 1] ?_
  simp
  have hO:=cg0 hx true bs (by omega)
  try simp [ae0,ad0] at hO
  refine ab0 114 hO ?_
  refine rS0 ?_
  refine aa0 [.e 0,.l 114 0] ?_
  simp
  have hO:=as0 (bs++within a true) [[91]] (by simp only [List.flatten_cons,List.flatten_nil,List.append_nil,List.length_append,List.length_cons,List.length_nil]; omega) (by simp)
  try simp [ae0,ad0] at hO
  refine ab0 117 hO ?_
  refine rS0 ?_
  refine aa0 [.e 0,.l 117 0] ?_
  simp
  have hO:=hy (bs++within a true++[[91]].flatten) (by simp only [List.flatten_cons,List.flatten_nil,List.append_nil,List.length_append,List.length_cons,List.length_nil]; omega)
  try simp [ae0,ad0] at hO
  refine ab0 123 hO ?_
  refine rS0 ?_
  refine aa0 [.e 0,.l 123 0] ?_
  simp
  have hO:=as0 (bs++within a true++[[91]].flatten++b) [[93]] (by simp only [List.flatten_cons,List.flatten_nil,List.append_nil,List.length_append,List.length_cons,List.length_nil]; omega) (by simp)
  try simp [ae0,ad0] at hO
  refine ab0 126 hO ?_
  refine rS0 ?_
  refine b10 [.l 126 0] ?_
  exact rT1 @ad0.eq_1
 ·skip
  refine rS2 c1 c2 ?_
  refine aa0 [.e 0,.e 1] ?_
  simp
  have hO:=cg0 hx true bs (by omega)
  try simp [ae0,ad0] at hO
  refine ab0 114 hO ?_
  refine rS0 ?_
  refine aa0 [.e 0,.l 114 0] ?_
  simp
  have hO:=as0 (bs++within a true) [[91]] (by simp only [List.flatten_cons,List.flatten_nil,List.append_nil,List.length_append,List.length_cons,List.length_nil]; omega) (by simp)
  try simp [ae0,ad0] at hO
  refine ab0 117 hO ?_
  refine rS0 ?_
  refine aa0 [.e 0,.l 117 0] ?_
  simp
  have hO:=hy (bs++within a true++[[91]].flatten) (by simp only [List.flatten_cons,List.flatten_nil,List.append_nil,List.length_append,List.length_cons,List.length_nil]; omega)
  try simp [ae0,ad0] at hO
  refine ab0 123 hO ?_
  refine rS0 ?_
  refine aa0 [.e 0,.l 123 0] ?_
  simp
  have hO:=as0 (bs++within a true++[[91]].flatten++b) [[93]] (by simp only [List.flatten_cons,List.flatten_nil,List.append_nil,List.length_append,List.length_cons,List.length_nil]; omega) (by simp)
  try simp [ae0,ad0] at hO
  refine ab0 126 hO ?_
  refine rS0 ?_
  refine b10 [.l 126 0] ?_
  exact rT1 @ad0.eq_1
 ·skip
  refine rS3 c1 c2 @c3 ?_
  refine aa0 [.e 0,.e 1] ?_
  simp
  have hO:=cg0 hx true bs (by omega)
  try simp [ae0,ad0] at hO
  refine ab0 114 hO ?_
  refine rS0 ?_
  refine aa0 [.e 0,.l 114 0] ?_
  simp
  have hO:=as0 (bs++within a true) [[91]] (by simp only [List.flatten_cons,List.flatten_nil,List.append_nil,List.length_append,List.length_cons,List.length_nil]; omega) (by simp)
  try simp [ae0,ad0] at hO
  refine ab0 117 hO ?_
  refine rS0 ?_
  refine aa0 [.e 0,.l 117 0] ?_
  simp
  have hO:=hy (bs++within a true++[[91]].flatten) (by simp only [List.flatten_cons,List.flatten_nil,List.append_nil,List.length_append,List.length_cons,List.length_nil]; omega)
  try simp [ae0,ad0] at hO
  refine ab0 123 hO ?_
  refine rS0 ?_
  refine aa0 [.e 0,.l 123 0] ?_
  simp
  have hO:=as0 (bs++within a true++[[91]].flatten++b) [[93]] (by simp only [List.flatten_cons,List.flatten_nil,List.append_nil,List.length_append,List.length_cons,List.length_nil]; omega) (by simp)
  try simp [ae0,ad0] at hO
  refine ab0 126 hO ?_
  refine rS0 ?_
  refine b10 [.l 126 0] ?_
  exact rT1 @ad0.eq_1
 ·have c3q:(x.kind == 14)=false:=by simp [c3]
  refine rS4 c1 c2 @c3 c3q ?_
  refine aa0 [.e 0,.e 1] ?_
  simp
  have hO:=cg0 hx false bs (by omega)
  try simp [ae0,ad0] at hO
  refine ab0 114 hO ?_
  refine rS0 ?_
  refine aa0 [.e 0,.l 114 0] ?_
  simp
  have hO:=as0 (bs++within a false) [[91]] (by simp only [List.flatten_cons,List.flatten_nil,List.append_nil,List.length_append,List.length_cons,List.length_nil]; omega) (by simp)
  try simp [ae0,ad0] at hO
  refine ab0 117 hO ?_
  refine rS0 ?_
  refine aa0 [.e 0,.l 117 0] ?_
  simp
  have hO:=hy (bs++within a false++[[91]].flatten) (by simp only [List.flatten_cons,List.flatten_nil,List.append_nil,List.length_append,List.length_cons,List.length_nil]; omega)
  try simp [ae0,ad0] at hO
  refine ab0 123 hO ?_
  refine rS0 ?_
  refine aa0 [.e 0,.l 123 0] ?_
  simp
  have hO:=as0 (bs++within a false++[[91]].flatten++b) [[93]] (by simp only [List.flatten_cons,List.flatten_nil,List.append_nil,List.length_append,List.length_cons,List.length_nil]; omega) (by simp)
  try simp [ae0,ad0] at hO
  refine ab0 126 hO ?_
  refine rS0 ?_
  refine b10 [.l 126 0] ?_
  exact rT1 @ad0.eq_1
set_option maxHeartbeats 3200000 in
theorem qw0 (num:Int) (op:Int) (text:ByteArray) (slot:Int) (type:ByteArray) (at_:Int) (x:Exq) (a:Bs) (hx:db0 x a):db0 (.mk 13 op num text slot type [x] at_) ([45]++within a (decide (x.kind=15))):=by
 intro bs hl
 simp only [List.length_append,List.length_cons,List.length_nil] at hl
 obtain ⟨q,hq⟩:∃ q,decide (x.kind=15)=q:=⟨_,rfl⟩
 rw [hq] at hl ⊢
 have hq2:(x.kind == 15)=q:=by rw [<- hq]; rfl
 have e1:(bS [45,33]).extract 0 2=bS [45,33]:=by rw [cM0]; rfl
 have e2:(bS [45,33]).extract 0 1=bS [45]:=by rw [cM0]; rfl
 refine at0 aF0 (by simp [ae0]) ?_
 rw [Exq.V,Exq.ac0]
 simp +contextual (maxSteps:=2000000) (disch:=omega) [-Int.not_lt,-Int.not_le,-Nat.not_lt,-Nat.not_le,sx,aC0,ae0,hpE,Exq.kind,Exq.op,Exq.num,Exq.text,Exq.slot,Exq.type,Exq.args,Exq.at_]
 refine aa0 [] ?_
 simp
 have hO:=am0
 try simp [ae0,ad0] at hO
 refine ab0 23 hO ?_
 refine rS3 e1 e2 @dn0 ?_
 refine aa0 [.e 0,.e 1] ?_
 simp
 have hO:=as0 bs [[45]] (by simp only [List.flatten_cons,List.flatten_nil,List.append_nil,List.length_append,List.length_cons,List.length_nil]; omega) (by simp)
 try simp [ae0,ad0] at hO
 refine ab0 137 hO ?_
 refine rS1 hq2 ?_
 refine aa0 [.e 0,.l 137 0] ?_
 simp
 have hO:=cg0 hx q (bs++[[45]].flatten) (by simp only [List.flatten_cons,List.flatten_nil,List.append_nil,List.length_append,List.length_cons,List.length_nil]; omega)
 try simp [ae0,ad0] at hO
 refine ab0 149 hO ?_
 refine rS0 ?_
 refine b10 [.l 149 0] ?_
 exact rT1 @ad0.eq_1
set_option maxHeartbeats 3200000 in
theorem qx0 (num:Int) (op:Int) (text:ByteArray) (slot:Int) (type:ByteArray) (at_:Int) (x:Exq) (a:Bs) (hx:db0 x a):db0 (.mk 14 op num text slot type [x] at_) ([33]++within a (decide (x.kind=15))):=by
 intro bs hl
 simp only [List.length_append,List.length_cons,List.length_nil] at hl
 obtain ⟨q,hq⟩:∃ q,decide (x.kind=15)=q:=⟨_,rfl⟩
 rw [hq] at hl ⊢
 have hq2:(x.kind == 15)=q:=by rw [<- hq]; rfl
 have e1:(bS [45,33]).extract 1 2=bS [33]:=by rw [cM0]; rfl
 have e2:(bS [33]).extract 0 1=bS [33]:=by rw [cM0]; rfl
 refine at0 aF0 (by simp [ae0]) ?_
 rw [Exq.V,Exq.ac0]
 simp +contextual (maxSteps:=2000000) (disch:=omega) [-Int.not_lt,-Int.not_le,-Nat.not_lt,-Nat.not_le,sx,aC0,ae0,hpE,Exq.kind,Exq.op,Exq.num,Exq.text,Exq.slot,Exq.type,Exq.args,Exq.at_]
 refine aa0 [] ?_
 simp
 have hO:=am0
 try simp [ae0,ad0] at hO
 refine ab0 23 hO ?_
 refine rS3 e1 e2 @dn0 ?_
 refine aa0 [.e 0,.e 1] ?_
 simp
 have hO:=as0 bs [[33]] (by simp only [List.flatten_cons,List.flatten_nil,List.append_nil,List.length_append,List.length_cons,List.length_nil]; omega) (by simp)
 try simp [ae0,ad0] at hO
 refine ab0 137 hO ?_
 refine rS1 hq2 ?_
 refine aa0 [.e 0,.l 137 0] ?_
 simp
 have hO:=cg0 hx q (bs++[[33]].flatten) (by simp only [List.flatten_cons,List.flatten_nil,List.append_nil,List.length_append,List.length_cons,List.length_nil]; omega)
 try simp [ae0,ad0] at hO
 refine ab0 149 hO ?_
 refine rS0 ?_
 refine b10 [.l 149 0] ?_
 exact rT1 @ad0.eq_1
set_option maxHeartbeats 3200000 in
theorem expr_bin (num:Int) (op:Int) (text:ByteArray) (slot:Int) (type:ByteArray) (at_:Int) (x y:Exq) (a b:Bs) (hop:opOk op=true) (hx:db0 x a) (hy:db0 y b) (ox:x.kind=15->opOk x.op=true) (oy:y.kind=15->opOk y.op=true) :
  db0 (.mk 15 op num text slot type [x,y] at_) (within a (dT0 x (if lvl op=3 then 4 else lvl op))++[32]++opB op++[32]++within b (dT0 y (lvl op + 1))):=by
 intro bs hl
 simp only [List.length_append,List.length_cons,List.length_nil] at hl
 have hop':=hop
 unfold opOk at hop'
 simp only [decide_eq_true_eq] at hop'
 have hq:op.toNat - 1 < pOps.length:=by show op.toNat - 1 < 13; omega
 have hg:pOps[op.toNat - 1]=opB op:=by
  unfold opB
  rw [List.getD_eq_getElem?_getD,List.getElem?_eq_getElem hq]; rfl
 have hlv:1<=lvl op/\lvl op<=5:=by
  unfold lvl
  split
  ·omega
  ·split
   ·omega
   ·split <;> omega
 refine at0 aF0 (by simp [ae0]) ?_
 rw [Exq.V,Exq.ac0]
 simp +contextual (maxSteps:=2000000) (disch:=omega) [-Int.not_lt,-Int.not_le,-Nat.not_lt,-Nat.not_le,sx,aC0,ae0,hpE,Exq.kind,Exq.op,Exq.num,Exq.text,Exq.slot,Exq.type,Exq.args,Exq.at_]
 refine aa0 [] ?_
 simp
 have hO:=am0
 try simp [ae0,ad0] at hO
 refine ab0 23 hO ?_
 refine rS0 ?_
 refine ao0 ?_; simp; refine aj0 (ja0 op hop) (by simp) ?_
 generalize hL:lvl op=L at *
 by_cases h3:L=3
 ·subst h3; rw [if_pos rfl,show (3:Int) + 1=4 from rfl] at hl ⊢
  refine rS0 ?_
  refine dd0 ?_; simp; refine aj0 (eo0 x 4 ox) (by simp) ?_
  refine rS0 ?_
  refine aa0 [.e 0,.e 1] ?_
  simp
  have hO:=cg0 hx (dT0 x 4) bs (by omega)
  try simp [ae0,ad0] at hO
  refine ab0 171 hO ?_
  refine rS0 ?_
  refine dd0 ?_; simp; refine aj0 (jb0) (by simp) ?_
  refine rS1 hg ?_
  refine aa0 [.e 0,.l 171 0] ?_
  simp
  have hO:=as0 (bs++within a (dT0 x 4)) [[32],opB op,[32]] (by simp only [List.flatten_cons,List.flatten_nil,List.append_nil,List.length_append,List.length_cons,List.length_nil]; omega) (by simp)
  try simp [ae0,ad0] at hO
  refine ab0 180 hO ?_
  refine rS0 ?_
  refine dd0 ?_; simp; refine aj0 (eo0 y (4) oy) (by simp) ?_
  refine rS0 ?_
  refine aa0 [.e 0,.l 180 0] ?_
  simp
  have hO:=cg0 hy (dT0 y (4)) (bs++within a (dT0 x 4)++[[32],opB op,[32]].flatten) (by simp only [List.flatten_cons,List.flatten_nil,List.append_nil,List.length_append,List.length_cons,List.length_nil]; omega)
  try simp [ae0,ad0] at hO
  refine ab0 193 hO ?_
  refine rS0 ?_
  refine b10 [.l 193 0] ?_
  exact rT1 @ad0.eq_1
 ·rw [if_neg h3] at hl ⊢
  refine rS1 h3 ?_
  refine dd0 ?_; simp; refine aj0 (eo0 x L ox) (by simp) ?_
  refine rS0 ?_
  refine aa0 [.e 0,.e 1] ?_
  simp
  have hO:=cg0 hx (dT0 x L) bs (by omega)
  try simp [ae0,ad0] at hO
  refine ab0 171 hO ?_
  refine rS0 ?_
  refine dd0 ?_; simp; refine aj0 (jb0) (by simp) ?_
  refine rS1 hg ?_
  refine aa0 [.e 0,.l 171 0] ?_
  simp
  have hO:=as0 (bs++within a (dT0 x L)) [[32],opB op,[32]] (by simp only [List.flatten_cons,List.flatten_nil,List.append_nil,List.length_append,List.length_cons,List.length_nil]; omega) (by simp)
  try simp [ae0,ad0] at hO
  refine ab0 180 hO ?_
  refine rS0 ?_
  refine dd0 ?_; simp; refine aj0 (eo0 y (L + 1) oy) (by simp) ?_
  refine rS0 ?_
  refine aa0 [.e 0,.l 180 0] ?_
  simp
  have hO:=cg0 hy (dT0 y (L + 1)) (bs++within a (dT0 x L)++[[32],opB op,[32]].flatten) (by simp only [List.flatten_cons,List.flatten_nil,List.append_nil,List.length_append,List.length_cons,List.length_nil]; omega)
  try simp [ae0,ad0] at hO
  refine ab0 193 hO ?_
  refine rS0 ?_
  refine b10 [.l 193 0] ?_
  exact rT1 @ad0.eq_1
end Go.Am
end

section
namespace Go.Proofs
open Go.Shelf
def Tryz.pG0:Go.Shelf.Ren:=⟨fun | 15=>124 | 20=>139 | n=>n,fun | 9=>9 | 23=>160 | 3=>3 | 4=>4 | 0=>0 | 21=>21 | n=>n,fun | n=>n⟩
theorem Tryz.laysGw15:Go.Proofs.LaysGw.n15 Tryz.prog Tryz.pG0:={
 mixed:=by kernel_rfl
 f15:=Tryz.func124.trans (congrArg some (by kernel_rfl))
 f20:=Tryz.func139.trans (congrArg some (by kernel_rfl))
 t0:=Tryz.underlying0
 a0:=Tryz.isAgg0
 z0:=Tryz.sizeOf0
 v0:=Tryz.zeroValue0
 i0:=by kernel_rfl
 t3:=Tryz.underlying3
 a3:=Tryz.isAgg3
 z3:=Tryz.sizeOf3
 v3:=Tryz.zeroValue3
 i3:=by kernel_rfl
 t4:=Tryz.underlying4
 a4:=Tryz.isAgg4
 z4:=Tryz.sizeOf4
 v4:=Tryz.zeroValue4
 i4:=by kernel_rfl
 t9:=Tryz.underlying9
 a9:=Tryz.isAgg9
 z9:=Tryz.sizeOf9
 v9:=Tryz.zeroValue9
 i9:=by kernel_rfl
 t21:=Tryz.underlying21
 a21:=Tryz.isAgg21
 z21:=Tryz.sizeOf21
 v21:=Tryz.zeroValue21
 i21:=by kernel_rfl
 t23:=Tryz.underlying160
 a23:=Tryz.isAgg160
 z23:=Tryz.sizeOf160
 v23:=Tryz.zeroValue160
 i23:=by kernel_rfl }
end Go.Proofs
end
