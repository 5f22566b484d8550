/- ShowLines of the given program, part 1 of 5 of the proof: for all arguments within the bound the law answers true, and each argument reads behind the call as before. Conditions: those of the given card. -/
import Derived.Test.YtnlggapedakocaaGreatDoorCards
import Derived.ProofKit
import Derived.Deep.Slices
import Derived.Calls
import Derived.Orders
import Derived.Laws.AppendOwn
import Derived.Maps.AppendAt
import Derived.Laws.World
import Derived.Laws.Sem
import Derived.Laws.Cells
import Derived.Laws.Rows
import Derived.Laws.Strings
import Derived.Laws.Small
import Derived.Laws.Entries
import Derived.Laws.Slices
import Derived.Laws.Build
import Derived.Tactics
import Derived.Laws.CopyRow
import Derived.Laws.Cover3
import Derived.MapKept
import Derived.Lib.AppendZeros
set_option maxHeartbeats 1600000
set_option linter.all false
set_option linter.unusedVariables false
set_option linter.unusedSimpArgs false
set_option linter.unnecessarySimpa false
section
namespace Go.Am
open Go
variable {H:Type} {enc:TypeId × Value->H} {P:Program} {w:World} {base:Nat} {held:Bool}
def rJ0 (P:Program) (T:TypeId->Prop) (t:TypeId):Prop :=
 match P.underlying t with
 | some (.slice e)=>T e/\0 < P.cellsOf e
 | some (.struct fs)=>∀ f ∈ fs.toList,T f.type
 | some (.pointer _) | some (.array _ _) | some (.map _ _) | some (.interface _)=>False
 | _=>True
theorem qY0 {sp:Nat->Bool} {T:TypeId->Prop} (hz:∀ t,T t->rJ0 P T t) {r r':TypeId->List Value->Option (DataW H × List MemPlace)}
  (hr:∀ t cs x,T t->r t cs=some x->(∀ p ∈ x.2,sp p.block=true)->r' t cs=some x) {t:TypeId} (hT:T t) {cs:List Value} {x:DataW H × List MemPlace}
  (h:DataW.trodStep enc P w base (fun _=>true) held r t cs=some x) (hs:∀ p ∈ x.2,sp p.block=true):DataW.trodStep enc P w base sp held r' t cs=some x:=by
 have hF:=hz t hT
 unfold rJ0 at hF
 unfold DataW.trodStep at h ⊢
 split at h
 case h_6=>simp only [‹P.underlying t=_›] at hF
 case h_8 hu e a len cap _ =>
  simp only [‹P.underlying t=_›] at hF
  obtain ⟨hTe,hpos⟩:=hF
  simp only at h ⊢
  split at h
  ·rename_i hc
   rw [if_pos hc]
   simp only [if_true,Option.map_eq_some_iff,Option.bind_eq_some_iff] at h ⊢
   obtain ⟨elems,he,rest,hrest,rfl⟩:=h
   have hlen:elems.length=len:=by simpa using mapM_some_length he
   have hrl:rest.length=cap - len:=by simpa using mapM_some_length hrest
   have one:∀ (i:Nat) (y:DataW H × List MemPlace),y ∈ elems++rest ->
     (w.cells? base (a.add (i * P.cellsOf e)) (P.cellsOf e)).bind (r e)=some y->(w.cells? base (a.add (i * P.cellsOf e)) (P.cellsOf e)).bind (r' e)=some y:=by
    intro i y hy hv
    simp only [Option.bind_eq_some_iff] at hv ⊢
    obtain ⟨cs',hc',hy'⟩:=hv
    refine ⟨cs',hc',hr _ _ _ hTe hy' (fun p hp=>hs p ?_)⟩
    simp only [List.mem_append,List.mem_flatMap]
    right
    exact ⟨y,by simpa using hy,hp⟩
   refine ⟨elems,mapM_carry he (fun i y hi hy=>one i y (by simp [hy])),rest,?_,rfl⟩
   by_cases h0:cap - len=0
   ·have:rest=[]:=by apply List.eq_nil_of_length_eq_zero; omega
    subst this
    rw [h0]
    split <;> simp
   ·have hb:sp a.block=true:=hs (.cell a.block (a.off + 0)) (by
     simp only [List.mem_append]
     left
     refine MemPlace.mem_row.2 ⟨0,?_,rfl⟩
     exact Nat.mul_pos (by omega) hpos)
    rw [if_pos hb]
    exact mapM_carry hrest (fun j y hj hy=>one (len + j) y (by simp [hy]))
  ·cases h
 case h_9 =>
  simp only [‹P.underlying t=_›] at hF
  split at h
  ·rename_i hc
   rw [if_pos hc]
   simp only [Option.map_eq_some_iff] at h ⊢
   obtain ⟨xs,hx,rfl⟩:=h
   exact ⟨xs,mapM_carry hx (fun f y hf hy hv=>hr _ _ _ (hF f hf) hv (fun p hp=>hs p (List.mem_flatMap.2 ⟨y,hy,hp⟩))),rfl⟩
  ·cases h
 case h_10=>simp only [‹P.underlying t=_›] at hF
 case h_12=>simp only [‹P.underlying t=_›] at hF
 case h_14=>simp only [‹P.underlying t=_›] at hF
 case h_21=>cases h
 all_goals exact h
theorem trod_sp {sp:Nat->Bool} {T:TypeId->Prop} (hz:∀ t,T t->rJ0 P T t):∀ (n:Nat) (t:TypeId) (cs:List Value) (x:DataW H × List MemPlace),T t ->
  DataW.trod enc P w base (fun _=>true) held n t cs=some x->(∀ p ∈ x.2,sp p.block=true)->DataW.trod enc P w base sp held n t cs=some x:=by
 intro n
 induction n with
 | zero=>intro t cs x _ h; simp [DataW.trod] at h
 | succ n ih =>
  intro t cs x hT h hs
  rw [DataW.trod_step] at h ⊢
  exact qY0 hz ih hT h hs
theorem lW0 {w':World} {sp:Nat->Bool} {T:TypeId->Prop} (hz:∀ t,T t->rJ0 P T t) (hk:∀ b,b < w.heap.size->w'.heap[b]?=w.heap[b]?) :
  ∀ {ts:List TypeId} {vs:List Value} {ds:List (DataW H)} {ps:List MemPlace},(∀ t ∈ ts,T t)->DataW.TrodAll enc P w 0 (fun _=>true) true ts vs ds ps->(∀ p ∈ ps,sp p.block=true)->DataW.TrodAll enc P w' 0 sp true ts vs ds ps
 | [],[],[],ps,_,h,_=>h
 | t :: ts,v :: vs,d :: ds,ps,hT,⟨p,q,⟨n,hn⟩,h2,e⟩,hs=>by
  subst e
  refine ⟨p,q,⟨n,?_⟩,lW0 hz hk (fun t ht=>hT t (by simp [ht])) h2 fun x hx=>hs x (by simp [hx]),rfl⟩
  have hlt:=DataW.trod_lt n _ _ _ hn
  refine trod_sp hz n _ _ _ (hT t (by simp)) (DataW.trod_carry n _ _ _ hn fun x hx=>?_) fun x hx=>hs x (by simp [hx])
  have hb:=hk x.block (hlt x hx)
  cases x with
  | cell b off=>simp only [World.sameAt,World.cell?,MemPlace.block] at hb ⊢; rw [hb]
  | map b=>exact hb
 | [],_ :: _,_,_,_,h,_=>by cases h
 | _ :: _,[],_,_,_,h,_=>by cases h
 | [],[],_ :: _,_,_,h,_=>by cases h
 | _ :: _,_ :: _,[],_,_,h,_=>by cases h
end Go.Am
end

section
namespace Go.Am
def laidB:Nat:=0
def pD0:List (Nat × Array Value):=[(laidB,(((List.range 20).map fun i=>((10 ^ i:Nat):Int)).map fun z=>Value.int .u64 z).toArray)]
end Go.Am
end

section
namespace Go.Am
inductive Id where
 | e (k:Nat)
 | l (s j:Nat)
 deriving DecidableEq
def Id.isL:Id->Bool
 | .e _=>false
 | .l _ _=>true
inductive V where
 | any
 | c (v:Value)
 | nil
 | lst (xs:List (List V))
 | rp (cs:List V)
 | bp (i:Id) (off:Nat)
 | ep (i:Id) (k off:Nat)
 | arr (i:Id) (o n:Nat)
 | agg (cs:List V)
 | fn (f:Nat) (caps:List V)
 | tup (cs:List V)
 | ifc (t:Nat) (v:V)
 | mp (i:Id)
 | arc (i:Id) (o n c:Nat)
 | self (i:Id) (t:Nat)
 deriving Inhabited
mutual
def V.has (i:Id):V->Bool
 | .bp j _=>decide (j=i)
 | .self j _=>decide (j=i)
 | .ep j _ _=>decide (j=i)
 | .arr j _ _=>decide (j=i)
 | .mp j=>decide (j=i)
 | .arc j _ _ _=>decide (j=i)
 | .agg cs=>V.hasL i cs
 | .fn _ cs=>V.hasL i cs
 | .tup cs=>V.hasL i cs
 | .ifc _ v=>v.has i
 | .any=>false
 | .c _=>false
 | .nil=>false
 | .lst _=>false
 | .rp _=>false
def V.hasL (i:Id):List V->Bool
 | []=>false
 | v :: vs=>v.has i || V.hasL i vs
end
theorem V.gO0 {i:Id}:∀ {cs:List V} {j:Nat} {v:V},cs[j]?=some v->v.has i=true->V.hasL i cs=true
 | [],j,v,h,_=>by simp at h
 | u :: us,0,v,h,hv=>by simp at h; subst h; simp [V.hasL,hv]
 | u :: us,j + 1,v,h,hv=>by simp at h; simp [V.hasL,V.gO0 h hv]
def V.scalar:V->Bool
 | .any=>false
 | .agg _=>false
 | .tup _=>false
 | .c v=>v.oneCell'
 | _=>true
def scalars:List V->Bool
 | []=>true
 | v :: vs=>v.scalar && scalars vs
theorem eK0:∀ {cs:List V} {j:Nat} {v:V},cs[j]?=some v->scalars cs=true->v.scalar=true
 | [],j,v,h,_=>by simp at h
 | u :: us,0,v,h,hv=>by simp at h; subst h; simp [scalars] at hv; exact hv.1
 | u :: us,j + 1,v,h,hv=>by simp at h; simp [scalars] at hv; exact eK0 h hv.2
theorem ly0:∀ {cs:List V},(∀ (j:Nat) (v:V),cs[j]?=some v->v.scalar=true)->scalars cs=true
 | [],_=>rfl
 | u :: us,h=>by
  simp only [scalars,Bool.and_eq_true]
  exact ⟨h 0 u rfl,ly0 fun j v hj=>h (j + 1) v (by simpa using hj)⟩
structure Blk where
 b:Nat
 sz:Nat
 cap:Nat
abbrev Imm:=Nat->Option (Array Value)
abbrev Mu:=Id->Option Blk
def Mu.bot:Mu:=fun _=>Option.none
inductive R (H:Imm):Mu->V->Value->Prop where
 | any {μ:Mu} (x:Value):R H μ .any x
 | c {μ:Mu} (v:Value):R H μ (.c v) v
 | nil {μ:Mu}:R H μ .nil (.slice none 0 0)
 | lst {μ:Mu} (xs:List (List V)) (sz:Nat) (a:Option Addr) (n cap:Nat) (cv:Nat->Nat->Value) (hn:n=xs.length) (hc:n<=cap)
   (hs:∀ (i:Nat) (e:List V),xs[i]?=some e->e.length=sz/\scalars e=true)
   (hm:∀ (i:Nat) (e:List V) (j:Nat) (v:V),xs[i]?=some e->e[j]?=some v->∃ b off cs,a=some ⟨b,off,none⟩/\H b=some cs/\cs[off + i * sz + j]?=some (cv i j))
   (hr:∀ (i:Nat) (e:List V) (j:Nat) (v:V),xs[i]?=some e->e[j]?=some v->R H Mu.bot v (cv i j)):R H μ (.lst xs) (.slice a n cap)
 | rp {μ:Mu} (cs:List V) (b off:Nat) (cv:Nat->Value)
   (hm:∀ (j:Nat) (v:V),cs[j]?=some v->∃ blk,H b=some blk/\blk[off + j]?=some (cv j))
   (hr:∀ (j:Nat) (v:V),cs[j]?=some v->R H Mu.bot v (cv j)):R H μ (.rp cs) (.pointer (some ⟨b,off,none⟩))
 | bp {μ:Mu} (i:Id) (off:Nat) (blk:Blk) (h:μ i=some blk):R H μ (.bp i off) (.pointer (some ⟨blk.b,off,none⟩))
 | self {μ:Mu} (i:Id) (t:Nat) (a:Option Addr) (blk:Blk) (h:μ i=some blk) (ht:blk.cap=t) (ha:a=none\/a=some ⟨blk.b,0,none⟩):R H μ (.self i t) (.pointer a)
 | ep {μ:Mu} (i:Id) (k off:Nat) (blk:Blk) (h:μ i=some blk):R H μ (.ep i k off) (.pointer (some ⟨blk.b,k * blk.sz + off,none⟩))
 | arr {μ:Mu} (i:Id) (o n:Nat) (a:Option Addr) (cap:Nat) (hc:n<=cap)
   (h:cap=0\/∃ blk,μ i=some blk/\a=some ⟨blk.b,o * blk.sz,none⟩/\o + cap=blk.cap):R H μ (.arr i o n) (.slice a n cap)
 | agg {μ:Mu} (cs:List V) (vs:Array Value) (hn:vs.size=cs.length) (hr:∀ (j:Nat) (v:V),cs[j]?=some v->R H μ v (vs.getD j undef)):R H μ (.agg cs) (.agg vs)
 | fn {μ:Mu} (f:Nat) (cs:List V) (vs:Array Value) (hn:vs.size=cs.length) (hr:∀ (j:Nat) (v:V),cs[j]?=some v->R H μ v (vs.getD j undef)) :
   R H μ (.fn f cs) (.func (.func f) #[] vs)
 | tup {μ:Mu} (cs:List V) (vs:Array Value) (hn:vs.size=cs.length) (hr:∀ (j:Nat) (v:V),cs[j]?=some v->R H μ v (vs.getD j undef)):R H μ (.tup cs) (.tuple vs)
 | ifc {μ:Mu} (t:Nat) (v:V) (x:Value) (h:R H μ v x):R H μ (.ifc t v) (.iface t x)
 | mp {μ:Mu} (i:Id) (blk:Blk) (h:μ i=some blk):R H μ (.mp i) (.map (some blk.b))
 | arc {μ:Mu} (i:Id) (o n c:Nat) (a:Option Addr) (hc:n<=c)
   (h:c=0\/∃ blk,μ i=some blk/\a=some ⟨blk.b,o * blk.sz,none⟩/\o + c=blk.cap):R H μ (.arc i o n c) (.slice a n c)
theorem R.kw0 {H:Imm} {μ:Mu} {i:Id} {o n c:Nat} {x:Value} (h:R H μ (.arc i o n c) x):R H μ (.arr i o n) x:=by
 cases h with
 | arc _ _ _ _ a hc h=>exact .arr i o n a c hc h
def V.kw0:V->V
 | .arc i o n _=>.arr i o n
 | v=>v
theorem R.un {H:Imm} {μ:Mu} {v:V} {x:Value} (h:R H μ v x):R H μ v.kw0 x:=by
 cases v with
 | arc i o n c=>exact h.kw0
 | _=>exact h
def Imm.le (H H':Imm):Prop:=∀ b cs,H b=some cs->H' b=some cs
theorem Imm.le_refl (H:Imm):Imm.le H H:=fun _ _ h=>h
theorem Imm.le_trans {A B C:Imm} (h:Imm.le A B) (k:Imm.le B C):Imm.le A C:=fun b cs x=>k b cs (h b cs x)
theorem R.mono {H H':Imm} (hH:Imm.le H H') {μ:Mu} {v:V} {x:Value} (h:R H μ v x) :
  ∀ {μ':Mu},(∀ i,v.has i=true->μ' i=μ i)->R H' μ' v x:=by
 induction h with
 | any x=>intro μ' _; exact .any x
 | c v=>intro μ' _; exact .c v
 | nil=>intro μ' _; exact .nil
 | lst xs sz a n cap cv hn hc hs hm hr ih =>
  intro μ' _
  refine .lst xs sz a n cap cv hn hc hs (fun i e j v hi hj=>?_) (fun i e j v hi hj=>ih i e j v hi hj (fun _ _=>rfl))
  obtain ⟨b,off,cs,h1,h2,h3⟩:=hm i e j v hi hj
  exact ⟨b,off,cs,h1,hH _ _ h2,h3⟩
 | rp cs b off cv hm hr ih =>
  intro μ' _
  refine .rp cs b off cv (fun j v hj=>?_) (fun j v hj=>ih j v hj (fun _ _=>rfl))
  obtain ⟨blk,h1,h2⟩:=hm j v hj
  exact ⟨blk,hH _ _ h1,h2⟩
 | self i t a blk h ht ha=>intro μ' hμ; exact .self i t a blk (by rw [hμ i (by simp [V.has])]; exact h) ht ha
 | bp i off blk h=>intro μ' hμ; exact .bp i off blk (by rw [hμ i (by simp [V.has])]; exact h)
 | ep i k off blk h=>intro μ' hμ; exact .ep i k off blk (by rw [hμ i (by simp [V.has])]; exact h)
 | arr i o n a cap hc h=>intro μ' hμ; exact .arr i o n a cap hc (by rw [hμ i (by simp [V.has])]; exact h)
 | agg cs vs hn hr ih=>intro μ' hμ; exact .agg cs vs hn (fun j v hj=>ih j v hj fun i hi=>hμ i (by simp [V.has,V.gO0 hj hi]))
 | fn f cs vs hn hr ih=>intro μ' hμ; exact .fn f cs vs hn (fun j v hj=>ih j v hj fun i hi=>hμ i (by simp [V.has,V.gO0 hj hi]))
 | tup cs vs hn hr ih=>intro μ' hμ; exact .tup cs vs hn (fun j v hj=>ih j v hj fun i hi=>hμ i (by simp [V.has,V.gO0 hj hi]))
 | ifc t v x h ih=>intro μ' hμ; exact .ifc t v x (ih fun i hi=>hμ i (by simpa [V.has] using hi))
 | mp i blk h=>intro μ' hμ; exact .mp i blk (by rw [hμ i (by simp [V.has])]; exact h)
 | arc i o n c a hc h=>intro μ' hμ; exact .arc i o n c a hc (by rw [hμ i (by simp [V.has])]; exact h)
theorem R.le {H H':Imm} (hH:Imm.le H H') {μ:Mu} {v:V} {x:Value} (h:R H μ v x):R H' μ v x:=h.mono hH fun _ _=>rfl
inductive Ob where
 | gone
 | box (cs:List V)
 | row (ty sz:Nat) (own:Bool) (xs:List (List V))
 | mpo (kd:Option IntKind) (kvs:List (Value × V))
 deriving Inhabited
def isKey:Option IntKind->Value->Bool
 | some k,.int k' _=>decide (k'=k)
 | none,.string _=>true
 | _,_=>false
def One (vals:Array Value):Prop:=∀ (j:Nat) (x:Value),vals[j]?=some x->x.oneCell'=true
def Ob.own:Ob->Bool
 | .gone=>false
 | .box _=>true
 | .row _ _ o _=>o
 | .mpo _ _=>true
def Ob.has (i:Id):Ob->Bool
 | .gone=>false
 | .box cs=>V.hasL i cs
 | .row _ _ _ _=>false
 | .mpo _ _=>false
abbrev Hp:=List (Id × Ob)
abbrev Env:=List (Nat × V)
def Cells (H:Imm) (μ:Mu) (cs:List V) (vals:Array Value) (off:Nat):Prop :=
 ∀ (j:Nat) (v:V),cs[j]?=some v->∃ x,vals[off + j]?=some x/\R H μ v x
def ObOk (H:Imm) (μ:Mu) (w:World) (i:Id):Ob->Prop
 | .gone=>True
 | .box cs=>∃ blk vals ty,μ i=some blk/\w.heap[blk.b]?=some (.cells vals ty (0,0))/\vals.size=cs.length/\(H blk.b=none/\ty=blk.cap)/\Cells H μ cs vals 0
 | .row ty sz own xs=>(xs=[]/\μ i=none)\/∃ blk vals,μ i=some blk/\(blk.sz=sz/\blk.cap<=maxLen/\(own=true->One vals))/\w.heap[blk.b]?=some (.cells vals ty (0,0))/\vals.size=blk.cap * sz /\
   xs.length<=blk.cap/\(∀ (k:Nat) (e:List V),xs[k]?=some e->e.length=sz/\scalars e=true)/\(own=true->H blk.b=none)/\(own=false->H blk.b=some vals) /\
   ∀ (k:Nat) (e:List V),xs[k]?=some e->Cells H Mu.bot e vals (k * sz)
 | .mpo kd kvs=>∃ blk es clk,μ i=some blk/\w.heap[blk.b]?=some (.map es clk)/\H blk.b=none/\es.size=kvs.length /\
   ∀ (j:Nat) (k:Value) (v:V),kvs[j]?=some (k,v)->isKey kd k=true/\∃ e,es[j]?=some e/\e.key=k/\R H Mu.bot v e.val
def Owns (hp:Hp) (μ:Mu) (b:Nat):Prop:=∃ i ob blk,hp.lookup i=some ob/\ob.own=true/\μ i=some blk/\blk.b=b
structure Wd (H:Imm) (μ:Mu) (hp:Hp) (w:World):Prop where
 ob:∀ i o,hp.lookup i=some o->ObOk H μ w i o
 inj:∀ i j oi oj bi bj,hp.lookup i=some oi->oi.own=true->hp.lookup j=some oj->oj.own=true->μ i=some bi->μ j=some bj->bi.b=bj.b->i=j
 imm:∀ b cs,H b=some cs->∃ ty fz,w.heap[b]?=some (.cells cs ty fz)
 glo:∀ p ∈ pD0,H p.1=some p.2
structure Nj (H:Imm) (μ:Mu) (hp:Hp) (w:World) (H':Imm) (μ':Mu) (hp':Hp) (w':World):Prop where
 imm:Imm.le H H'
 os:w'.os=w.os
 tape:w'.tape=w.tape
 output:w'.output=w.output
 size:w.heap.size<=w'.heap.size
 keep:∀ b,b < w.heap.size->¬ Owns hp μ b->w'.heap[b]?=w.heap[b]?
 own:∀ b,Owns hp' μ' b->b < w.heap.size->Owns hp μ b
 fresh:∀ b cs,H' b=some cs->H b=none->w.heap.size<=b\/Owns hp μ b
structure Nx (H:Imm) (μ:Mu) (hp:Hp) (w:World) (H':Imm) (μ':Mu) (hp':Hp) (w':World):Prop extends Nj H μ hp w H' μ' hp' w' where
 ext:∀ k,μ' (.e k)=μ (.e k)
theorem fr0 {H:Imm} {μ:Mu} {hp:Hp} {w:World}:∀ b cs,H b=some cs->H b=none->w.heap.size<=b\/Owns hp μ b:=fun b cs h h0=>by rw [h0] at h; cases h
theorem Nx.refl (H:Imm) (μ:Mu) (hp:Hp) (w:World):Nx H μ hp w H μ hp w :=
 ⟨⟨Imm.le_refl H,rfl,rfl,rfl,Nat.le_refl _,fun _ _ _=>rfl,fun _ h _=>h,fr0⟩,fun _=>rfl⟩
theorem Nj.trans {H:Imm} {μ:Mu} {hp:Hp} {w:World} {H1:Imm} {μ1:Mu} {hp1:Hp} {w1:World} {H2:Imm} {μ2:Mu} {hp2:Hp} {w2:World}
  (h:Nj H μ hp w H1 μ1 hp1 w1) (k:Nj H1 μ1 hp1 w1 H2 μ2 hp2 w2):Nj H μ hp w H2 μ2 hp2 w2 :=
 ⟨Imm.le_trans h.imm k.imm,k.os.trans h.os,k.tape.trans h.tape,k.output.trans h.output,Nat.le_trans h.size k.size,
  fun b hb ho=>(k.keep b (Nat.lt_of_lt_of_le hb h.size) fun o1=>ho (h.own b o1 hb)).trans (h.keep b hb ho),
  fun b o2 hb=>h.own b (k.own b o2 (Nat.lt_of_lt_of_le hb h.size)) hb,
  fun b cs h2 h0=>by
   cases h1:H1 b with
   | some cs'=>exact h.fresh b cs' h1 h0
   | none =>
    rcases k.fresh b cs h2 h1 with h3 | h3
    ·exact .inl (Nat.le_trans h.size h3)
    ·rcases Nat.lt_or_ge b w.heap.size with h4 | h4
     ·exact .inr (h.own b h3 h4)
     ·exact .inl h4⟩
theorem Nx.trans {H:Imm} {μ:Mu} {hp:Hp} {w:World} {H1:Imm} {μ1:Mu} {hp1:Hp} {w1:World} {H2:Imm} {μ2:Mu} {hp2:Hp} {w2:World}
  (h:Nx H μ hp w H1 μ1 hp1 w1) (k:Nx H1 μ1 hp1 w1 H2 μ2 hp2 w2):Nx H μ hp w H2 μ2 hp2 w2 :=
 ⟨h.toNj.trans k.toNj,fun q=>(k.ext q).trans (h.ext q)⟩
structure Sz where
 n:Nat
 ds:List Deferred:=[]
instance : Coe Sz Nat := ⟨Sz.n⟩
structure Sat (n:Sz) (H:Imm) (μ:Mu) (env:Env) (hp:Hp) (a:Act) (w:World):Prop where
 defers:a.defers=n.ds
 size:a.tmps.size=n
 env:∀ s v,env.lookup s=some v->R H μ v (a.tmps.getD s undef)
 wd:Wd H μ hp w
inductive Ex where
 | normal
 | exit (id:Nat)
 | ret
 | pan (v:V)
def Ex.ok (H:Imm) (μ:Mu):Ex->Exit->Prop
 | .normal,.normal=>True
 | .exit i,.exit j=>i=j
 | .ret,.ret=>True
 | .pan v,.panic chain=>∃ x,chain=[{ v:=x,recovered:=false }]/\R H μ v x
 | _,_=>False
abbrev Qs:=Ex->Env->Hp->Prop
def Post (n:Sz) (H:Imm) (μ:Mu) (hp:Hp) (w:World) (Q:Qs):Exit->Act->World->Prop:=fun e a' w' =>
 ∃ ex env' hp' H' μ',Q ex env' hp'/\ex.ok H' μ' e/\Nx H μ hp w H' μ' hp' w'/\Sat n H' μ' env' hp' a' w'
theorem Post.trans {n:Sz} {H:Imm} {μ:Mu} {hp:Hp} {w:World} {H1:Imm} {μ1:Mu} {hp1:Hp} {w1:World} {Q:Qs} {e:Exit} {a':Act} {w':World}
  (h:Nx H μ hp w H1 μ1 hp1 w1) (k:Post n H1 μ1 hp1 w1 Q e a' w'):Post n H μ hp w Q e a' w':=by
 obtain ⟨ex,env',hp',H',μ',hq,he,hx,hs⟩:=k
 exact ⟨ex,env',hp',H',μ',hq,he,h.trans hx,hs⟩
theorem Post.mono {n:Sz} {H:Imm} {μ:Mu} {hp:Hp} {w:World} {Q Q':Qs} (hq:∀ ex env hp,Q ex env hp->Q' ex env hp) {e:Exit} {a':Act} {w':World}
  (k:Post n H μ hp w Q e a' w'):Post n H μ hp w Q' e a' w':=by
 obtain ⟨ex,env',hp',H',μ',h,r⟩:=k
 exact ⟨ex,env',hp',H',μ',hq _ _ _ h,r⟩
def Tri (P:Program) (n:Sz) (c:Code) (env:Env) (hp:Hp) (Q:Qs):Prop :=
 ∀ H μ a w,Sat n H μ env hp a w->c.wp P (Post n H μ hp w Q) a w
end Go.Am
end

section
namespace Go.Am
def kT0:Value->V
 | .slice none 0 0=>.nil
 | v=>.c v
def ofConst:Value->V
 | .agg vs=>.agg (vs.toList.map kT0)
 | v=>kT0 v
theorem of0 (H:Imm) (μ:Mu) (v:Value):R H μ (kT0 v) v:=by
 unfold kT0
 split
 ·exact .nil
 ·exact .c _
theorem ph0 (H:Imm) (μ:Mu) (v:Value):R H μ (ofConst v) v:=by
 unfold ofConst
 split
 ·rename_i vs
  refine .agg _ vs (by simp) fun j v hj=>?_
  rw [List.getElem?_map] at hj
  cases hx:vs.toList[j]? with
  | none=>rw [hx] at hj; cases hj
  | some x =>
   rw [hx] at hj
   simp only [Option.map_some,Option.some.injEq] at hj
   subst hj
   have:vs.getD j undef=x:=by
    rw [Array.getD_eq_getD_getElem?,<- Array.getElem?_toList,hx]; rfl
   rw [this]; exact of0 H μ x
 ·exact of0 H μ _
def Env.ev (env:Env):Operand->Option V
 | .tmp t=>env.lookup t
 | .const v=>some (ofConst v)
 | .func f=>some (.fn f [])
 | .global _=>none
theorem ch0 {n:Sz} {H:Imm} {μ:Mu} {env:Env} {hp:Hp} {a:Act} {w:World} (h:Sat n H μ env hp a w) {x:Operand} {v:V} (hx:Env.ev env x=some v):R H μ v (a.eval x):=by
 cases x with
 | tmp t=>exact h.env t v hx
 | const c=>simp only [Env.ev,Option.some.injEq] at hx; subst hx; exact ph0 H μ c
 | func f=>simp only [Env.ev,Option.some.injEq] at hx; subst hx; exact .fn f [] #[] rfl (fun j v h=>by simp at h)
 | global g=>simp [Env.ev] at hx
inductive IOp where
 | mv (x:Operand)
 | pick (c a b:Operand)
 | ld (x:Operand)
 | lda (sz:Nat) (x:Operand)
 | nchk (x:Operand)
 | bin (op:BinOp) (x y:Operand)
 | binb (ne:Bool) (x y:Operand)
 | un (op:UnOp) (x:Operand)
 | conv (k:IntKind) (x:Operand)
 | mkfn (f:Nat) (cs:List Operand)
 | mkif (t:Nat) (x:Operand)
 | slS (x:Operand) (lo hi:Option Operand)
 | slL (sz:Nat) (x:Operand) (lo hi:Option Operand)
 | fa (off:Nat) (x:Operand)
 | fld (off:Nat) (x:Operand)
 | flda (off sz:Nat) (x:Operand)
 | ia (sz:Nat) (x i:Operand)
 | ixS (x i:Operand)
 | ext (x:Operand) (i:Nat)
 | len (x:Operand)
 | lenS (x:Operand)
 | mx (x y:Operand)
 | mn (x y:Operand)
 | build (z:List V) (ps:List (Nat × Nat × Operand))
 | alloc (z:List V)
 | box (sz:Nat) (x:Operand)
 | mkrow (ty sz:Nat) (xs:List Operand)
 | isnl (ng:Bool) (x:Operand)
 | capn (x:Operand)
 | mks (ty sz bytes:Nat) (z:List V) (l c:Operand)
 | st (sz:Nat) (a v:Operand)
 | app (ty sz bytes:Nat) (s x:Operand)
 | cpy (sz:Nat) (d s:Operand)
 | call (f:Operand) (xs:List Operand)
 | pan (x:Operand)
 | ta (t:Nat) (z:Value) (x:Operand)
 | isni (ng:Bool) (x:Operand)
 | ixA (n:Nat) (x i:Operand)
 | mkmap (kd:Option IntKind)
 | mput (kd:Option IntKind) (m k v:Operand)
 | mget (kd:Option IntKind) (z:Value) (ok:Bool) (m k:Operand)
 | sl3 (x lo hi mx:Operand)
 | appz (ty sz bytes:Nat) (z:List V) (s x:Operand)
 | clr (sz:Nat) (z:List V) (x:Operand)
 | allocS (t:Nat) (z:List V)
 | cvSB (x:Operand)
 | cvIS (x:Operand)
 | appS (ty:Nat) (s x:Operand)
 | cvBS (x:Operand)
 | iaA (n sz:Nat) (x i:Operand)
 | slA (n sz:Nat) (x:Operand)
 | boxS (t sz:Nat) (x:Operand)
 deriving Inhabited
def V.nrm:V->V
 | .nil=>.lst []
 | v=>v
def V.cells:V->Option (List V)
 | .any=>none
 | .agg cs=>some cs
 | .c (.agg vs)=>some (vs.toList.map .c)
 | v=>some [v]
def eqS (a b:ByteArray):Bool:=decide (a=b)
theorem eqS_eq (a b:ByteArray):(a.toList == b.toList)=eqS a b:=by
 unfold eqS
 rw [ByteArray.toList_eq,ByteArray.toList_eq,Bool.eq_iff_iff]
 simp only [beq_iff_eq,decide_eq_true_eq]
 constructor
 ·intro h
  cases a; cases b
  simp only [ByteArray.mk.injEq]
  exact Array.toList_inj.1 h
 ·intro h; rw [h]
theorem ou0 (a b:ByteArray):(a.data == b.data)=eqS a b:=by
 unfold eqS
 rw [Bool.eq_iff_iff]
 simp only [beq_iff_eq,decide_eq_true_eq]
 exact ⟨fun h=>by cases a; cases b; simp only [ByteArray.mk.injEq]; exact h,fun h=>by rw [h]⟩
def ltS (a b:ByteArray):Bool:=Op.bytesLess a.data.toList b.data.toList
def binI (op:BinOp) (k:IntKind) (a b:Int) (K:V->Prop):Prop :=
 match op with
 | .add=>K (.c (.int k (k.wrap (a + b))))
 | .sub=>K (.c (.int k (k.wrap (a - b))))
 | .mul=>K (.c (.int k (k.wrap (a * b))))
 | .quo=>b ≠ 0/\K (.c (.int k (k.wrap (a.tdiv b))))
 | .rem=>b ≠ 0/\K (.c (.int k (a.tmod b)))
 | .eql=>K (.c (.bool (a == b)))
 | .neq=>K (.c (.bool (a != b)))
 | .lss=>K (.c (.bool (a < b)))
 | .leq=>K (.c (.bool (a<=b)))
 | .gtr=>K (.c (.bool (a > b)))
 | .geq=>K (.c (.bool (a>=b)))
 | .and=>K (.c (.int k (k.wrap ((BitVec.ofInt k.bits a &&& BitVec.ofInt k.bits b).toNat))))
 | .or=>K (.c (.int k (k.wrap ((BitVec.ofInt k.bits a ||| BitVec.ofInt k.bits b).toNat))))
 | _=>False
def binS (op:BinOp) (a b:ByteArray) (K:V->Prop):Prop :=
 match op with
 | .add=>a.size + b.size<=9223372036854775807/\K (.c (.string (a++b)))
 | .eql=>K (.c (.bool (eqS a b)))
 | .neq=>K (.c (.bool (!eqS a b)))
 | .lss=>K (.c (.bool (ltS a b)))
 | .leq=>K (.c (.bool (ltS a b || eqS a b)))
 | .gtr=>K (.c (.bool (!(ltS a b || eqS a b))))
 | .geq=>K (.c (.bool (!ltS a b)))
 | _=>False
def binV (op:BinOp):V->V->(V->Prop)->Prop
 | .c (.int k a),.c (.int k' b),K =>
  match op with
  | .shl=>0<=b/\K (.c (.int k (k.wrap (a * 2 ^ (min b.toNat k.bits)))))
  | .shr=>0<=b/\K (.c (.int k (a.fdiv (2 ^ (min b.toNat k.bits)))))
  | _=>k=k'/\binI op k a b K
 | .c (.string a),.c (.string b),K=>binS op a b K
 | _,_,_=>False
def qp0 (ne:Bool):V->V->(V->Prop)->Prop
 | .c (.bool a),.c (.bool b),K=>K (.c (.bool (if ne then !(a == b) else a == b)))
 | _,_,_=>False
def unV (op:UnOp):V->(V->Prop)->Prop
 | .c (.bool b),K=>match op with | .not=>K (.c (.bool !b)) | _=>False
 | .c (.int k n),K=>match op with | .neg=>K (.c (.int k (k.wrap (0 - n)))) | _=>False
 | _,_=>False
def ldV (hp:Hp):V->(V->Prop)->Prop
 | .rp cs,K=>∃ v,cs[0]?=some v/\K v
 | .bp i off,K=>∃ cs,hp.lookup i=some (.box cs)/\∃ v,cs[off]?=some v/\K v
 | .ep i k off,K=>∃ ty sz own xs,hp.lookup i=some (.row ty sz own xs)/\∃ e,xs[k]?=some e/\∃ v,e[off]?=some v/\K v
 | _,_=>False
def ldaV (hp:Hp) (sz:Nat):V->(V->Prop)->Prop
 | .rp cs,K=>sz<=cs.length/\K (.agg (cs.take sz))
 | .bp i off,K=>∃ cs,hp.lookup i=some (.box cs)/\off + sz<=cs.length/\K (.agg ((cs.drop off).take sz))
 | .ep i k off,K=>∃ ty sz' own xs,hp.lookup i=some (.row ty sz' own xs)/\∃ e,xs[k]?=some e/\off + sz<=e.length/\K (.agg ((e.drop off).take sz))
 | _,_=>False
def faV (off:Nat):V->(V->Prop)->Prop
 | .rp cs,K=>K (.rp (cs.drop off))
 | .bp i o,K=>K (.bp i (o + off))
 | .ep i k o,K=>K (.ep i k (o + off))
 | _,_=>False
def nC0:V->(V->Prop)->Prop
 | .rp cs,K=>K (.rp cs)
 | .bp i o,K=>K (.bp i o)
 | .ep i k o,K=>K (.ep i k o)
 | .fn f cs,K=>K (.fn f cs)
 | _,_=>False
def lenV:V->(V->Prop)->Prop
 | .nil,K=>K (.c (.int .i64 0))
 | .lst xs,K=>K (.c (.int .i64 (xs.length:Int)))
 | .arr _ _ n,K=>K (.c (.int .i64 (n:Int)))
 | .arc _ _ n _,K=>K (.c (.int .i64 (n:Int)))
 | _,_=>False
def iaV (hp:Hp) (sz:Nat):V->V->(V->Prop)->Prop
 | .lst xs,.c (.int _ i),K=>∃ e,0<=i/\xs[i.toNat]?=some e/\e.length=sz/\K (.rp e)
 | .arr id o n,.c (.int _ i),K=>0<=i/\i < n/\(∃ ty own xs,hp.lookup id=some (.row ty sz own xs))/\K (.ep id (o + i.toNat) 0)
 | _,_,_=>False
def ixSV:V->V->(V->Prop)->Prop
 | .c (.string s),.c (.int _ i),K=>0<=i/\∃ b,s.data.toList[i.toNat]?=some b/\K (.c (.int .u8 b.toNat))
 | _,_,_=>False
def extV (i:Nat):V->(V->Prop)->Prop
 | .tup cs,K=>∃ v,cs[i]?=some v/\K v
 | _,_=>False
def intO:Option (Option V)->Int->(Int->Prop)->Prop
 | none,d,K=>K d
 | some (some (.c (.int _ i))),_,K=>K i
 | _,_,_=>False
def slSV:V->(lo hi:Option (Option V))->(V->Prop)->Prop
 | .c (.string s),lo,hi,K=>intO hi s.size fun h=>intO lo 0 fun l=>0<=l/\l<=h/\h<=s.size/\K (.c (.string (s.extract l.toNat h.toNat)))
 | _,_,_,_=>False
def slLV (hp:Hp) (sz:Nat) (v:V) (lo hi:Option (Option V)) (K:V->Prop):Prop :=
 match v with
 | .nil=>intO hi 0 fun h=>intO lo 0 fun l=>l=0/\h=0/\K .nil
 | .lst xs=>intO hi xs.length fun h=>intO lo 0 fun l=>0<=l/\l<=h/\h<=xs.length/\(xs=[]\/∃ e,xs[0]?=some e/\e.length=sz)/\K (.lst ((xs.take h.toNat).drop l.toNat))
 | .arr id o n=>(∃ ty own xs,hp.lookup id=some (.row ty sz own xs))/\intO hi n fun h=>intO lo 0 fun l=>0<=l/\l<=h/\h<=n/\K (.arr id (o + l.toNat) (h.toNat - l.toNat))
 | .arc id o n q=>(∃ ty own xs,hp.lookup id=some (.row ty sz own xs))/\intO hi n fun h=>intO lo 0 fun l=>0<=l/\l<=h/\h<=q/\K (.arc id (o + l.toNat) (h.toNat - l.toNat) (q - l.toNat))
 | _=>False
def setAt (cs:List V) (off:Nat) (vs:List V):List V:=cs.take off++vs++cs.drop (off + vs.length)
def hZ0 (ρ:Operand->Option V):List (Nat × Nat × Operand)->List V->(List V->Prop)->Prop
 | [],cs,K=>K cs
 | (off,sz,x) :: ps,cs,K=>∃ v us,ρ x=some v/\v.cells=some us/\us.length=sz/\off + sz<=cs.length/\hZ0 ρ ps (setAt cs off us) K
def taV (t:Nat) (z:Value):V->(V->Prop)->Prop
 | .ifc t' u,K=>(t'=t->K (.tup [u,.c (.bool true)]))/\(t' ≠ t->K (.tup [.c z,.c (.bool false)]))
 | .c .nilIface,K=>K (.tup [.c z,.c (.bool false)])
 | _,_=>False
def pB0:V->(Bool->Prop)->Prop
 | .ifc _ _,K=>K false
 | .c .nilIface,K=>K true
 | _,_=>False
def ixAV (n:Nat) (cs:List V):V->(V->Prop)->Prop
 | .c (.int _ i),K=>0<=i/\i < n/\∃ v,cs[i.toNat]?=some v/\K v
 | _,_=>False
def chr (n:Int):ByteArray:=⟨⟨[UInt8.ofNat n.toNat]⟩⟩
def a10 (s:ByteArray):List (List V):=s.data.toList.map fun b=>[.c (.int .u8 b.toNat)]
def pv (hp:Hp) (ρ:Operand->Option V):IOp->(V->Prop)->Prop
 | .mv x,K=>∃ v,ρ x=some v/\K v
 | .pick c a b,K=>∃ t,ρ c=some (.c (.bool t))/\(t=true->∃ v,ρ a=some v/\K v)/\(t=false->∃ v,ρ b=some v/\K v)
 | .ld x,K=>∃ v,ρ x=some v/\ldV hp v K
 | .lda sz x,K=>∃ v,ρ x=some v/\ldaV hp sz v K
 | .nchk x,K=>∃ v,ρ x=some v/\nC0 v K
 | .bin op x y,K=>∃ v u,ρ x=some v/\ρ y=some u/\binV op v u K
 | .binb ne x y,K=>∃ v u,ρ x=some v/\ρ y=some u/\qp0 ne v u K
 | .un op x,K=>∃ v,ρ x=some v/\unV op v K
 | .conv k x,K=>∃ k' n,ρ x=some (.c (.int k' n))/\K (.c (.int k (k.wrap n)))
 | .mkfn f cs,K=>∃ vs,cs.mapM ρ=some vs/\K (.fn f vs)
 | .mkif t x,K=>∃ v,ρ x=some v/\K (.ifc t v)
 | .slS x lo hi,K=>∃ v,ρ x=some v/\slSV v (lo.map ρ) (hi.map ρ) K
 | .slL sz x lo hi,K=>∃ v,ρ x=some v/\slLV hp sz v (lo.map ρ) (hi.map ρ) K
 | .fa off x,K=>∃ v,ρ x=some v/\faV off v K
 | .fld off x,K=>∃ cs,ρ x=some (.agg cs)/\∃ v,cs[off]?=some v/\K v
 | .flda off sz x,K=>∃ cs,ρ x=some (.agg cs)/\off + sz<=cs.length/\K (.agg ((cs.drop off).take sz))
 | .ia sz x i,K=>∃ v u,ρ x=some v/\ρ i=some u/\iaV hp sz v u K
 | .ixS x i,K=>∃ v u,ρ x=some v/\ρ i=some u/\ixSV v u K
 | .ext x i,K=>∃ v,ρ x=some v/\extV i v K
 | .len x,K=>∃ v,ρ x=some v/\lenV v K
 | .lenS x,K=>∃ s,ρ x=some (.c (.string s))/\K (.c (.int .i64 (s.size:Int)))
 | .mx x y,K=>∃ k k' a b,ρ x=some (.c (.int k a))/\ρ y=some (.c (.int k' b))/\K (.c (.int k (if b > a then b else a)))
 | .mn x y,K=>∃ k k' a b,ρ x=some (.c (.int k a))/\ρ y=some (.c (.int k' b))/\K (.c (.int k (if b < a then b else a)))
 | .build z ps,K=>hZ0 ρ ps z fun cs=>K (.agg cs)
 | .ta t z x,K=>∃ v,ρ x=some v/\taV t z v K
 | .isni ng x,K=>∃ v,ρ x=some v/\pB0 v fun b=>K (.c (.bool (if ng then !b else b)))
 | .ixA n x i,K=>∃ cs u,ρ x=some (.agg cs)/\ρ i=some u/\ixAV n cs u K
 | .cvIS x,K=>∃ k n,ρ x=some (.c (.int k n))/\(0<=n/\n < 128)/\K (.c (.string (chr n)))
 | _,_=>False
end Go.Am
end

section
namespace Go.Am
def zeroCells (P:Program) (t:TypeId):Option (List V):=((P.info? t).bind (·.zero)).map fun z=>z.cells.toList.map kT0
def iM0:TypeDesc->Bool
 | .struct _ | .array _ _=>true
 | _=>false
def lf0 (P:Program) (s:TypeId) (f:Nat):Option (Nat × Nat × Bool) :=
 match P.underlying s with
 | some (.struct fs) =>
  match fs[f]? with
  | some fld=>match P.underlying fld.type with
   | some d=>some (fld.offset,P.cellsOf fld.type,iM0 d)
   | none=>none
  | none=>none
 | _=>none
def compB (P:Program):Builtin->List Operand->List TypeId->Option IOp
 | .len,[x],[t] =>
  match P.underlying t with
  | some .string=>some (.lenS x)
  | some (.slice _)=>some (.len x)
  | _=>none
 | .max,[x,y],_=>some (.mx x y)
 | .min,[x,y],_=>some (.mn x y)
 | .append,[s,x],[t,t'] =>
  match P.underlying t,P.underlying t' with
  | some (.slice e),some (.slice e')=>match P.info? e,zeroCells P e with
   | some i,some z=>if t=t'/\z.length=i.size/\0 < i.size/\0 < i.bytes/\scalars z=true then some (.app e i.size i.bytes s x) else none
   | _,_=>none
  | some (.slice e),some (.int _)=>match P.info? e,zeroCells P e with
   | some i,some z=>if z.length=i.size/\0 < i.size/\0 < i.bytes/\scalars z=true then some (.appz e i.size i.bytes z s x) else none
   | _,_=>none
  | some (.slice e),some .string=>match P.info? e,zeroCells P e with
   | some i,some z=>if z.length=i.size/\i.size=1/\i.bytes=1/\scalars z=true then some (.appS e s x) else none
   | _,_=>none
  | _,_=>none
 | .copy,[s,x],[t,t'] =>
  match P.underlying t,P.underlying t' with
  | some (.slice e),some (.slice e')=>match P.info? e with
   | some i=>if P.cellsOf e'=i.size/\0 < i.size then some (.cpy i.size s x) else none
   | _=>none
  | _,_=>none
 | .cap,[x],[t] =>
  match P.underlying t with
  | some (.slice _)=>some (.capn x)
  | _=>none
 | .clear,[x],[t] =>
  match P.underlying t with
  | some (.slice e)=>match P.info? e,zeroCells P e with
   | some i,some z=>if z.length=i.size/\0 < i.size/\scalars z=true then some (.clr i.size z x) else none
   | _,_=>none
  | _=>none
 | _,_,_=>none
def rd0:Operand->Bool
 | .const (.slice none 0 0)=>true
 | _=>false
def re0:Operand->Bool
 | .const .nilIface=>true
 | _=>false
def lR0:TypeDesc->Bool
 | .interface _=>true
 | _=>false
def kdOf (P:Program) (kt:TypeId):Option (Option IntKind) :=
 match P.underlying kt with
 | some (.int k)=>some (some k)
 | some .string=>some none
 | _=>none
def bldT (P:Program) (t:TypeId):Bool :=
 match P.underlying t with
 | some (.struct fs)=>match fs[0]?,fs[1]? with
  | some f,some g=>match P.underlying f.type,P.underlying g.type with
   | some (.pointer u),some (.slice e)=>match P.underlying e with
    | some (.int .u8)=>u == t
    | _=>false
   | _,_=>false
  | _,_=>false
 | _=>false
def selfT (P:Program) (t:TypeId):Bool :=
 bldT P t || match P.underlying t with
 | some (.struct fs)=>match fs[0]? with
  | some f=>bldT P f.type
  | none=>false
 | _=>false
def comp (P:Program) (o:Oper):Option IOp :=
 match o.op with
 | .move x=>some (.mv x)
 | .assign x=>some (.mv x)
 | .pick c a b=>some (.pick c a b)
 | .load t x =>
  match P.underlying t with
  | some d=>some (if iM0 d then .lda (P.cellsOf t) x else .ld x)
  | none=>none
 | .nilCheck x=>some (.nchk x)
 | .binOp op t x y _ =>
  match op,P.underlying t with
  | .eql,some .bool=>some (.binb false x y)
  | .neq,some .bool=>some (.binb true x y)
  | .eql,some (.slice _)=>if rd0 y then some (.isnl false x) else none
  | .neq,some (.slice _)=>if rd0 y then some (.isnl true x) else none
  | .eql,some (.interface _)=>if re0 y then some (.isni false x) else none
  | .neq,some (.interface _)=>if re0 y then some (.isni true x) else none
  | _,some (.int _)=>some (.bin op x y)
  | _,some .string=>some (.bin op x y)
  | _,_=>none
 | .unOp op _ x=>some (.un op x)
 | .convert src dst x =>
  match P.underlying src,P.underlying dst with
  | some (.int _),some (.int k)=>some (.conv k x)
  | some (.int _),some .string=>some (.cvIS x)
  | some .string,some (.slice e)=>match P.underlying e with
   | some (.int .u8)=>some (.cvSB x)
   | _=>none
  | some (.slice e),some .string=>match P.underlying e with
   | some (.int .u8)=>some (.cvBS x)
   | _=>none
  | _,_=>none
 | .makeFunc (.func f) first cs=>if first.size=0 then some (.mkfn f cs.toList) else none
 | .makeInterface t x=>if P.concrete t then some (.mkif t x) else none
 | .slice t x lo hi none =>
  match P.underlying t with
  | some .string=>some (.slS x lo hi)
  | some (.slice e)=>match P.info? e with
   | some i=>some (.slL i.size x lo hi)
   | none=>none
  | some (.array m e)=>match lo,hi,P.info? e with
   | none,none,some i=>if 0 < i.size/\0 < m then some (.slA m i.size x) else none
   | _,_,_=>none
  | _=>none
 | .fieldAddr s x f =>
  match lf0 P s f with
  | some (off,sz,_)=>if sz=0 then none else some (.fa off x)
  | none=>none
 | .field s x f =>
  match lf0 P s f with
  | some (off,sz,true)=>some (.flda off sz x)
  | some (off,_,false)=>some (.fld off x)
  | none=>none
 | .indexAddr t x i =>
  match P.underlying t with
  | some (.slice e)=>match P.info? e with
   | some inf=>if 0 < inf.size then some (.ia inf.size x i) else none
   | none=>none
  | some (.array m e)=>match P.info? e with
   | some inf=>if 0 < inf.size then some (.iaA m inf.size x i) else none
   | none=>none
  | _=>none
 | .index t x i =>
  match P.underlying t with
  | some .string=>some (.ixS x i)
  | some (.array len e)=>match P.underlying e with
   | some d=>if P.cellsOf e=1/\iM0 d=false then some (.ixA len x i) else none
   | none=>none
  | _=>none
 | .extract x i=>some (.ext x i)
 | .build t ps =>
  match P.underlying t,zeroCells P t with
  | some (.struct fs),some z =>
   match ps.toList.mapM (fun (p:Nat × Operand)=>(fs[p.1]?).bind fun f=>if (P.info? f.type).isSome then some (f.offset,P.cellsOf f.type,p.2) else none) with
   | some qs=>if fs.all (fun f=>(P.info? f.type).isSome) then some (.build z qs) else none
   | none=>none
  | some (.array len e),some z=>if (P.info? e).isSome then some (.build z (ps.toList.map fun p=>(p.1 * P.cellsOf e,P.cellsOf e,p.2))) else none
  | _,_=>none
 | .typeAssert x _ t true =>
  match P.underlying t,(P.info? t).bind (·.zero) with
  | some d,some z=>if lR0 d then none else some (.ta t z x)
  | _,_=>none
 | .alloc t =>
  match zeroCells P t with
  | some z=>match selfT P t,z with
   | true,.c (.pointer none) :: z=>some (.allocS t z)
   | _,z=>some (.alloc z)
  | none=>none
 | .box t x=>some (if selfT P t then .boxS t (P.cellsOf t) x else .box (P.cellsOf t) x)
 | .buildSlice t n ps =>
  match P.underlying t with
  | some (.slice e)=>match P.info? e,zeroCells P e with
   | some i,some _=>if n * i.size<=2 ^ 24/\n<=maxLen/\0 < i.size/\ps.toList.map (·.1)=List.range' 0 n then some (.mkrow e i.size (ps.toList.map (·.2))) else none
   | _,_=>none
  | _=>none
 | .makeSlice t l c =>
  match P.underlying t with
  | some (.slice e)=>match P.info? e,zeroCells P e with
   | some i,some z=>if z.length=i.size/\scalars (z.map V.nrm)=true/\0 < i.size then some (.mks e i.size i.bytes (z.map V.nrm) l c) else none
   | _,_=>none
  | _=>none
 | .store t a v =>
  match P.underlying t,P.info? t with
  | some _,some i=>some (.st i.size a v)
  | _,_=>none
 | .call c =>
  match c.callee with
  | .builtin b=>compB P b c.args.toList c.argTypes.toList
  | .value f=>some (.call f c.args.toList)
  | _=>none
 | .panic x=>some (.pan x)
 | .makeMap t none =>
  match P.underlying t with
  | some (.map kt _)=>(kdOf P kt).map .mkmap
  | _=>none
 | .insert t m k x =>
  match P.underlying t with
  | some (.map kt _)=>(kdOf P kt).map fun kd=>.mput kd m k x
  | _=>none
 | .mapUpdate t m k x =>
  match P.underlying t with
  | some (.map kt _)=>(kdOf P kt).map fun kd=>.mput kd m k x
  | _=>none
 | .lookup t m k ok =>
  match P.underlying t with
  | some (.map kt et)=>match kdOf P kt,(P.info? et).bind (·.zero) with
   | some kd,some z=>some (.mget kd z ok m k)
   | _,_=>none
  | _=>none
 | .slice t x (some lo) (some hi) (some mx) =>
  match P.underlying t with
  | some (.slice e)=>if (P.info? e).isSome then some (.sl3 x lo hi mx) else none
  | _=>none
 | _=>none
end Go.Am
end

section
namespace Go.Am
variable {P:Program} {n:Sz} {H:Imm} {μ:Mu} {env:Env} {hp:Hp} {a:Act} {w:World}
theorem R.lift {H:Imm} {μ0:Mu} {v:V} {x:Value} (h:R H μ0 v x):μ0=Mu.bot->∀ μ,R H μ v x:=by
 induction h with
 | any x=>intro _ μ; exact .any x
 | c v=>intro _ μ; exact .c v
 | nil=>intro _ μ; exact .nil
 | lst xs sz a n cap cv hn hc hs hm hr ih=>intro _ μ; exact .lst xs sz a n cap cv hn hc hs hm hr
 | rp cs b off cv hm hr ih=>intro _ μ; exact .rp cs b off cv hm hr
 | bp i off blk h=>intro e; subst e; simp [Mu.bot] at h
 | self i t a blk h ht ha=>intro e; subst e; simp [Mu.bot] at h
 | ep i k off blk h=>intro e; subst e; simp [Mu.bot] at h
 | mp i blk h=>intro e; subst e; simp [Mu.bot] at h
 | arc i o n c a hc h=>intro e μ; subst e; exact .arc i o n c a hc (.inl (by simpa [Mu.bot] using h))
 | arr i o n a cap hc h=>intro e μ; subst e; exact .arr i o n a cap hc (.inl (by simpa [Mu.bot] using h))
 | agg cs vs hn hr ih=>intro e μ; exact .agg cs vs hn (fun j v hj=>ih j v hj e μ)
 | fn f cs vs hn hr ih=>intro e μ; exact .fn f cs vs hn (fun j v hj=>ih j v hj e μ)
 | tup cs vs hn hr ih=>intro e μ; exact .tup cs vs hn (fun j v hj=>ih j v hj e μ)
 | ifc t v x h ih=>intro e μ; exact .ifc t v x (ih e μ)
theorem q50 {b off:Nat} {cs:Array Value} (hW:Wd H μ hp w) (h:H b=some cs):w.cell? ⟨b,off,none⟩=cs[off]?:=by
 obtain ⟨ty,fz,hb⟩:=hW.imm b cs h
 simp [World.cell?,hb]
theorem hs0 {b off:Nat} {cs:Array Value} {ty:TypeId} {fz:Nat × Nat} (hb:w.heap[b]?=some (.cells cs ty fz)):w.cell? ⟨b,off,none⟩=cs[off]?:=by
 simp [World.cell?,hb]
inductive At (H:Imm) (μ:Mu) (hp:Hp):V->List V->Prop where
 | rp (cs:List V):At H μ hp (.rp cs) cs
 | bp (i:Id) (off:Nat) (cs:List V) (h:hp.lookup i=some (.box cs)):At H μ hp (.bp i off) (cs.drop off)
 | ep (i:Id) (k off ty sz:Nat) (own:Bool) (xs:List (List V)) (e:List V) (h:hp.lookup i=some (.row ty sz own xs)) (he:xs[k]?=some e):At H μ hp (.ep i k off) (e.drop off)
theorem At.cell {v:V} {cs:List V} {x:Value} (h:At H μ hp v cs) (hW:Wd H μ hp w) (hx:R H μ v x) :
  ∃ ad:Addr,x=.pointer (some ad)/\ad.spot=none/\∀ (j:Nat) (u:V),cs[j]?=some u->∃ y,w.cell? ⟨ad.block,ad.off + j,none⟩=some y/\R H μ u y:=by
 cases h with
 | rp cs =>
  cases hx with
  | rp cs b off cv hm hr =>
   refine ⟨⟨b,off,none⟩,rfl,rfl,fun j u hj=>?_⟩
   obtain ⟨blk,h1,h2⟩:=hm j u hj
   exact ⟨cv j,by rw [q50 hW h1]; exact h2,(hr j u hj).lift rfl μ⟩
 | bp i off cs h =>
  cases hx with
  | bp i off blk hb =>
   obtain ⟨blk',vals,ty,h1,h2,h3,h4,h5⟩:=hW.ob i _ h
   rw [hb] at h1; injection h1 with h1; subst h1
   refine ⟨⟨blk.b,off,none⟩,rfl,rfl,fun j u hj=>?_⟩
   rw [List.getElem?_drop] at hj
   obtain ⟨y,hy,hr⟩:=h5 (off + j) u hj
   exact ⟨y,by rw [hs0 h2]; simpa using hy,hr⟩
 | ep i k off ty sz own xs e h he =>
  cases hx with
  | ep i k off blk hb =>
   rcases hW.ob i _ h with ⟨rfl,_⟩ | ⟨blk',vals,h1,⟨hsz,_⟩,h2,h3,h4,h5,h6,h7,h8⟩
   ·simp at he
   rw [hb] at h1; injection h1 with h1; subst h1
   refine ⟨⟨blk.b,k * blk.sz + off,none⟩,rfl,rfl,fun j u hj=>?_⟩
   rw [List.getElem?_drop] at hj
   obtain ⟨y,hy,hr⟩:=h8 k e he (off + j) u hj
   exact ⟨y,by rw [hs0 h2,hsz,Nat.add_assoc]; exact hy,hr.lift rfl μ⟩
theorem ldV_ok {v:V} {x:Value} {K:V->Prop} (hW:Wd H μ hp w) (hx:R H μ v x) (h:ldV hp v K):∃ u y ad,K u/\R H μ u y/\x=.pointer (some ad)/\w.cell? ad=some y:=by
 have key:∃ cs u,At H μ hp v cs/\cs[0]?=some u/\K u:=by
  cases v <;> simp only [ldV] at h
  case rp cs=>obtain ⟨u,h1,h2⟩:=h; exact ⟨cs,u,.rp cs,h1,h2⟩
  case bp i off=>obtain ⟨cs,h1,u,h2,h3⟩:=h; exact ⟨_,u,.bp i off cs h1,by simpa [List.getElem?_drop] using h2,h3⟩
  case ep i k off=>obtain ⟨ty,sz,own,xs,h1,e,h2,u,h3,h4⟩:=h; exact ⟨_,u,.ep i k off ty sz own xs e h1 h2,by simpa [List.getElem?_drop] using h3,h4⟩
 obtain ⟨cs,u,hat,h0,hk⟩:=key
 obtain ⟨⟨b,off,sp⟩,hx',hs,hc⟩:=hat.cell hW hx
 obtain ⟨y,hy,hr⟩:=hc 0 u h0
 simp only at hs; subst hs
 exact ⟨u,y,⟨b,off,none⟩,hk,hr,hx',by simpa using hy⟩
theorem R_aggOf {cs:List V} {f:Nat->Value} (h:∀ (j:Nat) (u:V),cs[j]?=some u->R H μ u (f j)):R H μ (.agg cs) (.agg ((List.range cs.length).map f).toArray):=by
 refine .agg cs _ (by simp) fun j v hj=>?_
 have hlt:j < cs.length:=(List.getElem?_eq_some_iff.1 hj).1
 have:(((List.range cs.length).map f).toArray).getD j undef=f j:=by simp [Array.getD,hlt]
 rw [this]; exact h j v hj
theorem pJ0 {cs:List V} {ad:Addr} (hs:ad.spot=none) (h:∀ (j:Nat) (u:V),cs[j]?=some u->∃ y,w.cell? ⟨ad.block,ad.off + j,none⟩=some y/\R H μ u y) :
  ∃ vals,(loadCells ad cs.length).run P w=.ok vals w/\R H μ (.agg cs) (.agg vals):=by
 obtain ⟨b,off,sp⟩:=ad; simp only at hs; subst hs
 let f:Nat->Value:=fun j=>(w.cell? ⟨b,off + j,none⟩).getD undef
 refine ⟨((List.range cs.length).map f).toArray,run_loadCells w ⟨b,off,none⟩ cs.length f fun j hj=>?_,R_aggOf fun j u hj=>?_⟩
 ·obtain ⟨y,hy,_⟩:=h j _ (List.getElem?_eq_getElem hj)
  have e:(⟨b,off,none⟩:Addr).add j=⟨b,off + j,none⟩:=by unfold Addr.add; split <;> simp_all
  rw [e,hy]; simp [f,hy]
 ·obtain ⟨y,hy,hr⟩:=h j u hj
  simp [f,hy]; exact hr
theorem ldaV_ok {v:V} {x:Value} {sz:Nat} {K:V->Prop} (hW:Wd H μ hp w) (hx:R H μ v x) (h:ldaV hp sz v K) :
  ∃ u vals ad,K u/\R H μ u (.agg vals)/\x=.pointer (some ad)/\(loadCells ad sz).run P w=.ok vals w:=by
 have key:∃ cs,At H μ hp v cs/\sz<=cs.length/\K (.agg (cs.take sz)):=by
  cases v <;> simp only [ldaV] at h
  case rp cs=>exact ⟨cs,.rp cs,h.1,h.2⟩
  case bp i off=>obtain ⟨cs,h1,h2,h3⟩:=h; exact ⟨_,.bp i off cs h1,by simp; omega,h3⟩
  case ep i k off=>obtain ⟨ty,sz',own,xs,h1,e,h2,h3,h4⟩:=h; exact ⟨_,.ep i k off ty sz' own xs e h1 h2,by simp; omega,h4⟩
 obtain ⟨cs,hat,hl,hk⟩:=key
 obtain ⟨ad,hx',hs,hc⟩:=hat.cell hW hx
 obtain ⟨vals,h1,h2⟩:=pJ0 (P:=P) (cs:=cs.take sz) hs fun j u hj=>hc j u (by
  rw [List.getElem?_take] at hj; split at hj <;> simp_all)
 rw [List.length_take,Nat.min_eq_left hl] at h1
 exact ⟨_,vals,ad,hk,h2,hx',h1⟩
theorem hM0 {t:TypeId} {d:TypeDesc} (h:P.underlying t=some d) (w:World):(isAgg t).run P w=.ok (iM0 d) w:=by
 unfold isAgg iM0
 rw [Sem.run_bind,run_underlying h w]
 cases d <;> simp
theorem info_of_underlying {t:TypeId} {d:TypeDesc} (h:P.underlying t=some d):∃ i,P.info? t=some i:=by
 unfold Program.underlying at h
 split at h <;> simp_all
theorem run_sizeOf {t:TypeId} {d:TypeDesc} (h:P.underlying t=some d) (w:World):(sizeOf t).run P w=.ok (P.cellsOf t) w:=by
 obtain ⟨i,hi⟩:=info_of_underlying h
 simp [sizeOf,typeInfo,hi,Program.cellsOf]
end Go.Am
end

section
namespace Go.Am
variable {P:Program} {n:Sz} {H:Imm} {μ:Mu} {env:Env} {hp:Hp} {a:Act} {w:World}
theorem R.bS0 {v x:Value} (h:R H μ (.c v) x):x=v:=by cases h; rfl
def hO0 (P:Program) (H:Imm) (μ:Mu) (s:Sem Value) (w:World) (K:V->Prop):Prop:=∃ v x,K v/\R H μ v x/\s.run P w=.ok x w
theorem cC0 {s:Sem Value} {x:Value} {K:V->Prop} (hk:K (.c x)) (h:s.run P w=.ok x w):hO0 P H μ s w K:=⟨_,x,hk,.c x,h⟩
theorem binI_ok {t:TypeId} {op:BinOp} {k:IntKind} {p q:Int} {x y:Operand} {K:V->Prop} (h:binI op k p q K) :
  hO0 P H μ (do eqGuard op t x y (.int k p) (.int k q); binOp op t (.int k p) (.int k q)) w K:=by
 cases op <;> simp only [binI] at h <;> try exact h.elim
 case quo=>exact cC0 h.2 (by simp [eqGuard,binOp,Op.intDiv,h.1])
 case rem=>exact cC0 h.2 (by simp [eqGuard,binOp,Op.intDiv,h.1])
 all_goals exact cC0 h (by simp [eqGuard,binOp,Op.intArith,Op.intCmp,Op.intBits])
theorem binS_ok {t:TypeId} {op:BinOp} {p q:ByteArray} {x y:Operand} {K:V->Prop} (h:binS op p q K) :
  hO0 P H μ (do eqGuard op t x y (.string p) (.string q); binOp op t (.string p) (.string q)) w K:=by
 cases op <;> simp only [binS] at h <;> try exact h.elim
 case add =>
  refine cC0 h.2 ?_
  have h1:=h.1
  simp [eqGuard,binOp,Op.stringOp]
  omega
 all_goals exact cC0 h (by simp [eqGuard,binOp,Op.stringOp,eqS_eq,ltS,ByteArray.toList_eq,ou0])
theorem binV_ok {t:TypeId} {op:BinOp} {v u:V} {p q:Value} {x y:Operand} {K:V->Prop} (hv:R H μ v p) (hu:R H μ u q) (h:binV op v u K) :
  hO0 P H μ (do eqGuard op t x y p q; binOp op t p q) w K:=by
 unfold binV at h
 split at h
 ·have:=hv.bS0; subst this; have:=hu.bS0; subst this
  split at h
  ·exact cC0 h.2 (by simp [eqGuard,binOp,Op.shift]; omega)
  ·exact cC0 h.2 (by simp [eqGuard,binOp,Op.shift]; omega)
  ·obtain ⟨rfl,h⟩:=h; exact binI_ok h
 ·have:=hv.bS0; subst this; have:=hu.bS0; subst this
  exact binS_ok h
 ·exact h.elim
theorem q40 {t:TypeId} {ne:Bool} {v u:V} {p q:Value} {x y:Operand} {K:V->Prop} (ht:P.underlying t=some .bool) (hv:R H μ v p) (hu:R H μ u q) (h:qp0 ne v u K) :
  hO0 P H μ (do eqGuard (if ne then .neq else .eql) t x y p q; binOp (if ne then .neq else .eql) t p q) w K:=by
 unfold qp0 at h
 split at h
 ·have:=hv.bS0; subst this; have:=hu.bS0; subst this
  cases ne
  ·exact cC0 h (by simp [eqGuard,run_eql_bool w t _ _ ht])
  ·exact cC0 h (by simp [eqGuard,run_neq_bool w t _ _ ht])
 ·exact h.elim
theorem unV_ok {op:UnOp} {v:V} {p:Value} {K:V->Prop} (hv:R H μ v p) (h:unV op v K):hO0 P H μ (Op.unary op p) w K:=by
 unfold unV at h
 split at h
 ·have:=hv.bS0; subst this
  cases op <;> simp only at h <;> try exact h.elim
  exact cC0 h (by simp [Op.unary])
 ·have:=hv.bS0; subst this
  cases op <;> simp only at h <;> try exact h.elim
  exact cC0 h (by simp [Op.unary,Op.intArith])
 ·exact h.elim
theorem lenV_ok {t e:TypeId} {v:V} {p:Value} {K:V->Prop} (ty:TypeId) (ht:P.underlying t=some (.slice e)) (hv:R H μ v p) (h:lenV v K) :
  hO0 P H μ (Builtin.len_ #[t] ty #[p]) w K:=by
 unfold lenV at h
 split at h
 ·cases hv; exact cC0 h (by simp [Builtin.len_,run_underlying ht,goInt])
 ·cases hv with
  | lst xs sz a n cap cv hn=>subst hn; exact cC0 h (by simp [Builtin.len_,run_underlying ht,goInt])
 ·cases hv; exact cC0 h (by simp [Builtin.len_,run_underlying ht,goInt])
 ·cases hv; exact cC0 h (by simp [Builtin.len_,run_underlying ht,goInt])
 ·exact h.elim
theorem extV_ok {v:V} {p:Value} {i:Nat} {K:V->Prop} (hv:R H μ v p) (h:extV i v K):hO0 P H μ (Instr.extract p i) w K:=by
 unfold extV at h
 split at h
 ·obtain ⟨u,hu,hk⟩:=h
  cases hv with
  | tup cs vs hn hr =>
   have hlt:i < vs.size:=by rw [hn]; exact (List.getElem?_eq_some_iff.1 hu).1
   refine ⟨u,vs.getD i undef,hk,hr i u hu,?_⟩
   simp [Instr.extract,Array.getD,hlt]
 ·exact h.elim
theorem ixSV_ok {t:TypeId} (ht:P.underlying t=some .string) {v u:V} {p q:Value} {K:V->Prop} (hv:R H μ v p) (hu:R H μ u q) (h:ixSV v u K):hO0 P H μ (Instr.index t p q) w K:=by
 unfold ixSV at h
 split at h
 ·have:=hv.bS0; subst this; have:=hu.bS0; subst this
  obtain ⟨h0,b,hb,hk⟩:=h
  rename_i s k i
  refine cC0 hk ?_
  have hlt:i.toNat < s.size:=by
   have:=(List.getElem?_eq_some_iff.1 hb).1
   simpa using this
  have hs:s[i.toNat]?=some b:=by
   rw [ByteArray.getElem?_lt' s _ hlt]
   rw [List.getElem?_eq_getElem (by simpa using hlt)] at hb
   simp at hb
   rw [<- hb]; rfl
  simp [Instr.index,asIntOf,run_underlying ht,h0,hs]
 ·exact h.elim
theorem gK0 {s f off sz:Nat} {b:Bool} (h:lf0 P s f=some (off,sz,b)):∃ fs fld d,P.underlying s=some (.struct fs)/\fs[f]?=some fld/\P.underlying fld.type=some d /\
  off=fld.offset/\sz=P.cellsOf fld.type/\b=iM0 d:=by
 unfold lf0 at h
 split at h
 ·rename_i fs hs
  split at h
  ·rename_i fld hf
   split at h
   ·rename_i d hd
    simp only [Option.some.injEq,Prod.mk.injEq] at h
    exact ⟨fs,fld,d,hs,hf,hd,h.1.symm,h.2.1.symm,h.2.2.symm⟩
   ·cases h
  ·cases h
 ·cases h
theorem faV_ok {s f off sz:Nat} {b:Bool} (hf:lf0 P s f=some (off,sz,b)) (hz:sz ≠ 0) {v:V} {p:Value} {K:V->Prop} (hv:R H μ v p) (h:faV off v K) :
  hO0 P H μ (Instr.fieldAt s p f) w K:=by
 obtain ⟨fs,fld,d,hs,hfld,hd,rfl,rfl,rfl⟩:=gK0 hf
 have hrun:∀ ad:Addr,(Instr.fieldAt s (.pointer (some ad)) f).run P w=.ok (.pointer (some (ad.add fld.offset))) w:=fun ad=>by
  simp [Instr.fieldAt,run_underlying hs,hfld,Instr.sureAddr,fieldPlace,run_sizeOf hd,hz]
 have hadd:∀ b o:Nat,(⟨b,o,none⟩:Addr).add fld.offset=⟨b,o + fld.offset,none⟩:=fun b o=>by unfold Addr.add; split <;> simp_all
 unfold faV at h
 split at h
 ·cases hv with
  | rp cs b off cv hm hr =>
   refine ⟨_,_,h,.rp _ b (off + fld.offset) (fun j=>cv (fld.offset + j)) (fun j v hj=>?_) (fun j v hj=>?_),by rw [hrun,hadd]⟩
   ·rw [List.getElem?_drop] at hj
    obtain ⟨blk,h1,h2⟩:=hm _ v hj
    exact ⟨blk,h1,by rw [Nat.add_assoc]; exact h2⟩
   ·rw [List.getElem?_drop] at hj; exact hr _ v hj
 ·cases hv with
  | bp _ _ blk hb=>exact ⟨_,_,h,.bp _ _ blk hb,by rw [hrun,hadd]⟩
 ·cases hv with
  | ep _ _ _ blk hb=>exact ⟨_,_,h,.ep _ _ _ blk hb,by rw [hrun,hadd,Nat.add_assoc]⟩
 ·exact h.elim
theorem m30 {t:TypeId} {d:TypeDesc} (hd:P.underlying t=some d) (hb:iM0 d=false) {cs:List V} {vs:Array Value} {off:Nat} {u:V} {K:V->Prop}
  (hv:R H μ (.agg cs) (.agg vs)) (hu:cs[off]?=some u) (hk:K u):hO0 P H μ (part t vs off) w K:=by
 cases hv with
 | agg cs vs hn hr =>
  have hlt:off < vs.size:=by rw [hn]; exact (List.getElem?_eq_some_iff.1 hu).1
  exact ⟨u,_,hk,hr off u hu,by simp [part,hM0 hd,hb,hlt]⟩
theorem part_agg {t:TypeId} {d:TypeDesc} (hd:P.underlying t=some d) (hb:iM0 d=true) {cs:List V} {vs:Array Value} {off:Nat} {K:V->Prop}
  (hv:R H μ (.agg cs) (.agg vs)) (hl:off + P.cellsOf t<=cs.length) (hk:K (.agg ((cs.drop off).take (P.cellsOf t)))):hO0 P H μ (part t vs off) w K:=by
 cases hv with
 | agg cs vs hn hr =>
  refine ⟨_,.agg (vs.extract off (off + P.cellsOf t)),hk,.agg _ _ (by simp; omega) (fun j v hj=>?_),by simp [part,hM0 hd,hb,run_sizeOf hd]⟩
  rw [List.getElem?_take] at hj
  split at hj
  ·rw [List.getElem?_drop] at hj
   have hlt:off + j < vs.size:=by rw [hn]; exact (List.getElem?_eq_some_iff.1 hj).1
   have h1:=hr _ v hj
   have:(vs.extract off (off + P.cellsOf t)).getD j undef=vs.getD (off + j) undef:=by
    have h2:(vs.extract off (off + P.cellsOf t))[j]?=vs[off + j]?:=by
     rw [Array.getElem?_extract]; simp; omega
    rw [Array.getD_eq_getD_getElem?,Array.getD_eq_getD_getElem?,h2]
   rw [this]; exact h1
  ·simp at hj
theorem rj0 {v:V} {p:Value} {K:V->Prop} (hv:R H μ v p) (h:nC0 v K):K v/\((∃ ad,p=.pointer (some ad))\/∃ f cs,p=.func (.func f) #[] cs):=by
 unfold nC0 at h
 split at h
 ·cases hv; exact ⟨h,.inl ⟨_,rfl⟩⟩
 ·cases hv; exact ⟨h,.inl ⟨_,rfl⟩⟩
 ·cases hv; exact ⟨h,.inl ⟨_,rfl⟩⟩
 ·cases hv; exact ⟨h,.inr ⟨_,_,rfl⟩⟩
 ·exact h.elim
end Go.Am
end

section
namespace Go.Am
variable {P:Program} {n:Sz} {H:Imm} {μ:Mu} {env:Env} {hp:Hp} {a:Act} {w:World}
theorem g50 {lo:Option Operand} {ρ:Operand->Option V} {ρ':Operand->Value} (hρ:∀ x v,ρ x=some v->R H μ v (ρ' x)) {d:Int} {K:Int->Prop} (h:intO (lo.map ρ) d K) :
  (lo.map ρ'=none/\K d)\/∃ k i,lo.map ρ'=some (.int k i)/\K i:=by
 cases lo with
 | none=>exact .inl ⟨rfl,h⟩
 | some x =>
  simp only [Option.map_some] at h ⊢
  unfold intO at h
  split at h
  ·rename_i hx; cases hx
  ·rename_i k i hx
   simp only [Option.some.injEq] at hx
   exact .inr ⟨k,i,by rw [(hρ x _ hx).bS0],h⟩
  ·exact h.elim
theorem slS_ok {t:TypeId} (ht:P.underlying t=some .string) {lo hi:Option Operand} {ρ:Operand->Option V} {ρ':Operand->Value} (hρ:∀ x v,ρ x=some v->R H μ v (ρ' x))
  {v:V} {p:Value} {K:V->Prop} (hv:R H μ v p) (h:slSV v (lo.map ρ) (hi.map ρ) K):hO0 P H μ (Instr.sliceAt t p (lo.map ρ') (hi.map ρ') none) w K:=by
 unfold slSV at h
 split at h
 ·have:=hv.bS0; subst this
  rename_i s
  rcases g50 hρ h with ⟨eh,h⟩ | ⟨kh,ih,eh,h⟩ <;> rcases g50 hρ h with ⟨el,h0,h1,h2,hk⟩ | ⟨kl,il,el,h0,h1,h2,hk⟩
  all_goals
   refine cC0 hk ?_
   simp [Instr.sliceAt,run_underlying ht,Instr.slice,Instr.sliceBounds,Instr.sliceBound,asIntOf,eh,el,h0,h1,h2]
  all_goals (first | omega | rw [if_pos (by omega),if_pos (by omega)])
 ·exact h.elim
theorem dC0 (b o m:Nat):(⟨b,o,none⟩:Addr).add m=⟨b,o + m,none⟩:=by unfold Addr.add; split <;> simp_all
theorem slL_ok {t e:TypeId} {i:TypeInfo} (ht:P.underlying t=some (.slice e)) (hi':P.info? e=some i) {lo hi:Option Operand} {ρ:Operand->Option V} {ρ':Operand->Value}
  (hρ:∀ x v,ρ x=some v->R H μ v (ρ' x)) {v:V} {p:Value} {K:V->Prop} (hW:Wd H μ hp w)
  (hv:R H μ v p) (h:slLV hp i.size v (lo.map ρ) (hi.map ρ) K):hO0 P H μ (Instr.sliceAt t p (lo.map ρ') (hi.map ρ') none) w K:=by
 have hsize:(sizeOf e).run P w=.ok i.size w:=by simp [sizeOf,typeInfo,hi']
 have main:∀ (ad:Option Addr) (len cap:Nat) (l h:Int),0<=l->l<=h->h<=cap->len<=cap ->
   ((lo.map ρ'=none/\l=0)\/∃ k,lo.map ρ'=some (.int k l))->((hi.map ρ'=none/\h=len)\/∃ k,hi.map ρ'=some (.int k h)) ->
   (Instr.sliceAt t (.slice ad len cap) (lo.map ρ') (hi.map ρ') none).run P w =
    .ok (.slice (if cap=l.toNat then ad else ad.map (·.add (l.toNat * i.size))) (h.toNat - l.toNat) (cap - l.toNat)) w:=by
  intro ad len cap l h h0 h1 h2 h3 hl hh
  rcases hl with ⟨el,rfl⟩ | ⟨kl,el⟩ <;> rcases hh with ⟨eh,rfl⟩ | ⟨kh,eh⟩ <;>
   simp [Instr.sliceAt,run_underlying ht,Instr.slice,Instr.sliceBounds,Instr.sliceBound,asIntOf,eh,el,h0,h1,hsize]
  all_goals first
   | (intro hx; omega)
   | (rw [if_pos (by omega),if_pos (by omega)]; try simp [hsize])
 unfold slLV at h
 split at h
 ·cases hv
  have hm:=main none 0 0
  rcases g50 hρ h with ⟨eh,h⟩ | ⟨kh,ih,eh,h⟩ <;> rcases g50 hρ h with ⟨el,h0,h1,hk⟩ | ⟨kl,il,el,h0,h1,hk⟩
  ·exact ⟨_,_,hk,.nil,by rw [hm 0 0 (by omega) (by omega) (by omega) (by omega) (.inl ⟨el,rfl⟩) (.inl ⟨eh,rfl⟩)]; simp⟩
  ·subst h0; exact ⟨_,_,hk,.nil,by rw [hm 0 0 (by omega) (by omega) (by omega) (by omega) (.inr ⟨kl,el⟩) (.inl ⟨eh,rfl⟩)]; simp⟩
  ·subst h1; exact ⟨_,_,hk,.nil,by rw [hm 0 0 (by omega) (by omega) (by omega) (by omega) (.inl ⟨el,rfl⟩) (.inr ⟨kh,eh⟩)]; simp⟩
  ·subst h0; subst h1; exact ⟨_,_,hk,.nil,by rw [hm 0 0 (by omega) (by omega) (by omega) (by omega) (.inr ⟨kl,el⟩) (.inr ⟨kh,eh⟩)]; simp⟩
 ·rename_i xs
  cases hv with
  | lst _ sz ad len cap cv hn hc hs hm hr =>
  subst hn
  have fin:∀ l h:Int,0<=l->l<=h->h<=xs.length->(xs=[]\/∃ e,xs[0]?=some e/\e.length=i.size) ->
    R H μ (.lst ((xs.take h.toNat).drop l.toNat)) (.slice (if cap=l.toNat then ad else ad.map (·.add (l.toNat * i.size))) (h.toNat - l.toNat) (cap - l.toNat)):=by
   intro l h h0 h1 h2 hx
   have get:∀ (j:Nat) (e:List V),((xs.take h.toNat).drop l.toNat)[j]?=some e->l.toNat + j < h.toNat/\xs[l.toNat + j]?=some e:=by
    intro j e he
    rw [List.getElem?_drop,List.getElem?_take] at he
    split at he
    ·exact ⟨by assumption,he⟩
    ·cases he
   refine .lst _ sz _ _ _ (fun j=>cv (l.toNat + j)) ?_ (by omega) (fun j e he=>hs _ e (get j e he).2) (fun j e q v he hq=>?_) (fun j e q v he hq=>hr _ e q v (get j e he).2 hq)
   ·rw [List.length_drop,List.length_take]; omega
   ·obtain ⟨hlt,he'⟩:=get j e he
    obtain ⟨b,off,cs,h4,h5,h6⟩:=hm _ e q v he' hq
    subst h4
    have hsi:sz=i.size:=by
     rcases hx with rfl | ⟨e0,h7,h8⟩
     ·simp at he'
     ·rw [<- h8]; exact (hs 0 e0 h7).1.symm
    refine ⟨b,off + l.toNat * sz,cs,?_,h5,?_⟩
    ·rw [if_neg (by omega)]; simp [dC0,hsi]
    ·rw [<- h6]; congr 1; rw [Nat.add_mul]; omega
  rcases g50 hρ h with ⟨eh,h⟩ | ⟨kh,ih,eh,h⟩ <;> rcases g50 hρ h with ⟨el,h0,h1,h2,h3,hk⟩ | ⟨kl,il,el,h0,h1,h2,h3,hk⟩
  ·exact ⟨_,_,hk,fin _ _ h0 h1 h2 h3,main _ _ _ _ _ h0 h1 (by omega) hc (.inl ⟨el,rfl⟩) (.inl ⟨eh,rfl⟩)⟩
  ·exact ⟨_,_,hk,fin _ _ h0 h1 h2 h3,main _ _ _ _ _ h0 h1 (by omega) hc (.inr ⟨kl,el⟩) (.inl ⟨eh,rfl⟩)⟩
  ·exact ⟨_,_,hk,fin _ _ h0 h1 h2 h3,main _ _ _ _ _ h0 h1 (by omega) hc (.inl ⟨el,rfl⟩) (.inr ⟨kh,eh⟩)⟩
  ·exact ⟨_,_,hk,fin _ _ h0 h1 h2 h3,main _ _ _ _ _ h0 h1 (by omega) hc (.inr ⟨kl,el⟩) (.inr ⟨kh,eh⟩)⟩
 ·rename_i id o len
  obtain ⟨⟨ty,own,xs,hlook⟩,h⟩:=h
  have hlook':=hlook
  cases hv with
  | arr _ _ _ ad cap hc hb =>
  have fin:∀ l h:Int,0<=l->l<=h->h<=len ->
    R H μ (.arr id (o + l.toNat) (h.toNat - l.toNat)) (.slice (if cap=l.toNat then ad else ad.map (·.add (l.toNat * i.size))) (h.toNat - l.toNat) (cap - l.toNat)):=by
   intro l h h0 h1 h2
   refine .arr _ _ _ _ _ (by omega) ?_
   rcases hb with rfl | ⟨blk,h3,h4,h5⟩
   ·exact .inl (by omega)
   ·by_cases hcl:cap=l.toNat
    ·exact .inl (by omega)
    ·refine .inr ⟨blk,h3,?_,by omega⟩
     rw [if_neg hcl,h4]
     have hbs:blk.sz=i.size:=by
      rcases hW.ob id _ hlook with ⟨_,h6⟩ | ⟨blk',vals,h6,⟨h7,_⟩,_⟩
      ·rw [h6] at h3; cases h3
      ·rw [h3] at h6; injection h6 with h6; subst h6; rw [h7]
     simp [dC0,hbs,Nat.add_mul]
  rcases g50 hρ h with ⟨eh,h⟩ | ⟨kh,ih,eh,h⟩ <;> rcases g50 hρ h with ⟨el,h0,h1,h2,hk⟩ | ⟨kl,il,el,h0,h1,h2,hk⟩
  ·exact ⟨_,_,hk,fin _ _ h0 h1 h2,main _ _ _ _ _ h0 h1 (by omega) hc (.inl ⟨el,rfl⟩) (.inl ⟨eh,rfl⟩)⟩
  ·exact ⟨_,_,hk,fin _ _ h0 h1 h2,main _ _ _ _ _ h0 h1 (by omega) hc (.inr ⟨kl,el⟩) (.inl ⟨eh,rfl⟩)⟩
  ·exact ⟨_,_,hk,fin _ _ h0 h1 h2,main _ _ _ _ _ h0 h1 (by omega) hc (.inl ⟨el,rfl⟩) (.inr ⟨kh,eh⟩)⟩
  ·exact ⟨_,_,hk,fin _ _ h0 h1 h2,main _ _ _ _ _ h0 h1 (by omega) hc (.inr ⟨kl,el⟩) (.inr ⟨kh,eh⟩)⟩
 ·rename_i id o len cap
  obtain ⟨⟨ty,own,xs,hlook⟩,h⟩:=h
  have hlook':=hlook
  cases hv with
  | arc _ _ _ _ ad hc hb =>
  have fin:∀ l h:Int,0<=l->l<=h->h<=cap ->
    R H μ (.arc id (o + l.toNat) (h.toNat - l.toNat) (cap - l.toNat)) (.slice (if cap=l.toNat then ad else ad.map (·.add (l.toNat * i.size))) (h.toNat - l.toNat) (cap - l.toNat)):=by
   intro l h h0 h1 h2
   refine .arc _ _ _ _ _ (by omega) ?_
   rcases hb with rfl | ⟨blk,h3,h4,h5⟩
   ·exact .inl (by omega)
   ·by_cases hcl:cap=l.toNat
    ·exact .inl (by omega)
    ·refine .inr ⟨blk,h3,?_,by omega⟩
     rw [if_neg hcl,h4]
     have hbs:blk.sz=i.size:=by
      rcases hW.ob id _ hlook with ⟨_,h6⟩ | ⟨blk',vals,h6,⟨h7,_⟩,_⟩
      ·rw [h6] at h3; cases h3
      ·rw [h3] at h6; injection h6 with h6; subst h6; rw [h7]
     simp [dC0,hbs,Nat.add_mul]
  rcases g50 hρ h with ⟨eh,h⟩ | ⟨kh,ih,eh,h⟩ <;> rcases g50 hρ h with ⟨el,h0,h1,h2,hk⟩ | ⟨kl,il,el,h0,h1,h2,hk⟩
  ·exact ⟨_,_,hk,fin _ _ h0 h1 (by omega),main _ _ _ _ _ h0 h1 (by omega) hc (.inl ⟨el,rfl⟩) (.inl ⟨eh,rfl⟩)⟩
  ·exact ⟨_,_,hk,fin _ _ h0 h1 (by omega),main _ _ _ _ _ h0 h1 (by omega) hc (.inr ⟨kl,el⟩) (.inl ⟨eh,rfl⟩)⟩
  ·exact ⟨_,_,hk,fin _ _ h0 h1 (by omega),main _ _ _ _ _ h0 h1 (by omega) hc (.inl ⟨el,rfl⟩) (.inr ⟨kh,eh⟩)⟩
  ·exact ⟨_,_,hk,fin _ _ h0 h1 (by omega),main _ _ _ _ _ h0 h1 (by omega) hc (.inr ⟨kl,el⟩) (.inr ⟨kh,eh⟩)⟩
 ·exact h.elim
theorem iaV_ok {t e:TypeId} {inf:TypeInfo} (ht:P.underlying t=some (.slice e)) (hi':P.info? e=some inf) (hpos:0 < inf.size) {v u:V} {p q:Value} {K:V->Prop} (hW:Wd H μ hp w)
  (hv:R H μ v p) (hu:R H μ u q) (h:iaV hp inf.size v u K):hO0 P H μ (Instr.indexAt t p q) w K:=by
 have hsize:(sizeOf e).run P w=.ok inf.size w:=by simp [sizeOf,typeInfo,hi']
 unfold iaV at h
 split at h
 ·rename_i xs k i
  have:=hu.bS0; subst this
  obtain ⟨el,h0,h1,h2,hk⟩:=h
  cases hv with
  | lst _ sz ad len cap cv hn hc hs hm hr =>
  subst hn
  have hlt:i.toNat < xs.length:=(List.getElem?_eq_some_iff.1 h1).1
  have hsi:sz=inf.size:=by rw [<- h2]; exact (hs _ _ h1).1.symm
  cases hel:el with
  | nil =>
   subst hel
   simp at h2; omega
  | cons c0 rest =>
   subst hel
   obtain ⟨b,off,cs,h4,h5,h6⟩:=hm _ _ 0 c0 h1 rfl
   subst h4
   refine ⟨_,.pointer (some ⟨b,off + i.toNat * sz,none⟩),hk,.rp _ b (off + i.toNat * sz) (fun j=>cv i.toNat j) (fun j v hj=>?_) (fun j v hj=>hr _ _ j v h1 hj),?_⟩
   ·obtain ⟨b',off',cs',h7,h8,h9⟩:=hm _ _ j v h1 hj
    simp only [Option.some.injEq,Addr.mk.injEq,and_true] at h7
    obtain ⟨rfl,rfl⟩:=h7
    exact ⟨cs',h8,h9⟩
   ·have hi2:i < (xs.length:Int):=by omega
    simp [Instr.indexAt,asIntOf,run_underlying ht,h0,hi2,hsize,dC0,hsi]
 ·rename_i id o len k i
  have:=hu.bS0; subst this
  obtain ⟨h0,h1,⟨ty,own,xs,hlook⟩,hk⟩:=h
  cases hv with
  | arr _ _ _ ad cap hc hb =>
  rcases hb with rfl | ⟨blk,h3,h4,h5⟩
  ·omega
  ·have hbs:blk.sz=inf.size:=by
    rcases hW.ob id _ hlook with ⟨_,h6⟩ | ⟨blk',vals,h6,⟨h7,_⟩,_⟩
    ·rw [h6] at h3; cases h3
    ·rw [h3] at h6; injection h6 with h6; subst h6; rw [h7]
   subst h4
   refine ⟨_,.pointer (some ⟨blk.b,(o + i.toNat) * blk.sz + 0,none⟩),hk,.ep _ _ _ blk h3,?_⟩
   simp [Instr.indexAt,asIntOf,run_underlying ht,h0,h1,hsize,dC0,hbs,Nat.add_mul]
 ·exact h.elim
end Go.Am
end

section
namespace Go.Am
variable {P:Program} {n:Sz} {H:Imm} {μ:Mu} {env:Env} {hp:Hp} {a:Act} {w:World}
def RL (H:Imm) (μ:Mu) (cs:List V) (vals:Array Value):Prop:=vals.size=cs.length/\∀ (j:Nat) (v:V),cs[j]?=some v->R H μ v (vals.getD j undef)
theorem RL.agg {cs:List V} {vals:Array Value} (h:RL H μ cs vals):R H μ (.agg cs) (.agg vals):=.agg cs vals h.1 h.2
theorem RL.one {v:V} {x:Value} (h:R H μ v x):RL H μ [v] #[x] :=
 ⟨rfl,fun j u hj=>by cases j with | zero=>(simp at hj; subst hj; simpa using h) | succ j=>simp at hj⟩
theorem R.cells {v:V} {x:Value} (h:R H μ v x) {us:List V} (hu:v.cells=some us):RL H μ us x.cells:=by
 cases h with
 | any _=>simp [V.cells] at hu
 | c _ =>
  cases x with
  | agg vs =>
   simp only [V.cells,Option.some.injEq] at hu
   subst hu
   refine ⟨by simp [Value.cells],fun j u hj=>?_⟩
   simp only [List.getElem?_map] at hj
   cases hx:vs.toList[j]? with
   | none=>rw [hx] at hj; cases hj
   | some y =>
    rw [hx] at hj
    simp only [Option.map_some,Option.some.injEq] at hj
    subst hj
    have:(Value.agg vs).cells.getD j undef=y:=by
     simp only [Value.cells]
     rw [Array.getD_eq_getD_getElem?,<- Array.getElem?_toList,hx]; rfl
    rw [this]; exact .c y
  | _=>simp only [V.cells,Option.some.injEq] at hu; subst hu; exact .one (.c _)
 | agg cs vs hn hr=>simp only [V.cells,Option.some.injEq] at hu; subst hu; exact ⟨hn,hr⟩
 | nil=>simp only [V.cells,Option.some.injEq] at hu; subst hu; exact .one .nil
 | lst xs sz a n cap cv hn hc hs hm hr=>simp only [V.cells,Option.some.injEq] at hu; subst hu; exact .one (.lst xs sz a n cap cv hn hc hs hm hr)
 | rp cs b off cv hm hr=>simp only [V.cells,Option.some.injEq] at hu; subst hu; exact .one (.rp cs b off cv hm hr)
 | self i t a blk h ht ha=>simp only [V.cells,Option.some.injEq] at hu; subst hu; exact .one (.self i t a blk h ht ha)
 | bp i off blk h=>simp only [V.cells,Option.some.injEq] at hu; subst hu; exact .one (.bp i off blk h)
 | ep i k off blk h=>simp only [V.cells,Option.some.injEq] at hu; subst hu; exact .one (.ep i k off blk h)
 | mp i blk h=>simp only [V.cells,Option.some.injEq] at hu; subst hu; exact .one (.mp i blk h)
 | arc i o n c a hc h=>simp only [V.cells,Option.some.injEq] at hu; subst hu; exact .one (.arc i o n c a hc h)
 | arr i o n a cap hc h=>simp only [V.cells,Option.some.injEq] at hu; subst hu; exact .one (.arr i o n a cap hc h)
 | fn f cs vs hn hr=>simp only [V.cells,Option.some.injEq] at hu; subst hu; exact .one (.fn f cs vs hn hr)
 | tup cs vs hn hr=>simp only [V.cells,Option.some.injEq] at hu; subst hu; exact .one (.tup cs vs hn hr)
 | ifc t v x h=>simp only [V.cells,Option.some.injEq] at hu; subst hu; exact .one (.ifc t v x h)
def putCells (off:Nat) (cs:Array Value) (c:Array Value):Array Value:=c.zipIdx.foldl (fun cs (p:Value × Nat)=>cs.setIfInBounds (off + p.2) p.1) cs
theorem qQ0 (off:Nat):∀ (l:List Value) (j0:Nat) (cs:Array Value),
  ((l.zipIdx j0).foldl (fun cs (p:Value × Nat)=>cs.setIfInBounds (off + p.2) p.1) cs).size=cs.size /\
  ∀ k:Nat,((l.zipIdx j0).foldl (fun cs (p:Value × Nat)=>cs.setIfInBounds (off + p.2) p.1) cs)[k]? =
   if off + j0<=k/\k < off + j0 + l.length/\k < cs.size then l[k - (off + j0)]? else cs[k]?
 | [],j0,cs=>by
  refine ⟨rfl,fun k=>?_⟩
  simp only [List.zipIdx_nil,List.foldl_nil,List.length_nil]
  rw [if_neg (by omega)]
 | x :: l,j0,cs=>by
  obtain ⟨h1,h2⟩:=qQ0 off l (j0 + 1) (cs.setIfInBounds (off + j0) x)
  simp only [List.zipIdx_cons,List.foldl_cons]
  refine ⟨by rw [h1]; simp,fun k=>?_⟩
  rw [h2 k]
  simp only [Array.size_setIfInBounds,List.length_cons]
  by_cases hk:k=off + j0
  ·subst hk
   rw [if_neg (by omega)]
   by_cases hs:off + j0 < cs.size
   ·rw [if_pos (by omega)]; simp [hs]
   ·rw [if_neg (by omega)]; simp [hs]
  ·rw [Array.getElem?_setIfInBounds_ne (Ne.symm hk)]
   by_cases hc:off + (j0 + 1)<=k/\k < off + (j0 + 1) + l.length/\k < cs.size
   ·rw [if_pos hc,if_pos (by omega)]
    have:k - (off + j0)=(k - (off + (j0 + 1))) + 1:=by omega
    rw [this]; rfl
   ·rw [if_neg hc,if_neg (by omega)]
theorem ib0 (off:Nat) (cs c:Array Value):(putCells off cs c).size=cs.size:=by
 unfold putCells
 rw [<- Array.foldl_toList,Array.toList_zipIdx]
 exact (qQ0 off c.toList 0 cs).1
theorem iI0 (off:Nat) (cs c:Array Value) (h:off + c.size<=cs.size) (k:Nat) :
  (putCells off cs c).getD k undef=if off<=k/\k < off + c.size then c.getD (k - off) undef else cs.getD k undef:=by
 have h2:=(qQ0 off c.toList 0 cs).2 k
 unfold putCells
 rw [Array.getD_eq_getD_getElem?,<- Array.foldl_toList,Array.toList_zipIdx,h2]
 simp only [Nat.add_zero,Array.length_toList]
 by_cases hc:off<=k/\k < off + c.size
 ·rw [if_pos (by omega),if_pos hc,Array.getD_eq_getD_getElem?,<- Array.getElem?_toList]
 ·rw [if_neg (by omega),if_neg hc,Array.getD_eq_getD_getElem?]
theorem RL.set {cs vs:List V} {vals c:Array Value} {off:Nat} (h:RL H μ cs vals) (k:RL H μ vs c) (hl:off + vs.length<=cs.length) :
  RL H μ (setAt cs off vs) (putCells off vals c):=by
 have hs:off + c.size<=vals.size:=by rw [h.1,k.1]; exact hl
 refine ⟨by rw [ib0,h.1]; simp [setAt]; omega,fun j v hj=>?_⟩
 rw [iI0 off vals c hs]
 unfold setAt at hj
 by_cases h1:j < off
 ·rw [List.append_assoc,List.getElem?_append_left (by simp; omega),List.getElem?_take,if_pos h1] at hj
  rw [if_neg (by omega)]; exact h.2 j v hj
 ·by_cases h2:j < off + vs.length
  ·rw [List.append_assoc,List.getElem?_append_right (by simp; omega),List.getElem?_append_left (by simp; omega)] at hj
   rw [if_pos (by rw [k.1]; omega)]
   have:j - (cs.take off).length=j - off:=by simp; omega
   rw [this] at hj
   exact k.2 _ v hj
  ·rw [List.append_assoc,List.getElem?_append_right (by simp; omega),List.getElem?_append_right (by simp; omega),List.getElem?_drop] at hj
   rw [if_neg (by rw [k.1]; omega)]
   have:off + vs.length + (j - (cs.take off).length - vs.length)=j:=by simp; omega
   rw [this] at hj
   exact h.2 j v hj
theorem j40 {α β:Type} {g:α->Option β} {x:α} {xs:List α} {ys:List β} (h:(x :: xs).mapM g=some ys):∃ y ys',g x=some y/\xs.mapM g=some ys'/\ys=y :: ys':=by
 rw [List.mapM_cons] at h
 cases hy:g x with
 | none=>rw [hy] at h; cases h
 | some y =>
  rw [hy] at h
  cases hys:xs.mapM g with
  | none=>rw [hys] at h; cases h
  | some ys' =>
   rw [hys] at h
   simp at h
   exact ⟨y,ys',rfl,rfl,h.symm⟩
theorem fill_ok {ρ:Operand->Option V} {ρ':Operand->Value} (hρ:∀ x v,ρ x=some v->R H μ v (ρ' x)) (place:Nat->Option (Nat × Nat)) (g:Nat × Operand->Option (Nat × Nat × Operand))
  (hg:∀ p q,g p=some q->place p.1=some (q.1,q.2.1)/\p.2=q.2.2) :
  ∀ (ps:List (Nat × Operand)) (qs:List (Nat × Nat × Operand)),ps.mapM g=some qs ->
   ∀ (cs:List V) (vals:Array Value),RL H μ cs vals->∀ K:List V->Prop,hZ0 ρ qs cs K ->
    ∃ cs' vals',K cs'/\RL H μ cs' vals'/\Instr.fill place vals (ps.map fun p=>(p.1,ρ' p.2))=some vals':=by
 intro ps
 induction ps with
 | nil=>intro qs hq cs vals h K hk; simp at hq; subst hq; exact ⟨cs,vals,hk,h,rfl⟩
 | cons p ps ih =>
  intro qs0 hq cs vals h K hk
  obtain ⟨q,qs,hp,hqs,rfl⟩:=j40 hq
  obtain ⟨h1,h2⟩:=hg p q hp
  obtain ⟨i,x⟩:=p
  obtain ⟨off,sz,x'⟩:=q
  simp only at h1 h2
  subst h2
  simp only [hZ0] at hk
  obtain ⟨v,us,hv,hus,hlen,hle,hk⟩:=hk
  have hc:=(hρ x v hv).cells hus
  obtain ⟨cs',vals',a1,a2,a3⟩:=ih qs hqs _ _ (h.set hc (by omega)) K hk
  refine ⟨cs',vals',a1,a2,?_⟩
  have e1:(ρ' x).cells.size=sz:=by rw [hc.1,hlen]
  simp only [List.map_cons,Instr.fill,h1,e1]
  rw [if_neg (by simp [h.1]; omega)]
  exact a3
theorem fO0 {t:TypeId} {z:List V} (h:zeroCells P t=some z) (H:Imm) (μ:Mu):∃ i v,P.info? t=some i/\i.zero=some v/\RL H μ z v.cells:=by
 unfold zeroCells at h
 cases hi:P.info? t with
 | none=>rw [hi] at h; cases h
 | some i =>
  rw [hi] at h
  cases hz:i.zero with
  | none=>simp [hz] at h
  | some v =>
   simp only [Option.bind_some,hz,Option.map_some,Option.some.injEq] at h
   subst h
   refine ⟨i,v,rfl,hz,by simp,fun j u hj=>?_⟩
   rw [List.getElem?_map] at hj
   cases hx:v.cells.toList[j]? with
   | none=>rw [hx] at hj; cases hj
   | some x =>
    rw [hx] at hj
    simp only [Option.map_some,Option.some.injEq] at hj
    subst hj
    have:v.cells.getD j undef=x:=by rw [Array.getD_eq_getD_getElem?,<- Array.getElem?_toList,hx]; rfl
    rw [this]; exact of0 H μ x
theorem bL0 {t:TypeId} {i:TypeInfo} {v:Value} (hi:P.info? t=some i) (hz:i.zero=some v) (w:World):(zeroValue t).run P w=.ok v w:=by
 simp [zeroValue,typeInfo,hi,hz]
theorem run_places (fs:List Field) (h:∀ f ∈ fs,(P.info? f.type).isSome=true) (w:World) :
  (fs.mapM fun (f:Field)=>(do pure (f.offset,<- sizeOf f.type):Sem (Nat × Nat))).run P w=.ok (fs.map fun f=>(f.offset,P.cellsOf f.type)) w:=by
 induction fs with
 | nil=>simp
 | cons f fs ih =>
  have hf:=h f (by simp)
  obtain ⟨i,hi⟩:=Option.isSome_iff_exists.1 hf
  have ih':=ih fun g hg=>h g (by simp [hg])
  have e:(do pure (f.offset,<- sizeOf f.type):Sem (Nat × Nat)).run P w=.ok (f.offset,P.cellsOf f.type) w:=by simp [sizeOf,typeInfo,hi,Program.cellsOf]
  rw [List.mapM_cons,Sem.run_bind,e]
  simp only [Result.andThen_ok,Sem.run_bind,ih',Sem.run_pure,List.map_cons]
theorem build_ok {t:TypeId} {fs:Array Field} {z:List V} {ps:Array (Nat × Operand)} {qs:List (Nat × Nat × Operand)} (ht:P.underlying t=some (.struct fs)) (hz:zeroCells P t=some z)
  (hq:ps.toList.mapM (fun (p:Nat × Operand)=>(fs[p.1]?).bind fun f=>if (P.info? f.type).isSome then some (f.offset,P.cellsOf f.type,p.2) else none)=some qs)
  (hall:fs.all (fun f=>(P.info? f.type).isSome)=true) {ρ:Operand->Option V} {ρ':Operand->Value} (hρ:∀ x v,ρ x=some v->R H μ v (ρ' x)) {K:V->Prop}
  (h:hZ0 ρ qs z fun cs=>K (.agg cs)):hO0 P H μ (Instr.build t (ps.map fun (i,x)=>(i,ρ' x))) w K:=by
 obtain ⟨i,v,hi,hiz,hzr⟩:=fO0 hz H μ
 have hall':∀ f ∈ fs.toList,(P.info? f.type).isSome=true:=fun f hf=>by
  have:=(Array.all_eq_true_iff_forall_mem.1 hall) f (by simpa using hf)
  exact this
 let places:Array (Nat × Nat):=(fs.toList.map fun f=>(f.offset,P.cellsOf f.type)).toArray
 obtain ⟨cs',vals',hk,hr,hfill⟩:=fill_ok hρ (places[·]?) _ (fun p q hpq=>by
  cases hf:fs[p.1]? with
  | none=>rw [hf] at hpq; cases hpq
  | some f =>
   rw [hf] at hpq
   simp only [Option.bind_some] at hpq
   split at hpq
   ·simp only [Option.some.injEq] at hpq
    subst hpq
    refine ⟨?_,rfl⟩
    simp [places,hf]
   ·cases hpq) ps.toList qs hq z v.cells hzr _ h
 refine ⟨_,.agg vals',hk,hr.agg,?_⟩
 have hmap:(ps.map fun (i,x)=>(i,ρ' x)).toList=ps.toList.map fun p=>(p.1,ρ' p.2):=by simp
 have hpl:(fs.mapM fun (f:Field)=>(do pure (f.offset,<- sizeOf f.type):Sem (Nat × Nat))).run P w=.ok places w:=by
  rw [Array.mapM_eq_mapM_toList]
  simp only [Sem.run_map,run_places fs.toList hall' w,Result.andThen_ok]
  rfl
 unfold Instr.build
 simp only [Sem.run_bind,bL0 hi hiz,Result.andThen_ok,run_underlying ht,hpl,hmap,hfill,Sem.run_pure]
theorem buildA_ok {t e:TypeId} {len:Nat} {z:List V} {ps:Array (Nat × Operand)} (ht:P.underlying t=some (.array len e)) (hz:zeroCells P t=some z) (hinf:(P.info? e).isSome=true)
  {ρ:Operand->Option V} {ρ':Operand->Value} (hρ:∀ x v,ρ x=some v->R H μ v (ρ' x)) {K:V->Prop}
  (h:hZ0 ρ (ps.toList.map fun p=>(p.1 * P.cellsOf e,P.cellsOf e,p.2)) z fun cs=>K (.agg cs)):hO0 P H μ (Instr.build t (ps.map fun (i,x)=>(i,ρ' x))) w K:=by
 obtain ⟨i,v,hi,hiz,hzr⟩:=fO0 hz H μ
 obtain ⟨inf,hie⟩:=Option.isSome_iff_exists.1 hinf
 obtain ⟨cs',vals',hk,hr,hfill⟩:=fill_ok hρ (fun i=>some (i * P.cellsOf e,P.cellsOf e)) (fun p=>some (p.1 * P.cellsOf e,P.cellsOf e,p.2)) (fun p q hpq=>by
  simp only [Option.some.injEq] at hpq; subst hpq; exact ⟨rfl,rfl⟩) ps.toList (ps.toList.map fun p=>(p.1 * P.cellsOf e,P.cellsOf e,p.2)) (by
   generalize ps.toList=l
   induction l with
   | nil=>rfl
   | cons p l ih=>simp [List.mapM_cons,ih]) z v.cells hzr _ h
 refine ⟨_,.agg vals',hk,hr.agg,?_⟩
 have hmap:(ps.map fun (i,x)=>(i,ρ' x)).toList=ps.toList.map fun p=>(p.1,ρ' p.2):=by simp
 have hs:(sizeOf e).run P w=.ok (P.cellsOf e) w:=by simp [sizeOf,typeInfo,hie,Program.cellsOf]
 unfold Instr.build
 simp only [Sem.run_bind,bL0 hi hiz,Result.andThen_ok,run_underlying ht,hs,hmap,hfill,Sem.run_pure]
theorem qU0 {xt t:TypeId} {d:TypeDesc} (hd:P.underlying t=some d) (hn:lR0 d=false) (y:Value):(Instr.typeAssert (.iface t y) xt t true).run P w=.ok (.tuple #[y,.bool true]) w:=by
 unfold Instr.typeAssert
 simp only [Sem.run_bind,run_underlying hd,Result.andThen_ok]
 cases d <;> simp_all [lR0]
theorem p70 {xt t t':TypeId} {d:TypeDesc} {inf:TypeInfo} {z:Value} (hd:P.underlying t=some d) (hn:lR0 d=false) (hi:P.info? t=some inf) (hz:inf.zero=some z) (y:Value) (hne:t' ≠ t) :
  (Instr.typeAssert (.iface t' y) xt t true).run P w=.ok (.tuple #[z,.bool false]) w:=by
 unfold Instr.typeAssert
 simp only [Sem.run_bind,run_underlying hd,Result.andThen_ok]
 cases d <;> simp_all [lR0,bL0 hi hz]
theorem so0 {xt t:TypeId} {d:TypeDesc} {inf:TypeInfo} {z:Value} (hd:P.underlying t=some d) (hn:lR0 d=false) (hi:P.info? t=some inf) (hz:inf.zero=some z) :
  (Instr.typeAssert .nilIface xt t true).run P w=.ok (.tuple #[z,.bool false]) w:=by
 unfold Instr.typeAssert
 simp only [Sem.run_bind,run_underlying hd,Result.andThen_ok]
 cases d <;> simp_all [lR0,bL0 hi hz]
theorem n40 {t:TypeId} {ms:Array (String × TypeId)} (ht:P.underlying t=some (.interface ms)) (t2:TypeId) (z:Value):(Op.equal t (.iface t2 z) .nilIface).run P w=.ok false w:=by
 unfold Op.equal Op.maxDepth
 rw [show (10000:Nat)=9999 + 1 from rfl]
 generalize 9999=d
 simp [Op.equalIn,run_underlying ht]
theorem n50 {t:TypeId} {ms:Array (String × TypeId)} (ht:P.underlying t=some (.interface ms)):(Op.equal t .nilIface .nilIface).run P w=.ok true w:=by
 unfold Op.equal Op.maxDepth
 rw [show (10000:Nat)=9999 + 1 from rfl]
 generalize 9999=d
 simp [Op.equalIn,run_underlying ht]
theorem isni_ok {ng:Bool} {t:TypeId} {ms:Array (String × TypeId)} {x y:Operand} {o:Oper} {at1:TypeId} {v:V} {K:V->Prop} (ht:P.underlying t=some (.interface ms)) (hn:re0 y=true) (hv:R H μ v (a.eval x))
  (h:pB0 v fun b=>K (.c (.bool (if ng then !b else b)))) (ho:o.op=.binOp (if ng then .neq else .eql) t x y at1):∃ v x,K v/\R H μ v x/\(execOp a.eval o).run P w=.ok (.value x) w:=by
 unfold re0 at hn
 split at hn
 ·unfold pB0 at h
  split at h
  ·rename_i t' u
   cases hx:a.eval x with
   | iface t2 z =>
    have hg:∀ op,(eqGuard op t x (.const .nilIface) (.iface t2 z) .nilIface).run P w=.ok () w:=by
     intro op; unfold eqGuard; split <;> simp
    have e1:(binOp .eql t (.iface t2 z) .nilIface).run P w=.ok (.bool false) w:=by
     show (do pure (Value.bool (<- Op.equal t (.iface t2 z) .nilIface)):Sem Value).run P w=_
     simp only [Sem.run_bind,n40 ht,Result.andThen_ok,Sem.run_pure]
    have e2:(binOp .neq t (.iface t2 z) .nilIface).run P w=.ok (.bool true) w:=by
     show (do pure (Value.bool (!(<- Op.equal t (.iface t2 z) .nilIface))):Sem Value).run P w=_
     simp only [Sem.run_bind,n40 ht,Result.andThen_ok,Sem.run_pure]; rfl
    cases ng
    ·refine ⟨_,.bool false,h,.c _,?_⟩
     simp only [execOp,ho,hx,Bool.false_eq_true,if_false,Sem.run_bind,show a.eval (.const .nilIface)=Value.nilIface from rfl,hg,Result.andThen_ok,e1,Sem.run_pure]
    ·refine ⟨_,.bool true,h,.c _,?_⟩
     simp only [execOp,ho,hx,if_true,Sem.run_bind,show a.eval (.const .nilIface)=Value.nilIface from rfl,hg,Result.andThen_ok,e2,Sem.run_pure]
   | _=>rw [hx] at hv; cases hv
  ·have hx:=hv.bS0
   have hg:∀ op,(eqGuard op t x (.const .nilIface) .nilIface .nilIface).run P w=.ok () w:=by
    intro op; unfold eqGuard; split <;> simp
   have e1:(binOp .eql t .nilIface .nilIface).run P w=.ok (.bool true) w:=by
    show (do pure (Value.bool (<- Op.equal t .nilIface .nilIface)):Sem Value).run P w=_
    simp only [Sem.run_bind,n50 ht,Result.andThen_ok,Sem.run_pure]
   have e2:(binOp .neq t .nilIface .nilIface).run P w=.ok (.bool false) w:=by
    show (do pure (Value.bool (!(<- Op.equal t .nilIface .nilIface))):Sem Value).run P w=_
    simp only [Sem.run_bind,n50 ht,Result.andThen_ok,Sem.run_pure]; rfl
   cases ng
   ·refine ⟨_,.bool true,h,.c _,?_⟩
    simp only [execOp,ho,hx,Bool.false_eq_true,if_false,Sem.run_bind,show a.eval (.const .nilIface)=Value.nilIface from rfl,hg,Result.andThen_ok,e1,Sem.run_pure]
   ·refine ⟨_,.bool false,h,.c _,?_⟩
    simp only [execOp,ho,hx,if_true,Sem.run_bind,show a.eval (.const .nilIface)=Value.nilIface from rfl,hg,Result.andThen_ok,e2,Sem.run_pure]
  ·exact h.elim
 ·cases hn
theorem rho {env:Env} (hS:Sat n H μ env hp a w):∀ x v,Env.ev env x=some v->R H μ v (a.eval x):=fun x v h=>ch0 hS h
theorem lp0 {ρ:Operand->Option V} {ρ':Operand->Value} (hρ:∀ x v,ρ x=some v->R H μ v (ρ' x)):∀ (xs:List Operand) (vs:List V),xs.mapM ρ=some vs->RL H μ vs (xs.toArray.map ρ')
 | [],vs,h=>by simp at h; subst h; exact ⟨by simp,fun j v hj=>by simp at hj⟩
 | x :: xs,vs,h=>by
  obtain ⟨v,vs',h1,h2,rfl⟩:=j40 h
  have ih:=lp0 hρ xs vs' h2
  refine ⟨by have:=ih.1; simp at this ⊢; exact this,fun j u hj=>?_⟩
  cases j with
  | zero=>simp at hj; subst hj; simpa using hρ x v h1
  | succ j =>
   simp at hj
   have:=ih.2 j u hj
   simp only [Array.getD_eq_getD_getElem?,Array.getElem?_map,List.getElem?_toArray] at this ⊢
   simpa using this
theorem pv_ok {o:Oper} {io:IOp} {K:V->Prop} (hc:comp P o=some io) (hS:Sat n H μ env hp a w) (hk:pv hp (Env.ev env) io K) :
  ∃ v x,K v/\R H μ v x/\(execOp a.eval o).run P w=.ok (.value x) w:=by
 have hW:=hS.wd
 have hρ:=rho hS
 have lift:∀ {s:Sem Value},hO0 P H μ s w K->(execOp a.eval o=do pure (.value (<- s)))->∃ v x,K v/\R H μ v x/\(execOp a.eval o).run P w=.ok (.value x) w:=by
  intro s ⟨v,x,h1,h2,h3⟩ he
  exact ⟨v,x,h1,h2,by rw [he]; simp [h3]⟩
 obtain ⟨dst,op,type,pos,after,guard⟩:=o
 cases op <;> simp only [comp] at hc
 case move x =>
  simp only [Option.some.injEq] at hc; subst hc
  obtain ⟨v,h1,h2⟩:=hk
  exact ⟨v,a.eval x,h2,hρ _ _ h1,rfl⟩
 case assign x =>
  simp only [Option.some.injEq] at hc; subst hc
  obtain ⟨v,h1,h2⟩:=hk
  exact ⟨v,a.eval x,h2,hρ _ _ h1,rfl⟩
 case pick c x y =>
  simp only [Option.some.injEq] at hc; subst hc
  obtain ⟨t,h1,h2,h3⟩:=hk
  have hb:=(hρ _ _ h1).bS0
  cases t with
  | true=>obtain ⟨v,h4,h5⟩:=h2 rfl; exact ⟨v,a.eval x,h5,hρ _ _ h4,by simp [execOp,hb,asBool]⟩
  | false=>obtain ⟨v,h4,h5⟩:=h3 rfl; exact ⟨v,a.eval y,h5,hρ _ _ h4,by simp [execOp,hb,asBool]⟩
 case load t x =>
  split at hc
  ·rename_i d hd
   simp only [Option.some.injEq] at hc; subst hc
   cases hb:iM0 d with
   | true =>
    simp only [hb,if_true,pv] at hk
    obtain ⟨v,h1,h2⟩:=hk
    obtain ⟨u,vals,ad,k1,k2,k3,k4⟩:=ldaV_ok (P:=P) hW (hρ _ _ h1) h2
    exact ⟨u,.agg vals,k1,k2,by simp [execOp,Instr.loadAt,k3,Instr.sureAddr,loadVar,hM0 hd,hb,run_sizeOf hd,k4]⟩
   | false =>
    simp only [hb,Bool.false_eq_true,if_false,pv] at hk
    obtain ⟨v,h1,h2⟩:=hk
    obtain ⟨u,y,ad,k1,k2,k3,k4⟩:=ldV_ok hW (hρ _ _ h1) h2
    exact ⟨u,y,k1,k2,by simp [execOp,Instr.loadAt,k3,Instr.sureAddr,loadVar,hM0 hd,hb,k4]⟩
  ·cases hc
 case nilCheck x =>
  simp only [Option.some.injEq] at hc; subst hc
  obtain ⟨v,h1,h2⟩:=hk
  obtain ⟨k1,k2⟩:=rj0 (hρ _ _ h1) h2
  refine ⟨v,a.eval x,k1,hρ _ _ h1,?_⟩
  rcases k2 with ⟨ad,e⟩ | ⟨f,cs,e⟩ <;> simp [execOp,e]
 case binOp op t x y yt =>
  split at hc
  ·rename_i ht
   simp only [Option.some.injEq] at hc; subst hc
   obtain ⟨v,u,h1,h2,h3⟩:=hk
   exact lift (q40 (ne:=false) ht (hρ _ _ h1) (hρ _ _ h2) h3) rfl
  ·rename_i ht
   simp only [Option.some.injEq] at hc; subst hc
   obtain ⟨v,u,h1,h2,h3⟩:=hk
   exact lift (q40 (ne:=true) ht (hρ _ _ h1) (hρ _ _ h2) h3) rfl
  ·split at hc
   ·simp only [Option.some.injEq] at hc; subst hc; exact hk.elim
   ·cases hc
  ·split at hc
   ·simp only [Option.some.injEq] at hc; subst hc; exact hk.elim
   ·cases hc
  ·rename_i ms ht
   split at hc
   ·rename_i hn
    simp only [Option.some.injEq] at hc; subst hc
    obtain ⟨v,h1,h2⟩:=hk
    exact isni_ok (ng:=false) ht hn (hρ _ _ h1) h2 rfl
   ·cases hc
  ·rename_i ms ht
   split at hc
   ·rename_i hn
    simp only [Option.some.injEq] at hc; subst hc
    obtain ⟨v,h1,h2⟩:=hk
    exact isni_ok (ng:=true) ht hn (hρ _ _ h1) h2 rfl
   ·cases hc
  ·simp only [Option.some.injEq] at hc; subst hc
   obtain ⟨v,u,h1,h2,h3⟩:=hk
   exact lift (binV_ok (hρ _ _ h1) (hρ _ _ h2) h3) rfl
  ·simp only [Option.some.injEq] at hc; subst hc
   obtain ⟨v,u,h1,h2,h3⟩:=hk
   exact lift (binV_ok (hρ _ _ h1) (hρ _ _ h2) h3) rfl
  ·cases hc
 case unOp op t x =>
  simp only [Option.some.injEq] at hc; subst hc
  obtain ⟨v,h1,h2⟩:=hk
  exact lift (unV_ok (hρ _ _ h1) h2) rfl
 case convert src dst x =>
  split at hc
  ·rename_i k0 k hs hd
   simp only [Option.some.injEq] at hc; subst hc
   obtain ⟨k',m,h1,h2⟩:=hk
   have hx:=(hρ _ _ h1).bS0
   exact lift (cC0 h2 (by simp [convert,run_underlying hs,run_underlying hd,hx,Conv.intToInt])) rfl
  ·rename_i k0 hs hd
   simp only [Option.some.injEq] at hc; subst hc
   obtain ⟨k',m,h1,⟨h2,h2'⟩,h3⟩:=hk
   have hx:=(hρ _ _ h1).bS0
   have he:Utf8.encode m=chr m:=by
    have hv:Utf8.valid m=true:=by simp [Utf8.valid]; omega
    have hn:m.toNat < 128:=by omega
    simp only [Utf8.encode,hv,if_true,if_pos hn]; rfl
   exact lift (cC0 h3 (by simp [convert,run_underlying hs,run_underlying hd,hx,Conv.intToString,he])) rfl
  ·split at hc
   ·simp only [Option.some.injEq] at hc; subst hc; exact hk.elim
   ·cases hc
  ·split at hc
   ·simp only [Option.some.injEq] at hc; subst hc; exact hk.elim
   ·cases hc
  ·cases hc
 case makeFunc fn first cs =>
  cases fn <;> simp only at hc <;> try (cases hc; done)
  rename_i f
  split at hc
  ·rename_i h0
   simp only [Option.some.injEq] at hc; subst hc
   obtain ⟨vs,h1,h2⟩:=hk
   have hr:=lp0 hρ cs.toList vs h1
   refine ⟨_,.func (.func f) #[] (cs.map a.eval),h2,.fn f vs _ ?_ ?_,?_⟩
   ·have:=hr.1; simpa using this
   ·have:=hr.2; simpa using this
   ·have:first=#[]:=Array.eq_empty_of_size_eq_zero h0
    subst this
    simp [execOp,Instr.makeFunc]
  ·cases hc
 case makeInterface t x =>
  split at hc
  ·rename_i ht
   simp only [Option.some.injEq] at hc; subst hc
   obtain ⟨v,h1,h2⟩:=hk
   exact ⟨_,.iface t (a.eval x),h2,.ifc t v _ (hρ _ _ h1),by simp [execOp,run_makeInterface w t _ ht]⟩
  ·cases hc
 case slice t x lo hi mx =>
  cases mx with
  | some m =>
   cases lo with
   | none=>simp only at hc; cases hc
   | some lo =>
    cases hi with
    | none=>simp only at hc; cases hc
    | some hi =>
     simp only at hc
     (repeat' split at hc)
     all_goals first
      | (cases hc; done)
      | (simp only [Option.some.injEq] at hc; subst hc; exact hk.elim)
  | none =>
   simp only at hc
   split at hc
   ·rename_i ht
    simp only [Option.some.injEq] at hc; subst hc
    obtain ⟨v,h1,h2⟩:=hk
    exact lift (slS_ok ht hρ (hρ _ _ h1) h2) rfl
   ·rename_i e ht
    split at hc
    ·rename_i inf hi'
     simp only [Option.some.injEq] at hc; subst hc
     obtain ⟨v,h1,h2⟩:=hk
     exact lift (slL_ok ht hi' hρ hW (hρ _ _ h1) h2) rfl
    ·cases hc
   ·(repeat' split at hc)
    all_goals first
     | (cases hc; done)
     | (simp only [Option.some.injEq] at hc; subst hc; exact hk.elim)
   ·cases hc
 case fieldAddr s x f =>
  split at hc
  ·rename_i off sz b hf
   split at hc
   ·cases hc
   ·rename_i hz
    simp only [Option.some.injEq] at hc; subst hc
    obtain ⟨v,h1,h2⟩:=hk
    exact lift (faV_ok hf hz (hρ _ _ h1) h2) rfl
  ·cases hc
 case field s x f =>
  have fin:∀ (fs:Array Field) (fld:Field) (vs:Array Value),P.underlying s=some (.struct fs)->fs[f]?=some fld->a.eval x=.agg vs->hO0 P H μ (part fld.type vs fld.offset) w K ->
    ∃ v y,K v/\R H μ v y/\(execOp a.eval { dst:=dst,op:=Op.field s x f,type:=type,pos:=pos,after:=after,guard:=guard }).run P w=.ok (.value y) w:=by
   intro fs fld vs k1 k2 hx ⟨v,y,h1,h2,h3⟩
   exact ⟨v,y,h1,h2,by simp [execOp,hx,Instr.field,run_underlying k1,k2,asAgg,h3]⟩
  split at hc
  ·rename_i off sz hf
   simp only [Option.some.injEq] at hc; subst hc
   obtain ⟨cs,h1,h2,h3⟩:=hk
   obtain ⟨fs,fld,d,k1,k2,k3,rfl,rfl,k6⟩:=gK0 hf
   have hx:=hρ _ _ h1
   cases hx':a.eval x with
   | agg vs=>rw [hx'] at hx; exact fin fs fld vs k1 k2 hx' (part_agg (w:=w) k3 k6.symm hx h2 h3)
   | _=>rw [hx'] at hx; cases hx
  ·rename_i off sz hf
   simp only [Option.some.injEq] at hc; subst hc
   obtain ⟨cs,h1,v,h2,h3⟩:=hk
   obtain ⟨fs,fld,d,k1,k2,k3,rfl,rfl,k6⟩:=gK0 hf
   have hx:=hρ _ _ h1
   cases hx':a.eval x with
   | agg vs=>rw [hx'] at hx; exact fin fs fld vs k1 k2 hx' (m30 (w:=w) k3 k6.symm hx h2 h3)
   | _=>rw [hx'] at hx; cases hx
  ·cases hc
 case indexAddr t x ix =>
  split at hc
  ·rename_i e ht
   split at hc
   ·rename_i inf hi'
    split at hc
    ·rename_i hpos
     simp only [Option.some.injEq] at hc; subst hc
     obtain ⟨v,u,h1,h2,h3⟩:=hk
     exact lift (iaV_ok ht hi' hpos hW (hρ _ _ h1) (hρ _ _ h2) h3) rfl
    ·cases hc
   ·cases hc
  ·(repeat' split at hc)
   all_goals first
    | (cases hc; done)
    | (simp only [Option.some.injEq] at hc; subst hc; exact hk.elim)
  ·cases hc
 case index t x ix =>
  split at hc
  ·rename_i ht
   simp only [Option.some.injEq] at hc; subst hc
   obtain ⟨v,u,h1,h2,h3⟩:=hk
   exact lift (ixSV_ok ht (hρ _ _ h1) (hρ _ _ h2) h3) rfl
  ·rename_i len e ht
   split at hc
   ·rename_i d hd
    split at hc
    ·rename_i hcond
     simp only [Option.some.injEq] at hc; subst hc
     obtain ⟨cs,u,h1,h2,h3⟩:=hk
     unfold ixAV at h3
     split at h3
     ·rename_i kk i
      obtain ⟨k1,k2,v,k3,k4⟩:=h3
      have hi:=(hρ _ _ h2).bS0
      have hx:=hρ _ _ h1
      cases hx':a.eval x with
      | agg vs =>
       rw [hx'] at hx
       obtain ⟨v',y,g1,g2,g3⟩:=m30 (w:=w) (off:=i.toNat * P.cellsOf e) hd hcond.2 hx (by rw [hcond.1,Nat.mul_one]; exact k3) k4
       have k2':i < (len:Int):=k2
       exact ⟨v',y,g1,g2,by simp [execOp,hx',hi,Instr.index,asIntOf,run_underlying ht,k1,k2',run_sizeOf hd,g3]⟩
      | _=>rw [hx'] at hx; cases hx
     ·exact h3.elim
    ·cases hc
   ·cases hc
  ·cases hc
 case extract x ix =>
  simp only [Option.some.injEq] at hc; subst hc
  obtain ⟨v,h1,h2⟩:=hk
  exact lift (extV_ok (hρ _ _ h1) h2) rfl
 case build t ps =>
  split at hc
  ·rename_i fs z ht hz
   split at hc
   ·rename_i qs hq
    split at hc
    ·rename_i hall
     simp only [Option.some.injEq] at hc; subst hc
     exact lift (build_ok ht hz hq hall hρ hk) rfl
    ·cases hc
   ·cases hc
  ·rename_i len e z ht hz
   split at hc
   ·rename_i hinf
    simp only [Option.some.injEq] at hc; subst hc
    exact lift (buildA_ok ht hz hinf hρ hk) rfl
   ·cases hc
  ·cases hc
 case typeAssert x xt t ok =>
  cases ok with
  | false=>simp only at hc; cases hc
  | true =>
   simp only at hc
   split at hc
   ·rename_i d z hd hz
    split at hc
    ·cases hc
    ·rename_i hni
     simp only [Option.some.injEq] at hc; subst hc
     obtain ⟨v,h1,h2⟩:=hk
     obtain ⟨inf,hi,hiz⟩:=Option.bind_eq_some_iff.1 hz
     have hni':lR0 d=false:=by simpa using hni
     have hx:=hρ _ _ h1
     have tupok:∀ {u:V} {y:Value} {b:Bool},R H μ u y->R H μ (.tup [u,.c (.bool b)]) (.tuple #[y,.bool b]):=by
      intro u y b hu
      refine .tup _ _ rfl fun j v hj=>?_
      match j,hj with
      | 0,hj=>simp at hj; subst hj; exact hu
      | 1,hj=>simp at hj; subst hj; exact .c _
      | j + 2,hj=>simp at hj
     unfold taV at h2
     split at h2
     ·rename_i t' u
      cases hx':a.eval x with
      | iface t2 y =>
       rw [hx'] at hx
       cases hx with
       | ifc _ _ _ hu =>
        by_cases e:t'=t
        ·subst e; exact ⟨_,.tuple #[y,.bool true],h2.1 rfl,tupok hu,by simp [execOp,hx',qU0 hd hni']⟩
        ·exact ⟨_,.tuple #[z,.bool false],h2.2 e,tupok (.c z),by simp [execOp,hx',p70 hd hni' hi hiz y e]⟩
      | _=>rw [hx'] at hx; cases hx
     ·have hx':=hx.bS0
      exact ⟨_,.tuple #[z,.bool false],h2,tupok (.c z),by simp [execOp,hx',so0 hd hni' hi hiz]⟩
     ·exact h2.elim
   ·cases hc
 case call c =>
  obtain ⟨callee,args,argTypes⟩:=c
  cases callee with
  | value f=>simp only [Option.some.injEq] at hc; subst hc; exact hk.elim
  | invoke r m=>simp only at hc; cases hc
  | builtin b =>
   simp only at hc
   unfold compB at hc
   split at hc
   case h_1 x t e1 e2 =>
    have e1':args=#[x]:=by rw [<- Array.toArray_toList (xs:=args),e1]
    have e2':argTypes=#[t]:=by rw [<- Array.toArray_toList (xs:=argTypes),e2]
    subst e1'; subst e2'
    split at hc
    ·rename_i ht
     simp only [Option.some.injEq] at hc; subst hc
     obtain ⟨s,h1,h2⟩:=hk
     have hx:=(hρ _ _ h1).bS0
     exact ⟨_,_,h2,.c _,by simp [execOp,resolve,invoke,builtin,hx,Builtin.len_,run_underlying ht,goInt]⟩
    ·rename_i e ht
     simp only [Option.some.injEq] at hc; subst hc
     obtain ⟨v,h1,h2⟩:=hk
     obtain ⟨u,y,k1,k2,k3⟩:=lenV_ok (w:=w) type ht (hρ _ _ h1) h2
     exact ⟨u,y,k1,k2,by simp [execOp,resolve,invoke,builtin,k3]⟩
    ·cases hc
   case h_2 ts x y e1 =>
    have e1':args=#[x,y]:=by rw [<- Array.toArray_toList (xs:=args),e1]
    subst e1'
    simp only [Option.some.injEq] at hc; subst hc
    obtain ⟨k,k',p,q,h1,h2,h3⟩:=hk
    have hx:=(hρ _ _ h1).bS0
    have hy:=(hρ _ _ h2).bS0
    exact ⟨_,_,h3,.c _,by simp [execOp,resolve,invoke,builtin,hx,hy,run_max_int2]⟩
   case h_3 ts x y e1 =>
    have e1':args=#[x,y]:=by rw [<- Array.toArray_toList (xs:=args),e1]
    subst e1'
    simp only [Option.some.injEq] at hc; subst hc
    obtain ⟨k,k',p,q,h1,h2,h3⟩:=hk
    have hx:=(hρ _ _ h1).bS0
    have hy:=(hρ _ _ h2).bS0
    exact ⟨_,_,h3,.c _,by simp [execOp,resolve,invoke,builtin,hx,hy,run_min_int2]⟩
   all_goals
    (repeat' split at hc)
    all_goals first
     | (cases hc; done)
     | (simp only [Option.some.injEq] at hc; subst hc; exact hk.elim)
 case makeMap t r =>
  cases r with
  | some r=>simp only at hc; cases hc
  | none =>
   simp only at hc
   split at hc
   ·obtain ⟨kd,_,rfl⟩:=Option.map_eq_some_iff.1 hc
    exact hk.elim
   ·cases hc
 case insert t m k x =>
  split at hc
  ·obtain ⟨kd,_,rfl⟩:=Option.map_eq_some_iff.1 hc
   exact hk.elim
  ·cases hc
 case mapUpdate t m k x =>
  split at hc
  ·obtain ⟨kd,_,rfl⟩:=Option.map_eq_some_iff.1 hc
   exact hk.elim
  ·cases hc
 case lookup t m k ok =>
  split at hc
  ·split at hc
   ·simp only [Option.some.injEq] at hc; subst hc; exact hk.elim
   ·cases hc
  ·cases hc
 all_goals
  (repeat' split at hc)
  all_goals first
   | (cases hc; done)
   | (simp only [Option.some.injEq,Option.map_eq_some_iff] at hc; first | (subst hc; exact hk.elim) | (obtain ⟨_,_,hc⟩:=hc; subst hc; exact hk.elim))
end Go.Am
end

section
namespace Go.Am
variable {P:Program} {n:Sz} {H:Imm} {μ:Mu} {env:Env} {hp:Hp} {a:Act} {w:World}
def V.kill (i:Id) (v:V):V:=if v.has i then .any else v
def Env.kill (i:Id) (env:Env):Env:=env.map fun p=>(p.1,p.2.kill i)
def Hp.kill (i:Id) (hp:Hp):Hp:=hp.map fun p=>(p.1,if p.1=i then .gone else if p.2.has i then .gone else p.2)
theorem dN0 {α β γ:Type} [BEq α] (f:α->β->γ) (l:List (α × β)) (x:α) [LawfulBEq α]:(l.map fun p=>(p.1,f p.1 p.2)).lookup x=(l.lookup x).map (f x):=by
 induction l with
 | nil=>rfl
 | cons p l ih =>
  obtain ⟨k,v⟩:=p
  simp only [List.map_cons,List.lookup_cons]
  cases h:x == k with
  | true=>simp; rw [eq_of_beq h]
  | false=>simp [ih]
theorem lS0 (i:Id) (env:Env) (s:Nat):(Env.kill i env).lookup s=(env.lookup s).map (V.kill i):=dN0 (fun _ v=>V.kill i v) env s
theorem e50 (i:Id) (hp:Hp) (j:Id):(Hp.kill i hp).lookup j=(hp.lookup j).map fun o=>if j=i then .gone else if o.has i then .gone else o :=
 dN0 (fun j (o:Ob)=>if j=i then Ob.gone else if o.has i then .gone else o) hp j
theorem eI0 {i j:Id} {o:Ob} (h:(Hp.kill i hp).lookup j=some o):o=.gone\/(j ≠ i/\o.has i=false/\hp.lookup j=some o):=by
 rw [e50] at h
 cases hl:hp.lookup j with
 | none=>rw [hl] at h; cases h
 | some o' =>
  rw [hl] at h
  simp only [Option.map_some,Option.some.injEq] at h
  split at h
  ·exact .inl h.symm
  ·split at h
   ·exact .inl h.symm
   ·subst h; rename_i h1 h2; exact .inr ⟨h1,by simpa using h2,rfl⟩
theorem ObOk.mono {i:Id} {o:Ob} {H':Imm} {μ':Mu} {w':World} (h:ObOk H μ w i o) (hH:Imm.le H H') (hi:μ' i=μ i) (ho:∀ j,o.has j=true->μ' j=μ j)
  (hb:∀ blk,μ i=some blk->w'.heap[blk.b]?=w.heap[blk.b]?) (hown:o.own=true->∀ blk,μ i=some blk->H' blk.b=H blk.b):ObOk H' μ' w' i o:=by
 cases o with
 | gone=>trivial
 | box cs =>
  obtain ⟨blk,vals,ty,h1,h2,h3,h4,h5⟩:=h
  refine ⟨blk,vals,ty,by rw [hi]; exact h1,by rw [hb blk h1]; exact h2,h3,⟨by rw [hown rfl blk h1]; exact h4.1,h4.2⟩,fun j v hj=>?_⟩
  obtain ⟨x,k1,k2⟩:=h5 j v hj
  exact ⟨x,k1,k2.mono hH fun q hq=>ho q (V.gO0 hj hq)⟩
 | row ty sz own xs =>
  rcases h with ⟨h1,h2⟩ | ⟨blk,vals,h1,h2,h3,h4,h5,h6,h7,h8,h9⟩
  ·exact .inl ⟨h1,by rw [hi]; exact h2⟩
  ·refine .inr ⟨blk,vals,by rw [hi]; exact h1,h2,by rw [hb blk h1]; exact h3,h4,h5,h6,fun e=>?_,fun e=>hH _ _ (h8 e),fun k e he j v hj=>?_⟩
   ·rw [hown e blk h1]; exact h7 e
   ·obtain ⟨x,k1,k2⟩:=h9 k e he j v hj
    exact ⟨x,k1,k2.le hH⟩
 | mpo kd kvs =>
  obtain ⟨blk,es,clk,h1,h2,h3,h4,h6⟩:=h
  refine ⟨blk,es,clk,by rw [hi]; exact h1,by rw [hb blk h1]; exact h2,by rw [hown rfl blk h1]; exact h3,h4,fun j k v hj=>?_⟩
  obtain ⟨q1,e,q2,q3,q4⟩:=h6 j k v hj
  exact ⟨q1,e,q2,q3,q4.le hH⟩
theorem ObOk.lt {i:Id} {o:Ob} (h:ObOk H μ w i o) (ho:o.own=true) {blk:Blk} (hb:μ i=some blk):blk.b < w.heap.size:=by
 cases o with
 | gone=>cases ho
 | box cs =>
  obtain ⟨blk',vals,ty,h1,h2,_⟩:=h
  rw [hb] at h1; injection h1 with h1; subst h1
  exact (Array.getElem?_eq_some_iff.1 h2).1
 | row ty sz own xs =>
  rcases h with ⟨h1,h2⟩ | ⟨blk',vals,h1,h2,h3,_⟩
  ·rw [h2] at hb; cases hb
  ·rw [hb] at h1; injection h1 with h1; subst h1
   exact (Array.getElem?_eq_some_iff.1 h3).1
 | mpo kd kvs =>
  obtain ⟨blk',es,clk,h1,h2,_⟩:=h
  rw [hb] at h1; injection h1 with h1; subst h1
  exact (Array.getElem?_eq_some_iff.1 h2).1
def Mu.set (μ:Mu) (i:Id) (b:Blk):Mu:=fun j=>if j=i then some b else μ j
theorem Mu.aS0 (μ:Mu) (i:Id) (b:Blk):μ.set i b i=some b:=by simp [Mu.set]
theorem Mu.bz0 (μ:Mu) {i j:Id} (b:Blk) (h:j ≠ i):μ.set i b j=μ j:=by simp [Mu.set,h]
theorem Mu.set_e (μ:Mu) {i:Id} (b:Blk) (hi:i.isL=true) (k:Nat):μ.set i b (.e k)=μ (.e k):=Mu.bz0 _ _ fun e=>by subst e; cases hi
theorem Wd.new {i:Id} {ob:Ob} {bo:Obj} {blk:Blk} (hW:Wd H μ hp w) (hb:blk.b=w.heap.size)
  (hob:ObOk H (μ.set i blk) (w.alloc bo) i ob) (hi:i.isL=true:=by rfl) :
  Wd H (μ.set i blk) ((i,ob) :: Hp.kill i hp) (w.alloc bo) /\
  Nx H μ hp w H (μ.set i blk) ((i,ob) :: Hp.kill i hp) (w.alloc bo):=by
 have hold:∀ b,b < w.heap.size->(w.alloc bo).heap[b]?=w.heap[b]?:=fun b h=>heap_alloc_old w _ b h
 have hcase:∀ j o,((i,ob) :: Hp.kill i hp).lookup j=some o->(j=i/\o=ob)\/o=.gone\/(j ≠ i/\o.has i=false/\hp.lookup j=some o):=by
  intro j o h
  rw [List.lookup_cons] at h
  cases hji:(j == i) with
  | true=>rw [hji] at h; simp at h; exact .inl ⟨eq_of_beq hji,h.symm⟩
  | false=>rw [hji] at h; exact .inr (eI0 h)
 refine ⟨⟨fun j o h=>?_,fun j k oj ok bj bk hj ho hk hok hbj hbk heq=>?_,fun b cs h=>?_,hW.glo⟩,⟨⟨Imm.le_refl H,rfl,rfl,rfl,(by show w.heap.size<=(w.heap.push _).size; simp),fun b hb' _=>hold b hb',fun b ho hb'=>?_,fr0⟩,Mu.set_e μ blk hi⟩⟩
 ·rcases hcase j o h with ⟨rfl,rfl⟩ | rfl | ⟨h1,h2,h3⟩
  ·exact hob
  ·trivial
  ·have hO:=hW.ob j o h3
   cases hown:o.own with
   | true =>
    refine hO.mono (Imm.le_refl H) (Mu.bz0 _ _ h1) (fun q hq=>Mu.bz0 _ _ fun e=>by subst e; rw [h2] at hq; cases hq) (fun bq hq=>hold _ (hO.lt hown hq)) (fun _ _ _=>rfl)
   | false =>
    cases o with
    | gone=>trivial
    | box cs=>cases hown
    | mpo kd kvs=>cases hown
    | row ty sz own xs =>
     refine hO.mono (Imm.le_refl H) (Mu.bz0 _ _ h1) (fun q hq=>by cases hq) (fun bq hq=>?_) (fun _ _ _=>rfl)
     rcases hO with ⟨k1,k2⟩ | ⟨blk',vals',k1,k2,k3,_⟩
     ·rw [k2] at hq; cases hq
     ·rw [hq] at k1; injection k1 with k1; subst k1
      exact hold _ (Array.getElem?_eq_some_iff.1 k3).1
 ·rcases hcase j oj hj with ⟨rfl,rfl⟩ | rfl | ⟨h1,h2,h3⟩
  ·rcases hcase k ok hk with ⟨rfl,rfl⟩ | rfl | ⟨k1,k2,k3⟩
   ·rfl
   ·cases hok
   ·rw [Mu.aS0] at hbj; injection hbj with hbj; subst hbj
    rw [Mu.bz0 _ _ k1] at hbk
    have:=(hW.ob k ok k3).lt hok hbk
    omega
  ·cases ho
  ·rcases hcase k ok hk with ⟨rfl,rfl⟩ | rfl | ⟨k1,k2,k3⟩
   ·rw [Mu.aS0] at hbk; injection hbk with hbk; subst hbk
    rw [Mu.bz0 _ _ h1] at hbj
    have:=(hW.ob j oj h3).lt ho hbj
    omega
   ·cases hok
   ·rw [Mu.bz0 _ _ h1] at hbj
    rw [Mu.bz0 _ _ k1] at hbk
    exact hW.inj j k oj ok bj bk h3 ho k3 hok hbj hbk heq
 ·obtain ⟨ty',fz,h1⟩:=hW.imm b cs h
  exact ⟨ty',fz,by rw [hold b (Array.getElem?_eq_some_iff.1 h1).1]; exact h1⟩
 ·obtain ⟨j,o,blk',h1,h2,h3,h4⟩:=ho
  rcases hcase j o h1 with ⟨rfl,rfl⟩ | rfl | ⟨k1,k2,k3⟩
  ·rw [Mu.aS0] at h3; injection h3 with h3; subst h3; omega
  ·cases h2
  ·rw [Mu.bz0 _ _ k1] at h3
   exact ⟨j,o,blk',k3,h2,h3,h4⟩
theorem Sat.envKill {i:Id} {b:Blk} (h:∀ s v,env.lookup s=some v->R H μ v (a.tmps.getD s undef)) :
  ∀ s v,(Env.kill i env).lookup s=some v->R H (μ.set i b) v (a.tmps.getD s undef):=by
 intro s v hv
 rw [lS0] at hv
 cases hl:env.lookup s with
 | none=>rw [hl] at hv; cases hv
 | some u =>
  rw [hl] at hv
  simp only [Option.map_some,Option.some.injEq] at hv
  subst hv
  unfold V.kill
  split
  ·exact .any _
  ·rename_i hn
   exact (h s u hl).mono (Imm.le_refl H) fun q hq=>Mu.bz0 _ _ fun e=>by subst e; exact hn hq
def Env.put (env:Env) (d:Option Nat) (v:V):Env:=match d with | some s=>(s,v) :: env | none=>env
theorem iD0 {d:Option Nat} {v:V} {x:Value} (hd:∀ s,d=some s->s < a.tmps.size) (h:∀ s v,env.lookup s=some v->R H μ v (a.tmps.getD s undef)) (hv:R H μ v x) :
  ∀ s u,(env.put d v).lookup s=some u->R H μ u ((a.put d x).tmps.getD s undef):=by
 intro s u hu
 cases d with
 | none=>exact h s u hu
 | some t =>
  simp only [Env.put,List.lookup_cons] at hu
  simp only [Act.put]
  cases hst:(s == t) with
  | true =>
   rw [hst] at hu
   have:=eq_of_beq hst; subst this
   simp only [Option.some.injEq] at hu; subst hu
   have hlt:=hd s rfl
   simpa [Array.getD_eq_getD_getElem?,hlt] using hv
  | false =>
   rw [hst] at hu
   have hne:t ≠ s:=fun e=>by subst e; simp at hst
   have:=h s u hu
   simpa [Array.getD_eq_getD_getElem?,Array.getElem?_setIfInBounds_ne hne] using this
theorem gS0 (a:Act) (d:Option Nat) (x:Value):(a.put d x).tmps.size=a.tmps.size:=by cases d <;> simp [Act.put]
theorem put_defers (a:Act) (d:Option Nat) (x:Value):(a.put d x).defers=a.defers:=by cases d <;> rfl
theorem Sat.put {d:Option Nat} {v:V} {x:Value} (hS:Sat n H μ env hp a w) (hd:∀ s,d=some s->s < n) (hv:R H μ v x):Sat n H μ (env.put d v) hp (a.put d x) w :=
 ⟨by rw [put_defers]; exact hS.defers,by rw [gS0]; exact hS.size,iD0 (fun s e=>by rw [hS.size]; exact hd s e) hS.env hv,hS.wd⟩
theorem Sat.new {i:Id} {ob:Ob} {bo:Obj} {blk:Blk} {d:Option Nat} {v:V} {x:Value} (hS:Sat n H μ env hp a w) (hd:∀ s,d=some s->s < n) (hb:blk.b=w.heap.size)
  (hob:ObOk H (μ.set i blk) (w.alloc bo) i ob) (hv:R H (μ.set i blk) v x) (hi:i.isL=true:=by rfl) :
  Sat n H (μ.set i blk) ((Env.kill i env).put d v) ((i,ob) :: Hp.kill i hp) (a.put d x) (w.alloc bo) /\
  Nx H μ hp w H (μ.set i blk) ((i,ob) :: Hp.kill i hp) (w.alloc bo):=by
 obtain ⟨h1,h2⟩:=hS.wd.new hb hob hi
 exact ⟨⟨by rw [put_defers]; exact hS.defers,by rw [gS0]; exact hS.size,iD0 (fun s e=>by rw [hS.size]; exact hd s e) (Sat.envKill hS.env) hv,h1⟩,h2⟩
end Go.Am
end

section
namespace Go.Am
variable {P:Program} {n:Sz} {H:Imm} {μ:Mu} {env:Env} {hp:Hp} {a:Act} {w:World}
mutual
def V.pure:V->Bool
 | .any=>true
 | .c _=>true
 | .nil=>true
 | .lst _=>true
 | .rp _=>true
 | .bp _ _=>false
 | .self _ _=>false
 | .ep _ _ _=>false
 | .arr _ _ _=>false
 | .mp _=>false
 | .arc _ _ _ _=>false
 | .agg cs=>V.bt0 cs
 | .fn _ cs=>V.bt0 cs
 | .tup cs=>V.bt0 cs
 | .ifc _ v=>v.pure
def V.bt0:List V->Bool
 | []=>true
 | v :: vs=>v.pure && V.bt0 vs
end
theorem V.e80:∀ {cs:List V} {j:Nat} {v:V},cs[j]?=some v->V.bt0 cs=true->v.pure=true
 | [],j,v,h,_=>by simp at h
 | u :: us,0,v,h,hv=>by simp at h; subst h; simp [V.bt0] at hv; exact hv.1
 | u :: us,j + 1,v,h,hv=>by simp at h; simp [V.bt0] at hv; exact V.e80 h hv.2
theorem R.pure {v:V} {x:Value} (h:R H μ v x):v.pure=true->∀ μ',R H μ' v x:=by
 induction h with
 | any x=>intro _ μ'; exact .any x
 | c v=>intro _ μ'; exact .c v
 | nil=>intro _ μ'; exact .nil
 | lst xs sz a n cap cv hn hc hs hm hr ih=>intro _ μ'; exact .lst xs sz a n cap cv hn hc hs hm hr
 | rp cs b off cv hm hr ih=>intro _ μ'; exact .rp cs b off cv hm hr
 | bp i off blk h=>intro e; simp [V.pure] at e
 | self i t a blk h ht ha=>intro e; simp [V.pure] at e
 | ep i k off blk h=>intro e; simp [V.pure] at e
 | mp i blk h=>intro e; simp [V.pure] at e
 | arc i o n c a hc h=>intro e; simp [V.pure] at e
 | arr i o n a cap hc h=>intro e; simp [V.pure] at e
 | agg cs vs hn hr ih=>intro e μ'; exact .agg cs vs hn (fun j v hj=>ih j v hj (V.e80 hj (by simpa [V.pure] using e)) μ')
 | fn f cs vs hn hr ih=>intro e μ'; exact .fn f cs vs hn (fun j v hj=>ih j v hj (V.e80 hj (by simpa [V.pure] using e)) μ')
 | tup cs vs hn hr ih=>intro e μ'; exact .tup cs vs hn (fun j v hj=>ih j v hj (V.e80 hj (by simpa [V.pure] using e)) μ')
 | ifc t v x h ih=>intro e μ'; exact .ifc t v x (ih (by simpa [V.pure] using e) μ')
def Ob.frz:Ob->Ob
 | .row ty sz _ xs=>.row ty sz false xs
 | o=>o
def Hp.frz (v:V) (hp:Hp):Hp:=hp.map fun p=>(p.1,if v.has p.1 then p.2.frz else p.2)
theorem hH0 (v:V) (hp:Hp) (i:Id):(Hp.frz v hp).lookup i=(hp.lookup i).map fun o=>if v.has i then o.frz else o :=
 dN0 (fun i (o:Ob)=>if v.has i then o.frz else o) hp i
theorem Wd.frz (v:V) (hW:Wd H μ hp w):∃ H',Imm.le H H'/\Wd H' μ (Hp.frz v hp) w/\Nx H μ hp w H' μ (Hp.frz v hp) w:=by
 let C:Nat->Prop:=fun b=>∃ i ty sz xs blk,hp.lookup i=some (.row ty sz true xs)/\v.has i=true/\μ i=some blk/\blk.b=b
 have:∃ H':Imm,(∀ b,C b->∀ cs ty fz,w.heap[b]?=some (.cells cs ty fz)->H' b=some cs)/\(∀ b,¬ C b->H' b=H b)/\(∀ b,C b->(∀ cs ty fz,w.heap[b]? ≠ some (.cells cs ty fz))->H' b=none):=by
  classical
  refine ⟨fun b=>if C b then (match w.heap[b]? with | some (.cells cs _ _)=>some cs | _=>none) else H b,fun b hb cs ty fz h=>?_,fun b hb=>?_,fun b hb h=>?_⟩
  ·simp [hb,h]
  ·simp [hb]
  ·dsimp only
   rw [if_pos hb]
   cases he:w.heap[b]? with
   | none=>rfl
   | some o=>cases o <;> first | rfl | (rename_i cs ty fz; exact absurd he (h cs ty fz))
 obtain ⟨H',h1,h2,h3⟩:=this
 have hle:Imm.le H H':=by
  intro b cs hb
  by_cases hc:C b
  ·obtain ⟨i,ty0,sz,xs,blk,k1,k2,k3,rfl⟩:=hc
   rcases hW.ob i _ k1 with ⟨_,k5⟩ | ⟨blk',vals,k5,_,_,_,_,_,k6,_⟩
   ·rw [k5] at k3; cases k3
   ·rw [k3] at k5; injection k5 with k5; subst k5
    rw [k6 rfl] at hb; cases hb
  ·rw [h2 b hc]; exact hb
 have hnot:∀ i o blk,hp.lookup i=some o->o.own=true->(v.has i=false\/∀ ty sz xs,o ≠ .row ty sz true xs)->μ i=some blk->¬ C blk.b:=by
  rintro i o blk k1 k2 k3 k4 ⟨j,ty0,sz,xs,blk',k5,k6,k7,k8⟩
  have hij:=hW.inj j i _ _ blk' blk k5 rfl k1 k2 k7 k4 k8
  subst hij
  rcases k3 with k3 | k3
  ·rw [k3] at k6; cases k6
  ·rw [k1] at k5; injection k5 with k5; exact k3 _ _ _ k5
 refine ⟨H',hle,⟨fun i o h=>?_,fun i j oi oj bi bj hi hoi hj hoj hbi hbj heq=>?_,fun b cs h=>?_,fun p hp=>hle _ _ (hW.glo p hp)⟩,⟨⟨hle,rfl,rfl,rfl,Nat.le_refl _,fun _ _ _=>rfl,fun b ho _=>?_,fun b cs hb h0=>?_⟩,fun _=>rfl⟩⟩
 ·rw [hH0] at h
  cases hl:hp.lookup i with
  | none=>rw [hl] at h; cases h
  | some o' =>
   rw [hl] at h
   simp only [Option.map_some,Option.some.injEq] at h
   have hO:=hW.ob i o' hl
   by_cases hv:v.has i=true
   ·rw [if_pos hv] at h
    cases o' with
    | gone=>subst h; trivial
    | box cs =>
     subst h
     exact hO.mono hle rfl (fun _ _=>rfl) (fun _ _=>rfl) (fun _ blk hb=>h2 _ (hnot i _ blk hl rfl (.inr fun _ _ _ e=>by cases e) hb))
    | mpo kd kvs =>
     subst h
     exact hO.mono hle rfl (fun _ _=>rfl) (fun _ _=>rfl) (fun _ blk hb=>h2 _ (hnot i _ blk hl rfl (.inr fun _ _ _ e=>by cases e) hb))
    | row ty sz own xs =>
     simp only [Ob.frz] at h
     subst h
     rcases hO with k | ⟨blk,vals,k1,k2,k3,k4,k5,k6,k7,k8,k9⟩
     ·exact .inl k
     ·refine .inr ⟨blk,vals,k1,⟨k2.1,k2.2.1,fun e=>by cases e⟩,k3,k4,k5,k6,fun e=>by (cases e),fun _=>?_,fun k e he j u hj=>?_⟩
      ·cases own with
       | false=>exact hle _ _ (k8 rfl)
       | true=>exact h1 _ ⟨i,ty,sz,xs,blk,hl,hv,k1,rfl⟩ vals _ _ k3
      ·obtain ⟨x,q1,q2⟩:=k9 k e he j u hj
       exact ⟨x,q1,q2.le hle⟩
   ·rw [if_neg hv] at h
    subst h
    exact hO.mono hle rfl (fun _ _=>rfl) (fun _ _=>rfl) (fun ho blk hb=>h2 _ (hnot i _ blk hl ho (.inl (by simpa using hv)) hb))
 ·have back:∀ k ok,(Hp.frz v hp).lookup k=some ok->ok.own=true->hp.lookup k=some ok:=by
   intro k ok h ho
   rw [hH0] at h
   cases hl:hp.lookup k with
   | none=>rw [hl] at h; cases h
   | some o' =>
    rw [hl] at h
    simp only [Option.map_some,Option.some.injEq] at h
    split at h
    ·cases o' with
     | gone=>subst h; cases ho
     | box cs=>subst h; rfl
     | mpo kd kvs=>subst h; rfl
     | row ty sz own xs=>subst h; cases ho
    ·rw [h]
  exact hW.inj i j oi oj bi bj (back i oi hi hoi) hoi (back j oj hj hoj) hoj hbi hbj heq
 ·by_cases hc:C b
  ·cases hb:w.heap[b]? with
   | none=>rw [h3 b hc (by simp [hb])] at h; cases h
   | some o =>
    cases o with
    | cells cs' ty fz=>rw [h1 b hc cs' ty fz hb] at h; injection h with h; subst h; exact ⟨ty,fz,rfl⟩
    | _=>rw [h3 b hc (by simp [hb])] at h; cases h
  ·rw [h2 b hc] at h; exact hW.imm b cs h
 ·obtain ⟨i,o,blk,k1,k2,k3,k4⟩:=ho
  rw [hH0] at k1
  cases hl:hp.lookup i with
  | none=>rw [hl] at k1; cases k1
  | some o' =>
   rw [hl] at k1
   simp only [Option.map_some,Option.some.injEq] at k1
   refine ⟨i,o',blk,hl,?_,k3,k4⟩
   split at k1
   ·cases o' <;> simp only [Ob.frz] at k1 <;> subst k1 <;> first | exact k2 | cases k2
   ·rw [k1]; exact k2
 ·by_cases hc:C b
  ·obtain ⟨i,ty0,sz,xs,blk,k1,k2,k3,k4⟩:=hc
   exact .inr ⟨i,_,blk,k1,rfl,k3,k4⟩
  ·rw [h2 b hc,h0] at hb; cases hb
theorem Sat.frz (v:V) (hS:Sat n H μ env hp a w):∃ H',Imm.le H H'/\Sat n H' μ env (Hp.frz v hp) a w/\Nx H μ hp w H' μ (Hp.frz v hp) w:=by
 obtain ⟨H',h1,h2,h3⟩:=hS.wd.frz v
 exact ⟨H',h1,⟨hS.defers,hS.size,fun s u hu=>(hS.env s u hu).le h1,h2⟩,h3⟩
mutual
def V.view (hp:Hp):V->(V->Prop)->Prop
 | .nil,K=>K (.lst [])
 | .arr i o n,K=>∃ ty sz xs,hp.lookup i=some (.row ty sz false xs)/\o + n<=xs.length/\K (.lst ((xs.drop o).take n))
 | .agg cs,K=>V.dB0 hp cs fun us=>K (.agg us)
 | .tup cs,K=>V.dB0 hp cs fun us=>K (.tup us)
 | .ifc t v,K=>V.view hp v fun u=>K (.ifc t u)
 | .any,K=>K .any
 | .c v,K=>K (.c v)
 | .lst xs,K=>K (.lst xs)
 | .rp cs,K=>K (.rp cs)
 | .bp i o,K=>K (.bp i o)
 | .self i o,K=>K (.self i o)
 | .ep i k o,K=>K (.ep i k o)
 | .mp i,K=>K (.mp i)
 | .arc i o n _,K=>∃ ty sz xs,hp.lookup i=some (.row ty sz false xs)/\o + n<=xs.length/\K (.lst ((xs.drop o).take n))
 | .fn f cs,K=>K (.fn f cs)
def V.dB0 (hp:Hp):List V->(List V->Prop)->Prop
 | [],K=>K []
 | v :: vs,K=>V.view hp v fun u=>V.dB0 hp vs fun us=>K (u :: us)
end
theorem mr0 {i:Id} {o m ty sz:Nat} {xs:List (List V)} {x:Value} (hW:Wd H μ hp w) (hl:hp.lookup i=some (.row ty sz false xs)) (hle:o + m<=xs.length) (h:R H μ (.arr i o m) x) (μ':Mu) :
  R H μ' (.lst ((xs.drop o).take m)) x:=by
 cases h with
 | arr _ _ _ ad cap hc hb =>
 have get:∀ (j:Nat) (e:List V),((xs.drop o).take m)[j]?=some e->j < m/\xs[o + j]?=some e:=by
  intro j e he
  rw [List.getElem?_take] at he
  split at he
  ·rw [List.getElem?_drop] at he; exact ⟨by assumption,he⟩
  ·cases he
 rcases hW.ob i _ hl with ⟨rfl,_⟩ | ⟨blk,vals,k1,⟨k2,_⟩,k3,k4,k5,k6,k7,k8,k9⟩
 ·have hm0:m=0:=by simp at hle; omega
  subst hm0
  exact .lst _ sz ad _ cap (fun _ _=>undef) (by simp) (by omega) (by simp) (by simp) (by simp)
 have hH:=k8 rfl
 refine .lst _ sz ad _ cap (fun j q=>vals.getD ((o + j) * sz + q) undef) (by simp; omega) hc (fun j e he=>k6 _ e (get j e he).2) (fun j e q v he hq=>?_) (fun j e q v he hq=>?_)
 ·obtain ⟨hj,he'⟩:=get j e he
  rcases hb with rfl | ⟨blk',h3,h4,h5⟩
  ·omega
  ·rw [k1] at h3; injection h3 with h3; subst h3
   obtain ⟨y,q1,q2⟩:=k9 _ e he' q v hq
   refine ⟨blk.b,o * blk.sz,vals,h4,hH,?_⟩
   rw [k2,<- Nat.add_mul,q1,Array.getD_eq_getD_getElem?,q1]; rfl
 ·obtain ⟨hj,he'⟩:=get j e he
  obtain ⟨y,q1,q2⟩:=k9 _ e he' q v hq
  have:vals.getD ((o + j) * sz + q) undef=y:=by rw [Array.getD_eq_getD_getElem?,q1]; rfl
  rw [this]; exact q2
mutual
theorem o90 (hW:Wd H μ hp w):∀ {v:V} {x:Value} {K:V->Prop},R H μ v x->V.view hp v K->∃ u,K u/\R H μ u x
 | .nil,_,K,h,hk=>⟨_,hk,by cases h; exact .lst [] 0 none 0 0 (fun _ _=>undef) rfl (Nat.le_refl _) (by simp) (by simp) (by simp)⟩
 | .arr i o m,x,K,h,hk=>by
  simp only [V.view] at hk
  obtain ⟨ty,sz,xs,h1,h2,h3⟩:=hk
  exact ⟨_,h3,mr0 hW h1 h2 h μ⟩
 | .agg cs,_,K,.agg _ vs hn hr,hk=>by
  simp only [V.view] at hk
  obtain ⟨us,h1,h2⟩:=mk0 hW (cs:=cs) (vals:=vs) (off:=0) (by omega) (fun j v hj=>by rw [Nat.zero_add]; exact hr j v hj) hk
  exact ⟨_,h1,.agg us vs (by rw [hn,h2.1]) (fun j v hj=>by have:=h2.2 j v hj; rwa [Nat.zero_add] at this)⟩
 | .tup cs,_,K,.tup _ vs hn hr,hk=>by
  simp only [V.view] at hk
  obtain ⟨us,h1,h2⟩:=mk0 hW (cs:=cs) (vals:=vs) (off:=0) (by omega) (fun j v hj=>by rw [Nat.zero_add]; exact hr j v hj) hk
  exact ⟨_,h1,.tup us vs (by rw [hn,h2.1]) (fun j v hj=>by have:=h2.2 j v hj; rwa [Nat.zero_add] at this)⟩
 | .ifc t v,_,K,.ifc _ _ x h,hk=>by
  simp only [V.view] at hk
  obtain ⟨u,h1,h2⟩:=o90 hW h hk
  exact ⟨_,h1,.ifc t u x h2⟩
 | .any,_,K,h,hk=>⟨_,hk,h⟩
 | .c _,_,K,h,hk=>⟨_,hk,h⟩
 | .lst _,_,K,h,hk=>⟨_,hk,h⟩
 | .rp _,_,K,h,hk=>⟨_,hk,h⟩
 | .bp _ _,_,K,h,hk=>⟨_,hk,h⟩
 | .self _ _,_,K,h,hk=>⟨_,hk,h⟩
 | .ep _ _ _,_,K,h,hk=>⟨_,hk,h⟩
 | .mp _,_,K,h,hk=>⟨_,hk,h⟩
 | .arc i o m q,x,K,h,hk=>by
  simp only [V.view] at hk
  obtain ⟨ty,sz,xs,h1,h2,h3⟩:=hk
  exact ⟨_,h3,mr0 hW h1 h2 h.kw0 μ⟩
 | .fn _ _,_,K,h,hk=>⟨_,hk,h⟩
theorem mk0 (hW:Wd H μ hp w):∀ {cs:List V} {vals:Array Value} {off:Nat} {K:List V->Prop},off + cs.length<=vals.size ->
  (∀ (j:Nat) (v:V),cs[j]?=some v->R H μ v (vals.getD (off + j) undef))->V.dB0 hp cs K ->
  ∃ us,K us/\us.length=cs.length/\∀ (j:Nat) (v:V),us[j]?=some v->R H μ v (vals.getD (off + j) undef)
 | [],vals,off,K,hl,hr,hk=>⟨[],by simpa [V.dB0] using hk,rfl,fun j v hj=>by simp at hj⟩
 | c :: cs,vals,off,K,hl,hr,hk=>by
  simp only [V.dB0] at hk
  obtain ⟨u,h1,h2⟩:=o90 hW (hr 0 c rfl) hk
  obtain ⟨us,h3,h4,h5⟩:=mk0 hW (cs:=cs) (vals:=vals) (off:=off + 1) (by simp at hl; omega) (fun j v hj=>by have:=hr (j + 1) v hj; rwa [show off + (j + 1)=off + 1 + j by omega] at this) h1
  refine ⟨u :: us,h3,by simp [h4],fun j v hj=>?_⟩
  cases j with
  | zero=>simp at hj; subst hj; exact h2
  | succ j=>simp at hj; have:=h5 j v hj; rwa [show off + (j + 1)=off + 1 + j by omega]
end
end Go.Am
end

section
namespace Go.Am
variable {P:Program} {n:Sz} {H:Imm} {μ:Mu} {env:Env} {hp:Hp} {a:Act} {w:World}
def Id.at (d:Option Nat):Id->Bool
 | .e _=>false
 | .l s _=>d == some s
def Same (d:Option Nat) (μ μ':Mu):Prop:=∀ i:Id,i.at d=false->μ' i=μ i
theorem Same.refl (d:Option Nat) (μ:Mu):Same d μ μ:=fun _ _=>rfl
theorem Same.set {d:Option Nat} {μ μ':Mu} {s:Nat} (hd:d=some s) (h:∀ j,j ≠ Id.l s 0->μ' j=μ j):Same d μ μ':=fun i hi=>h i fun e=>by
 subst e; subst hd; simp [Id.at] at hi
def cG0 (P:Program) (n:Sz) (o:Oper) (env:Env) (hp:Hp) (K:Env->Hp->Prop):Prop :=
 ∀ H μ a w,Sat n H μ env hp a w->∃ env' hp' H' μ' x w',K env' hp'/\((execOp a.eval o).run P w=.ok (.value x) w'\/(x=undef/\(execOp a.eval o).run P w=.ok .skip w')) /\
  Sat n H' μ' env' hp' (a.put o.dst x) w'/\Nx H μ hp w H' μ' hp' w'/\Same o.dst μ μ'
def Hp.set (i:Id) (o:Ob) (hp:Hp):Hp:=hp.map fun p=>(p.1,if p.1=i then o else p.2)
theorem bx0 (i:Id) (o:Ob) (hp:Hp) (j:Id):(Hp.set i o hp).lookup j=(hp.lookup j).map fun q=>if j=i then o else q :=
 dN0 (fun j (q:Ob)=>if j=i then o else q) hp j
theorem R.scalar {v:V} {x:Value} (h:R H μ v x) (hs:v.scalar=true):x.oneCell'=true:=by
 cases h <;> simp_all [V.scalar,Value.oneCell']
theorem RL.scalar {cs:List V} {vals:Array Value} (h:RL H μ cs vals) (hs:scalars cs=true):∀ u ∈ vals.toList,u.oneCell'=true:=by
 intro u hu
 obtain ⟨j,hj,rfl⟩:=List.getElem_of_mem hu
 have hj':j < cs.length:=by rw [<- h.1]; simpa using hj
 have h1:=h.2 j _ (List.getElem?_eq_getElem hj')
 have:vals.getD j undef=vals.toList[j]:=by
  rw [Array.getD_eq_getD_getElem?,<- Array.getElem?_toList,List.getElem?_eq_getElem hj]; rfl
 rw [this] at h1
 exact h1.scalar (eK0 (List.getElem?_eq_getElem hj') hs)
theorem RL.ri0 {cs:List V} {vals:Array Value} (h:RL H μ cs vals) (i:Id) (b:Blk):RL H (μ.set i b) (cs.map (V.kill i)) vals:=by
 refine ⟨by simp [h.1],fun j v hj=>?_⟩
 rw [List.getElem?_map] at hj
 cases hx:cs[j]? with
 | none=>rw [hx] at hj; cases hj
 | some u =>
  rw [hx] at hj
  simp only [Option.map_some,Option.some.injEq] at hj
  subst hj
  unfold V.kill
  split
  ·exact .any _
  ·rename_i hn
   exact (h.2 j u hx).mono (Imm.le_refl H) fun q hq=>Mu.bz0 _ _ fun e=>by subst e; exact hn hq
theorem RL.Cells {cs:List V} {vals:Array Value} (h:RL H μ cs vals):Cells H μ cs vals 0:=fun j v hj=>by
 have hlt:j < vals.size:=by rw [h.1]; exact (List.getElem?_eq_some_iff.1 hj).1
 exact ⟨vals.getD j undef,by simp [Array.getD,hlt],h.2 j v hj⟩
theorem alloc_ok {o:Oper} {t:TypeId} {z:List V} {s:Nat} {K:Env->Hp->Prop} (ho:o.op=.alloc t) (hd:o.dst=some s) (hs:s < n) (hz:zeroCells P t=some z)
  (h:K ((Env.kill (.l s 0) env).put (some s) (.bp (.l s 0) 0)) ((.l s 0,.box z) :: Hp.kill (.l s 0) hp)):cG0 P n o env hp K:=by
 intro H μ a w hS
 obtain ⟨inf,v,hi,hiz,hzr⟩:=fO0 hz H (μ.set (.l s 0) ⟨w.heap.size,z.length,t⟩)
 have hrun:(execOp a.eval o).run P w=.ok (.value (.pointer (some ⟨w.heap.size,0,none⟩))) (w.alloc (.cells v.cells t)):=by
  simp [execOp,ho,Instr.alloc,bL0 hi hiz,newVar,newRow,World.alloc_eq]
 obtain ⟨h1,h2⟩:=hS.new (d:=some s) (i:=.l s 0) (ob:=.box z) (bo:=.cells (v.cells) t) (blk:=⟨w.heap.size,z.length,t⟩) (v:=.bp (.l s 0) 0) (x:=.pointer (some ⟨w.heap.size,0,none⟩))
  (fun q e=>by injection e with e; omega) rfl
  ⟨_,v.cells,t,Mu.aS0 _ _ _,heap_alloc_new w _,hzr.1,⟨by
   cases hH:H w.heap.size with
   | none=>rfl
   | some cs=>obtain ⟨ty,fz,e⟩:=hS.wd.imm _ _ hH; simp at e,rfl⟩,hzr.Cells⟩ (.bp _ _ _ (Mu.aS0 _ _ _))
 exact ⟨_,_,H,_,_,_,h,.inl hrun,by rw [hd]; exact h1,h2,.set hd fun j hj=>Mu.bz0 _ _ hj⟩
theorem allocS_ok {o:Oper} {t:TypeId} {z:List V} {s:Nat} {K:Env->Hp->Prop} (ho:o.op=.alloc t) (hd:o.dst=some s) (hs:s < n) (hz:zeroCells P t=some (.c (.pointer none) :: z))
  (h:K ((Env.kill (.l s 0) env).put (some s) (.bp (.l s 0) 0)) ((.l s 0,.box (.self (.l s 0) t :: z)) :: Hp.kill (.l s 0) hp)):cG0 P n o env hp K:=by
 intro H μ a w hS
 obtain ⟨inf,v,hi,hiz,hzr⟩:=fO0 hz H (μ.set (.l s 0) ⟨w.heap.size,z.length,t⟩)
 have hrun:(execOp a.eval o).run P w=.ok (.value (.pointer (some ⟨w.heap.size,0,none⟩))) (w.alloc (.cells v.cells t)):=by
  simp [execOp,ho,Instr.alloc,bL0 hi hiz,newVar,newRow,World.alloc_eq]
 have hc:Cells H (μ.set (.l s 0) ⟨w.heap.size,z.length,t⟩) (.self (.l s 0) t :: z) v.cells 0:=by
  intro j u hj
  obtain ⟨x,h1,h2⟩:=hzr.Cells j (if j=0 then .c (.pointer none) else u) (by cases j with | zero=>rfl | succ j=>simpa using hj)
  refine ⟨x,h1,?_⟩
  cases j with
  | zero =>
   simp only [List.getElem?_cons_zero,Option.some.injEq] at hj; subst hj
   rw [if_pos rfl] at h2
   cases h2
   exact .self _ _ _ _ (Mu.aS0 _ _ _) rfl (.inl rfl)
  | succ j=>simpa using h2
 obtain ⟨h1,h2⟩:=hS.new (d:=some s) (i:=.l s 0) (ob:=.box (.self (.l s 0) t :: z)) (bo:=.cells (v.cells) t) (blk:=⟨w.heap.size,z.length,t⟩) (v:=.bp (.l s 0) 0) (x:=.pointer (some ⟨w.heap.size,0,none⟩))
  (fun q e=>by injection e with e; omega) rfl
  ⟨_,v.cells,t,Mu.aS0 _ _ _,heap_alloc_new w _,by rw [hzr.1]; rfl,⟨by
   cases hH:H w.heap.size with
   | none=>rfl
   | some cs=>obtain ⟨ty,fz,e⟩:=hS.wd.imm _ _ hH; simp at e,rfl⟩,hc⟩ (.bp _ _ _ (Mu.aS0 _ _ _))
 exact ⟨_,_,H,_,_,_,h,.inl hrun,by rw [hd]; exact h1,h2,.set hd fun j hj=>Mu.bz0 _ _ hj⟩
theorem box_ok {o:Oper} {t:TypeId} {x:Operand} {s:Nat} {v:V} {us:List V} {K:Env->Hp->Prop} (ho:o.op=.box t x) (hd:o.dst=some s) (hs:s < n) (hv:Env.ev env x=some v) (hu:v.cells=some us)
  (h:K ((Env.kill (.l s 0) env).put (some s) (.bp (.l s 0) 0)) ((.l s 0,.box (us.map (V.kill (.l s 0)))) :: Hp.kill (.l s 0) hp)):cG0 P n o env hp K:=by
 intro H μ a w hS
 have hr:=((ch0 hS hv).cells hu).ri0 (.l s 0) ⟨w.heap.size,us.length,t⟩
 have hrun:(execOp a.eval o).run P w=.ok (.value (.pointer (some ⟨w.heap.size,0,none⟩))) (w.alloc (.cells (a.eval x).cells t)):=by
  simp [execOp,ho,Instr.box,newVar,newRow,World.alloc_eq]
 obtain ⟨h1,h2⟩:=hS.new (d:=some s) (i:=.l s 0) (ob:=.box (us.map (V.kill (.l s 0)))) (bo:=.cells (a.eval x).cells t) (blk:=⟨w.heap.size,us.length,t⟩) (v:=.bp (.l s 0) 0)
  (x:=.pointer (some ⟨w.heap.size,0,none⟩))
  (fun q e=>by injection e with e; omega) rfl
  ⟨_,(a.eval x).cells,t,Mu.aS0 _ _ _,heap_alloc_new w _,hr.1,⟨by
   cases hH:H w.heap.size with
   | none=>rfl
   | some cs=>obtain ⟨ty,fz,e⟩:=hS.wd.imm _ _ hH; simp at e,rfl⟩,hr.Cells⟩ (.bp _ _ _ (Mu.aS0 _ _ _))
 exact ⟨_,_,H,_,_,_,h,.inl hrun,by rw [hd]; exact h1,h2,.set hd fun j hj=>Mu.bz0 _ _ hj⟩
theorem boxS_ok {o:Oper} {t:TypeId} {x:Operand} {s:Nat} {v:V} {us:List V} {K:Env->Hp->Prop} (ho:o.op=.box t x) (hd:o.dst=some s) (hs:s < n) (hv:Env.ev env x=some v) (hu:v.cells=some (.c (.pointer none) :: us))
  (h:K ((Env.kill (.l s 0) env).put (some s) (.bp (.l s 0) 0)) ((.l s 0,.box (.self (.l s 0) t :: us.map (V.kill (.l s 0)))) :: Hp.kill (.l s 0) hp)):cG0 P n o env hp K:=by
 intro H μ a w hS
 have hr:=((ch0 hS hv).cells hu).ri0 (.l s 0) ⟨w.heap.size,us.length + 1,t⟩
 have hrun:(execOp a.eval o).run P w=.ok (.value (.pointer (some ⟨w.heap.size,0,none⟩))) (w.alloc (.cells (a.eval x).cells t)):=by
  simp [execOp,ho,Instr.box,newVar,newRow,World.alloc_eq]
 have hc:Cells H (μ.set (.l s 0) ⟨w.heap.size,us.length + 1,t⟩) (.self (.l s 0) t :: us.map (V.kill (.l s 0))) (a.eval x).cells 0:=by
  intro j u hj
  obtain ⟨y,h1,h2⟩:=hr.Cells j (if j=0 then .c (.pointer none) else u) (by cases j with | zero=>rfl | succ j=>simpa using hj)
  refine ⟨y,h1,?_⟩
  cases j with
  | zero =>
   simp only [List.getElem?_cons_zero,Option.some.injEq] at hj; subst hj
   rw [if_pos rfl] at h2
   cases h2
   exact .self _ _ _ _ (Mu.aS0 _ _ _) rfl (.inl rfl)
  | succ j=>simpa using h2
 obtain ⟨h1,h2⟩:=hS.new (d:=some s) (i:=.l s 0) (ob:=.box (.self (.l s 0) t :: us.map (V.kill (.l s 0)))) (bo:=.cells (a.eval x).cells t) (blk:=⟨w.heap.size,us.length + 1,t⟩) (v:=.bp (.l s 0) 0)
  (x:=.pointer (some ⟨w.heap.size,0,none⟩))
  (fun q e=>by injection e with e; omega) rfl
  ⟨_,(a.eval x).cells,t,Mu.aS0 _ _ _,heap_alloc_new w _,by rw [hr.1]; simp,⟨by
   cases hH:H w.heap.size with
   | none=>rfl
   | some cs=>obtain ⟨ty,fz,e⟩:=hS.wd.imm _ _ hH; simp at e,rfl⟩,hc⟩ (.bp _ _ _ (Mu.aS0 _ _ _))
 exact ⟨_,_,H,_,_,_,h,.inl hrun,by rw [hd]; exact h1,h2,.set hd fun j hj=>Mu.bz0 _ _ hj⟩
theorem kj0 {w:World} (hW:Wd H μ hp w):H w.heap.size=none:=by
 cases hH:H w.heap.size with
 | none=>rfl
 | some cs=>obtain ⟨ty,fz,e⟩:=hW.imm _ _ hH; simp at e
theorem R.nrm {v:V} {x:Value} (h:R H μ v x):R H μ v.nrm x:=by
 cases h with
 | nil=>exact .lst [] 0 none 0 0 (fun _ _=>undef) rfl (Nat.le_refl _) (by simp) (by simp) (by simp)
 | any=>exact .any _
 | c=>exact .c _
 | lst=>exact .lst _ _ _ _ _ _ ‹_› ‹_› ‹_› ‹_› ‹_›
 | rp=>exact .rp _ _ _ _ ‹_› ‹_›
 | bp=>exact .bp _ _ _ ‹_›
 | self=>exact .self _ _ _ _ ‹_› ‹_› ‹_›
 | ep=>exact .ep _ _ _ _ ‹_›
 | arr=>exact .arr _ _ _ _ _ ‹_› ‹_›
 | mp=>exact .mp _ _ ‹_›
 | arc=>exact .arc _ _ _ _ _ ‹_› ‹_›
 | agg=>exact .agg _ _ ‹_› ‹_›
 | fn=>exact .fn _ _ _ ‹_› ‹_›
 | tup=>exact .tup _ _ ‹_› ‹_›
 | ifc=>exact .ifc _ _ _ ‹_›
theorem RL.nrm {z:List V} {vals:Array Value} (h:RL H μ z vals):RL H μ (z.map V.nrm) vals:=⟨by rw [h.1]; simp,fun j u hj=>by
 rw [List.getElem?_map] at hj
 cases hz:z[j]? with
 | none=>rw [hz] at hj; cases hj
 | some v=>rw [hz] at hj; simp only [Option.map_some,Option.some.injEq] at hj; subst hj; exact (h.2 j v hz).nrm⟩
theorem RL.qP0 {z:List V} {vals:Array Value} (h:∀ H μ,RL H μ z vals) (H:Imm) (μ:Mu):RL H μ z vals:=h H μ
theorem One.fill {m sz:Nat} {c:Array Value} (h:∀ u ∈ c.toList,u.oneCell'=true) (hs:c.size=sz):One ((Array.range (m * sz)).map (c[· % c.size]!)):=by
 intro j x hj
 rw [Array.getElem?_map] at hj
 cases hr:(Array.range (m * sz))[j]? with
 | none=>rw [hr] at hj; cases hj
 | some q =>
  rw [hr] at hj
  simp only [Option.map_some,Option.some.injEq] at hj
  have hlt:j < m * sz:=by have:=(Array.getElem?_eq_some_iff.1 hr).1; simpa using this
  have hp:0 < c.size:=by
   rcases Nat.eq_zero_or_pos c.size with h0 | h0
   ·rw [h0] at hs; subst hs; simp at hlt
   ·exact h0
  have hmod:q % c.size < c.size:=Nat.mod_lt _ hp
  rw [getElem!_pos c _ hmod] at hj
  subst hj
  exact h _ (Array.getElem_mem_toList hmod)
theorem mks_ok {o:Oper} {t e:TypeId} {inf:TypeInfo} {z:List V} {s:Nat} {l c:Operand} {kl kc:IntKind} {li ci:Int} {K:Env->Hp->Prop} (ho:o.op=.makeSlice t l c) (hd:o.dst=some s) (hs:s < n)
  (ht:P.underlying t=some (.slice e)) (hi:P.info? e=some inf) {z0:List V} (hz:zeroCells P e=some z0) (hzn:z=z0.map V.nrm) (hzl:z.length=inf.size) (hzs:scalars z=true) (hpos:0 < inf.size)
  (hl:Env.ev env l=some (.c (.int kl li))) (hc:Env.ev env c=some (.c (.int kc ci))) (h0:0<=li) (h1:li<=ci) (h2:ci * inf.bytes<=281474976710656) (h3:ci<=281474976710656)
  (h:K ((Env.kill (.l s 0) env).put (some s) (.arr (.l s 0) 0 li.toNat)) ((.l s 0,.row e inf.size true (List.replicate li.toNat z)) :: Hp.kill (.l s 0) hp)):cG0 P n o env hp K:=by
 intro H μ a w hS
 obtain ⟨inf',v,hi',hiz,hzr0⟩:=fO0 hz H Mu.bot
 have hzr:RL H Mu.bot z v.cells:=by rw [hzn]; exact hzr0.nrm
 rw [hi] at hi'; injection hi' with hi'; subst hi'
 have el:=(ch0 hS hl).bS0
 have ec:=(ch0 hS hc).bS0
 have hsz:v.cells.size=inf.size:=by rw [hzr.1,hzl]
 let vals:Array Value:=(Array.range (ci.toNat * inf.size)).map (v.cells[· % v.cells.size]!)
 have hw1:IntKind.i64.wrap li=li:=by simp only [IntKind.wrap,IntKind.bits,IntKind.signed]; simp; omega
 have hw2:IntKind.i64.wrap ci=ci:=by simp only [IntKind.wrap,IntKind.bits,IntKind.signed]; simp; omega
 have hrun:(execOp a.eval o).run P w=.ok (.value (.slice (some ⟨w.heap.size,0,none⟩) li.toNat ci.toNat)) (w.alloc (.cells vals e)):=by
  have g1:¬ (ci < 0):=by omega
  have g2:¬ (li < 0):=by omega
  have g3:¬ (ci < li):=by omega
  have g4:¬ ((281474976710656:Int) < inf.bytes * ci):=by rw [Int.mul_comm]; omega
  by_cases hn:ci.toNat * inf.size=0
  ·have hv0:vals=#[]:=by simp [vals,hn]
   simp [execOp,ho,Instr.makeSlice,run_underlying ht,el,ec,asInt,asIntOf,typeInfo,hi,hw1,hw2,g1,g2,g3,g4,sizeOf,hn,newRow,World.alloc_eq,hv0,Array.range_zero']
  ·simp [execOp,ho,Instr.makeSlice,run_underlying ht,el,ec,asInt,asIntOf,typeInfo,hi,hw1,hw2,g1,g2,g3,g4,sizeOf,hn,bL0 hi hiz,newRow,World.alloc_eq,vals]
 have a1:∀ (k:Nat) (el:List V),(List.replicate li.toNat z)[k]?=some el->el.length=inf.size/\scalars el=true:=fun k el hel=>by
  rw [List.getElem?_replicate] at hel
  split at hel
  ·simp only [Option.some.injEq] at hel; subst hel; exact ⟨hzl,hzs⟩
  ·cases hel
 have a2:∀ (k:Nat) (el:List V),(List.replicate li.toNat z)[k]?=some el->Cells H Mu.bot el vals (k * inf.size):=fun k el hel=>by
  rw [List.getElem?_replicate] at hel
  split at hel
  ·rename_i hk
   simp only [Option.some.injEq] at hel; subst hel
   intro j u hj
   have hjl:j < inf.size:=by rw [<- hzl]; exact (List.getElem?_eq_some_iff.1 hj).1
   have hlt:k * inf.size + j < ci.toNat * inf.size:=by
    have:(k + 1) * inf.size<=ci.toNat * inf.size:=Nat.mul_le_mul_right _ (by omega)
    rw [Nat.add_mul] at this; omega
   refine ⟨v.cells.getD j undef,?_,hzr.2 j u hj⟩
   have hmod:(k * inf.size + j) % v.cells.size=j:=by rw [hsz,Nat.add_comm,Nat.add_mul_mod_self_right,Nat.mod_eq_of_lt hjl]
   have hj2:j < v.cells.size:=by omega
   simp only [vals,Array.getElem?_map,Array.getElem?_range,hlt,if_true,Option.map_some,hmod]
   simp [Array.getD,hj2]
  ·cases hel
 obtain ⟨k1,k2⟩:=hS.new (d:=some s) (i:=.l s 0) (ob:=.row e inf.size true (List.replicate li.toNat z)) (bo:=.cells vals e) (blk:=⟨w.heap.size,inf.size,ci.toNat⟩) (v:=.arr (.l s 0) 0 li.toNat)
  (x:=.slice (some ⟨w.heap.size,0,none⟩) li.toNat ci.toNat)
  (fun q e=>by injection e with e; omega) rfl
  (.inr ⟨_,vals,Mu.aS0 _ _ _,⟨rfl,by simp only [maxLen]; omega,fun _=>One.fill (hzr.scalar hzs) hsz⟩,heap_alloc_new w _,by simp [vals],by simp; omega,a1,fun _=>kj0 hS.wd,(fun e=>by cases e),a2⟩)
  (.arr _ _ _ _ _ (by omega) (.inr ⟨_,Mu.aS0 _ _ _,by simp,by simp⟩))
 exact ⟨_,_,H,_,_,_,h,.inl hrun,by rw [hd]; exact k1,k2,.set hd fun j hj=>Mu.bz0 _ _ hj⟩
end Go.Am
end

section
namespace Go.Am
variable {P:Program} {n:Sz} {H:Imm} {μ:Mu} {env:Env} {hp:Hp} {a:Act} {w:World}
theorem ObOk.kl0 {i:Id} {o:Ob} (h:ObOk H μ w i o) (ho:o.own=true) {blk:Blk} (hb:μ i=some blk):H blk.b=none:=by
 cases o with
 | gone=>cases ho
 | box cs =>
  obtain ⟨blk',vals,ty,h1,h2,h3,h4,_⟩:=h
  rw [hb] at h1; injection h1 with h1; subst h1; exact h4.1
 | row ty sz own xs =>
  rcases h with ⟨h1,h2⟩ | ⟨blk',vals,h1,h2,h3,h4,h5,h6,h7,_⟩
  ·rw [h2] at hb; cases hb
  ·rw [hb] at h1; injection h1 with h1; subst h1; exact h7 ho
 | mpo kd kvs =>
  obtain ⟨blk',es,clk,h1,h2,h3,_⟩:=h
  rw [hb] at h1; injection h1 with h1; subst h1; exact h3
theorem ObOk.kM0 {i:Id} {o:Ob} (h:ObOk H μ w i o) (ho:o.own=false) (hg:o ≠ .gone) {blk:Blk} (hb:μ i=some blk):H blk.b ≠ none:=by
 cases o with
 | gone=>exact absurd rfl hg
 | box cs=>cases ho
 | mpo kd kvs=>cases ho
 | row ty sz own xs =>
  rcases h with ⟨h1,h2⟩ | ⟨blk',vals,h1,h2,h3,h4,h5,h6,h7,h8,_⟩
  ·rw [h2] at hb; cases hb
  ·rw [hb] at h1; injection h1 with h1; subst h1; rw [h8 ho]; simp
theorem Wd.write {i:Id} {o o':Ob} {blk:Blk} {cur cur':Array Value} {ty:TypeId} (hW:Wd H μ hp w) (hl:hp.lookup i=some o) (ho:o.own=true) (hb:μ i=some blk)
  (hc:w.heap[blk.b]?=some (.cells cur ty (0,0))) (ho':o'.own=true) (hO:ObOk H μ (w.setRow blk.b cur') i o') :
  Wd H μ (Hp.set i o' hp) (w.setRow blk.b cur')/\Nx H μ hp w H μ (Hp.set i o' hp) (w.setRow blk.b cur'):=by
 have hHb:=(hW.ob i o hl).kl0 ho hb
 have hcase:∀ j q,(Hp.set i o' hp).lookup j=some q->(j=i/\q=o')\/(j ≠ i/\hp.lookup j=some q):=by
  intro j q h
  rw [bx0] at h
  cases hj:hp.lookup j with
  | none=>rw [hj] at h; cases h
  | some q' =>
   rw [hj] at h
   simp only [Option.map_some,Option.some.injEq] at h
   split at h
   ·exact .inl ⟨by assumption,h.symm⟩
   ·subst h; exact .inr ⟨by assumption,rfl⟩
 have hoth:∀ b,b ≠ blk.b->(w.setRow blk.b cur').heap[b]?=w.heap[b]?:=fun b h=>setRow_other w blk.b b cur' h
 refine ⟨⟨fun j q h=>?_,fun j k oj ok bj bk hj hoj hk hok hbj hbk heq=>?_,fun b cs h=>?_,hW.glo⟩,⟨⟨Imm.le_refl H,rfl,rfl,rfl,by simp,fun b hb' hno=>hoth b fun e=>hno ⟨i,o,blk,hl,ho,hb,e.symm⟩,fun b hO' hb'=>?_,fr0⟩,fun _=>rfl⟩⟩
 ·rcases hcase j q h with ⟨rfl,rfl⟩ | ⟨hne,h'⟩
  ·exact hO
  ·have hq:=hW.ob j q h'
   by_cases hg:q=.gone
   ·subst hg; trivial
   ·refine hq.mono (Imm.le_refl H) rfl (fun _ _=>rfl) (fun bq hbq=>hoth _ fun e=>?_) (fun _ _ _=>rfl)
    cases hqo:q.own with
    | true=>exact hne (hW.inj j i q o bq blk h' hqo hl ho hbq hb e)
    | false=>exact hq.kM0 hqo hg hbq (by rw [e]; exact hHb)
 ·rcases hcase j oj hj with ⟨rfl,rfl⟩ | ⟨h1,h2⟩ <;> rcases hcase k ok hk with ⟨rfl,rfl⟩ | ⟨h3,h4⟩
  ·rfl
  ·exact hW.inj _ k o ok bj bk hl ho h4 hok hbj hbk heq
  ·exact hW.inj j _ oj o bj bk h2 hoj hl ho hbj hbk heq
  ·exact hW.inj j k oj ok bj bk h2 hoj h4 hok hbj hbk heq
 ·obtain ⟨ty',fz,h1⟩:=hW.imm b cs h
  exact ⟨ty',fz,by rw [hoth b fun e=>by subst e; rw [hHb] at h; cases h]; exact h1⟩
 ·obtain ⟨j,q,bq,h1,h2,h3,h4⟩:=hO'
  rcases hcase j q h1 with ⟨rfl,rfl⟩ | ⟨h5,h6⟩
  ·exact ⟨j,o,bq,hl,ho,h3,h4⟩
  ·exact ⟨j,q,bq,h6,h2,h3,h4⟩
theorem Sat.skip {d:Option Nat} (hS:Sat n H μ env hp a w) (hd:d=none):Sat n H μ env hp (a.put d undef) w:=by
 subst hd; exact hS
def gx0 (cur:Array Value) (off:Nat) (vs:List Value):Array Value:=(cur.toList.take off++vs++cur.toList.drop (off + vs.length)).toArray
theorem jd0 (cur:Array Value) (off:Nat) (vs:List Value) (h:off + vs.length<=cur.size):(gx0 cur off vs).size=cur.size:=by
 simp [gx0]; omega
theorem h60 (cur:Array Value) (off:Nat) (vs:List Value) (h:off + vs.length<=cur.size) (k:Nat) :
  (gx0 cur off vs)[k]?=if off<=k/\k < off + vs.length then vs[k - off]? else cur[k]?:=by
 simp only [gx0,List.getElem?_toArray]
 by_cases h1:k < off
 ·rw [List.append_assoc,List.getElem?_append_left (by simp; omega),List.getElem?_take,if_pos h1,if_neg (by omega)]
  exact Array.getElem?_toList ..
 ·by_cases h2:k < off + vs.length
  ·rw [List.append_assoc,List.getElem?_append_right (by simp; omega),List.getElem?_append_left (by simp; omega),if_pos (by omega)]
   congr 1; simp; omega
  ·rw [List.append_assoc,List.getElem?_append_right (by simp; omega),List.getElem?_append_right (by simp; omega),List.getElem?_drop,if_neg (by omega),Array.getElem?_toList]
   congr 1; simp; omega
theorem Cells.qa0 {cs us:List V} {cur:Array Value} {vals:Array Value} {base off:Nat} (h:Cells H μ cs cur base) (hr:RL H μ us vals) (hle:off + us.length<=cs.length) (hs:base + cs.length<=cur.size) :
  Cells H μ (setAt cs off us) (gx0 cur (base + off) vals.toList) base:=by
 intro j v hj
 have hl:vals.toList.length=us.length:=by simp [hr.1]
 rw [h60 _ _ _ (by rw [hl]; omega),hl]
 unfold setAt at hj
 by_cases h1:j < off
 ·rw [List.append_assoc,List.getElem?_append_left (by simp; omega),List.getElem?_take,if_pos h1] at hj
  rw [if_neg (by omega)]; exact h j v hj
 ·by_cases h2:j < off + us.length
  ·rw [List.append_assoc,List.getElem?_append_right (by simp; omega),List.getElem?_append_left (by simp; omega)] at hj
   rw [if_pos (by omega)]
   have e1:j - (cs.take off).length=j - off:=by simp; omega
   rw [e1] at hj
   have e2:base + j - (base + off)=j - off:=by omega
   rw [e2]
   have hlt:j - off < vals.toList.length:=by rw [hl]; omega
   refine ⟨vals.getD (j - off) undef,?_,hr.2 _ v hj⟩
   rw [Array.getD_eq_getD_getElem?,<- Array.getElem?_toList,List.getElem?_eq_getElem hlt]; rfl
  ·rw [List.append_assoc,List.getElem?_append_right (by simp; omega),List.getElem?_append_right (by simp; omega),List.getElem?_drop] at hj
   have e1:off + us.length + (j - (cs.take off).length - us.length)=j:=by simp; omega
   rw [e1] at hj
   rw [if_neg (by omega)]; exact h j v hj
theorem o10 {cs us:List V} {off:Nat} (h:scalars cs=true) (k:scalars us=true):scalars (setAt cs off us)=true:=by
 refine ly0 fun j v hj=>?_
 have:v ∈ setAt cs off us:=List.mem_of_getElem? hj
 simp only [setAt,List.mem_append] at this
 have back:∀ (l:List V),scalars l=true->v ∈ l->v.scalar=true:=fun l hl hm=>by
  obtain ⟨q,hq,rfl⟩:=List.getElem_of_mem hm
  exact eK0 (List.getElem?_eq_getElem hq) hl
 rcases this with (h1 | h1) | h1
 ·exact back cs h (List.mem_of_mem_take h1)
 ·exact back us k h1
 ·exact back cs h (List.mem_of_mem_drop h1)
def stV (hp:Hp) (us:List V):V->(Hp->Prop)->Prop
 | .bp i off,K=>∃ cs,hp.lookup i=some (.box cs)/\off + us.length<=cs.length/\K (Hp.set i (.box (setAt cs off us)) hp)
 | .ep i k off,K=>∃ ty sz xs,hp.lookup i=some (.row ty sz true xs)/\∃ e,xs[k]?=some e/\off + us.length<=e.length/\V.bt0 us=true/\K (Hp.set i (.row ty sz true (xs.set k (setAt e off us))) hp)
 | _,_=>False
theorem One.qa0 {cur:Array Value} {off:Nat} {l:List Value} (h:One cur) (hl:∀ u ∈ l,u.oneCell'=true) (hf:off + l.length<=cur.size):One (gx0 cur off l):=by
 intro j x hj
 rw [h60 _ _ _ hf] at hj
 split at hj
 ·exact hl x (List.mem_of_getElem? hj)
 ·exact h j x hj
theorem stV_ok {us:List V} {vals:Array Value} {v:V} {x:Value} {K:Hp->Prop} (hS:Sat n H μ env hp a w) (hx:R H μ v x) (hr:RL H μ us vals) (hsc:scalars us=true) (h:stV hp us v K) :
  ∃ ad w' hp',x=.pointer (some ad)/\(storeCells ad vals.toList).run P w=.ok () w'/\K hp'/\Sat n H μ env hp' a w'/\Nx H μ hp w H μ hp' w':=by
 have h1:∀ u ∈ vals.toList,u.oneCell'=true:=hr.scalar hsc
 have hl:vals.toList.length=us.length:=by simp [hr.1]
 have hrun:∀ (b off:Nat) (cur:Array Value) (ty:TypeId),w.heap[b]?=some (.cells cur ty (0,0))->off + vals.toList.length<=cur.size ->
   (storeCells ⟨b,off,none⟩ vals.toList).run P w=.ok () (w.setRow b (gx0 cur off vals.toList)):=by
  intro b off cur ty hb hle
  have:=run_storeCells_at P b off ty vals.toList 0 cur w hb (by simpa using hle) h1
  simpa [gx0] using this
 cases v <;> simp only [stV] at h
 case bp i off =>
  obtain ⟨cs,hlk,hle,hk⟩:=h
  cases hx with
  | bp _ _ blk hb =>
  obtain ⟨blk',cur,ty,k1,k2,k3,k4,k5⟩:=hS.wd.ob i _ hlk
  rw [hb] at k1; injection k1 with k1; subst k1
  have hfit:off + vals.toList.length<=cur.size:=by rw [hl,k3]; exact hle
  have hO:ObOk H μ (w.setRow blk.b (gx0 cur off vals.toList)) i (.box (setAt cs off us)):=by
   refine ⟨blk,_,ty,hb,setRow_heap w blk.b cur _ ty _ k2,?_,k4,?_⟩
   ·rw [jd0 _ _ _ hfit,k3]; simp [setAt]; omega
   ·have:=k5.qa0 (off:=off) hr hle (by omega)
    rwa [Nat.zero_add] at this
  obtain ⟨g1,g2⟩:=hS.wd.write hlk rfl hb k2 rfl hO
  exact ⟨_,_,_,rfl,hrun _ _ cur ty k2 hfit,hk,⟨hS.defers,hS.size,hS.env,g1⟩,g2⟩
 case ep i k off =>
  obtain ⟨ty,sz,xs,hlk,e,hek,hle,hp',hk⟩:=h
  cases hx with
  | ep _ _ _ blk hb =>
  rcases hS.wd.ob i _ hlk with ⟨rfl,_⟩ | ⟨blk',cur,k1,⟨k2,k2'⟩,k3,k4,k5,k6,k7,k8,k9⟩
  ·simp at hek
  rw [hb] at k1; injection k1 with k1; subst k1
  have hklt:k < xs.length:=(List.getElem?_eq_some_iff.1 hek).1
  have hel:=(k6 k e hek).1
  have hesc:=(k6 k e hek).2
  have hroom:(k + 1) * sz<=blk.cap * sz:=Nat.mul_le_mul_right _ (by omega)
  have hfit:k * sz + off + vals.toList.length<=cur.size:=by rw [hl,k4]; rw [Nat.add_mul] at hroom; omega
  have hrp:RL H Mu.bot us vals:=⟨hr.1,fun j u hj=>(hr.2 j u hj).pure (V.e80 hj hp') _⟩
  have hO:ObOk H μ (w.setRow blk.b (gx0 cur (k * sz + off) vals.toList)) i (.row ty sz true (xs.set k (setAt e off us))):=by
   refine .inr ⟨blk,_,hb,⟨k2,k2'.1,fun e=>(k2'.2 rfl).qa0 h1 hfit⟩,setRow_heap w blk.b cur _ ty _ k3,by rw [jd0 _ _ _ hfit,k4],by simpa using k5,fun q el hq=>?_,fun _=>k7 rfl,(fun e=>by cases e),fun q el hq=>?_⟩
   ·rw [List.getElem?_set] at hq
    split at hq
    ·simp only [Option.some.injEq] at hq; subst hq; refine ⟨by rw [<- hel]; simp [setAt]; omega,o10 hesc hsc⟩
    ·exact k6 q el hq
   ·rw [List.getElem?_set] at hq
    split at hq
    ·rename_i hkq
     subst hkq
     simp only [Option.some.injEq] at hq; subst hq
     exact (k9 k e hek).qa0 hrp hle (by rw [hel,k4]; rw [Nat.add_mul] at hroom; omega)
    ·rename_i hne
     intro j u hj
     obtain ⟨y,y1,y2⟩:=k9 q el hq j u hj
     refine ⟨y,?_,y2⟩
     have hj':j < sz:=by rw [<- (k6 q el hq).1]; exact (List.getElem?_eq_some_iff.1 hj).1
     rw [h60 _ _ _ hfit,if_neg,y1]
     rintro ⟨z1,z2⟩
     rcases Nat.lt_or_gt_of_ne hne with hlt | hgt
     ·have:(k + 1) * sz<=q * sz:=Nat.mul_le_mul_right _ hlt
      rw [Nat.add_mul] at this; omega
     ·have:(q + 1) * sz<=k * sz:=Nat.mul_le_mul_right _ hgt
      rw [Nat.add_mul] at this; omega
  obtain ⟨g1,g2⟩:=hS.wd.write hlk rfl hb k3 rfl hO
  refine ⟨_,_,_,rfl,?_,hk,⟨hS.defers,hS.size,hS.env,g1⟩,g2⟩
  rw [k2]
  exact hrun _ _ cur ty k3 hfit
end Go.Am
end

section
namespace Go.Am
variable {P:Program} {n:Sz} {H:Imm} {μ:Mu} {env:Env} {hp:Hp} {a:Act} {w:World}
theorem Wd.drew (h:Wd H μ hp w):Wd H μ hp w.drew:=by
 refine ⟨fun i o hl=>?_,h.inj,h.imm,h.glo⟩
 have:=h.ob i o hl
 cases o <;> exact this
theorem Nx.drew (H:Imm) (μ:Mu) (hp:Hp) (w:World):Nx H μ hp w H μ hp w.drew :=
 ⟨⟨Imm.le_refl H,rfl,rfl,rfl,Nat.le_refl _,fun _ _ _=>rfl,fun _ h _=>h,fr0⟩,fun _=>rfl⟩
theorem em0 {i j:Id} {o:Ob} (h:(Hp.set i .gone hp).lookup j=some o):o=.gone\/(j ≠ i/\hp.lookup j=some o):=by
 rw [bx0] at h
 cases hl:hp.lookup j with
 | none=>rw [hl] at h; cases h
 | some q =>
  rw [hl] at h
  simp only [Option.map_some,Option.some.injEq] at h
  split at h
  ·exact .inl h.symm
  ·subst h; exact .inr ⟨by assumption,rfl⟩
theorem Wd.del (i:Id) (h:Wd H μ hp w):Wd H μ (Hp.set i .gone hp) w/\Nx H μ hp w H μ (Hp.set i .gone hp) w:=by
 have back:∀ j o,(Hp.set i .gone hp).lookup j=some o->o.own=true->hp.lookup j=some o:=fun j o hl ho=>by
  rcases em0 hl with rfl | ⟨_,h2⟩
  ·cases ho
  ·exact h2
 refine ⟨⟨fun j o hl=>?_,fun j k oj ok bj bk hj hoj hk hok hbj hbk e=>h.inj j k oj ok bj bk (back j oj hj hoj) hoj (back k ok hk hok) hok hbj hbk e,h.imm,h.glo⟩,
  ⟨⟨Imm.le_refl H,rfl,rfl,rfl,Nat.le_refl _,fun _ _ _=>rfl,fun b hO _=>?_,fr0⟩,fun _=>rfl⟩⟩
 ·rcases em0 hl with rfl | ⟨_,h2⟩
  ·trivial
  ·exact h.ob j o h2
 ·obtain ⟨j,o,blk,h1,h2,h3,h4⟩:=hO
  exact ⟨j,o,blk,back j o h1 h2,h2,h3,h4⟩
theorem set_set (i:Id) (o q:Ob) (hp:Hp):Hp.set i o (Hp.set i q hp)=Hp.set i o hp:=by
 unfold Hp.set
 rw [List.map_map]
 apply List.map_congr_left
 intro p _
 simp only [Function.comp]
 split <;> rfl
theorem Wd.move {i i':Id} {o ob:Ob} {blk:Blk} (hW:Wd H μ hp w) (hl:hp.lookup i=some o) (ho:o.own=true) (hb:μ i=some blk) (hO:ObOk H (μ.set i' blk) w i' ob) (hi:i'.isL=true:=by rfl) :
  Wd H (μ.set i' blk) ((i',ob) :: Hp.kill i' (Hp.set i .gone hp)) w/\Nx H μ hp w H (μ.set i' blk) ((i',ob) :: Hp.kill i' (Hp.set i .gone hp)) w:=by
 have hcase:∀ j q,((i',ob) :: Hp.kill i' (Hp.set i .gone hp)).lookup j=some q->(j=i'/\q=ob)\/q=.gone\/(j ≠ i'/\q.has i'=false/\j ≠ i/\hp.lookup j=some q):=by
  intro j q h
  rw [List.lookup_cons] at h
  cases hji:(j == i') with
  | true=>rw [hji] at h; simp at h; exact .inl ⟨eq_of_beq hji,h.symm⟩
  | false =>
   rw [hji] at h
   rcases eI0 h with rfl | ⟨h1,h2,h3⟩
   ·exact .inr (.inl rfl)
   ·rcases em0 h3 with rfl | ⟨h4,h5⟩
    ·exact .inr (.inl rfl)
    ·exact .inr (.inr ⟨h1,h2,h4,h5⟩)
 have hext:∀ k,μ.set i' blk (.e k)=μ (.e k):=Mu.set_e μ blk hi
 refine ⟨⟨fun j q h=>?_,fun j k oj ok bj bk hj hoj hk hok hbj hbk heq=>?_,hW.imm,hW.glo⟩,⟨⟨Imm.le_refl H,rfl,rfl,rfl,Nat.le_refl _,fun _ _ _=>rfl,fun b hO' _=>?_,fr0⟩,hext⟩⟩
 ·rcases hcase j q h with ⟨rfl,rfl⟩ | rfl | ⟨h1,h2,h3,h4⟩
  ·exact hO
  ·trivial
  ·exact (hW.ob j q h4).mono (Imm.le_refl H) (Mu.bz0 _ _ h1) (fun q' hq=>Mu.bz0 _ _ fun e=>by subst e; rw [h2] at hq; cases hq) (fun _ _=>rfl) (fun _ _ _=>rfl)
 ·rcases hcase j oj hj with ⟨rfl,rfl⟩ | rfl | ⟨h1,h2,h3,h4⟩
  ·rcases hcase k ok hk with ⟨rfl,rfl⟩ | rfl | ⟨k1,k2,k3,k4⟩
   ·rfl
   ·cases hok
   ·rw [Mu.aS0] at hbj; injection hbj with hbj; subst hbj
    rw [Mu.bz0 _ _ k1] at hbk
    exact absurd (hW.inj i k o ok blk bk hl ho k4 hok hb hbk heq).symm k3
  ·cases hoj
  ·rcases hcase k ok hk with ⟨rfl,rfl⟩ | rfl | ⟨k1,k2,k3,k4⟩
   ·rw [Mu.aS0] at hbk; injection hbk with hbk; subst hbk
    rw [Mu.bz0 _ _ h1] at hbj
    exact absurd (hW.inj j i oj o bj blk h4 hoj hl ho hbj hb heq) h3
   ·cases hok
   ·rw [Mu.bz0 _ _ h1] at hbj
    rw [Mu.bz0 _ _ k1] at hbk
    exact hW.inj j k oj ok bj bk h4 hoj k4 hok hbj hbk heq
 ·obtain ⟨j,q,bq,h1,h2,h3,h4⟩:=hO'
  rcases hcase j q h1 with ⟨rfl,rfl⟩ | rfl | ⟨k1,k2,k3,k4⟩
  ·rw [Mu.aS0] at h3; injection h3 with h3; subst h3; exact ⟨i,o,blk,hl,ho,hb,h4⟩
  ·cases h2
  ·rw [Mu.bz0 _ _ k1] at h3; exact ⟨j,q,bq,k4,h2,h3,h4⟩
def Mu.ma0 (μ:Mu) (i:Id):Mu:=fun j=>if j=i then none else μ j
theorem Wd.noRow {i':Id} {ty sz:Nat} (hW:Wd H μ hp w) (hi:i'.isL=true:=by rfl) :
  Wd H (μ.ma0 i') ((i',.row ty sz true []) :: Hp.kill i' hp) w/\Nx H μ hp w H (μ.ma0 i') ((i',.row ty sz true []) :: Hp.kill i' hp) w:=by
 have hu:∀ j,j ≠ i'->μ.ma0 i' j=μ j:=fun j h=>by simp [Mu.ma0,h]
 have hs:μ.ma0 i' i'=none:=by simp [Mu.ma0]
 have hext:∀ k,μ.ma0 i' (.e k)=μ (.e k):=fun k=>hu _ fun e=>by subst e; cases hi
 have hcase:∀ j q,((i',Ob.row ty sz true []) :: Hp.kill i' hp).lookup j=some q->(j=i'/\q=.row ty sz true [])\/q=.gone\/(j ≠ i'/\q.has i'=false/\hp.lookup j=some q):=by
  intro j q h
  rw [List.lookup_cons] at h
  cases hji:(j == i') with
  | true=>rw [hji] at h; simp at h; exact .inl ⟨eq_of_beq hji,h.symm⟩
  | false=>rw [hji] at h; exact .inr (eI0 h)
 refine ⟨⟨fun j q h=>?_,fun j k oj ok bj bk hj hoj hk hok hbj hbk heq=>?_,hW.imm,hW.glo⟩,⟨⟨Imm.le_refl H,rfl,rfl,rfl,Nat.le_refl _,fun _ _ _=>rfl,fun b hO' _=>?_,fr0⟩,hext⟩⟩
 ·rcases hcase j q h with ⟨rfl,rfl⟩ | rfl | ⟨h1,h2,h3⟩
  ·exact .inl ⟨rfl,hs⟩
  ·trivial
  ·exact (hW.ob j q h3).mono (Imm.le_refl H) (hu j h1) (fun q' hq=>hu _ fun e=>by subst e; rw [h2] at hq; cases hq) (fun _ _=>rfl) (fun _ _ _=>rfl)
 ·rcases hcase j oj hj with ⟨rfl,rfl⟩ | rfl | ⟨h1,h2,h3⟩
  ·rw [hs] at hbj; cases hbj
  ·cases hoj
  ·rcases hcase k ok hk with ⟨rfl,rfl⟩ | rfl | ⟨k1,k2,k3⟩
   ·rw [hs] at hbk; cases hbk
   ·cases hok
   ·rw [hu _ h1] at hbj
    rw [hu _ k1] at hbk
    exact hW.inj j k oj ok bj bk h3 hoj k3 hok hbj hbk heq
 ·obtain ⟨j,q,bq,h1,h2,h3,h4⟩:=hO'
  rcases hcase j q h1 with ⟨rfl,rfl⟩ | rfl | ⟨k1,k2,k3⟩
  ·rw [hs] at h3; cases h3
  ·cases h2
  ·rw [hu _ k1] at h3; exact ⟨j,q,bq,k3,h2,h3,h4⟩
theorem envKill' {i:Id} {μ':Mu} (hμ:∀ j,j ≠ i->μ' j=μ j) (h:∀ s v,env.lookup s=some v->R H μ v (a.tmps.getD s undef)) :
  ∀ s v,(Env.kill i env).lookup s=some v->R H μ' v (a.tmps.getD s undef):=by
 intro s v hv
 rw [lS0] at hv
 cases hl:env.lookup s with
 | none=>rw [hl] at hv; cases hv
 | some u =>
  rw [hl] at hv
  simp only [Option.map_some,Option.some.injEq] at hv
  subst hv
  unfold V.kill
  split
  ·exact .any _
  ·rename_i hn
   exact (h s u hl).mono (Imm.le_refl H) fun q hq=>hμ _ fun e=>by subst e; exact hn hq
def srcV (hp:Hp) (sz:Nat):V->(List (List V)->Prop)->Prop
 | .nil,K=>K []
 | .lst ys,K=>(ys=[]\/∃ e,ys[0]?=some e/\e.length=sz)/\K ys
 | .arr j o m,K=>∃ ty own xs,hp.lookup j=some (.row ty sz own xs)/\o + m<=xs.length/\K ((xs.drop o).take m)
 | _,_=>False
theorem qc0 {sz:Nat} {v:V} {x:Value} {K:List (List V)->Prop} (hpos:0 < sz) (hW:Wd H μ hp w) (hx:R H μ v x) (h:srcV hp sz v K) :
  ∃ (es:List (List V)) (sa:Option Addr) (c:Nat) (news:List Value),K es/\x=.slice sa es.length c/\news.length=es.length * sz/\(es.length=0\/∃ b off,sa=some ⟨b,off,none⟩/\∀ (j:Nat) (u:Value),news[j]?=some u->w.cell? ⟨b,off + j,none⟩=some u) /\
   (∀ u ∈ news,u.oneCell'=true)/\(∀ (k:Nat) (e:List V),es[k]?=some e->e.length=sz/\scalars e=true) /\
   ∀ (k:Nat) (e:List V) (j:Nat) (u:V),es[k]?=some e->e[j]?=some u->∃ y,news[k * sz + j]?=some y/\R H Mu.bot u y:=by
 have mk:∀ (es:List (List V)) (g:Nat->Value) (b off:Nat),(∀ (k:Nat) (e:List V),es[k]?=some e->e.length=sz/\scalars e=true) ->
   (∀ (k:Nat) (e:List V) (j:Nat) (u:V),es[k]?=some e->e[j]?=some u->w.cell? ⟨b,off + (k * sz + j),none⟩=some (g (k * sz + j))/\R H Mu.bot u (g (k * sz + j))) ->
   ∃ news:List Value,news.length=es.length * sz/\(∀ (j:Nat) (u:Value),news[j]?=some u->w.cell? ⟨b,off + j,none⟩=some u)/\(∀ u ∈ news,u.oneCell'=true) /\
   ∀ (k:Nat) (e:List V) (j:Nat) (u:V),es[k]?=some e->e[j]?=some u->∃ y,news[k * sz + j]?=some y/\R H Mu.bot u y:=by
  intro es g b off hs hg
  have dec:∀ q,q < es.length * sz->∃ e u,es[q / sz]?=some e/\e[q % sz]?=some u/\q / sz * sz + q % sz=q:=by
   intro q hq
   have h1:q / sz < es.length:=Nat.div_lt_of_lt_mul (by rw [Nat.mul_comm]; exact hq)
   have h2:=(hs _ _ (List.getElem?_eq_getElem h1)).1
   have h3:q % sz < (es[q / sz]).length:=by rw [h2]; exact Nat.mod_lt _ hpos
   exact ⟨_,_,List.getElem?_eq_getElem h1,List.getElem?_eq_getElem h3,by rw [Nat.mul_comm]; exact Nat.div_add_mod q sz⟩
  refine ⟨(List.range (es.length * sz)).map g,by simp,fun j u hj=>?_,fun u hu=>?_,fun k e j u he hj=>?_⟩
  ·rw [List.getElem?_map] at hj
   by_cases hlt:j < es.length * sz
   ·rw [List.getElem?_range hlt] at hj
    simp only [Option.map_some,Option.some.injEq] at hj; subst hj
    obtain ⟨e,u,h1,h2,h3⟩:=dec j hlt
    have:=(hg _ e _ u h1 h2).1
    rwa [h3] at this
   ·rw [List.getElem?_eq_none (by simp; omega)] at hj; cases hj
  ·obtain ⟨q,hq,rfl⟩:=List.mem_map.1 hu
   obtain ⟨e,u,h1,h2,h3⟩:=dec q (by simpa using hq)
   have:=(hg _ e _ u h1 h2).2
   rw [h3] at this
   have hsc:=eK0 h2 (hs _ e h1).2
   exact this.scalar hsc
  ·have hk:k < es.length:=(List.getElem?_eq_some_iff.1 he).1
   have hj':j < sz:=by rw [<- (hs k e he).1]; exact (List.getElem?_eq_some_iff.1 hj).1
   have hlt:k * sz + j < es.length * sz:=by
    have:(k + 1) * sz<=es.length * sz:=Nat.mul_le_mul_right _ hk
    rw [Nat.add_mul] at this; omega
   exact ⟨g (k * sz + j),by rw [List.getElem?_map,List.getElem?_range hlt]; rfl,(hg k e j u he hj).2⟩
 cases v <;> simp only [srcV] at h
 case nil =>
  cases hx
  exact ⟨[],none,0,[],h,rfl,by simp,.inl rfl,by simp,by simp,by simp⟩
 case lst ys =>
  obtain ⟨h0,hk⟩:=h
  cases hx with
  | lst _ sz' sa m c cv hn hc hs hm hr =>
  subst hn
  cases hys:ys with
  | nil=>subst hys; exact ⟨[],sa,c,[],hk,rfl,by simp,.inl rfl,by simp,by simp,by simp⟩
  | cons e0 rest =>
   have hsz:sz'=sz:=by
    rcases h0 with rfl | ⟨e,h1,h2⟩
    ·cases hys
    ·rw [<- h2]; exact (hs 0 e h1).1.symm
   subst hsz
   have he0:ys[0]?=some e0:=by rw [hys]; rfl
   have hlen:=(hs 0 e0 he0).1
   have hv0:e0[0]?=some (e0[0]'(by omega)):=List.getElem?_eq_getElem (by omega)
   obtain ⟨b,off,cs,h4,h5,h6⟩:=hm 0 e0 0 _ he0 hv0
   subst h4
   have hcell:∀ (k:Nat) (e:List V) (j:Nat) (u:V),ys[k]?=some e->e[j]?=some u->w.cell? ⟨b,off + (k * sz' + j),none⟩=some (cv k j):=by
    intro k e j u he hj
    obtain ⟨b',off',cs',h7,h8,h9⟩:=hm k e j u he hj
    simp only [Option.some.injEq,Addr.mk.injEq,and_true] at h7
    obtain ⟨rfl,rfl⟩:=h7
    rw [q50 hW h8,<- Nat.add_assoc]; exact h9
   obtain ⟨news,q1,q2,q3,q4⟩:=mk ys (fun q=>cv (q / sz') (q % sz')) b off hs (fun k e j u he hj=>by
    have hj':j < sz':=by rw [<- (hs k e he).1]; exact (List.getElem?_eq_some_iff.1 hj).1
    have e1:(k * sz' + j) / sz'=k:=by rw [Nat.mul_comm,Nat.mul_add_div hpos,Nat.div_eq_of_lt hj',Nat.add_zero]
    have e2:(k * sz' + j) % sz'=j:=by rw [Nat.mul_comm,Nat.mul_add_mod,Nat.mod_eq_of_lt hj']
    rw [e1,e2]
    exact ⟨hcell k e j u he hj,hr k e j u he hj⟩)
   rw [<- hys]
   exact ⟨ys,_,c,news,hk,rfl,q1,.inr ⟨b,off,rfl,q2⟩,q3,hs,q4⟩
 case arr j o m =>
  obtain ⟨ty,own,xs,hl,hle,hk⟩:=h
  cases hx with
  | arr _ _ _ sa c hc hb =>
  have hlen:((xs.drop o).take m).length=m:=by simp; omega
  have get:∀ (k:Nat) (e:List V),((xs.drop o).take m)[k]?=some e->k < m/\xs[o + k]?=some e:=by
   intro k e he
   rw [List.getElem?_take] at he
   split at he
   ·rw [List.getElem?_drop] at he; exact ⟨by assumption,he⟩
   ·cases he
  by_cases hm0:m=0
  ·subst hm0
   refine ⟨(xs.drop o).take 0,sa,c,[],hk,by simp,by simp,.inl (by simp),by simp,fun k e he=>absurd (get k e he).1 (by omega),fun k e q u he _=>absurd (get k e he).1 (by omega)⟩
  ·rcases hW.ob j _ hl with ⟨rfl,_⟩ | ⟨blk,vals,k1,⟨k2,k2'⟩,k3,k4,k5,k6,k7,k8,k9⟩
   ·simp at hle; omega
   rcases hb with rfl | ⟨blk',h3,h4,h5⟩
   ·omega
   rw [k1] at h3; injection h3 with h3; subst h3
   have hs:∀ (k:Nat) (e:List V),((xs.drop o).take m)[k]?=some e->e.length=sz/\scalars e=true:=fun k e he=>k6 _ e (get k e he).2
   obtain ⟨news,q1,q2,q3,q4⟩:=mk ((xs.drop o).take m) (fun q=>vals.getD (o * sz + q) undef) blk.b (o * blk.sz) hs (fun k e q u he hq=>by
    obtain ⟨y,y1,y2⟩:=k9 _ e (get k e he).2 q u hq
    have e1:(o + k) * sz + q=o * sz + (k * sz + q):=by rw [Nat.add_mul]; omega
    rw [e1] at y1
    have e2:vals.getD (o * sz + (k * sz + q)) undef=y:=by rw [Array.getD_eq_getD_getElem?,y1]; rfl
    rw [e2,hs0 k3,k2]
    exact ⟨y1,y2⟩)
   exact ⟨_,sa,c,news,hk,by rw [hlen],q1,.inr ⟨blk.b,o * blk.sz,h4,q2⟩,q3,hs,q4⟩
end Go.Am
end

section
namespace Go.Am
variable {P:Program} {n:Sz} {H:Imm} {μ:Mu} {env:Env} {hp:Hp} {a:Act} {w:World}
def appV (env:Env) (hp:Hp) (ty sz bytes d:Nat) (v u:V) (K:Env->Hp->Prop):Prop :=
 match v with
 | .nil=>srcV hp sz u fun es=>es.length * bytes<=140737488355328 /\
   K ((Env.kill (.l d 0) env).put (some d) (.arr (.l d 0) 0 es.length)) ((.l d 0,.row ty sz true es) :: Hp.kill (.l d 0) hp)
 | .arr i o m=>o=0/\∃ xs,hp.lookup i=some (.row ty sz true xs)/\m<=xs.length/\srcV hp sz u fun es=>(m + es.length) * bytes<=140737488355328 /\
   K ((Env.kill (.l d 0) env).put (some d) (.arr (.l d 0) 0 (m + es.length))) ((.l d 0,.row ty sz true (xs.take m++es)) :: Hp.kill (.l d 0) (Hp.set i .gone hp))
 | _=>False
theorem Sat.mk' {hp':Hp} {μ':Mu} {i:Id} {d:Nat} {v:V} {x:Value} {w':World} (hS:Sat n H μ env hp a w) (hd:d < n) (hμ:∀ j,j ≠ i->μ' j=μ j) (hW:Wd H μ' hp' w') (hv:R H μ' v x) :
  Sat n H μ' ((Env.kill i env).put (some d) v) hp' (a.put (some d) x) w' :=
 ⟨by rw [put_defers]; exact hS.defers,by rw [gS0]; exact hS.size,iD0 (fun s e=>by rw [hS.size]; injection e with e; omega) (envKill' hμ hS.env) hv,hW⟩
theorem kV0 {xs:List (List V)} {vals:List Value} {sz:Nat} (hpos:0 < sz) (hl:vals.length=xs.length * sz) (hs:∀ (k:Nat) (e:List V),xs[k]?=some e->e.length=sz/\scalars e=true)
  (hc:∀ (k:Nat) (e:List V) (j:Nat) (u:V),xs[k]?=some e->e[j]?=some u->∃ y,vals[k * sz + j]?=some y/\R H Mu.bot u y):∀ u ∈ vals,u.oneCell'=true:=by
 intro u hu
 obtain ⟨q,hq,rfl⟩:=List.getElem_of_mem hu
 have hk:q / sz < xs.length:=(Nat.div_lt_iff_lt_mul hpos).2 (by omega)
 have he:=List.getElem?_eq_getElem hk
 obtain ⟨h1,h2⟩:=hs _ _ he
 have hj:q % sz < (xs[q / sz]).length:=by rw [h1]; exact Nat.mod_lt _ hpos
 have hv:=List.getElem?_eq_getElem hj
 obtain ⟨y,y1,y2⟩:=hc _ _ _ _ he hv
 have:q / sz * sz + q % sz=q:=by rw [Nat.mul_comm]; exact Nat.div_add_mod q sz
 rw [this,List.getElem?_eq_getElem hq] at y1
 injection y1 with y1
 rw [y1]; exact y2.scalar (eK0 hv h2)
theorem One.append {a b:Array Value} (h1:One a) (h2:One b):One (a++b):=by
 intro j x hj
 rw [Array.getElem?_append] at hj
 split at hj
 ·exact h1 _ _ hj
 ·exact h2 _ _ hj
theorem One.list {l:List Value} (h:∀ u ∈ l,u.oneCell'=true):One l.toArray:=fun j x hj=>h x (List.mem_of_getElem? (by simpa using hj))
theorem ObOk.row0 {i:Id} {ty sz:Nat} {xs:List (List V)} {vals:List Value} {rest:Array Value} {b cap:Nat} (hμ:μ i=some ⟨b,sz,cap⟩) (hcap:cap<=maxLen) (hle:xs.length<=cap)
  (hb:w.heap[b]?=some (.cells (vals.toArray++rest) ty (0,0))) (hsz:(vals.toArray++rest).size=cap * sz) (hH:H b=none) (hone:One (vals.toArray++rest))
  (hs:∀ (k:Nat) (e:List V),xs[k]?=some e->e.length=sz/\scalars e=true)
  (hc:∀ (k:Nat) (e:List V) (j:Nat) (u:V),xs[k]?=some e->e[j]?=some u->∃ y,vals[k * sz + j]?=some y/\R H Mu.bot u y):ObOk H μ w i (.row ty sz true xs):=by
 refine .inr ⟨_,_,hμ,⟨rfl,hcap,fun _=>hone⟩,hb,hsz,hle,hs,fun _=>hH,(fun e=>by cases e),fun k e he j u hj=>?_⟩
 obtain ⟨y,h1,h2⟩:=hc k e j u he hj
 refine ⟨y,?_,h2⟩
 have hlt:k * sz + j < vals.length:=(List.getElem?_eq_some_iff.1 h1).1
 rw [Array.getElem?_append_left (by simpa using hlt)]
 simpa using h1
structure SrcX (P:Program) (H:Imm) (w:World) (x:Value) (sz:Nat) (es:List (List V)) (news:List Value):Prop where
 hl:news.length=es.length * sz
 len:∀ w',(Builtin.lenOf x).run P w'=.ok es.length w'
 cells:∀ w',w'.heap=w.heap->(Builtin.firstCells sz es.length x).run P w'=.ok news.toArray w'
 one:∀ u ∈ news,u.oneCell'=true
 sh:∀ (k:Nat) (e:List V),es[k]?=some e->e.length=sz/\scalars e=true
 rel:∀ (k:Nat) (e:List V) (j:Nat) (u:V),es[k]?=some e->e[j]?=some u->∃ y,news[k * sz + j]?=some y/\R H Mu.bot u y
theorem cell_of_heap {w w':World} (h:w'.heap=w.heap) (a:Addr):w'.cell? a=w.cell? a:=by simp [World.cell?,h]
theorem SrcX.slice {sz:Nat} {es:List (List V)} {sa:Option Addr} {c:Nat} {news:List Value} (hl:news.length=es.length * sz)
  (hsrc:es.length=0\/∃ b off,sa=some ⟨b,off,none⟩/\∀ (j:Nat) (u:Value),news[j]?=some u->w.cell? ⟨b,off + j,none⟩=some u) (one:∀ u ∈ news,u.oneCell'=true)
  (sh:∀ (k:Nat) (e:List V),es[k]?=some e->e.length=sz/\scalars e=true)
  (rel:∀ (k:Nat) (e:List V) (j:Nat) (u:V),es[k]?=some e->e[j]?=some u->∃ y,news[k * sz + j]?=some y/\R H Mu.bot u y):SrcX P H w (.slice sa es.length c) sz es news:=by
 refine ⟨hl,fun w'=>by simp [Builtin.lenOf],fun w' hw=>?_,one,sh,rel⟩
 rcases hsrc with h0 | ⟨b,off,rfl,hcells⟩
 ·have hnn:news=[]:=List.eq_nil_of_length_eq_zero (by rw [hl,h0]; simp)
  subst hnn
  rw [h0]
  cases sa <;> simp [Builtin.firstCells,loadCells,loadCellsFrom]
 ·exact run_firstCells_some (P:=P) w' sz es.length ⟨b,off,none⟩ es.length c news hl fun j u hj=>by rw [cell_of_heap hw,dC0]; exact hcells j u hj
section
variable {x:Value} {es:List (List V)} {news:List Value}
theorem lU0 (t t2 ty e:TypeId) (i:TypeInfo) (z:Value) (ht:P.underlying t=some (.slice e)) (ht2:(∃ e2,P.underlying t2=some (.slice e2))\/P.underlying t2=some .string) (hi:P.info? e=some i) (hz:i.zero=some z)
  (sx:SrcX P H w x i.size es news) (h0:0 < es.length) (h63:(es.length:Int)<=9223372036854775807) (h48:es.length * i.bytes<=281474976710656) :
  (Builtin.append_ #[t,t2] ty #[.slice none 0 0,x]).run P w =
   .ok (.slice (some ⟨w.heap.size,0,none⟩) es.length (grownCap w es.length 0 e)) (w.drew.alloc (.cells (news.toArray++Builtin.zeroCells z.cells (grownCap w es.length 0 e - es.length)) e)):=by
 have hn:es ≠ []:=by intro h; subst h; simp at h0
 have h63':¬ (9223372036854775807 < (es.length:Int)):=by omega
 have h48':¬ (281474976710656 < Builtin.nextslicecap es.length 0 * i.bytes):=by rw [nextslicecap_zero h0]; omega
 have hf:=sx.cells w.drew rfl
 have hlen:=sx.len
 rcases ht2 with ⟨e2,ht2⟩ | ht2 <;> simp [Builtin.append_,run_underlying ht,run_underlying ht2,sizeOf,typeInfo,zeroValue,hi,hz,hlen,hn,h63',h48',Question.forced,run_firstCells_none,hf,newRow,grownCap]
theorem k30 (t t2 ty e:TypeId) (i:TypeInfo) (ht:P.underlying t=some (.slice e)) (ht2:(∃ e2,P.underlying t2=some (.slice e2))\/P.underlying t2=some .string) (hi:P.info? e=some i) (ad:Option Addr) (m cap:Nat) (hm:m<=cap)
  (sx:SrcX P H w x i.size [] news):(Builtin.append_ #[t,t2] ty #[.slice ad m cap,x]).run P w=.ok (.slice ad m cap) w:=by
 have hf:=sx.cells w rfl
 have hlen:=sx.len
 have hnn:news=[]:=List.eq_nil_of_length_eq_zero (by rw [sx.hl]; simp)
 subst hnn
 rcases ht2 with ⟨e2,ht2⟩ | ht2 <;> cases ad <;> simp at hf hlen <;> simp [Builtin.append_,run_underlying ht,run_underlying ht2,sizeOf,typeInfo,hi,hlen,hm,hf,storeCells]
theorem o00 (t t2 ty e:TypeId) (i:TypeInfo) (ht:P.underlying t=some (.slice e)) (ht2:(∃ e2,P.underlying t2=some (.slice e2))\/P.underlying t2=some .string) (hi:P.info? e=some i)
  (g sLen sCap:Nat) (cur:Array Value) (hg:w.heap[g]?=some (.cells cur e (0,0))) (sx:SrcX P H w x i.size es news)
  (hroom:sLen + es.length<=sCap) (hfit:sLen * i.size + news.length<=cur.size) :
  (Builtin.append_ #[t,t2] ty #[.slice (some ⟨g,0,none⟩) sLen sCap,x]).run P w =
   .ok (.slice (some ⟨g,0,none⟩) (sLen + es.length) sCap) (w.setRow g (cur.toList.take (sLen * i.size)++news++cur.toList.drop (sLen * i.size + news.length)).toArray):=by
 have hf:=sx.cells w rfl
 have hst:=run_storeCells_at P g (sLen * i.size) e news 0 cur w hg (by simpa using hfit) sx.one
 simp only [Nat.add_zero] at hst
 have hlen:=sx.len
 rcases ht2 with ⟨e2,ht2⟩ | ht2 <;> simp [Builtin.append_,run_underlying ht,run_underlying ht2,sizeOf,typeInfo,hi,hlen,hroom,hf,Addr.add_lit,hst]
theorem oZ0 (t t2 ty e:TypeId) (i:TypeInfo) (z:Value) (ht:P.underlying t=some (.slice e)) (ht2:(∃ e2,P.underlying t2=some (.slice e2))\/P.underlying t2=some .string) (hi:P.info? e=some i) (hz:i.zero=some z)
  (b:Addr) (sLen sCap:Nat) (olds:List Value) (hlo:olds.length=sLen * i.size) (holds:∀ j v,olds[j]?=some v->w.cell? (b.add j)=some v)
  (sx:SrcX P H w x i.size es news) (hg:sCap < sLen + es.length) (h63:((sLen + es.length:Nat):Int)<=9223372036854775807) (hfit:Builtin.nextslicecap (sLen + es.length) sCap * i.bytes<=281474976710656) :
  (Builtin.append_ #[t,t2] ty #[.slice (some b) sLen sCap,x]).run P w =
   .ok (.slice (some ⟨w.heap.size,0,none⟩) (sLen + es.length) (grownCap w (sLen + es.length) sCap e))
    (w.drew.alloc (.cells (olds.toArray++news.toArray++Builtin.zeroCells z.cells (grownCap w (sLen + es.length) sCap e - (sLen + es.length))) e)):=by
 have hn:¬ (sLen + es.length<=sCap):=by omega
 have h63':¬ (9223372036854775807 < ((sLen:Int) + (es.length:Int))):=by omega
 have h48':¬ (281474976710656 < Builtin.nextslicecap (sLen + es.length) sCap * i.bytes):=by omega
 have hf:=sx.cells w.drew rfl
 have hfo:=run_firstCells_some (P:=P) w.drew i.size sLen b sLen sCap olds hlo (by simpa using holds)
 have hlen:=sx.len
 rcases ht2 with ⟨e2,ht2⟩ | ht2 <;> simp [Builtin.append_,run_underlying ht,run_underlying ht2,sizeOf,typeInfo,zeroValue,hi,hz,hlen,hn,h63',h48',Question.forced,hf,hfo,newRow,grownCap]
 all_goals
  congr 2
  apply Array.ext'
  simp
end
def bs0 (env:Env) (hp:Hp) (ty sz bytes d:Nat) (v:V) (es:List (List V)) (K:Env->Hp->Prop):Prop :=
 match v with
 | .nil=>es.length * bytes<=140737488355328 /\
   K ((Env.kill (.l d 0) env).put (some d) (.arr (.l d 0) 0 es.length)) ((.l d 0,.row ty sz true es) :: Hp.kill (.l d 0) hp)
 | .arr i o m=>o=0/\∃ xs,hp.lookup i=some (.row ty sz true xs)/\m<=xs.length/\(m + es.length) * bytes<=140737488355328 /\
   K ((Env.kill (.l d 0) env).put (some d) (.arr (.l d 0) 0 (m + es.length))) ((.l d 0,.row ty sz true (xs.take m++es)) :: Hp.kill (.l d 0) (Hp.set i .gone hp))
 | _=>False
theorem qm0 {o:Oper} {s x:Operand} {t t2 e:TypeId} {inf:TypeInfo} {z:List V} {d:Nat} {v:V} {es:List (List V)} {news:List Value} {K:Env->Hp->Prop}
  (ho:o.op=.call { callee:=.builtin .append,args:=#[s,x],argTypes:=#[t,t2] }) (hd:o.dst=some d) (hdn:d < n)
  (ht:P.underlying t=some (.slice e)) (ht2:(∃ e2,P.underlying t2=some (.slice e2))\/P.underlying t2=some .string) (hi:P.info? e=some inf) (hz:zeroCells P e=some z) (hzl:z.length=inf.size) (hzsc:scalars z=true) (hpos:0 < inf.size) (hby:0 < inf.bytes)
  (hs:Env.ev env s=some v) (hS:Sat n H μ env hp a w) (sx:SrcX P H w (a.eval x) inf.size es news) (h:bs0 env hp e inf.size inf.bytes d v es K) :
  ∃ env' hp' H' μ' x w',K env' hp'/\((execOp a.eval o).run P w=.ok (.value x) w'\/(x=undef/\(execOp a.eval o).run P w=.ok .skip w')) /\
   Sat n H' μ' env' hp' (a.put o.dst x) w'/\Nx H μ hp w H' μ' hp' w'/\Same o.dst μ μ':=by
 have hl:=sx.hl
 have h1:=sx.one
 have hes:=sx.sh
 have hr:=sx.rel
 obtain ⟨inf',zv,hi',hiz,hzr⟩:=fO0 hz H Mu.bot
 rw [hi] at hi'; injection hi' with hi'; subst hi'
 have hzs:zv.cells.size=inf.size:=by rw [hzr.1,hzl]
 have rs:=ch0 hS hs
 have hexec:∀ (r:Value) (w':World),(Builtin.append_ #[t,t2] o.type #[a.eval s,a.eval x]).run P w=.ok r w'->(execOp a.eval o).run P w=.ok (.value r) w':=by
  intro r w' hr
  simp [execOp,ho,resolve,invoke,builtin,hr]
 have small:∀ k:Nat,k * inf.bytes<=140737488355328->k<=140737488355328:=fun k hk=>Nat.le_trans (Nat.le_mul_of_pos_right k hby) hk
 have newRow:∀ (xs:List (List V)) (vals:List Value) (cap:Nat),xs.length<=cap->cap<=maxLen->vals.length=xs.length * inf.size ->
   (∀ (k:Nat) (e:List V),xs[k]?=some e->e.length=inf.size/\scalars e=true) ->
   (∀ (k:Nat) (e:List V) (j:Nat) (u:V),xs[k]?=some e->e[j]?=some u->∃ y,vals[k * inf.size + j]?=some y/\R H Mu.bot u y) ->
   ∀ hp0:Hp,Wd H μ hp0 w ->
   Sat n H (μ.set (.l d 0) ⟨w.heap.size,inf.size,cap⟩) ((Env.kill (.l d 0) env).put (some d) (.arr (.l d 0) 0 xs.length)) ((.l d 0,.row e inf.size true xs) :: Hp.kill (.l d 0) hp0)
    (a.put (some d) (.slice (some ⟨w.heap.size,0,none⟩) xs.length cap)) (w.drew.alloc (.cells (vals.toArray++Builtin.zeroCells zv.cells (cap - xs.length)) e)) /\
   Nx H μ hp0 w H (μ.set (.l d 0) ⟨w.heap.size,inf.size,cap⟩) ((.l d 0,.row e inf.size true xs) :: Hp.kill (.l d 0) hp0) (w.drew.alloc (.cells (vals.toArray++Builtin.zeroCells zv.cells (cap - xs.length)) e)):=by
  intro xs vals cap h1 h2 h3 h4 h5 hp0 hW0
  have hsz:(vals.toArray++Builtin.zeroCells zv.cells (cap - xs.length)).size=cap * inf.size:=by
   simp only [Array.size_append,List.size_toArray,size_zeroCells,hzs,h3,<- Nat.add_mul]
   congr 1; omega
  obtain ⟨g1,g2⟩:=(hW0.drew).new (i:=.l d 0) (ob:=.row e inf.size true xs) (bo:=.cells (vals.toArray++Builtin.zeroCells zv.cells (cap - xs.length)) e) (blk:=⟨w.heap.size,inf.size,cap⟩) rfl
   (ObOk.row0 (Mu.aS0 _ _ _) h2 h1 (heap_alloc_new w.drew _) hsz (kj0 hW0) ((One.list (kV0 hpos h3 h4 h5)).append (One.fill (hzr.scalar hzsc) rfl)) h4 h5)
  exact ⟨hS.mk' hdn (fun j hj=>Mu.bz0 _ _ hj) g1 (.arr _ _ _ _ _ h1 (.inr ⟨_,Mu.aS0 _ _ _,by simp,by simp⟩)),(Nx.drew H μ hp0 w).trans g2⟩
 unfold bs0 at h
 split at h
 ·-- nil
  have ev:a.eval s=.slice none 0 0:=by generalize a.eval s=y at rs; cases rs; rfl
  obtain ⟨hb,hk⟩:=h
  by_cases h0:es.length=0
  ·have hesn:es=[]:=List.eq_nil_of_length_eq_zero h0
   subst hesn
   obtain ⟨g1,g2⟩:=hS.wd.noRow (i':=.l d 0) (ty:=e) (sz:=inf.size)
   refine ⟨_,_,H,_,.slice none 0 0,w,hk,.inl (hexec _ _ ?_),by rw [hd]; exact hS.mk' hdn (fun j hj=>by simp [Mu.ma0,hj]) g1 (.arr _ _ _ _ _ (by simp) (.inl rfl)),g2,.set hd fun j hj=>by simp [Mu.ma0,hj]⟩
   rw [ev]
   exact k30 t t2 o.type e inf ht ht2 hi none 0 0 (Nat.le_refl _) sx
  ·have hle:=small _ hb
   have hrun:=lU0 (P:=P) t t2 o.type e inf zv ht ht2 hi hiz sx (by omega) (by omega) (by omega)
   obtain ⟨g1,g2⟩:=newRow es news (grownCap w es.length 0 e) (grownCap_ge w es.length 0 e) (grownCap_le_maxLen w es.length 0 e (by simp only [maxLen]; omega)) hl hes hr hp hS.wd
   exact ⟨_,_,H,_,_,_,hk,.inl (hexec _ _ (by rw [ev]; exact hrun)),by rw [hd]; exact g1,g2,.set hd fun j hj=>Mu.bz0 _ _ hj⟩
 ·-- an owned row
  rename_i i o' m
  obtain ⟨rfl,xs,hlk,hm,hb,hk⟩:=h
  have hle:=small _ hb
  have hlenT:(xs.take m++es).length=m + es.length:=by simp; omega
  have olds:∃ (ad:Option Addr) (cap:Nat) (vals:List Value),a.eval s=.slice ad m cap/\m<=cap/\vals.length=m * inf.size /\
    (∀ (k:Nat) (e:List V),(xs.take m)[k]?=some e->e.length=inf.size/\scalars e=true) /\
    (∀ (k:Nat) (e:List V) (j:Nat) (u:V),(xs.take m)[k]?=some e->e[j]?=some u->∃ y,vals[k * inf.size + j]?=some y/\R H Mu.bot u y) /\
    ((cap=0/\m=0)\/∃ blk cur,μ i=some blk/\blk.sz=inf.size/\ad=some ⟨blk.b,0,none⟩/\cap=blk.cap/\(cap<=maxLen/\One cur)/\w.heap[blk.b]?=some (.cells cur e (0,0))/\cur.size=cap * inf.size /\
      vals=cur.toList.take (m * inf.size)/\H blk.b=none):=by
   generalize a.eval s=y at rs
   cases rs with
   | arr _ _ _ ad cap hc hbk =>
   have hs':∀ (k:Nat) (e:List V),(xs.take m)[k]?=some e->k < m/\xs[k]?=some e:=by
    intro k e he
    rw [List.getElem?_take] at he
    split at he
    ·exact ⟨by assumption,he⟩
    ·cases he
   rcases hbk with rfl | ⟨blk,q1,q2,q3⟩
   ·have:m=0:=by omega
    subst this
    exact ⟨ad,0,[],rfl,by omega,by simp,fun k e he=>absurd (hs' k e he).1 (by omega),fun k e j u he _=>absurd (hs' k e he).1 (by omega),.inl ⟨rfl,rfl⟩⟩
   ·rcases hS.wd.ob i _ hlk with ⟨rfl,k1⟩ | ⟨blk',cur,k1,⟨k2,k2'⟩,k3,k4,k5,k6,k7,k8,k9⟩
    ·rw [k1] at q1; cases q1
    rw [q1] at k1; injection k1 with k1; subst k1
    have hcap:cap=blk.cap:=by omega
    subst hcap
    have hfit:m * inf.size<=cur.size:=by rw [k4]; exact Nat.mul_le_mul_right _ hc
    refine ⟨ad,blk.cap,cur.toList.take (m * inf.size),rfl,hc,by simp; omega,fun k e he=>k6 k e (hs' k e he).2,fun k e j u he hj=>?_,
     .inr ⟨blk,cur,q1,k2,by rw [q2]; simp,rfl,⟨k2'.1,k2'.2 rfl⟩,k3,k4,rfl,k7 rfl⟩⟩
    obtain ⟨hkm,he'⟩:=hs' k e he
    obtain ⟨y,y1,y2⟩:=k9 k e he' j u hj
    refine ⟨y,?_,y2⟩
    have hj':j < inf.size:=by rw [<- (k6 k e he').1]; exact (List.getElem?_eq_some_iff.1 hj).1
    have hlt:k * inf.size + j < m * inf.size:=by
     have:(k + 1) * inf.size<=m * inf.size:=Nat.mul_le_mul_right _ hkm
     rw [Nat.add_mul] at this; omega
    rw [List.getElem?_take,if_pos hlt,Array.getElem?_toList]
    exact y1
  obtain ⟨ad,cap,vals,ev,hmc,hvl,hvs,hvr,hblk⟩:=olds
  have hTs:∀ (k:Nat) (e:List V),(xs.take m++es)[k]?=some e->e.length=inf.size/\scalars e=true:=by
   intro k e he
   rw [List.getElem?_append] at he
   split at he
   ·exact hvs k e he
   ·exact hes _ e he
  have htl:(xs.take m).length=m:=by simp; omega
  have hTr:∀ (k:Nat) (e:List V) (j:Nat) (u:V),(xs.take m++es)[k]?=some e->e[j]?=some u->∃ y,(vals++news)[k * inf.size + j]?=some y/\R H Mu.bot u y:=by
   intro k e j u he hj
   have hj':j < inf.size:=by rw [<- (hTs k e he).1]; exact (List.getElem?_eq_some_iff.1 hj).1
   rw [List.getElem?_append] at he
   split at he
   ·rename_i hlt
    obtain ⟨y,y1,y2⟩:=hvr k e j u he hj
    exact ⟨y,by rw [List.getElem?_append_left (List.getElem?_eq_some_iff.1 y1).1]; exact y1,y2⟩
   ·rename_i hge
    obtain ⟨y,y1,y2⟩:=hr _ e j u he hj
    refine ⟨y,?_,y2⟩
    rw [htl] at hge y1
    have hkm:m<=k:=by omega
    have e1:k * inf.size=m * inf.size + (k - m) * inf.size:=by rw [<- Nat.add_mul]; congr 1; omega
    rw [List.getElem?_append_right (by rw [hvl,e1]; omega),hvl]
    have e2:k * inf.size + j - m * inf.size=(k - m) * inf.size + j:=by omega
    rw [e2]; exact y1
  have hTl:(vals++news).length=(xs.take m++es).length * inf.size:=by rw [hlenT,List.length_append,hvl,hl,Nat.add_mul]
  have hdel:=hS.wd.del i
  by_cases hroom:m + es.length<=cap
  ·-- there is room
   rcases hblk with ⟨rfl,rfl⟩ | ⟨blk,cur,q1,q2,q3,q4,q5,q6,q7,q8,q9⟩
   ·have h0:es.length=0:=by omega
    have hesn:es=[]:=List.eq_nil_of_length_eq_zero h0
    subst hesn
    obtain ⟨g1,g2⟩:=hdel.1.noRow (i':=.l d 0) (ty:=e) (sz:=inf.size)
    refine ⟨_,_,H,μ.ma0 (.l d 0),.slice ad 0 0,w,hk,.inl (hexec _ _ ?_),?_,hdel.2.trans ?_,.set hd fun j hj=>by simp [Mu.ma0,hj]⟩
    ·rw [ev]
     exact k30 t t2 o.type e inf ht ht2 hi ad 0 0 (Nat.le_refl _) sx
    ·rw [hd]
     simp only [List.take_zero,List.append_nil]
     exact hS.mk' hdn (fun j hj=>by simp [Mu.ma0,hj]) g1 (.arr _ _ _ _ _ (by simp) (.inl rfl))
    ·simp only [List.take_zero,List.append_nil]; exact g2
   ·subst q3 q4
    have hfit:m * inf.size + news.length<=cur.size:=by rw [hl,q7,<- Nat.add_mul]; exact Nat.mul_le_mul_right _ hroom
    have hobj:∀ (μ':Mu) (j:Id),μ' j=some blk->ObOk H μ' (w.setRow blk.b (cur.toList.take (m * inf.size)++news++cur.toList.drop (m * inf.size + news.length)).toArray) j (.row e inf.size true (xs.take m++es)):=by
     intro μ' j hj
     have hbs:(⟨blk.b,inf.size,blk.cap⟩:Blk)=blk:=by rw [<- q2]
     refine ObOk.row0 (b:=blk.b) (cap:=blk.cap) (vals:=vals++news) (rest:=(cur.toList.drop (m * inf.size + news.length)).toArray) (by rw [hbs]; exact hj) q5.1 (by rw [hlenT]; exact hroom) ?_ ?_ q9 ((One.list (kV0 hpos hTl hTs hTr)).append (One.list fun u hu=>?_)) hTs hTr
     ·have:=setRow_heap w blk.b cur (cur.toList.take (m * inf.size)++news++cur.toList.drop (m * inf.size + news.length)).toArray e (0,0) q6
      rw [this,q8]; simp
     ·simp only [Array.size_append,List.size_toArray,hTl,hlenT,List.length_drop,Array.length_toList]
      rw [hl,q7,<- Nat.add_mul,<- Nat.sub_mul,<- Nat.add_mul]; congr 1; omega
     ·obtain ⟨j,hj1,hj2⟩:=List.getElem_of_mem (List.mem_of_mem_drop hu)
      exact q5.2 j u (by rw [<- Array.getElem?_toList,List.getElem?_eq_getElem hj1,hj2])
    obtain ⟨g1,g2⟩:=hS.wd.write (o':=.row e inf.size true (xs.take m++es)) hlk rfl q1 q6 rfl (hobj μ i q1)
    have hlk':(Hp.set i (.row e inf.size true (xs.take m++es)) hp).lookup i=some (.row e inf.size true (xs.take m++es)):=by
     rw [bx0,hlk]; simp
    obtain ⟨g3,g4⟩:=g1.move (i':=.l d 0) (ob:=.row e inf.size true (xs.take m++es)) hlk' rfl q1 (hobj _ _ (Mu.aS0 _ _ _))
    rw [set_set] at g3 g4
    have hv:R H (μ.set (.l d 0) blk) (.arr (.l d 0) 0 (m + es.length)) (.slice (some ⟨blk.b,0,none⟩) (m + es.length) blk.cap):=.arr _ _ _ _ _ hroom (.inr ⟨_,Mu.aS0 _ _ _,by simp,by simp⟩)
    have hrun:=o00 (P:=P) t t2 o.type e inf ht ht2 hi blk.b m blk.cap cur q6 sx hroom hfit
    exact ⟨_,_,H,_,_,_,hk,.inl (hexec _ _ (by rw [ev]; exact hrun)),by rw [hd]; exact hS.mk' hdn (fun j hj=>Mu.bz0 _ _ hj) g3 hv,g2.trans g4,.set hd fun j hj=>Mu.bz0 _ _ hj⟩
  ·-- a new block
   have hes0:es.length ≠ 0:=by omega
   have holds:∃ adr,(ad=some adr\/ad=none/\m=0/\cap=0)/\∀ (j:Nat) (u:Value),vals[j]?=some u->w.cell? (adr.add j)=some u:=by
    rcases hblk with ⟨rfl,rfl⟩ | ⟨blk,cur,q1,q2,q3,q4,q5,q6,q7,q8,q9⟩
    ·have hv0:vals=[]:=List.eq_nil_of_length_eq_zero (by rw [hvl]; simp)
     subst hv0
     cases ad with
     | none=>exact ⟨⟨0,0,none⟩,.inr ⟨rfl,rfl,rfl⟩,by simp⟩
     | some adr=>exact ⟨adr,.inl rfl,by simp⟩
    ·refine ⟨⟨blk.b,0,none⟩,.inl q3,fun j u hj=>?_⟩
     rw [dC0,hs0 q6,Nat.zero_add]
     rw [q8,List.getElem?_take] at hj
     split at hj
     ·simpa using hj
     ·cases hj
   obtain ⟨adr,hadr,holds⟩:=holds
   have fin:∀ old,(execOp a.eval o).run P w=.ok (.value (.slice (some ⟨w.heap.size,0,none⟩) (m + es.length) (grownCap w (m + es.length) old e)))
     (w.drew.alloc (.cells (vals.toArray++news.toArray++Builtin.zeroCells zv.cells (grownCap w (m + es.length) old e - (m + es.length))) e)) ->
     ∃ env' hp' H' μ' x w',K env' hp'/\((execOp a.eval o).run P w=.ok (.value x) w'\/(x=undef/\(execOp a.eval o).run P w=.ok .skip w')) /\
      Sat n H' μ' env' hp' (a.put o.dst x) w'/\Nx H μ hp w H' μ' hp' w'/\Same o.dst μ μ':=by
    intro old hrun
    obtain ⟨g1,g2⟩:=newRow (xs.take m++es) (vals++news) (grownCap w (m + es.length) old e) (by rw [hlenT]; exact grownCap_ge w _ old e)
     (grownCap_le_maxLen w _ old e (by simp only [maxLen]; omega)) hTl hTs hTr _ hdel.1
    rw [hlenT] at g1 g2
    have harr:(vals++news).toArray=vals.toArray++news.toArray:=by simp
    rw [harr] at g1 g2
    exact ⟨_,_,H,_,_,_,hk,.inl hrun,by rw [hd]; exact g1,hdel.2.trans g2,.set hd fun j hj=>Mu.bz0 _ _ hj⟩
   rcases hadr with rfl | ⟨rfl,rfl,rfl⟩
   ·refine fin cap (hexec _ _ ?_)
    have hrun:=oZ0 (P:=P) t t2 o.type e inf zv ht ht2 hi hiz adr m cap vals hvl holds sx (by omega) (by omega) (growslice_fits (by omega) hb)
    rw [ev]; exact hrun
   ·refine fin 0 (hexec _ _ ?_)
    have hv0:vals=[]:=List.eq_nil_of_length_eq_zero (by rw [hvl]; simp)
    subst hv0
    have hb':es.length * inf.bytes<=140737488355328:=by simpa using hb
    have hrun:=lU0 (P:=P) t t2 o.type e inf zv ht ht2 hi hiz sx (by omega) (by omega) (by omega)
    rw [ev]
    simpa using hrun
 ·exact h.elim
theorem app_ok {o:Oper} {s x:Operand} {t e:TypeId} {inf:TypeInfo} {z:List V} {d:Nat} {v u:V} {K:Env->Hp->Prop}
  (ho:o.op=.call { callee:=.builtin .append,args:=#[s,x],argTypes:=#[t,t] }) (hd:o.dst=some d) (hdn:d < n)
  (ht:P.underlying t=some (.slice e)) (hi:P.info? e=some inf) (hz:zeroCells P e=some z) (hzl:z.length=inf.size) (hzsc:scalars z=true) (hpos:0 < inf.size) (hby:0 < inf.bytes)
  (hs:Env.ev env s=some v) (hx:Env.ev env x=some u) (h:appV env hp e inf.size inf.bytes d v u K):cG0 P n o env hp K:=by
 intro H μ a w hS
 have rx:=ch0 hS hx
 unfold appV at h
 split at h
 ·obtain ⟨es,sa,c,news,hk,ex,hl,hsrc,h1,hes,hr⟩:=qc0 hpos hS.wd rx h
  exact qm0 (K:=K) ho hd hdn ht (.inl ⟨e,ht⟩) hi hz hzl hzsc hpos hby hs hS (by rw [ex]; exact .slice hl hsrc h1 hes hr) hk
 ·obtain ⟨rfl,xs,hlk,hm,h⟩:=h
  obtain ⟨es,sa,c,news,hk,ex,hl,hsrc,h1,hes,hr⟩:=qc0 hpos hS.wd rx h
  exact qm0 (K:=K) ho hd hdn ht (.inl ⟨e,ht⟩) hi hz hzl hzsc hpos hby hs hS (by rw [ex]; exact .slice hl hsrc h1 hes hr) ⟨rfl,xs,hlk,hm,hk⟩
 ·exact h.elim
theorem fR0 (s:ByteArray):(a10 s).length=s.size:=by simp [a10]
theorem SrcX.text (s:ByteArray):SrcX P H w (.string s) 1 (a10 s) (s.data.toList.map fun b=>.int .u8 b.toNat):=by
 refine ⟨by simp [a10],fun w'=>by simp [Builtin.lenOf,fR0],fun w' _=>?_,fun u hu=>?_,fun k e he=>?_,fun k e j u he hj=>?_⟩
 ·rw [fR0]
  simp only [Builtin.firstCells]
  rw [show s.extract 0 s.size=s from by simp]
  simp
  apply Array.ext'
  simp
 ·obtain ⟨b,_,rfl⟩:=List.mem_map.1 hu; rfl
 ·simp only [a10,List.getElem?_map,Option.map_eq_some_iff] at he
  obtain ⟨b,_,rfl⟩:=he
  exact ⟨rfl,rfl⟩
 ·simp only [a10,List.getElem?_map,Option.map_eq_some_iff] at he
  obtain ⟨b,hb,rfl⟩:=he
  match j with
  | 0 =>
   simp only [List.getElem?_cons_zero,Option.some.injEq] at hj; subst hj
   exact ⟨_,by simpa using ⟨b,by simpa using hb,rfl⟩,.c _⟩
  | j + 1=>simp at hj
theorem appS_ok {o:Oper} {s x:Operand} {t t2 e:TypeId} {inf:TypeInfo} {z:List V} {d:Nat} {v:V} {bs:ByteArray} {K:Env->Hp->Prop}
  (ho:o.op=.call { callee:=.builtin .append,args:=#[s,x],argTypes:=#[t,t2] }) (hd:o.dst=some d) (hdn:d < n)
  (ht:P.underlying t=some (.slice e)) (ht2:P.underlying t2=some .string) (hi:P.info? e=some inf) (hz:zeroCells P e=some z) (hzl:z.length=inf.size) (hzsc:scalars z=true) (hsz:inf.size=1) (hby:inf.bytes=1)
  (hs:Env.ev env s=some v) (hx:Env.ev env x=some (.c (.string bs))) (h:bs0 env hp e 1 1 d v (a10 bs) K):cG0 P n o env hp K:=by
 intro H μ a w hS
 have rx:=(ch0 hS hx).bS0
 refine qm0 (K:=K) (news:=bs.data.toList.map fun b=>.int .u8 b.toNat) ho hd hdn ht (.inr ht2) hi hz hzl hzsc (by omega) (by omega) hs hS (by rw [rx,hsz]; exact .text bs) ?_
 rw [hsz,hby]; exact h
end Go.Am
end

section
namespace Go.Am
variable {P:Program} {n:Sz} {H:Imm} {μ:Mu} {env:Env} {hp:Hp} {a:Act} {w:World}
def dG0 (P:Program) (f:FuncId) (vs:Array Value) (w:World) (Rr:Ending->World->Prop):Prop :=
 match (callFunc f vs).run P w with
 | .ok (.enter g av) w'=>Calls P g av w' Rr
 | .ok (.value v) w'=>Rr (.returned v) w'
 | .halt (.panic v) w'=>Rr (.panicked [{ v,recovered:=false }]) w'
 | _=>False
theorem dG0.mono {f:FuncId} {vs:Array Value} {R1 R2:Ending->World->Prop} (h:dG0 P f vs w R1) (k:∀ e w',R1 e w'->R2 e w'):dG0 P f vs w R2:=by
 unfold dG0 at *
 split at h
 ·exact Calls.mono h k
 ·exact k _ _ h
 ·exact k _ _ h
 ·exact h.elim
inductive Res where
 | ret (v:V) (obs:List Ob)
 | pan (v:V) (obs:List Ob)
def hpE (k:Nat):List Ob->Hp
 | []=>[]
 | o :: os=>(.e k,o) :: hpE (k + 1) os
def JP (H:Imm) (μ:Mu) (k:Nat) (hp:Hp) (w:World) (r:Res) (e:Ending) (H':Imm) (μ':Mu) (w':World):Prop :=
 match r with
 | .ret v obs=>(∃ x,e=.returned x/\R H' μ' v x)/\Nj H μ hp w H' μ' (hpE 0 obs) w'/\Wd H' μ' (hpE 0 obs) w'/\k<=obs.length/\∀ (j:Nat) (o:Ob),j < k->obs[j]?=some o->o ≠ .gone->μ' (.e j)=μ (.e j)
 | .pan v obs=>(∃ x,e=.panicked [{ v:=x,recovered:=false }]/\R H' μ' v x)/\Nj H μ hp w H' μ' (hpE 0 obs) w'/\Wd H' μ' (hpE 0 obs) w'/\obs.length=k/\∀ (j:Nat) (o:Ob),j < k->obs[j]?=some o->o ≠ .gone->μ' (.e j)=μ (.e j)
def J (P:Program) (f:FuncId) (args:List V) (obs:List Ob) (Q:Res->Prop):Prop :=
 ∀ H μ vs w,RL H μ args vs->Wd H μ (hpE 0 obs) w->dG0 P f vs w fun e w'=>∃ r H' μ',Q r/\JP H μ obs.length (hpE 0 obs) w r e H' μ' w'
theorem J.mono {f:FuncId} {args:List V} {obs:List Ob} {Q Q':Res->Prop} (h:J P f args obs Q) (k:∀ r,Q r->Q' r):J P f args obs Q':=fun H μ vs w h1 h2 =>
 (h H μ vs w h1 h2).mono fun e w' ⟨r,H',μ',h3,h4⟩=>⟨r,H',μ',k r h3,h4⟩
def Ret (P:Program) (f:FuncId) (args:List V) (v:V):Prop:=J P f args [] (·=.ret v [])
theorem Ret.use {f:FuncId} {args:List V} {v:V} {Q:Res->Prop} (h:Ret P f args v) (k:Q (.ret v [])):J P f args [] Q:=J.mono h fun r e=>by subst e; exact k
def OpTd (P:Program) (n:Sz) (o:Oper) (sd:Option Nat) (env:Env) (hp:Hp) (K:Env->Hp->Prop) (Kp:V->Hp->Prop):Prop :=
 ∀ H μ a w (Q:Exit->Act->World->Prop),Sat n H μ env hp a w ->
  (∀ v x hp' H' μ' w',Kp v hp'->R H' μ' v x->Nx H μ hp w H' μ' hp' w'->Wd H' μ' hp' w'->Same sd μ μ'->Q (.panic [{ v:=x,recovered:=false }]) a w') ->
  o.wp P a w (fun a' w'=>∃ env' hp' H' μ',K env' hp'/\Sat n H' μ' env' hp' a' w'/\Nx H μ hp w H' μ' hp' w'/\Same sd μ μ') Q
abbrev OpT (P:Program) (n:Sz) (o:Oper) (env:Env) (hp:Hp) (K:Env->Hp->Prop) (Kp:V->Hp->Prop):Prop:=OpTd P n o o.dst env hp K Kp
theorem id0 {o:Oper} {K K':Act->World->Prop} {Q:Exit->Act->World->Prop} (h:o.wp P a w K Q) (hk:∀ a' w',K a' w'->K' a' w'):o.wp P a w K' Q:=by
 unfold Oper.wp at h ⊢
 generalize (execOp a.eval o).run P w=r at h ⊢
 cases r with
 | ok nx w' =>
  cases nx with
  | value v=>exact hk _ _ h
  | skip=>exact hk _ _ h
  | defer d=>exact hk _ _ h
  | enter f args =>
   refine Calls.mono (h:Calls P f args w' _) fun e w'' he=>?_
   cases e with
   | returned v=>exact hk _ _ he
   | panicked c=>exact he
   | outgrown=>exact he
  | row r args=>exact Rows.mono (h:Rows P r args w' _) fun v w'' he=>hk _ _ he
  | _=>exact h
 | halt hh w'=>cases hh <;> exact h
theorem OpTd.weak {o:Oper} {d:Option Nat} {K:Env->Hp->Prop} {Kp:V->Hp->Prop} (h:OpTd P n o none env hp K Kp):OpTd P n o d env hp K Kp:=fun H μ a w Q hS hQ =>
 id0 (h H μ a w Q hS fun v x hp' H' μ' w' k1 k2 k3 k4 k5=>hQ v x hp' H' μ' w' k1 k2 k3 k4 fun i _=>k5 i (by cases i <;> rfl))
  fun a' w' ⟨env',hp',H',μ',q1,q2,q3,q4⟩=>⟨env',hp',H',μ',q1,q2,q3,fun i _=>q4 i (by cases i <;> rfl)⟩
end Go.Am
end

section
namespace Go.Am
variable {P:Program} {n:Sz} {H:Imm} {μ:Mu} {env:Env} {hp:Hp} {a:Act} {w:World}
def Env.dg0 (ids:List Id) (env:Env):Env:=env.map fun p=>(p.1,if ids.any fun i=>p.2.has i then .any else p.2)
def Hp.dg0 (ids:List Id) (hp:Hp):Hp:=(hp.filter fun p=>!ids.contains p.1).map fun p=>(p.1,if ids.any fun i=>p.2.has i then .gone else p.2)
def Mu.cut (ids:List Id) (μ:Mu):Mu:=fun j=>if ids.contains j then Option.none else μ j
theorem kQ0 (ids:List Id) (env:Env) (s:Nat):(Env.dg0 ids env).lookup s=(env.lookup s).map fun v=>if ids.any fun i=>v.has i then .any else v :=
 dN0 (fun _ (v:V)=>if ids.any fun i=>v.has i then V.any else v) env s
theorem fH0 (ids:List Id):∀ (hp:Hp) (j:Id),(hp.filter fun p=>!ids.contains p.1).lookup j=if ids.contains j then none else hp.lookup j
 | [],j=>by simp
 | (k,o) :: hp,j=>by
  rw [List.filter_cons]
  by_cases hk:ids.contains k=true
  ·simp only [hk,Bool.not_true,Bool.false_eq_true,if_false]
   rw [fH0 ids hp j,List.lookup_cons]
   by_cases hj:ids.contains j=true
   ·rw [if_pos hj,if_pos hj]
   ·rw [if_neg hj,if_neg hj]
    have:(j == k)=false:=by
     cases e:(j == k) with
     | false=>rfl
     | true=>have:=eq_of_beq e; subst this; exact absurd hk hj
    rw [this]
  ·have hk':ids.contains k=false:=by simpa using hk
   simp only [hk',Bool.not_false,if_true,List.lookup_cons]
   cases e:(j == k) with
   | true=>have:=eq_of_beq e; subst this; rw [if_neg hk]
   | false=>exact fH0 ids hp j
theorem h80 (ids:List Id) (hp:Hp) (j:Id):(Hp.dg0 ids hp).lookup j=if ids.contains j then none else (hp.lookup j).map fun o=>if ids.any fun i=>o.has i then .gone else o:=by
 unfold Hp.dg0
 rw [dN0 (fun _ (o:Ob)=>if ids.any fun i=>o.has i then Ob.gone else o) _ j,fH0]
 split <;> rfl
theorem Mu.cut_in {ids:List Id} {i:Id} (h:i ∈ ids):Mu.cut ids μ i=none:=by simp [Mu.cut,h]
theorem Mu.ka0 {ids:List Id} {i:Id} (h:i ∉ ids):Mu.cut ids μ i=μ i:=by simp [Mu.cut,h]
theorem Mu.cut_e {ids:List Id} (h:ids.all Id.isL=true) (μ:Mu) (k:Nat):Mu.cut ids μ (.e k)=μ (.e k):=Mu.ka0 fun hm=>by
 rw [List.all_eq_true] at h
 exact absurd (h _ hm) (by simp [Id.isL])
theorem Sat.clean (ids:List Id) (hids:ids.all Id.isL=true) (hS:Sat n H μ env hp a w):Sat n H (Mu.cut ids μ) (Env.dg0 ids env) (Hp.dg0 ids hp) a w/\Nx H μ hp w H (Mu.cut ids μ) (Hp.dg0 ids hp) w:=by
 have hno:∀ (v:V),¬ (ids.any fun i=>v.has i)=true->∀ q,v.has q=true->Mu.cut ids μ q=μ q:=fun v hv q hq=>Mu.ka0 fun hm=>hv (List.any_eq_true.2 ⟨q,hm,hq⟩)
 have hcase:∀ j o,(Hp.dg0 ids hp).lookup j=some o->j ∉ ids/\(o=.gone\/(hp.lookup j=some o/\∀ q,o.has q=true->Mu.cut ids μ q=μ q)):=by
  intro j o h
  rw [h80] at h
  split at h
  ·cases h
  ·rename_i hj
   refine ⟨by simpa using hj,?_⟩
   cases hl:hp.lookup j with
   | none=>rw [hl] at h; cases h
   | some q =>
    rw [hl] at h
    simp only [Option.map_some,Option.some.injEq] at h
    split at h
    ·exact .inl h.symm
    ·rename_i hq
     subst h
     exact .inr ⟨rfl,fun q hq'=>Mu.ka0 fun hm=>hq (List.any_eq_true.2 ⟨q,hm,hq'⟩)⟩
 have hW:=hS.wd
 refine ⟨⟨hS.defers,hS.size,fun s v hv=>?_,⟨fun j o h=>?_,fun j k oj ok bj bk hj hoj hk hok hbj hbk heq=>?_,hW.imm,hW.glo⟩⟩,
  ⟨⟨Imm.le_refl H,rfl,rfl,rfl,Nat.le_refl _,fun _ _ _=>rfl,fun b hO _=>?_,fr0⟩,Mu.cut_e hids μ⟩⟩
 ·rw [kQ0] at hv
  cases hl:env.lookup s with
  | none=>rw [hl] at hv; cases hv
  | some u =>
   rw [hl] at hv
   simp only [Option.map_some,Option.some.injEq] at hv
   split at hv
   ·subst hv; exact .any _
   ·rename_i hn
    subst hv
    exact (hS.env s u hl).mono (Imm.le_refl H) (hno u hn)
 ·obtain ⟨hj,rfl | ⟨h1,h2⟩⟩:=hcase j o h
  ·trivial
  ·exact (hW.ob j o h1).mono (Imm.le_refl H) (Mu.ka0 hj) h2 (fun _ _=>rfl) (fun _ _ _=>rfl)
 ·obtain ⟨h1,rfl | ⟨h2,_⟩⟩:=hcase j oj hj
  ·cases hoj
  ·obtain ⟨k1,rfl | ⟨k2,_⟩⟩:=hcase k ok hk
   ·cases hok
   ·rw [Mu.ka0 h1] at hbj
    rw [Mu.ka0 k1] at hbk
    exact hW.inj j k oj ok bj bk h2 hoj k2 hok hbj hbk heq
 ·obtain ⟨j,o,blk,h1,h2,h3,h4⟩:=hO
  obtain ⟨hj,rfl | ⟨k1,_⟩⟩:=hcase j o h1
  ·cases h2
  ·rw [Mu.ka0 hj] at h3
   exact ⟨j,o,blk,k1,h2,h3,h4⟩
theorem Wd.sub {hp':Hp} (hW:Wd H μ hp w) (h:∀ i o,hp'.lookup i=some o->hp.lookup i=some o):Wd H μ hp' w :=
 ⟨fun i o hl=>hW.ob i o (h i o hl),fun i j oi oj bi bj hi hoi hj hoj hbi hbj e=>hW.inj i j oi oj bi bj (h i oi hi) hoi (h j oj hj) hoj hbi hbj e,hW.imm,hW.glo⟩
theorem Nx.sub {μ0:Mu} {hp0:Hp} {w0:World} {H0:Imm} {hp':Hp} (hx:Nx H0 μ0 hp0 w0 H μ hp w) (h:∀ i o,hp'.lookup i=some o->hp.lookup i=some o):Nx H0 μ0 hp0 w0 H μ hp' w :=
 ⟨⟨hx.imm,hx.os,hx.tape,hx.output,hx.size,hx.keep,fun b hO hb=>hx.own b (by obtain ⟨i,o,blk,h1,h2⟩:=hO; exact ⟨i,o,blk,h i o h1,h2⟩) hb,hx.fresh⟩,hx.ext⟩
end Go.Am
end

section
namespace Go.Am
variable {P:Program} {n:Sz} {H:Imm} {μ:Mu} {env:Env} {hp:Hp} {a:Act} {w:World}
mutual
def V.aQ0 (f:Id->Option Id):V->Option V
 | .bp i o=>(f i).map fun j=>.bp j o
 | .self i o=>(f i).map fun j=>.self j o
 | .ep i k o=>(f i).map fun j=>.ep j k o
 | .arr i o n=>(f i).map fun j=>.arr j o n
 | .mp i=>(f i).map .mp
 | .arc i o n q=>(f i).map fun j=>.arc j o n q
 | .agg cs=>(V.fA0 f cs).map .agg
 | .fn g cs=>(V.fA0 f cs).map (.fn g)
 | .tup cs=>(V.fA0 f cs).map .tup
 | .ifc t v=>(v.aQ0 f).map (.ifc t)
 | .any=>some .any
 | .c v=>some (.c v)
 | .nil=>some .nil
 | .lst xs=>some (.lst xs)
 | .rp cs=>some (.rp cs)
def V.fA0 (f:Id->Option Id):List V->Option (List V)
 | []=>some []
 | v :: vs=>(v.aQ0 f).bind fun u=>(V.fA0 f vs).map (u :: ·)
end
theorem dO0 {f:Id->Option Id}:∀ {cs us:List V},V.fA0 f cs=some us->us.length=cs.length/\∀ (j:Nat) (u:V),us[j]?=some u->∃ v,cs[j]?=some v/\v.aQ0 f=some u
 | [],us,h=>by simp [V.fA0] at h; subst h; exact ⟨rfl,fun j u hj=>by simp at hj⟩
 | c :: cs,us,h=>by
  simp only [V.fA0,Option.bind_eq_some_iff,Option.map_eq_some_iff] at h
  obtain ⟨u0,h1,us0,h2,rfl⟩:=h
  obtain ⟨k1,k2⟩:=dO0 h2
  refine ⟨by simp [k1],fun j u hj=>?_⟩
  cases j with
  | zero=>simp at hj; subst hj; exact ⟨c,rfl,h1⟩
  | succ j=>simp at hj; obtain ⟨v,q1,q2⟩:=k2 j u hj; exact ⟨v,by simpa using q1,q2⟩
theorem R.aQ0 {f:Id->Option Id} {μ':Mu} (hf:∀ i i',f i=some i'->μ' i'=μ i) {v:V} {x:Value} (h:R H μ v x):∀ {v':V},v.aQ0 f=some v'->R H μ' v' x:=by
 induction h with
 | any x=>intro v' e; simp [V.aQ0] at e; subst e; exact .any x
 | c v=>intro v' e; simp [V.aQ0] at e; subst e; exact .c v
 | nil=>intro v' e; simp [V.aQ0] at e; subst e; exact .nil
 | lst xs sz a n cap cv hn hc hs hm hr ih=>intro v' e; simp [V.aQ0] at e; subst e; exact .lst xs sz a n cap cv hn hc hs hm hr
 | rp cs b off cv hm hr ih=>intro v' e; simp [V.aQ0] at e; subst e; exact .rp cs b off cv hm hr
 | self i t a blk h ht ha =>
  intro v' e
  simp only [V.aQ0,Option.map_eq_some_iff] at e
  obtain ⟨j,e1,rfl⟩:=e
  exact .self j t a blk (by rw [hf _ _ e1]; exact h) ht ha
 | bp i off blk h =>
  intro v' e
  simp only [V.aQ0,Option.map_eq_some_iff] at e
  obtain ⟨j,e1,rfl⟩:=e
  exact .bp j off blk (by rw [hf _ _ e1]; exact h)
 | ep i k off blk h =>
  intro v' e
  simp only [V.aQ0,Option.map_eq_some_iff] at e
  obtain ⟨j,e1,rfl⟩:=e
  exact .ep j k off blk (by rw [hf _ _ e1]; exact h)
 | arr i o n a cap hc h =>
  intro v' e
  simp only [V.aQ0,Option.map_eq_some_iff] at e
  obtain ⟨j,e1,rfl⟩:=e
  exact .arr j o n a cap hc (by rw [hf _ _ e1]; exact h)
 | mp i blk h =>
  intro v' e
  simp only [V.aQ0,Option.map_eq_some_iff] at e
  obtain ⟨j,e1,rfl⟩:=e
  exact .mp j blk (by rw [hf _ _ e1]; exact h)
 | arc i o n c a hc h =>
  intro v' e
  simp only [V.aQ0,Option.map_eq_some_iff] at e
  obtain ⟨j,e1,rfl⟩:=e
  exact .arc j o n c a hc (by rw [hf _ _ e1]; exact h)
 | agg cs vs hn hr ih =>
  intro v' e
  simp only [V.aQ0,Option.map_eq_some_iff] at e
  obtain ⟨us,e1,rfl⟩:=e
  obtain ⟨k1,k2⟩:=dO0 e1
  exact .agg us vs (by rw [hn,k1]) fun j u hj=>by obtain ⟨v,q1,q2⟩:=k2 j u hj; exact ih j v q1 hf q2
 | fn g cs vs hn hr ih =>
  intro v' e
  simp only [V.aQ0,Option.map_eq_some_iff] at e
  obtain ⟨us,e1,rfl⟩:=e
  obtain ⟨k1,k2⟩:=dO0 e1
  exact .fn g us vs (by rw [hn,k1]) fun j u hj=>by obtain ⟨v,q1,q2⟩:=k2 j u hj; exact ih j v q1 hf q2
 | tup cs vs hn hr ih =>
  intro v' e
  simp only [V.aQ0,Option.map_eq_some_iff] at e
  obtain ⟨us,e1,rfl⟩:=e
  obtain ⟨k1,k2⟩:=dO0 e1
  exact .tup us vs (by rw [hn,k1]) fun j u hj=>by obtain ⟨v,q1,q2⟩:=k2 j u hj; exact ih j v q1 hf q2
 | ifc t v x h ih =>
  intro v' e
  simp only [V.aQ0,Option.map_eq_some_iff] at e
  obtain ⟨u,e1,rfl⟩:=e
  exact .ifc t u x (ih hf e1)
def Ob.aQ0 (f:Id->Option Id):Ob->Option Ob
 | .gone=>some .gone
 | .box cs=>(V.fA0 f cs).map .box
 | .row ty sz own xs=>some (.row ty sz own xs)
 | .mpo kd kvs=>some (.mpo kd kvs)
theorem Ob.cL0 {f:Id->Option Id} {o o':Ob} (h:o.aQ0 f=some o'):o'.own=o.own:=by
 cases o with
 | gone=>simp [Ob.aQ0] at h; subst h; rfl
 | box cs=>simp only [Ob.aQ0,Option.map_eq_some_iff] at h; obtain ⟨us,_,rfl⟩:=h; rfl
 | row ty sz own xs=>simp [Ob.aQ0] at h; subst h; rfl
 | mpo kd kvs=>simp [Ob.aQ0] at h; subst h; rfl
theorem ObOk.aQ0 {f:Id->Option Id} {μ':Mu} {i i':Id} {o o':Ob} (hf:∀ i i',f i=some i'->μ' i'=μ i) (hi:μ' i'=μ i) (h:ObOk H μ w i o) (e:o.aQ0 f=some o'):ObOk H μ' w i' o':=by
 cases o with
 | gone=>simp [Ob.aQ0] at e; subst e; trivial
 | box cs =>
  simp only [Ob.aQ0,Option.map_eq_some_iff] at e
  obtain ⟨us,e1,rfl⟩:=e
  obtain ⟨k1,k2⟩:=dO0 e1
  obtain ⟨blk,vals,ty,h1,h2,h3,h4,h5⟩:=h
  refine ⟨blk,vals,ty,by rw [hi]; exact h1,h2,by rw [h3,k1],h4,fun j u hj=>?_⟩
  obtain ⟨v,q1,q2⟩:=k2 j u hj
  obtain ⟨x,q3,q4⟩:=h5 j v q1
  exact ⟨x,q3,q4.aQ0 hf q2⟩
 | row ty sz own xs =>
  simp [Ob.aQ0] at e; subst e
  rcases h with ⟨h1,h2⟩ | ⟨blk,vals,h1,h2⟩
  ·exact .inl ⟨h1,by rw [hi]; exact h2⟩
  ·exact .inr ⟨blk,vals,by rw [hi]; exact h1,h2⟩
 | mpo kd kvs =>
  simp [Ob.aQ0] at e; subst e
  obtain ⟨blk,es,clk,h1,h2⟩:=h
  exact ⟨blk,es,clk,by rw [hi]; exact h1,h2⟩
mutual
def V.hide (ks:List Id):V->V
 | .bp i o=>if ks.contains i then .any else .bp i o
 | .self i o=>if ks.contains i then .any else .self i o
 | .ep i k o=>if ks.contains i then .any else .ep i k o
 | .arr i o n=>if ks.contains i then .any else .arr i o n
 | .mp i=>if ks.contains i then .any else .mp i
 | .arc i o n q=>if ks.contains i then .any else .arc i o n q
 | .agg cs=>.agg (V.bq0 ks cs)
 | .fn g cs=>.fn g (V.bq0 ks cs)
 | .tup cs=>.tup (V.bq0 ks cs)
 | .ifc t v=>.ifc t (v.hide ks)
 | .any=>.any
 | .c v=>.c v
 | .nil=>.nil
 | .lst xs=>.lst xs
 | .rp cs=>.rp cs
def V.bq0 (ks:List Id):List V->List V
 | []=>[]
 | v :: vs=>v.hide ks :: V.bq0 ks vs
end
mutual
def V.see (nl:Bool) (ks:List Id) (hp:Hp):V->(V->Prop)->Prop
 | .nil,K=>if nl then K .nil else K (.lst [])
 | .arr i o n,K=>if ks.contains i then K (.arr i o n) else ∃ ty sz xs,hp.lookup i=some (.row ty sz false xs)/\o + n<=xs.length/\K (.lst ((xs.drop o).take n))
 | .agg cs,K=>V.seeL nl ks hp cs fun us=>K (.agg us)
 | .tup cs,K=>V.seeL nl ks hp cs fun us=>K (.tup us)
 | .ifc t v,K=>V.see nl ks hp v fun u=>K (.ifc t u)
 | .fn g cs,K=>V.seeL nl ks hp cs fun us=>K (.fn g us)
 | .any,K=>K .any
 | .c v,K=>K (.c v)
 | .lst xs,K=>K (.lst xs)
 | .rp cs,K=>K (.rp cs)
 | .bp i o,K=>K (.bp i o)
 | .self i o,K=>K (.self i o)
 | .ep i k o,K=>K (.ep i k o)
 | .mp i,K=>K (.mp i)
 | .arc i o n _,K=>if ks.contains i then K (.arr i o n) else ∃ ty sz xs,hp.lookup i=some (.row ty sz false xs)/\o + n<=xs.length/\K (.lst ((xs.drop o).take n))
def V.seeL (nl:Bool) (ks:List Id) (hp:Hp):List V->(List V->Prop)->Prop
 | [],K=>K []
 | v :: vs,K=>V.see nl ks hp v fun u=>V.seeL nl ks hp vs fun us=>K (u :: us)
end
mutual
theorem see_ok {nl:Bool} {ks:List Id} (hW:Wd H μ hp w):∀ {v:V} {x:Value} {K:V->Prop},R H μ v x->V.see nl ks hp v K->∃ u,K u/\R H μ u x
 | .nil,_,K,h,hk=>by
  simp only [V.see] at hk
  split at hk
  ·exact ⟨_,hk,h⟩
  ·exact ⟨_,hk,by cases h; exact .lst [] 0 none 0 0 (fun _ _=>undef) rfl (Nat.le_refl _) (by simp) (by simp) (by simp)⟩
 | .arr i o m,x,K,h,hk=>by
  simp only [V.see] at hk
  split at hk
  ·exact ⟨_,hk,h⟩
  ·obtain ⟨ty,sz,xs,h1,h2,h3⟩:=hk
   exact ⟨_,h3,mr0 hW h1 h2 h μ⟩
 | .agg cs,_,K,.agg _ vs hn hr,hk=>by
  simp only [V.see] at hk
  obtain ⟨us,h1,h2⟩:=iY0 hW (cs:=cs) (vals:=vs) (off:=0) (by omega) (fun j v hj=>by rw [Nat.zero_add]; exact hr j v hj) hk
  exact ⟨_,h1,.agg us vs (by rw [hn,h2.1]) (fun j v hj=>by have:=h2.2 j v hj; rwa [Nat.zero_add] at this)⟩
 | .tup cs,_,K,.tup _ vs hn hr,hk=>by
  simp only [V.see] at hk
  obtain ⟨us,h1,h2⟩:=iY0 hW (cs:=cs) (vals:=vs) (off:=0) (by omega) (fun j v hj=>by rw [Nat.zero_add]; exact hr j v hj) hk
  exact ⟨_,h1,.tup us vs (by rw [hn,h2.1]) (fun j v hj=>by have:=h2.2 j v hj; rwa [Nat.zero_add] at this)⟩
 | .ifc t v,_,K,.ifc _ _ x h,hk=>by
  simp only [V.see] at hk
  obtain ⟨u,h1,h2⟩:=see_ok hW h hk
  exact ⟨_,h1,.ifc t u x h2⟩
 | .fn g cs,_,K,.fn _ _ vs hn hr,hk=>by
  simp only [V.see] at hk
  obtain ⟨us,h1,h2⟩:=iY0 hW (cs:=cs) (vals:=vs) (off:=0) (by omega) (fun j v hj=>by rw [Nat.zero_add]; exact hr j v hj) hk
  exact ⟨_,h1,.fn g us vs (by rw [hn,h2.1]) (fun j v hj=>by have:=h2.2 j v hj; rwa [Nat.zero_add] at this)⟩
 | .any,_,K,h,hk=>⟨_,hk,h⟩
 | .c _,_,K,h,hk=>⟨_,hk,h⟩
 | .lst _,_,K,h,hk=>⟨_,hk,h⟩
 | .rp _,_,K,h,hk=>⟨_,hk,h⟩
 | .bp _ _,_,K,h,hk=>⟨_,hk,h⟩
 | .self _ _,_,K,h,hk=>⟨_,hk,h⟩
 | .ep _ _ _,_,K,h,hk=>⟨_,hk,h⟩
 | .mp _,_,K,h,hk=>⟨_,hk,h⟩
 | .arc i o m q,x,K,h,hk=>by
  simp only [V.see] at hk
  split at hk
  ·exact ⟨_,hk,h.kw0⟩
  ·obtain ⟨ty,sz,xs,h1,h2,h3⟩:=hk
   exact ⟨_,h3,mr0 hW h1 h2 h.kw0 μ⟩
theorem iY0 {nl:Bool} {ks:List Id} (hW:Wd H μ hp w):∀ {cs:List V} {vals:Array Value} {off:Nat} {K:List V->Prop},off + cs.length<=vals.size ->
  (∀ (j:Nat) (v:V),cs[j]?=some v->R H μ v (vals.getD (off + j) undef))->V.seeL nl ks hp cs K ->
  ∃ us,K us/\us.length=cs.length/\∀ (j:Nat) (v:V),us[j]?=some v->R H μ v (vals.getD (off + j) undef)
 | [],vals,off,K,hl,hr,hk=>⟨[],by simpa [V.seeL] using hk,rfl,fun j v hj=>by simp at hj⟩
 | c :: cs,vals,off,K,hl,hr,hk=>by
  simp only [V.seeL] at hk
  obtain ⟨u,h1,h2⟩:=see_ok hW (hr 0 c rfl) hk
  obtain ⟨us,h3,h4,h5⟩:=iY0 hW (cs:=cs) (vals:=vals) (off:=off + 1) (by simp at hl; omega) (fun j v hj=>by have:=hr (j + 1) v hj; rwa [show off + (j + 1)=off + 1 + j by omega] at this) h1
  refine ⟨u :: us,h3,by simp [h4],fun j v hj=>?_⟩
  cases j with
  | zero=>simp at hj; subst hj; exact h2
  | succ j=>simp at hj; have:=h5 j v hj; rwa [show off + (j + 1)=off + 1 + j by omega]
end
def toE:List Id->Nat->Id->Option Id
 | [],_,_=>none
 | x :: xs,k,i=>if i=x then some (.e k) else toE xs (k + 1) i
theorem rD0:∀ {ids:List Id} {k:Nat} {i i':Id},toE ids k i=some i'->∃ j,ids[j]?=some i/\i'=.e (k + j)
 | [],k,i,i',h=>by simp [toE] at h
 | x :: xs,k,i,i',h=>by
  simp only [toE] at h
  split at h
  ·rename_i e; subst e; injection h with h; exact ⟨0,rfl,h.symm⟩
  ·obtain ⟨j,h1,h2⟩:=rD0 h
   exact ⟨j + 1,by simpa using h1,by rw [h2]; congr 1; omega⟩
def muE (ids:List Id) (μ:Mu):Mu
 | .e j=>(ids[j]?).bind μ
 | .l _ _=>none
theorem oJ0 {ids:List Id} {i i':Id} (h:toE ids 0 i=some i'):muE ids μ i'=μ i:=by
 obtain ⟨j,h1,rfl⟩:=rD0 h
 simp [muE,h1]
theorem hI0:∀ (os:List Ob) (k j:Nat),(hpE k os).lookup (.e (k + j))=os[j]?
 | [],k,j=>by simp [hpE]
 | o :: os,k,j=>by
  simp only [hpE,List.lookup_cons]
  cases j with
  | zero=>simp
  | succ j =>
   have:((Id.e (k + (j + 1))) == Id.e k)=false:=by
    cases e:((Id.e (k + (j + 1))) == Id.e k) with
    | false=>rfl
    | true=>have:=eq_of_beq e; injection this with this; omega
   rw [this]
   have:=hI0 os (k + 1) j
   rw [show k + (j + 1)=k + 1 + j by omega]; simpa using this
theorem mT0 {os:List Ob} {k:Nat} {i:Id} {o:Ob} (h:(hpE k os).lookup i=some o):∃ j,i=.e (k + j)/\os[j]?=some o:=by
 induction os generalizing k with
 | nil=>simp [hpE] at h
 | cons o' os ih =>
  simp only [hpE,List.lookup_cons] at h
  cases e:(i == Id.e k) with
  | true=>rw [e] at h; simp only [Option.some.injEq] at h; subst h; exact ⟨0,by simpa using eq_of_beq e,rfl⟩
  | false =>
   rw [e] at h
   obtain ⟨j,h1,h2⟩:=ih h
   exact ⟨j + 1,by rw [h1]; congr 1; omega,by simpa using h2⟩
def Handed (H:Imm) (μ:Mu) (hp:Hp) (w:World) (ids:List Id) (obs:List Ob):Prop :=
 obs.length<=ids.length/\∀ (j:Nat) (i:Id) (o:Ob),ids[j]?=some i->obs[j]?=some o->o=.gone\/∃ o1 o2,hp.lookup i=some o1/\o2.own=o1.own/\ObOk H μ w i o2/\o2.aQ0 (toE ids 0)=some o
theorem pU0 {α:Type}:∀ {l:List α},l.Nodup->∀ {i j:Nat} {x:α},l[i]?=some x->l[j]?=some x->i=j
 | [],_,i,j,x,hi,_=>by simp at hi
 | y :: l,h,i,j,x,hi,hj=>by
  obtain ⟨h1,h2⟩:=List.nodup_cons.1 h
  cases i with
  | zero =>
   cases j with
   | zero=>rfl
   | succ j=>simp at hi hj; subst hi; exact absurd (List.mem_of_getElem? hj) h1
  | succ i =>
   cases j with
   | zero=>simp at hi hj; subst hj; exact absurd (List.mem_of_getElem? hi) h1
   | succ j=>simp at hi hj; rw [pU0 h2 hi hj]
theorem Handed.wd {ids:List Id} {obs:List Ob} (h:Handed H μ hp w ids obs) (hW:Wd H μ hp w) (hnd:ids.Nodup) :
  Wd H (muE ids μ) (hpE 0 obs) w/\∀ b,Owns (hpE 0 obs) (muE ids μ) b->∃ i ∈ ids,∃ ob blk,hp.lookup i=some ob/\ob.own=true/\μ i=some blk/\blk.b=b:=by
 obtain ⟨hlen,hob⟩:=h
 have get:∀ i o,(hpE 0 obs).lookup i=some o->∃ j i0,i=.e j/\ids[j]?=some i0/\muE ids μ i=μ i0/\(o=.gone\/∃ o1 o2,hp.lookup i0=some o1/\o2.own=o1.own/\ObOk H μ w i0 o2/\o2.aQ0 (toE ids 0)=some o):=by
  intro i o hl
  obtain ⟨j,e,hj⟩:=mT0 hl
  rw [Nat.zero_add] at e
  have hjl:j < ids.length:=by have:=(List.getElem?_eq_some_iff.1 hj).1; omega
  exact ⟨j,ids[j],e,List.getElem?_eq_getElem hjl,by rw [e]; simp [muE,hjl],hob j _ o (List.getElem?_eq_getElem hjl) hj⟩
 refine ⟨⟨fun i o hl=>?_,fun i j oi oj bi bj hi hoi hj hoj hbi hbj heq=>?_,hW.imm,hW.glo⟩,fun b hO=>?_⟩
 ·obtain ⟨j,i0,_,_,e3,rfl | ⟨o1,o2,k1,k2,k3,k4⟩⟩:=get i o hl
  ·trivial
  ·exact ObOk.aQ0 (μ:=μ) (i:=i0) (f:=toE ids 0) (fun i i' h=>oJ0 h) e3 k3 k4
 ·obtain ⟨p,i0,p1,p2,p3,rfl | ⟨o1,o2,k1,k2,k3,k4⟩⟩:=get i oi hi
  ·cases hoi
  ·obtain ⟨q,j0,q1,q2,q3,rfl | ⟨o3,o4,m1,m2,m3,m4⟩⟩:=get j oj hj
   ·cases hoj
   ·rw [p3] at hbi
    rw [q3] at hbj
    have:=hW.inj i0 j0 o1 o3 bi bj k1 (by rw [<- k2,<- Ob.cL0 k4]; exact hoi) m1 (by rw [<- m2,<- Ob.cL0 m4]; exact hoj) hbi hbj heq
    subst this
    have:=pU0 hnd p2 q2
    subst this
    rw [p1,q1]
 ·obtain ⟨i,o,blk,h1,h2,h3,h4⟩:=hO
  obtain ⟨p,i0,p1,p2,p3,rfl | ⟨o1,o2,k1,k2,k3,k4⟩⟩:=get i o h1
  ·cases h2
  ·rw [p3] at h3
   exact ⟨i0,List.mem_of_getElem? p2,o1,blk,k1,by rw [<- k2,<- Ob.cL0 k4]; exact h2,h3,h4⟩
def eZ0 (ids:List Id) (hp:Hp):List Id->(List Ob->Prop)->Prop
 | [],K=>K []
 | i :: is,K=>match hp.lookup i with
  | some (.box cs)=>V.seeL true ids hp cs fun us=>∃ us',V.fA0 (toE ids 0) us=some us'/\eZ0 ids hp is fun obs=>K (.box us' :: obs)
  | some (.row ty sz own xs)=>eZ0 ids hp is fun obs=>K (.row ty sz own xs :: obs)
  | _=>eZ0 ids hp is fun obs=>K (.gone :: obs)
theorem mf0 {ids:List Id} (hW:Wd H μ hp w):∀ {is:List Id} {K:List Ob->Prop},eZ0 ids hp is K->∃ obs,K obs/\obs.length=is.length /\
  ∀ (j:Nat) (i:Id) (o:Ob),is[j]?=some i->obs[j]?=some o->o=.gone\/∃ o1 o2,hp.lookup i=some o1/\o2.own=o1.own/\ObOk H μ w i o2/\o2.aQ0 (toE ids 0)=some o
 | [],K,h=>⟨[],h,rfl,fun j i o hj=>by simp at hj⟩
 | i :: is,K,h=>by
  have fin:∀ {o:Ob} {K':List Ob->Prop},(∀ obs,K' obs->K (o :: obs))->(o=.gone\/∃ o1 o2,hp.lookup i=some o1/\o2.own=o1.own/\ObOk H μ w i o2/\o2.aQ0 (toE ids 0)=some o)->eZ0 ids hp is K' ->
    ∃ obs,K obs/\obs.length=(i :: is).length/\∀ (j:Nat) (i0:Id) (o:Ob),(i :: is)[j]?=some i0->obs[j]?=some o->o=.gone\/∃ o1 o2,hp.lookup i0=some o1/\o2.own=o1.own/\ObOk H μ w i0 o2/\o2.aQ0 (toE ids 0)=some o:=by
   intro o K' hK' ho hh
   obtain ⟨obs,k1,k2,k3⟩:=mf0 hW hh
   refine ⟨o :: obs,hK' obs k1,by simp [k2],fun j i0 o0 hj ho0=>?_⟩
   cases j with
   | zero=>simp at hj ho0; subst hj; subst ho0; exact ho
   | succ j=>simp at hj ho0; exact k3 j i0 o0 hj ho0
  simp only [eZ0] at h
  split at h
  ·rename_i cs hl
   have hO:=hW.ob i _ hl
   obtain ⟨blk,vals,ty,h1,h2,h3,h4,h5⟩:=hO
   obtain ⟨us,⟨us',m1,m2⟩,hlen,hr⟩:=iY0 hW (cs:=cs) (vals:=vals) (off:=0) (by omega) (fun j v hj=>by
    obtain ⟨x,q1,q2⟩:=h5 j v hj
    rw [Array.getD_eq_getD_getElem?,q1]; exact q2) h
   refine fin (o:=.box us') (fun _ h=>h) (.inr ⟨.box cs,.box us,hl,rfl,⟨blk,vals,ty,h1,h2,by rw [h3,hlen],h4,fun j u hj=>?_⟩,by simp [Ob.aQ0,m1]⟩) m2
   have hjl:j < vals.size:=by have:=(List.getElem?_eq_some_iff.1 hj).1; omega
   have:=hr j u hj
   rw [Nat.zero_add] at this
   refine ⟨vals[j],by rw [Nat.zero_add]; exact Array.getElem?_eq_getElem hjl,?_⟩
   rwa [Array.getD_eq_getD_getElem?,Array.getElem?_eq_getElem hjl] at this
  ·rename_i ty sz own xs hl
   exact fin (fun _ h=>h) (.inr ⟨_,_,hl,rfl,hW.ob i _ hl,rfl⟩) h
  ·exact fin (fun _ h=>h) (.inl rfl) h
def boxes (hp:Hp) (ids:List Id):List V:=ids.flatMap fun i=>match hp.lookup i with | some (.box cs)=>cs | _=>[]
end Go.Am
end

section
namespace Go.Am
variable {P:Program} {n:Sz} {H:Imm} {μ:Mu} {env:Env} {hp:Hp} {a:Act} {w:World}
def hpN:List Id->List Ob->Hp
 | i :: is,o :: os=>(i,o) :: hpN is os
 | _,_=>[]
theorem nT0:∀ {is:List Id} {os:List Ob} {i:Id} {o:Ob},(hpN is os).lookup i=some o->∃ j:Nat,is[j]?=some i/\os[j]?=some o
 | [],os,i,o,h=>by simp [hpN] at h
 | x :: xs,[],i,o,h=>by simp [hpN] at h
 | x :: xs,y :: ys,i,o,h=>by
  simp only [hpN,List.lookup_cons] at h
  cases e:(i == x) with
  | true=>rw [e] at h; simp only [Option.some.injEq] at h; exact ⟨0,by rw [eq_of_beq e]; rfl,by rw [h]; rfl⟩
  | false=>rw [e] at h; obtain ⟨j,h1,h2⟩:=nT0 h; exact ⟨j + 1,by simpa using h1,by simpa using h2⟩
def newL (base:Nat):Nat->Nat->List Id
 | _,0=>[]
 | k,m + 1=>.l base k :: newL base (k + 1) m
theorem rn0 {base k m j:Nat} {i:Id} (h:(newL base k m)[j]?=some i):i=.l base (k + j)/\j < m:=by
 induction m generalizing k j with
 | zero=>simp [newL] at h
 | succ m ih =>
  cases j with
  | zero=>simp [newL] at h; exact ⟨h.symm,by omega⟩
  | succ j=>simp only [newL,List.getElem?_cons_succ] at h; obtain ⟨h1,h2⟩:=ih h; exact ⟨by rw [h1]; congr 1; omega,by omega⟩
theorem ro0 {base k m q:Nat} (h1:k<=q) (h2:q < k + m):Id.l base q ∈ newL base k m:=by
 induction m generalizing k with
 | zero=>omega
 | succ m ih =>
  simp only [newL,List.mem_cons]
  by_cases e:q=k
  ·exact .inl (by rw [e])
  ·exact .inr (ih (by omega) (by omega))
theorem newL_isL (base k m:Nat):∀ i ∈ newL base k m,∃ q,i=.l base q/\k<=q/\q < k + m:=by
 intro i hi
 obtain ⟨j,hj⟩:=List.mem_iff_getElem?.1 hi
 obtain ⟨h1,h2⟩:=rn0 hj
 exact ⟨k + j,h1,by omega,by omega⟩
def back (ids:List Id) (base:Nat) (obs:List Ob):Id->Option Id
 | .l _ _=>none
 | .e j=>match ids[j]? with
  | some i=>match obs[j]? with
   | some .gone=>none
   | some _=>some i
   | none=>none
  | none=>if j < obs.length then some (.l base (j - ids.length)) else none
def muJ (ids:List Id) (base m:Nat) (μ μ':Mu):Mu
 | .e k=>μ (.e k)
 | .l s q=>if s=base/\q < m then μ' (.e (ids.length + q)) else μ (.l s q)
def fJ0 (ids:List Id) (hp:Hp):Hp:=hp.filter fun p=>!ids.contains p.1
theorem Wd.join {H':Imm} {μ':Mu} {w':World} {ids:List Id} {base:Nat} {obs obs' os':List Ob} (hW:Wd H μ hp w) (hnd:ids.Nodup)
  (hown:∀ b,Owns (hpE 0 obs) (muE ids μ) b->∃ i ∈ ids,∃ ob blk,hp.lookup i=some ob/\ob.own=true/\μ i=some blk/\blk.b=b)
  (hN:Nj H (muE ids μ) (hpE 0 obs) w H' μ' (hpE 0 obs') w') (hW':Wd H' μ' (hpE 0 obs') w') (hlen:ids.length<=obs'.length)
  (hsame:∀ (j:Nat) (o:Ob),j < ids.length->obs'[j]?=some o->o ≠ .gone->μ' (.e j)=muE ids μ (.e j))
  (hdis:∀ q,q < obs'.length - ids.length->Id.l base q ∉ ids)
  (hos:obs'.mapM (Ob.aQ0 (back ids base obs'))=some os') :
  let m:=obs'.length - ids.length
  let hp2:=hpN (ids++newL base 0 m) os'++fJ0 ids (Hp.dg0 (newL base 0 m) hp)
  Wd H' (muJ ids base m μ μ') hp2 w'/\Nx H μ hp w H' (muJ ids base m μ μ') hp2 w'/\(∀ i i',back ids base obs' i=some i'->muJ ids base m μ μ' i'=μ' i) /\
   ∀ v:V,(∀ i ∈ newL base 0 m,v.has i=false)->∀ i,v.has i=true->muJ ids base m μ μ' i=μ i:=by
 intro m hp2
 let μ2:=muJ ids base m μ μ'
 have hold:∀ i,i ∉ newL base 0 m->μ2 i=μ i:=by
  intro i hi
  cases i with
  | e k=>rfl
  | l s q =>
   show muJ ids base m μ μ' (.l s q)=_
   simp only [muJ]
   rw [if_neg]
   rintro ⟨rfl,hq⟩
   exact hi (ro0 (Nat.zero_le _) (by omega))
 have hidn:∀ i,i ∈ ids->i ∉ newL base 0 m:=by
  intro i hi hn
  obtain ⟨q,rfl,_,h2⟩:=newL_isL base 0 m i hn
  exact hdis q (by omega) hi
 have hidμ:∀ i,i ∈ ids->μ2 i=μ i:=fun i hi=>hold i (hidn i hi)
 have hback:∀ i i',back ids base obs' i=some i'->μ2 i'=μ' i:=by
  intro i i' h
  cases i with
  | l s q=>simp [back] at h
  | e j =>
   simp only [back] at h
   split at h
   ·rename_i i0 hi0
    have hj:j < ids.length:=(List.getElem?_eq_some_iff.1 hi0).1
    split at h
    ·cases h
    ·rename_i o ho hg
     injection h with h; subst h
     rw [hidμ _ (List.mem_of_getElem? hi0),hsame j _ hj hg (by intro e; exact ho e)]
     simp [muE,hi0]
    ·cases h
   ·rename_i hi0
    split at h
    ·rename_i hlt
     injection h with h; subst h
     have hge:ids.length<=j:=by simpa using hi0
     show muJ ids base m μ μ' (.l base (j - ids.length))=_
     simp only [muJ]
     rw [if_pos ⟨trivial,by omega⟩]
     congr 2; omega
    ·cases h
 have hosl:os'.length=obs'.length/\∀ (j:Nat) (o:Ob),os'[j]?=some o->∃ o1,obs'[j]?=some o1/\o1.aQ0 (back ids base obs')=some o:=by
  have gen:∀ (xs ys:List Ob),xs.mapM (Ob.aQ0 (back ids base obs'))=some ys->ys.length=xs.length/\∀ (j:Nat) (o:Ob),ys[j]?=some o->∃ o1,xs[j]?=some o1/\o1.aQ0 (back ids base obs')=some o:=by
   intro xs
   induction xs with
   | nil=>intro ys h; simp at h; subst h; exact ⟨rfl,fun j o hj=>by simp at hj⟩
   | cons x xs ih =>
    intro ys h
    simp only [List.mapM_cons,Option.bind_eq_bind,Option.bind_eq_some_iff,Option.pure_def,Option.some.injEq] at h
    obtain ⟨y,h1,zs,h2,rfl⟩:=h
    obtain ⟨k1,k2⟩:=ih zs h2
    refine ⟨by simp [k1],fun j o hj=>?_⟩
    cases j with
    | zero=>simp at hj; subst hj; exact ⟨x,rfl,h1⟩
    | succ j=>simp at hj; obtain ⟨o1,q1,q2⟩:=k2 j o hj; exact ⟨o1,by simpa using q1,q2⟩
  exact gen obs' os' hos
 have hnm:∀ (p:Nat) (i:Id) (o:Ob),(ids++newL base 0 m)[p]?=some i->os'[p]?=some o->o.own=true\/o ≠ .gone->μ2 i=μ' (.e p):=by
  intro p i o hp ho hg
  obtain ⟨o1,k1,k2⟩:=hosl.2 p o ho
  have hg1:o1 ≠ .gone:=by
   rintro rfl
   simp [Ob.aQ0] at k2; subst k2
   rcases hg with hg | hg
   ·cases hg
   ·exact hg rfl
  by_cases hlt:p < ids.length
  ·rw [List.getElem?_append_left hlt] at hp
   rw [hidμ i (List.mem_of_getElem? hp),hsame p o1 hlt k1 hg1]
   simp [muE,hp]
  ·rw [List.getElem?_append_right (by omega)] at hp
   obtain ⟨rfl,h2⟩:=rn0 hp
   show muJ ids base m μ μ' _=_
   simp only [muJ,Nat.zero_add]
   rw [if_pos ⟨trivial,h2⟩]
   congr 2; omega
 have hcase:∀ i o,hp2.lookup i=some o->(∃ p:Nat,(ids++newL base 0 m)[p]?=some i/\os'[p]?=some o)\/(i ∉ ids/\i ∉ newL base 0 m/\(o=.gone\/(hp.lookup i=some o/\∀ q,o.has q=true->q ∉ newL base 0 m))):=by
  intro i o h
  rw [List.lookup_append] at h
  cases e:(hpN (ids++newL base 0 m) os').lookup i with
  | some o' =>
   rw [e] at h; simp only [Option.some_or,Option.some.injEq] at h; subst h
   exact .inl (nT0 e)
  | none =>
   rw [e] at h; simp only [Option.none_or,fJ0] at h
   rw [fH0] at h
   split at h
   ·cases h
   ·rename_i hn
    rw [h80] at h
    split at h
    ·cases h
    ·rename_i hn2
     refine .inr ⟨by simpa using hn,by simpa using hn2,?_⟩
     cases hl:hp.lookup i with
     | none=>rw [hl] at h; cases h
     | some o' =>
      rw [hl] at h
      simp only [Option.map_some,Option.some.injEq] at h
      split at h
      ·exact .inl h.symm
      ·rename_i hq
       subst h
       exact .inr ⟨rfl,fun q hq' hm=>hq (List.any_eq_true.2 ⟨q,hm,hq'⟩)⟩
 have hcall:∀ b,Owns (hpE 0 obs') μ' b->b < w.heap.size->∃ i ∈ ids,∃ ob blk,hp.lookup i=some ob/\ob.own=true/\μ i=some blk/\blk.b=b :=
  fun b hO hb=>hown b (hN.own b hO hb)
 have hnames:∀ (p:Nat) (i:Id) (o:Ob) blk,(ids++newL base 0 m)[p]?=some i->os'[p]?=some o->o.own=true->μ2 i=some blk->Owns (hpE 0 obs') μ' blk.b:=by
  intro p i o blk hp ho hw hb
  obtain ⟨o1,k1,k2⟩:=hosl.2 p o ho
  exact ⟨.e p,o1,blk,by have:=hI0 obs' 0 p; rw [Nat.zero_add] at this; rw [this]; exact k1,by rw [<- Ob.cL0 k2]; exact hw,by rw [<- hnm p i o hp ho (.inl hw)]; exact hb,rfl⟩
 have hrest:∀ i o blk,i ∉ ids->hp.lookup i=some o->o.own=true->μ i=some blk->blk.b < w.heap.size/\¬ Owns (hpE 0 obs) (muE ids μ) blk.b:=by
  intro i o blk hi hl ho hb
  refine ⟨(hW.ob i o hl).lt ho hb,fun hO=>?_⟩
  obtain ⟨i',hi',ob,blk',k1,k2,k3,k4⟩:=hown _ hO
  have:=hW.inj i' i ob o blk' blk k1 k2 hl ho k3 hb k4
  subst this
  exact hi hi'
 have hfrz:∀ b cs,H b=some cs->¬ Owns (hpE 0 obs) (muE ids μ) b:=by
  intro b cs hb hO
  obtain ⟨i',hi',ob,blk',k1,k2,k3,rfl⟩:=hown _ hO
  rw [(hW.ob i' ob k1).kl0 k2 k3] at hb; cases hb
 have hnew0:∀ b cs,H' b=some cs->H b=none->b < w.heap.size->Owns (hpE 0 obs) (muE ids μ) b:=fun b cs h h0 hb=>(hN.fresh b cs h h0).resolve_left (by omega)
 refine ⟨⟨fun i o h=>?_,fun i j oi oj bi bj hi hoi hj hoj hbi hbj heq=>?_,hW'.imm,hW'.glo⟩,⟨⟨hN.imm,hN.os,hN.tape,hN.output,hN.size,fun b hb hno=>?_,fun b hO hb=>?_,fun b cs hb h0=>?_⟩,fun _=>rfl⟩,hback,fun v hv i hi=>hold i fun hn=>by rw [hv i hn] at hi; cases hi⟩
 ·rcases hcase i o h with ⟨p,hp1,hp2⟩ | ⟨h1,h2,rfl | ⟨h3,h4⟩⟩
  ·obtain ⟨o1,k1,k2⟩:=hosl.2 p o hp2
   by_cases hg:o=.gone
   ·subst hg; trivial
   ·have hO:=hW'.ob (.e p) o1 (by have:=hI0 obs' 0 p; rw [Nat.zero_add] at this; rw [this]; exact k1)
    exact ObOk.aQ0 (μ:=μ') (i:=.e p) (f:=back ids base obs') hback (hnm p i o hp1 hp2 (.inr hg)) hO k2
  ·trivial
  ·have hO:=hW.ob i o h3
   by_cases hg:o=.gone
   ·subst hg; trivial
   ·have hb0:∀ blk,μ i=some blk->blk.b < w.heap.size/\¬ Owns (hpE 0 obs) (muE ids μ) blk.b:=by
     intro blk hb
     cases ho:o.own with
     | true=>exact hrest i o blk h1 h3 ho hb
     | false =>
      have:=hO.kM0 ho hg hb
      cases hH:H blk.b with
      | none=>exact absurd hH this
      | some cs=>obtain ⟨ty,fz,e⟩:=hW.imm _ _ hH; exact ⟨(Array.getElem?_eq_some_iff.1 e).1,hfrz _ _ hH⟩
    refine hO.mono hN.imm (hold i h2) (fun q hq=>hold q (h4 q hq)) (fun blk hb=>hN.keep _ (hb0 blk hb).1 (hb0 blk hb).2) (fun ho blk hb=>?_)
    have hn:=hO.kl0 ho hb
    rw [hn]
    cases hH:H' blk.b with
    | none=>rfl
    | some cs=>exact absurd (hnew0 _ _ hH hn (hb0 blk hb).1) (hb0 blk hb).2
 ·rcases hcase i oi hi with ⟨p,hp1,hp2⟩ | ⟨h1,h2,rfl | ⟨h3,h4⟩⟩
  ·rcases hcase j oj hj with ⟨q,hq1,hq2⟩ | ⟨k1,k2,rfl | ⟨k3,k4⟩⟩
   ·obtain ⟨o1,e1,e2⟩:=hosl.2 p oi hp2
    obtain ⟨o2,f1,f2⟩:=hosl.2 q oj hq2
    have hbi':μ2 i=some bi:=hbi
    have hbj':μ2 j=some bj:=hbj
    rw [hnm p i oi hp1 hp2 (.inl hoi)] at hbi'
    rw [hnm q j oj hq1 hq2 (.inl hoj)] at hbj'
    have l1:=hI0 obs' 0 p
    have l2:=hI0 obs' 0 q
    rw [Nat.zero_add] at l1 l2
    have:=hW'.inj (.e p) (.e q) o1 o2 bi bj (by rw [l1]; exact e1) (by rw [<- Ob.cL0 e2]; exact hoi) (by rw [l2]; exact f1) (by rw [<- Ob.cL0 f2]; exact hoj) hbi' hbj' heq
    injection this with this
    subst this
    rw [hp1] at hq1; injection hq1
   ·cases hoj
   ·exfalso
    have hbj':μ j=some bj:=by rw [<- hold j k2]; exact hbj
    obtain ⟨m1,m2⟩:=hrest j oj bj k1 k3 hoj hbj'
    have:=hnames p i oi bi hp1 hp2 hoi hbi
    rw [heq] at this
    exact m2 (hN.own _ this m1)
  ·cases hoi
  ·rcases hcase j oj hj with ⟨q,hq1,hq2⟩ | ⟨k1,k2,rfl | ⟨k3,k4⟩⟩
   ·exfalso
    have hbi':μ i=some bi:=by rw [<- hold i h2]; exact hbi
    obtain ⟨m1,m2⟩:=hrest i oi bi h1 h3 hoi hbi'
    have:=hnames q j oj bj hq1 hq2 hoj hbj
    rw [<- heq] at this
    exact m2 (hN.own _ this m1)
   ·cases hoj
   ·exact hW.inj i j oi oj bi bj h3 hoi k3 hoj (by rw [<- hold i h2]; exact hbi) (by rw [<- hold j k2]; exact hbj) heq
 ·refine hN.keep b hb fun hO=>hno ?_
  obtain ⟨i,_,r⟩:=hown b hO
  exact ⟨i,r⟩
 ·obtain ⟨i,o,blk,h1,h2,h3,rfl⟩:=hO
  rcases hcase i o h1 with ⟨p,hp1,hp2⟩ | ⟨k1,k2,rfl | ⟨k3,k4⟩⟩
  ·obtain ⟨i',_,r⟩:=hcall _ (hnames p i o blk hp1 hp2 h2 h3) hb
   exact ⟨i',r⟩
  ·cases h2
  ·exact ⟨i,o,blk,k3,h2,by rw [<- hold i k2]; exact h3,rfl⟩
 ·rcases hN.fresh b cs hb h0 with h | h
  ·exact .inl h
  ·obtain ⟨i,_,r⟩:=hown b h
   exact .inr ⟨i,r⟩
end Go.Am
end

section
namespace Go.Am
variable {P:Program} {n:Sz} {H:Imm} {μ:Mu} {env:Env} {hp:Hp} {a:Act} {w:World}
theorem mz0 {g:Nat} {caps:List V} {y:Value} (h:R H μ (.fn g caps) y):∃ cv:Array Value,y=.func (.func g) #[] cv/\RL H μ caps cv:=by
 cases h with
 | fn _ _ vs hn hr=>exact ⟨vs,rfl,hn,hr⟩
theorem RL.append {xs ys:List V} {us vs:Array Value} (h:RL H μ xs us) (k:RL H μ ys vs):RL H μ (xs++ys) (us++vs):=by
 refine ⟨by simp [h.1,k.1],fun j v hj=>?_⟩
 rw [List.getElem?_append] at hj
 rw [Array.getD_eq_getD_getElem?]
 split at hj
 ·rename_i hlt
  rw [Array.getElem?_append_left (by rw [h.1]; exact hlt),<- Array.getD_eq_getD_getElem?]; exact h.2 j v hj
 ·rename_i hge
  rw [Array.getElem?_append_right (by rw [h.1]; omega),<- Array.getD_eq_getD_getElem?,h.1]; exact k.2 _ v hj
def fB0 (env:Env) (hp:Hp) (ids:List Id) (base:Nat) (v:V) (obs:List Ob) (K:V->Env->Hp->Prop):Prop :=
 (newL base 0 (obs.length - ids.length)).all (fun i=>!ids.contains i)=true/\∃ v' os',v.aQ0 (back ids base obs)=some v'/\obs.mapM (Ob.aQ0 (back ids base obs))=some os' /\
  K v' (Env.dg0 (newL base 0 (obs.length - ids.length)) env) (hpN (ids++newL base 0 (obs.length - ids.length)) os'++fJ0 ids (Hp.dg0 (newL base 0 (obs.length - ids.length)) hp))
def callX (P:Program) (env:Env) (hp:Hp) (d:Option Nat) (f:Operand) (xs:List Operand) (K:Env->Hp->Prop) (Kp:V->Hp->Prop):Prop :=
 ∃ g caps vs ids nl,Env.ev env f=some (.fn g caps)/\xs.mapM (Env.ev env)=some vs/\ids.Nodup /\
  V.seeL nl ids (Hp.frz (.tup (V.bq0 ids (vs++caps++boxes hp ids))) hp) (vs++caps) fun us=>∃ args,V.fA0 (toE ids 0) us=some args /\
   eZ0 ids (Hp.frz (.tup (V.bq0 ids (vs++caps++boxes hp ids))) hp) ids fun obs=>J P g args obs fun r=>match r with
    | .ret v obs'=>∃ base,(d=some base\/obs'.length<=ids.length)/\fB0 env (Hp.frz (.tup (V.bq0 ids (vs++caps++boxes hp ids))) hp) ids base v obs' fun v' env' hp'=>K (env'.put d v') hp'
    | .pan v obs'=>fB0 env (Hp.frz (.tup (V.bq0 ids (vs++caps++boxes hp ids))) hp) ids 0 v obs' fun v' _ hp'=>Kp v' hp'
theorem Sat.join {H':Imm} {μ':Mu} {w':World} {ids:List Id} {base:Nat} {obs obs':List Ob} {v:V} {x:Value} {K:V->Env->Hp->Prop} (hS:Sat n H μ env hp a w) (hnd:ids.Nodup)
  (hown:∀ b,Owns (hpE 0 obs) (muE ids μ) b->∃ i ∈ ids,∃ ob blk,hp.lookup i=some ob/\ob.own=true/\μ i=some blk/\blk.b=b)
  (hN:Nj H (muE ids μ) (hpE 0 obs) w H' μ' (hpE 0 obs') w') (hW':Wd H' μ' (hpE 0 obs') w') (hlen:ids.length<=obs'.length)
  (hsame:∀ (j:Nat) (o:Ob),j < ids.length->obs'[j]?=some o->o ≠ .gone->μ' (.e j)=muE ids μ (.e j)) (hr:R H' μ' v x) (h:fB0 env hp ids base v obs' K) :
  ∃ v' env' hp' μ2,K v' env' hp'/\R H' μ2 v' x/\Sat n H' μ2 env' hp' a w'/\Nx H μ hp w H' μ2 hp' w'/\∀ d,(d=some base\/obs'.length<=ids.length)->Same d μ μ2:=by
 obtain ⟨h1,v',os',h2,h3,h4⟩:=h
 obtain ⟨k1,k2,k3,k4⟩:=Wd.join hS.wd hnd hown hN hW' hlen hsame (fun q hq hm=>by
  rw [List.all_eq_true] at h1
  have:=h1 _ (ro0 (base:=base) (k:=0) (Nat.zero_le q) (by omega))
  simp at this; exact this hm) h3
 refine ⟨v',_,_,_,h4,R.aQ0 k3 hr h2,⟨hS.defers,hS.size,fun s u hu=>?_,k1⟩,k2,fun d hd i hi=>?_⟩
 rotate_left
 ·cases i with
  | e k=>rfl
  | l s q =>
   simp only [muJ]
   split
   ·rename_i hc
    rcases hd with rfl | hd
    ·simp [Id.at,hc.1] at hi
    ·omega
   ·rfl
 rw [kQ0] at hu
 cases hl:env.lookup s with
 | none=>rw [hl] at hu; cases hu
 | some u0 =>
  rw [hl] at hu
  simp only [Option.map_some,Option.some.injEq] at hu
  split at hu
  ·subst hu; exact .any _
  ·rename_i hn
   subst hu
   refine (hS.env s u0 hl).mono hN.imm (k4 u0 fun i hi=>?_)
   cases e:u0.has i with
   | false=>rfl
   | true=>exact absurd (List.any_eq_true.2 ⟨i,hi,e⟩) hn
theorem on0 {o:Oper} {c:Call} {f:Operand} {K:Env->Hp->Prop} {Kp:V->Hp->Prop} (ho:o.op=.call c) (hcal:c.callee=.value f) (hd:∀ s,o.dst=some s->s < n)
  (h:callX P env hp o.dst f c.args.toList K Kp):OpT P n o env hp K Kp:=by
 intro H μ a w Q hS hQ
 obtain ⟨g,caps,vs,ids,nl,hf,hv,hnd,h⟩:=h
 obtain ⟨cv,ef,hcv⟩:=mz0 (ch0 hS hf)
 have hargs:=lp0 (rho hS) c.args.toList vs hv
 simp only [Array.toArray_toList] at hargs
 obtain ⟨H1,hle,hS1,hx1⟩:=hS.frz (.tup (V.bq0 ids (vs++caps++boxes hp ids)))
 have hall:=hargs.append hcv
 obtain ⟨us,⟨args,hm,hh⟩,hlen,hr⟩:=iY0 hS1.wd (cs:=vs++caps) (vals:=c.args.map a.eval++cv) (off:=0) (by rw [hall.1]; omega)
  (fun j v hj=>by rw [Nat.zero_add]; exact (hall.2 j v hj).le hle) h
 obtain ⟨obs,hJ,hol,hob⟩:=mf0 hS1.wd hh
 obtain ⟨hWc,hown⟩:=Handed.wd (ids:=ids) (obs:=obs) ⟨by omega,hob⟩ hS1.wd hnd
 obtain ⟨m1,m2⟩:=dO0 hm
 have hRL:RL H1 (muE ids μ) args (c.args.map a.eval++cv):=⟨by rw [hall.1,m1,hlen],fun j u hj=>by
  obtain ⟨v,q1,q2⟩:=m2 j u hj
  have:=hr j v q1
  rw [Nat.zero_add] at this
  exact this.aQ0 (fun i i' h=>oJ0 h) q2⟩
 have hcall:=hJ H1 (muE ids μ) (c.args.map a.eval++cv) w hRL hWc
 have hrun:(execOp a.eval o).run P w=(callFunc g (c.args.map a.eval++cv)).run P w:=by
  simp [execOp,ho,resolve,hcal,ef,Deferred.ofValue,invoke]
 unfold Oper.wp
 rw [hrun]
 have good:∀ e w',(∃ r H' μ',(match (generalizing:=false) r with
    | .ret v obs'=>∃ base,(o.dst=some base\/obs'.length<=ids.length)/\fB0 env (Hp.frz (.tup (V.bq0 ids (vs++caps++boxes hp ids))) hp) ids base v obs' fun v' env' hp'=>K (env'.put o.dst v') hp'
    | .pan v obs'=>fB0 env (Hp.frz (.tup (V.bq0 ids (vs++caps++boxes hp ids))) hp) ids 0 v obs' fun v' _ hp'=>Kp v' hp')/\JP H1 (muE ids μ) obs.length (hpE 0 obs) w r e H' μ' w') ->
   (match (generalizing:=false) e with
    | .returned v=>∃ env' hp' H' μ',K env' hp'/\Sat n H' μ' env' hp' (a.put o.dst v) w'/\Nx H μ hp w H' μ' hp' w'/\Same o.dst μ μ'
    | .panicked chain=>Q (.panic chain) a w'
    | .outgrown=>False):=by
  rintro e w' ⟨r,H',μ',hq,hjp⟩
  cases r with
  | ret v obs' =>
   obtain ⟨⟨x,rfl,hx⟩,q2,q3,q4,q5⟩:=hjp
   obtain ⟨base,hbase,hq⟩:=hq
   rw [hol] at q4 q5
   obtain ⟨v',env',hp',μ2,p1,p2,p3,p4,p5⟩:=Sat.join hS1 hnd hown q2 q3 q4 q5 hx hq
   exact ⟨_,hp',H',μ2,p1,p3.put hd p2,hx1.trans p4,p5 _ hbase⟩
  | pan v obs' =>
   obtain ⟨⟨x,rfl,hx⟩,q2,q3,q4,q5⟩:=hjp
   rw [hol] at q4 q5
   obtain ⟨v',env',hp',μ2,p1,p2,p3,p4,p5⟩:=Sat.join hS1 hnd hown q2 q3 (by omega) q5 hx hq
   exact hQ v' x hp' H' μ2 w' p1 p2 (hx1.trans p4) p3.wd (p5 _ (.inr (by omega)))
 unfold dG0 at hcall
 split at hcall
 ·rename_i g' av w' hr
  rw [hr]
  refine Calls.mono hcall fun e w'' he=>?_
  have:=good e w'' he
  cases e with
  | returned v=>exact this
  | panicked ch=>exact this
  | outgrown=>exact this.elim
 ·rename_i v w' hr
  rw [hr]
  exact good _ _ hcall
 ·rename_i v w' hr
  rw [hr]
  exact good _ _ hcall
 ·exact hcall.elim
end Go.Am
end

section
namespace Go.Am
variable {P:Program} {n:Sz} {H:Imm} {μ:Mu} {env:Env} {hp:Hp} {a:Act} {w:World}
def idxFrom:Nat->List Value->List (Nat × Value)
 | _,[]=>[]
 | k,v :: vs=>(k,v) :: idxFrom (k + 1) vs
theorem nP0 {ρ:Operand->Value}:∀ {ps:List (Nat × Operand)} {k:Nat},ps.map (·.1)=List.range' k ps.length->ps.map (fun p=>(p.1,ρ p.2))=idxFrom k ((ps.map (·.2)).map ρ)
 | [],k,h=>rfl
 | p :: ps,k,h=>by
  simp only [List.map_cons,List.length_cons,List.range'_succ,List.cons.injEq] at h
  simp only [List.map_cons,idxFrom,h.1]
  rw [nP0 h.2]
theorem q80 (sz:Nat):∀ (vs:List Value) (k:Nat) (cells:Array Value),(∀ v ∈ vs,v.cells.size=sz)->(k + vs.length) * sz<=cells.size ->
  ∃ out,Instr.fill (fun i=>some (i * sz,sz)) cells (idxFrom k vs)=some out/\out.size=cells.size/\(∀ p,p < k * sz->out.getD p undef=cells.getD p undef) /\
   ∀ (j:Nat) (v:Value) (q:Nat),vs[j]?=some v->q < sz->out.getD ((k + j) * sz + q) undef=v.cells.getD q undef
 | [],k,cells,_,_=>⟨cells,rfl,rfl,fun _ _=>rfl,fun j v q h=>by simp at h⟩
 | v :: vs,k,cells,hs,hl=>by
  have hv:=hs v (by simp)
  have hk1:k * sz + sz<=cells.size:=by
   have:(k + 1) * sz<=(k + (v :: vs).length) * sz:=Nat.mul_le_mul_right _ (by simp)
   rw [Nat.add_mul] at this; omega
  obtain ⟨out,h1,h2,h3,h4⟩:=q80 sz vs (k + 1) (putCells (k * sz) cells v.cells) (fun u hu=>hs u (by simp [hu])) (by rw [ib0]; simpa [Nat.add_assoc,Nat.add_comm 1] using hl)
  refine ⟨out,?_,by rw [h2,ib0],fun p hp=>?_,fun j u q hj hq=>?_⟩
  ·simp only [idxFrom,Instr.fill,hv]
   rw [if_neg (by simp; omega)]
   exact h1
  ·rw [h3 p (by rw [Nat.add_mul]; omega),iI0 (k * sz) cells v.cells (by omega),if_neg (by omega)]
  ·cases j with
   | zero =>
    simp only [List.getElem?_cons_zero,Option.some.injEq] at hj; subst hj
    rw [Nat.add_zero,h3 _ (by rw [Nat.add_mul]; omega),iI0 (k * sz) cells v.cells (by omega),if_pos (by omega)]
    congr 1; omega
   | succ j =>
    simp only [List.getElem?_cons_succ] at hj
    have:=h4 j u q hj hq
    rwa [show k + 1 + j=k + (j + 1) by omega] at this
def mkrowV (env:Env) (hp:Hp) (s ty sz:Nat) (xs:List Operand) (K:Env->Hp->Prop):Prop :=
 ∃ vs,xs.mapM (Env.ev env)=some vs/\V.seeL false [] (Hp.frz (.tup vs) hp) vs fun us=>∃ els,us.mapM V.cells=some els/\els.all (fun e=>e.length == sz && scalars e && V.bt0 e)=true /\
  K ((Env.kill (.l s 0) env).put (some s) (.arr (.l s 0) 0 els.length)) ((.l s 0,.row ty sz true els) :: Hp.kill (.l s 0) (Hp.frz (.tup vs) hp))
theorem jj0:∀ {us:List V} {els:List (List V)},us.mapM V.cells=some els->els.length=us.length/\∀ (j:Nat) (e:List V),els[j]?=some e->∃ u,us[j]?=some u/\u.cells=some e
 | [],els,h=>by simp at h; subst h; exact ⟨rfl,fun j e hj=>by simp at hj⟩
 | u :: us,els,h=>by
  simp only [List.mapM_cons,Option.bind_eq_bind,Option.bind_eq_some_iff,Option.pure_def,Option.some.injEq] at h
  obtain ⟨e,h1,es,h2,rfl⟩:=h
  obtain ⟨k1,k2⟩:=jj0 h2
  refine ⟨by simp [k1],fun j e' hj=>?_⟩
  cases j with
  | zero=>simp at hj; subst hj; exact ⟨u,rfl,h1⟩
  | succ j=>simp at hj; obtain ⟨v,q1,q2⟩:=k2 j e' hj; exact ⟨v,by simpa using q1,q2⟩
theorem row_block {t e m:Nat} {inf:TypeInfo} {z:List V} {ps:Array (Nat × Operand)} {o:Oper} (ho:o.op=.buildSlice t m ps) (ht:P.underlying t=some (.slice e)) (hi:P.info? e=some inf) (hz:zeroCells P e=some z)
  (hm:m * inf.size<=2 ^ 24) (hpos:0 < inf.size) (hidx:ps.toList.map (·.1)=List.range' 0 m) (hsz:∀ x ∈ ps.toList.map (·.2),(a.eval x).cells.size=inf.size) :
  ∃ out,(execOp a.eval o).run P w=.ok (.value (.slice (some ⟨w.heap.size,0,none⟩) m m)) (w.alloc (.cells out e))/\out.size=m * inf.size /\
   ∀ (j:Nat) (x:Operand) (q:Nat),(ps.toList.map (·.2))[j]?=some x->q < inf.size->out.getD (j * inf.size + q) undef=(a.eval x).cells.getD q undef:=by
 have hlen:ps.toList.length=m:=by have:=congrArg List.length hidx; simpa using this
 obtain ⟨inf',v,hi',hiz,hzr⟩:=fO0 hz (fun _=>none) Mu.bot
 rw [hi] at hi'; injection hi' with hi'; subst hi'
 have hpm:(ps.map (fun (p:Nat × Operand)=>(p.1,a.eval p.2))).toList=idxFrom 0 ((ps.toList.map (·.2)).map a.eval):=by
  rw [Array.toList_map]
  exact nP0 (by rw [hidx,hlen])
 have hv:∀ zero:Array Value,∃ out,Instr.fill (fun i=>some (i * inf.size,inf.size)) ((Array.range (m * inf.size)).map (zero[· % zero.size]!)) (ps.map (fun (p:Nat × Operand)=>(p.1,a.eval p.2))).toList=some out/\out.size=m * inf.size /\
   ∀ (j:Nat) (x:Operand) (q:Nat),(ps.toList.map (·.2))[j]?=some x->q < inf.size->out.getD (j * inf.size + q) undef=(a.eval x).cells.getD q undef:=by
  intro zero
  obtain ⟨out,h1,h2,h3,h4⟩:=q80 inf.size ((ps.toList.map (·.2)).map a.eval) 0 ((Array.range (m * inf.size)).map (zero[· % zero.size]!)) (fun u hu=>by
   obtain ⟨x,hx,rfl⟩:=List.mem_map.1 hu; exact hsz x hx) (by simp [hlen])
  refine ⟨out,by rw [hpm]; exact h1,by rw [h2]; simp,fun j x q hj hq=>?_⟩
  have:=h4 j (a.eval x) q (by rw [List.getElem?_map,hj]; rfl) hq
  rwa [Nat.zero_add] at this
 by_cases hn:m * inf.size=0
 ·obtain ⟨out,h1,h2,h3⟩:=hv #[]
  refine ⟨out,?_,h2,h3⟩
  have hcond:¬ (2 ^ 24 < m * inf.size):=by omega
  have h1':Instr.fill (fun i=>some (i * inf.size,inf.size)) (Array.map (fun x=>(#[]:Array Value)[x % (#[]:Array Value).size]!) (Array.range 0)) (ps.map (fun (p:Nat × Operand)=>(p.1,a.eval p.2))).toList=some out:=by rw [<- hn]; exact h1
  simp only [execOp,ho,Instr.buildSlice]
  simp [run_underlying ht,sizeOf,typeInfo,hi,hn,newRow,World.alloc_eq]
  simp at h1'
  simp [h1',newRow,World.alloc_eq]
 ·obtain ⟨out,h1,h2,h3⟩:=hv v.cells
  refine ⟨out,?_,h2,h3⟩
  have hcond:¬ (2 ^ 24 < m * inf.size):=by omega
  simp only [execOp,ho,Instr.buildSlice]
  simp at h1
  simp [run_underlying ht,sizeOf,typeInfo,hi,hn,bL0 hi hiz,newRow,World.alloc_eq]
  simp [h1,newRow,World.alloc_eq]
  omega
theorem out_cells {e:List V} {out:Array Value} {off:Nat} {c:Array Value} (h:RL H μ e c) (hp:V.bt0 e=true) (hle:off + e.length<=out.size) (hget:∀ q,q < e.length->out.getD (off + q) undef=c.getD q undef) (H':Imm) (hH:Imm.le H H'):Cells H' Mu.bot e out off:=by
 intro j v hj
 have hjl:j < e.length:=(List.getElem?_eq_some_iff.1 hj).1
 have hlt:off + j < out.size:=by omega
 refine ⟨out[off + j],Array.getElem?_eq_getElem hlt,?_⟩
 have:=hget j hjl
 rw [Array.getD_eq_getD_getElem?,Array.getElem?_eq_getElem hlt] at this
 simp only [Option.getD_some] at this
 rw [this]
 exact ((h.2 j v hj).pure (V.e80 hj hp) Mu.bot).le hH
theorem row_ob {m sz b:Nat} {ty:TypeId} {els:List (List V)} {us:List V} {xs:List Operand} {out:Array Value} {w':World} {i:Id} {μ':Mu} (hpos:0 < sz) (hmax:m<=maxLen) (hel:us.mapM V.cells=some els) (hall:els.all (fun e=>e.length == sz && scalars e && V.bt0 e)=true)
  (hul:us.length=xs.length) (hm:xs.length=m) (hus:∀ (j:Nat) (v:V),us[j]?=some v->R H μ v ((xs.map a.eval).toArray.getD j undef)) (hout:out.size=m * sz)
  (hget:∀ (j:Nat) (x:Operand) (q:Nat),xs[j]?=some x->q < sz->out.getD (j * sz + q) undef=(a.eval x).cells.getD q undef) (hb:w'.heap[b]?=some (.cells out ty (0,0))) (hH:H b=none) (hμ:μ' i=some ⟨b,sz,m⟩) :
  ObOk H μ' w' i (.row ty sz true els):=by
 obtain ⟨k1,k2⟩:=jj0 hel
 rw [List.all_eq_true] at hall
 have hat:∀ (k:Nat) (e:List V),els[k]?=some e->e.length=sz/\scalars e=true/\V.bt0 e=true:=fun k e he=>by
  have:=hall e (List.mem_of_getElem? he)
  simpa [and_assoc] using this
 have hel':els.length=m:=by omega
 have fin:(∀ (k:Nat) (e:List V),els[k]?=some e->Cells H Mu.bot e out (k * sz))->ObOk H μ' w' i (.row ty sz true els):=fun hcl=>by
  refine .inr ⟨_,out,hμ,⟨rfl,hmax,fun _=>?_⟩,hb,hout,(by show els.length<=m; omega),fun k e he=>⟨(hat k e he).1,(hat k e he).2.1⟩,fun _=>hH,(fun e=>by cases e),hcl⟩
  have:=One.list (kV0 (H:=H) (xs:=els) (vals:=out.toList) hpos (by simp [hout,hel']) (fun k e he=>⟨(hat k e he).1,(hat k e he).2.1⟩) fun k e j u he hj=>by
   obtain ⟨y,y1,y2⟩:=hcl k e he j u hj
   exact ⟨y,by simpa using y1,y2⟩)
  simpa using this
 refine fin fun k e he=>?_
 obtain ⟨u,hu,hc⟩:=k2 k e he
 have hk:k < xs.length:=by have:=(List.getElem?_eq_some_iff.1 hu).1; omega
 have hx:xs[k]?=some xs[k]:=List.getElem?_eq_getElem hk
 have hr:=hus k u hu
 have hr':R H μ u (a.eval xs[k]):=by simpa [Array.getD_eq_getD_getElem?,hk] using hr
 have hle:k * sz + sz<=m * sz:=by
  have:(k + 1) * sz<=m * sz:=Nat.mul_le_mul_right _ (by omega)
  rw [Nat.add_mul] at this; omega
 exact out_cells (hr'.cells hc) (hat k e he).2.2 (by rw [(hat k e he).1,hout]; exact hle) (fun q hq=>hget k _ q hx (by rw [<- (hat k e he).1]; exact hq)) H (Imm.le_refl H)
theorem row_sizes {els:List (List V)} {us:List V} {xs:List Operand} {sz:Nat} (hel:us.mapM V.cells=some els) (hall:els.all (fun e=>e.length == sz && scalars e && V.bt0 e)=true) (hul:us.length=xs.length)
  (hus:∀ (j:Nat) (v:V),us[j]?=some v->R H μ v ((xs.map a.eval).toArray.getD j undef)):∀ x ∈ xs,(a.eval x).cells.size=sz:=by
 intro x hx
 obtain ⟨j,hj⟩:=List.mem_iff_getElem?.1 hx
 have hjl:j < xs.length:=(List.getElem?_eq_some_iff.1 hj).1
 obtain ⟨k1,k2⟩:=jj0 hel
 have hje:j < els.length:=by omega
 have he:els[j]?=some els[j]:=List.getElem?_eq_getElem hje
 obtain ⟨u,hu,hc⟩:=k2 j _ he
 have hr:=hus j u hu
 have hr':R H μ u (a.eval x):=by
  have:(xs.map a.eval).toArray.getD j undef=a.eval x:=by simp [Array.getD_eq_getD_getElem?,hj]
  rwa [this] at hr
 rw [List.all_eq_true] at hall
 have:=hall _ (List.mem_of_getElem? he)
 simp only [Bool.and_eq_true,beq_iff_eq] at this
 rw [(hr'.cells hc).1,this.1.1]
theorem mkrow_ok {o:Oper} {t e m:TypeId} {inf:TypeInfo} {z:List V} {ps:Array (Nat × Operand)} {s:Nat} {K:Env->Hp->Prop} (ho:o.op=.buildSlice t m ps) (hd:o.dst=some s) (hs:s < n) (ht:P.underlying t=some (.slice e)) (hi:P.info? e=some inf) (hz:zeroCells P e=some z)
  (hm:m * inf.size<=2 ^ 24) (hmax:m<=maxLen) (hpos:0 < inf.size) (hidx:ps.toList.map (·.1)=List.range' 0 m) (h:mkrowV env hp s e inf.size (ps.toList.map (·.2)) K):cG0 P n o env hp K:=by
 intro H μ a w hS
 obtain ⟨vs,hv,h⟩:=h
 obtain ⟨H1,hle,hS1,hx1⟩:=hS.frz (.tup vs)
 have hargs:=lp0 (rho hS) (ps.toList.map (·.2)) vs hv
 have hsz0:(((ps.toList.map (·.2)).map a.eval).toArray).size=vs.length:=by simpa using hargs.1
 obtain ⟨us,⟨els,h1,h2,h3⟩,hlen,hr⟩:=iY0 hS1.wd (cs:=vs) (vals:=((ps.toList.map (·.2)).map a.eval).toArray) (off:=0) (by omega)
  (fun j v hj=>by rw [Nat.zero_add]; have:=(hargs.2 j v hj).le hle; simpa using this) h
 have hl2:us.length=(ps.toList.map (·.2)).length:=by rw [hlen,<- hsz0]; simp
 have hpl:ps.toList.length=m:=by have:=congrArg List.length hidx; simpa using this
 have hr':∀ (j:Nat) (v:V),us[j]?=some v->R H1 μ v (((ps.toList.map (·.2)).map a.eval).toArray.getD j undef):=fun j v hj=>by have:=hr j v hj; rwa [Nat.zero_add] at this
 obtain ⟨out,k1,k2,k3⟩:=row_block (P:=P) (w:=w) ho ht hi hz hm hpos hidx (row_sizes h1 h2 hl2 hr')
 have hem:els.length=m:=by rw [(jj0 h1).1,hl2,List.length_map,hpl]
 obtain ⟨g1,g2⟩:=hS1.new (d:=some s) (i:=.l s 0) (ob:=.row e inf.size true els) (bo:=.cells out e) (blk:=⟨w.heap.size,inf.size,m⟩) (v:=.arr (.l s 0) 0 els.length)
  (x:=.slice (some ⟨w.heap.size,0,none⟩) m m) (fun q e=>by injection e with e; omega) rfl
  (row_ob (μ:=μ) (m:=m) (b:=w.heap.size) hpos hmax h1 h2 hl2 (by rw [List.length_map,hpl]) hr' k2 k3 (heap_alloc_new w _) (kj0 hS1.wd) (Mu.aS0 _ _ _))
  (by rw [hem]; exact .arr _ _ _ _ _ (Nat.le_refl _) (.inr ⟨_,Mu.aS0 _ _ _,by simp,by simp⟩))
 exact ⟨_,_,H1,_,_,_,h3,.inl k1,by rw [hd]; exact g1,hx1.trans g2,.set hd fun j hj=>Mu.bz0 _ _ hj⟩
end Go.Am
end

section
namespace Go.Am
variable {P:Program} {n:Sz} {H:Imm} {μ:Mu} {env:Env} {hp:Hp} {a:Act} {w:World}
def pC0:V->(Bool->Prop)->Prop
 | .nil,K=>K true
 | .lst xs,K=>K false/\(xs=[]\/xs[0]?=some []->K true)
 | .arr _ _ n,K=>K false/\(n=0->K true)
 | _,_=>False
theorem isnlV_ok {v:V} {x:Value} {K:Bool->Prop} (hr:R H μ v x) (h:pC0 v K):∃ ad l c,x=.slice ad l c/\K ad.isNone:=by
 cases hr with
 | nil=>exact ⟨none,0,0,rfl,h⟩
 | lst xs sz ad m cap cv hn hc hs hm hr =>
  refine ⟨ad,m,cap,rfl,?_⟩
  cases ad with
  | some b=>exact h.1
  | none =>
   refine h.2 ?_
   cases xs with
   | nil=>exact .inl rfl
   | cons e xs =>
    cases e with
    | nil=>exact .inr rfl
    | cons u e =>
     obtain ⟨b,off,cs,h1,_⟩:=hm 0 (u :: e) 0 u rfl rfl
     cases h1
 | arr i o m ad cap hc hb =>
  refine ⟨ad,m,cap,rfl,?_⟩
  cases ad with
  | some b=>exact h.1
  | none =>
   refine h.2 ?_
   rcases hb with rfl | ⟨blk,_,h2,_⟩
   ·omega
   ·cases h2
 | _=>exact h.elim
theorem isnl_ok {o:Oper} {ng:Bool} {t e:TypeId} {x y:Operand} {yt:TypeId} {v:V} {K:Env->Hp->Prop} (ho:o.op=.binOp (if ng then .neq else .eql) t x y yt) (hd:∀ s,o.dst=some s->s < n) (ht:P.underlying t=some (.slice e)) (hy:rd0 y=true) (hv:Env.ev env x=some v)
  (h:pC0 v fun b=>K (env.put o.dst (.c (.bool (if ng then !b else b)))) hp):cG0 P n o env hp K:=by
 intro H μ a w hS
 obtain ⟨ad,l,c,hx,hk⟩:=isnlV_ok (ch0 hS hv) h
 have hy':a.eval y=.slice none 0 0:=by
  unfold rd0 at hy
  split at hy
  ·rfl
  ·cases hy
 refine ⟨_,hp,H,μ,.bool (if ng then !ad.isNone else ad.isNone),w,hk,.inl ?_,hS.put hd (.c _),Nx.refl H μ hp w,.refl _ _⟩
 cases ng with
 | true=>simp only [if_true] at ho ⊢; simp [execOp,ho,hx,hy',eqGuard,run_neq_slice_nil w t e ad l c ht]
 | false =>
  simp only [Bool.false_eq_true,if_false] at ho ⊢
  have:(binOp .eql t (.slice ad l c) (.slice none 0 0)).run P w=.ok (.bool ad.isNone) w:=by simp [binOp,run_equal_slice_nil w t e ad l c ht]
  simp [execOp,ho,hx,hy',eqGuard,this]
def capV:V->(Int->Prop)->Prop
 | .nil,K=>K 0
 | .lst xs,K=>∀ c:Nat,xs.length<=c->K c
 | .arr _ _ n,K=>∀ c:Nat,n<=c->K c
 | .arc _ _ _ c,K=>K c
 | _,_=>False
theorem capn_ok {o:Oper} {t e:TypeId} {x:Operand} {v:V} {K:Env->Hp->Prop} (ho:o.op=.call { callee:=.builtin .cap,args:=#[x],argTypes:=#[t] }) (hd:∀ s,o.dst=some s->s < n) (ht:P.underlying t=some (.slice e)) (hv:Env.ev env x=some v)
  (h:capV v fun c=>K (env.put o.dst (.c (.int .i64 c))) hp):cG0 P n o env hp K:=by
 intro H μ a w hS
 have hx:∃ ad l c,a.eval x=.slice ad l c/\K (env.put o.dst (.c (.int .i64 (c:Int)))) hp:=by
  have hr:=ch0 hS hv
  generalize a.eval x=z at hr
  cases hr with
  | nil=>exact ⟨_,_,_,rfl,h⟩
  | lst xs sz ad m cap cv hn hc hs hm hr=>exact ⟨ad,m,cap,rfl,h cap (by omega)⟩
  | arr i o m ad cap hc hb=>exact ⟨ad,m,cap,rfl,h cap hc⟩
  | arc i o m c ad hc hb=>exact ⟨ad,m,c,rfl,h⟩
  | _=>exact h.elim
 obtain ⟨ad,l,c,hx,hk⟩:=hx
 exact ⟨_,hp,H,μ,.int .i64 c,w,hk,.inl (by simp [execOp,ho,resolve,invoke,builtin,hx,Builtin.cap_,goInt,run_underlying ht]),hS.put hd (.c _),Nx.refl H μ hp w,.refl _ _⟩
end Go.Am
end

section
namespace Go.Am
open Go.MapKept
variable {P:Program} {n:Sz} {H:Imm} {μ:Mu} {env:Env} {hp:Hp} {a:Act} {w:World}
theorem Wd.chg {i:Id} {o o':Ob} {blk:Blk} {w':World} (hW:Wd H μ hp w) (hl:hp.lookup i=some o) (ho:o.own=true) (hb:μ i=some blk) (ho':o'.own=true)
  (hos:w'.os=w.os) (htp:w'.tape=w.tape) (hop:w'.output=w.output) (hsz:w'.heap.size=w.heap.size) (hoth:∀ b,b ≠ blk.b->w'.heap[b]?=w.heap[b]?) (hO:ObOk H μ w' i o') :
  Wd H μ (Hp.set i o' hp) w'/\Nx H μ hp w H μ (Hp.set i o' hp) w':=by
 have hHb:=(hW.ob i o hl).kl0 ho hb
 have hcase:∀ j q,(Hp.set i o' hp).lookup j=some q->(j=i/\q=o')\/(j ≠ i/\hp.lookup j=some q):=by
  intro j q h
  rw [bx0] at h
  cases hj:hp.lookup j with
  | none=>rw [hj] at h; cases h
  | some q' =>
   rw [hj] at h
   simp only [Option.map_some,Option.some.injEq] at h
   split at h
   ·exact .inl ⟨by assumption,h.symm⟩
   ·subst h; exact .inr ⟨by assumption,rfl⟩
 refine ⟨⟨fun j q h=>?_,fun j k oj ok bj bk hj hoj hk hok hbj hbk heq=>?_,fun b cs h=>?_,hW.glo⟩,⟨⟨Imm.le_refl H,hos,htp,hop,by omega,fun b hb' hno=>hoth b fun e=>hno ⟨i,o,blk,hl,ho,hb,e.symm⟩,fun b hO' hb'=>?_,fr0⟩,fun _=>rfl⟩⟩
 ·rcases hcase j q h with ⟨rfl,rfl⟩ | ⟨hne,h'⟩
  ·exact hO
  ·have hq:=hW.ob j q h'
   by_cases hg:q=.gone
   ·subst hg; trivial
   ·refine hq.mono (Imm.le_refl H) rfl (fun _ _=>rfl) (fun bq hbq=>hoth _ fun e=>?_) (fun _ _ _=>rfl)
    cases hqo:q.own with
    | true=>exact hne (hW.inj j i q o bq blk h' hqo hl ho hbq hb e)
    | false=>exact hq.kM0 hqo hg hbq (by rw [e]; exact hHb)
 ·rcases hcase j oj hj with ⟨rfl,rfl⟩ | ⟨h1,h2⟩ <;> rcases hcase k ok hk with ⟨rfl,rfl⟩ | ⟨h3,h4⟩
  ·rfl
  ·exact hW.inj _ k o ok bj bk hl ho h4 hok hbj hbk heq
  ·exact hW.inj j _ oj o bj bk h2 hoj hl ho hbj hbk heq
  ·exact hW.inj j k oj ok bj bk h2 hoj h4 hok hbj hbk heq
 ·obtain ⟨ty',fz,h1⟩:=hW.imm b cs h
  exact ⟨ty',fz,by rw [hoth b fun e=>by subst e; rw [hHb] at h; cases h]; exact h1⟩
 ·obtain ⟨j,q,bq,h1,h2,h3,h4⟩:=hO'
  rcases hcase j q h1 with ⟨rfl,rfl⟩ | ⟨h5,h6⟩
  ·exact ⟨j,o,bq,hl,ho,h3,h4⟩
  ·exact ⟨j,q,bq,h6,h2,h3,h4⟩
theorem ObOk.seg {i:Id} {ty sz o:Nat} {xs es:List (List V)} {blk:Blk} {cur:Array Value} {news:List Value} (hpos:0 < sz) (hb:μ i=some blk) (hO:ObOk H μ w i (.row ty sz true xs)) (hh:w.heap[blk.b]?=some (.cells cur ty (0,0)))
  (hle:o + es.length<=xs.length) (hl:news.length=es.length * sz) (h1:∀ u ∈ news,u.oneCell'=true) (hes:∀ (k:Nat) (e:List V),es[k]?=some e->e.length=sz/\scalars e=true)
  (hr:∀ (k:Nat) (e:List V) (j:Nat) (u:V),es[k]?=some e->e[j]?=some u->∃ y,news[k * sz + j]?=some y/\R H Mu.bot u y) :
  ∃ c1,c1=(cur.toList.take (o * sz)++news++cur.toList.drop (o * sz + news.length)).toArray/\o * sz + news.length<=cur.size/\blk.sz=sz/\H blk.b=none /\
   ObOk H μ (w.setRow blk.b c1) i (.row ty sz true (xs.take o++es++xs.drop (o + es.length))):=by
 rcases hO with ⟨rfl,k1⟩ | ⟨blk',cur',k1,⟨k2,k2',k2''⟩,k3,k4,k5,k6,k7,k8,k9⟩
 ·rw [k1] at hb; cases hb
 rw [hb] at k1; injection k1 with k1; subst k1
 rw [hh] at k3; injection k3 with k3; injection k3 with k3 _; subst k3
 have hfit:o * sz + news.length<=cur.size:=by rw [hl,k4,<- Nat.add_mul]; exact Nat.mul_le_mul_right _ (by omega)
 have hlen:(xs.take o++es++xs.drop (o + es.length)).length=xs.length:=by simp; omega
 have get:∀ (k:Nat) (e:List V),(xs.take o++es++xs.drop (o + es.length))[k]?=some e->(o<=k/\k < o + es.length/\es[k - o]?=some e)\/((k < o\/o + es.length<=k)/\xs[k]?=some e):=by
  intro k e he
  have h0:(xs.take o).length=o:=by simp; omega
  rw [List.append_assoc,List.getElem?_append,h0] at he
  split at he
  ·rename_i hko
   rw [List.getElem?_take,if_pos hko] at he
   exact .inr ⟨.inl (by omega),he⟩
  ·rw [List.getElem?_append] at he
   split at he
   ·exact .inl ⟨by omega,by omega,he⟩
   ·rw [List.getElem?_drop] at he
    exact .inr ⟨.inr (by omega),by rwa [show o + es.length + (k - o - es.length)=k by omega] at he⟩
 refine ⟨_,rfl,hfit,k2,k7 rfl,.inr ⟨blk,_,hb,⟨k2,k2',fun _=>One.qa0 (k2'' rfl) h1 hfit⟩,setRow_heap w blk.b cur _ ty _ hh,by have:=jd0 cur (o * sz) news hfit; exact this.trans k4,by rw [hlen]; exact k5,fun k e he=>?_,fun _=>k7 rfl,(fun e=>by cases e),fun k e he j u hj=>?_⟩⟩
 ·rcases get k e he with ⟨_,_,g3⟩ | ⟨_,g2⟩
  ·exact hes _ e g3
  ·exact k6 k e g2
 ·have hg:=h60 cur (o * sz) news hfit (k * sz + j)
  show ∃ x,(gx0 cur (o * sz) news)[k * sz + j]?=some x/\_
  rcases get k e he with ⟨g1,g2,g3⟩ | ⟨g1,g2⟩
  ·obtain ⟨y,y1,y2⟩:=hr _ e j u g3 hj
   have hj':j < sz:=by rw [<- (hes _ e g3).1]; exact (List.getElem?_eq_some_iff.1 hj).1
   have e1:k * sz=o * sz + (k - o) * sz:=by rw [<- Nat.add_mul]; congr 1; omega
   have hlt:=(List.getElem?_eq_some_iff.1 y1).1
   refine ⟨y,?_,y2⟩
   rw [hg,if_pos (by omega)]
   rw [show k * sz + j - o * sz=(k - o) * sz + j by omega]; exact y1
  ·obtain ⟨y,y1,y2⟩:=k9 k e g2 j u hj
   have hj':j < sz:=by rw [<- (k6 k e g2).1]; exact (List.getElem?_eq_some_iff.1 hj).1
   refine ⟨y,?_,y2⟩
   rw [hg,if_neg,y1]
   rintro ⟨z1,z2⟩
   rcases g1 with g1 | g1
   ·have:(k + 1) * sz<=o * sz:=Nat.mul_le_mul_right _ g1
    rw [Nat.add_mul] at this; omega
   ·have:(o + es.length) * sz<=k * sz:=Nat.mul_le_mul_right _ g1
    rw [Nat.add_mul] at this; omega
theorem src_take {es:List (List V)} {news:List Value} {sz m:Nat} (hm:m<=es.length) (hl:news.length=es.length * sz) (h1:∀ u ∈ news,u.oneCell'=true) (hes:∀ (k:Nat) (e:List V),es[k]?=some e->e.length=sz/\scalars e=true)
  (hr:∀ (k:Nat) (e:List V) (j:Nat) (u:V),es[k]?=some e->e[j]?=some u->∃ y,news[k * sz + j]?=some y/\R H Mu.bot u y) :
  (news.take (m * sz)).length=(es.take m).length * sz/\(∀ u ∈ news.take (m * sz),u.oneCell'=true)/\(∀ (k:Nat) (e:List V),(es.take m)[k]?=some e->e.length=sz/\scalars e=true) /\
  (∀ (k:Nat) (e:List V) (j:Nat) (u:V),(es.take m)[k]?=some e->e[j]?=some u->∃ y,(news.take (m * sz))[k * sz + j]?=some y/\R H Mu.bot u y):=by
 have hmul:m * sz<=es.length * sz:=Nat.mul_le_mul_right _ hm
 have get:∀ (k:Nat) (e:List V),(es.take m)[k]?=some e->k < m/\es[k]?=some e:=by
  intro k e he
  rw [List.getElem?_take] at he
  split at he
  ·exact ⟨by assumption,he⟩
  ·cases he
 refine ⟨by rw [List.length_take,List.length_take,hl,Nat.min_eq_left hmul,Nat.min_eq_left hm],fun u hu=>h1 u (List.mem_of_mem_take hu),fun k e he=>hes k e (get k e he).2,fun k e j u he hj=>?_⟩
 obtain ⟨g1,g2⟩:=get k e he
 obtain ⟨y,y1,y2⟩:=hr k e j u g2 hj
 refine ⟨y,?_,y2⟩
 have hj':j < sz:=by rw [<- (hes k e g2).1]; exact (List.getElem?_eq_some_iff.1 hj).1
 have:(k + 1) * sz<=m * sz:=Nat.mul_le_mul_right _ g1
 rw [Nat.add_mul] at this
 rw [List.getElem?_take,if_pos (by omega)]; exact y1
def cpyV (hp:Hp) (sz:Nat) (v u:V) (K:Int->Hp->Prop):Prop :=
 match v.kw0 with
 | .arr i o m=>∃ ty xs,hp.lookup i=some (.row ty sz true xs)/\srcV hp sz u.kw0 fun es =>
   o + min es.length m<=xs.length/\K (min es.length m:Nat) (Hp.set i (.row ty sz true (xs.take o++es.take (min es.length m)++xs.drop (o + min es.length m))) hp)
 | _=>False
theorem m90 {i:Id} {o:Ob} (hl:hp.lookup i=some o) (j:Id):(Hp.set i o hp).lookup j=hp.lookup j:=by
 rw [bx0]
 cases h:hp.lookup j with
 | none=>rfl
 | some q =>
  simp only [Option.map_some]
  split
  ·rename_i e; subst e; rw [hl] at h; exact h
  ·rfl
theorem Wd.same {hp':Hp} (hW:Wd H μ hp w) (h:∀ j,hp'.lookup j=hp.lookup j):Wd H μ hp' w/\Nx H μ hp w H μ hp' w:=by
 refine ⟨⟨fun i o hl=>hW.ob i o (by rw [<- h]; exact hl),fun i j oi oj bi bj hi ho hj hoj hbi hbj e=>hW.inj i j oi oj bi bj (by rw [<- h]; exact hi) ho (by rw [<- h]; exact hj) hoj hbi hbj e,hW.imm,hW.glo⟩,
  ⟨⟨Imm.le_refl H,rfl,rfl,rfl,Nat.le_refl _,fun _ _ _=>rfl,fun b hO _=>?_,fr0⟩,fun _=>rfl⟩⟩
 obtain ⟨j,o,blk,h1,h2,h3,h4⟩:=hO
 exact ⟨j,o,blk,by rw [<- h]; exact h1,h2,h3,h4⟩
theorem cpy_ok {o:Oper} {d s:Operand} {t t' e:TypeId} {inf:TypeInfo} {v u:V} {K:Env->Hp->Prop}
  (ho:o.op=.call { callee:=.builtin .copy,args:=#[d,s],argTypes:=#[t,t'] }) (hdn:∀ q,o.dst=some q->q < n)
  (ht:P.underlying t=some (.slice e)) (hi:P.info? e=some inf) (hpos:0 < inf.size)
  (hv:Env.ev env d=some v) (hu:Env.ev env s=some u) (h:cpyV hp inf.size v u fun k hp'=>K (env.put o.dst (.c (.int .i64 k))) hp'):cG0 P n o env hp K:=by
 intro H μ a w hS
 have rd:=(ch0 hS hv).un
 have rs:=(ch0 hS hu).un
 unfold cpyV at h
 split at h
 ·rename_i i o' m hvv
  rw [hvv] at rd
  obtain ⟨ty,xs,hlk,h⟩:=h
  obtain ⟨es,sa,c,news,⟨hle,hk⟩,ex,hl,hsrc,h1,hes,hr⟩:=qc0 hpos hS.wd rs h
  generalize hmn:min es.length m=k at hle hk
  have hkle:k<=es.length:=by omega
  obtain ⟨q1,q2,q3,q4⟩:=src_take hkle hl h1 hes hr
  have hklen:(es.take k).length=k:=by simp; omega
  have hexec:∀ (w':World),(Builtin.copy_ #[t,t'] o.type #[a.eval d,a.eval s]).run P w=.ok (goInt k) w'->(execOp a.eval o).run P w=.ok (.value (goInt k)) w':=by
   intro w' hr'
   simp [execOp,ho,resolve,invoke,builtin,hr']
  generalize a.eval d=y at rd hexec
  cases rd with
  | arr _ _ _ ad cap hc hb =>
  have hmin:Nat.min es.length m=k:=hmn
  by_cases hk0:k=0
  ·-- nothing is copied
   subst hk0
   have hlist:xs.take o'++es.take 0++xs.drop (o' + 0)=xs:=by simp
   rw [hlist] at hk
   obtain ⟨g1,g2⟩:=hS.wd.same (hp':=Hp.set i (.row ty inf.size true xs) hp) (m90 hlk)
   refine ⟨_,_,H,μ,goInt 0,w,hk,.inl (hexec w ?_),⟨by rw [put_defers]; exact hS.defers,by rw [gS0]; exact hS.size,iD0 (fun q e=>by rw [hS.size]; exact hdn q e) hS.env (.c _),g1⟩,g2,.refl _ _⟩
   have hfc:(Builtin.firstCells inf.size 0 (.slice sa es.length c)).run P w=.ok #[] w:=by
    cases sa <;> simp [Builtin.firstCells,loadCells,loadCellsFrom]
   rw [ex]
   cases ad <;> simp [Builtin.copy_,run_underlying ht,Builtin.lenOf,sizeOf,typeInfo,hi,hmin,hfc,storeCells]
  ·have hcap:cap ≠ 0:=by omega
   obtain ⟨blk,b1,b2,b3⟩:=hb.resolve_left hcap
   have hOb:=hS.wd.ob i _ hlk
   rcases hOb with ⟨_,z⟩ | ⟨blk',cur,z1,z2,z3,_⟩
   ·rw [z] at b1; cases b1
   rw [b1] at z1; injection z1 with z1; subst z1
   obtain ⟨c1,e1,f1,f2,f3,f4⟩:=ObOk.seg (o:=o') (es:=es.take k) hpos b1 (hS.wd.ob i _ hlk) z3 (by rw [hklen]; exact hle) q1 q2 q3 q4
   rw [hklen] at f4
   obtain ⟨g1,g2⟩:=hS.wd.write hlk rfl b1 z3 rfl f4
   refine ⟨_,_,H,μ,goInt k,_,hk,.inl (hexec _ ?_),⟨by rw [put_defers]; exact hS.defers,by rw [gS0]; exact hS.size,iD0 (fun q e=>by rw [hS.size]; exact hdn q e) hS.env (.c _),g1⟩,g2,.refl _ _⟩
   rcases hsrc with h0 | ⟨b,off,rfl,hcells⟩
   ·omega
   have hf:=run_firstCells_some (P:=P) w inf.size k ⟨b,off,none⟩ es.length c (news.take (k * inf.size)) (by rw [q1,hklen]) (fun j u hj=>by
    rw [dC0]; exact hcells j u (by rw [List.getElem?_take] at hj; split at hj <;> first | exact hj | cases hj))
   have hst:=run_storeCells_at P blk.b (o' * inf.size) ty (news.take (k * inf.size)) 0 cur w z3 (by simpa using f1) q2
   simp only [Nat.add_zero] at hst
   rw [ex,b2,e1]
   simp [Builtin.copy_,run_underlying ht,Builtin.lenOf,sizeOf,typeInfo,hi,hmin,hf,z2.1,hst]
 ·exact h.elim
def hF0:Value->Value->Bool
 | .int _ a,.int _ b=>a == b
 | .string a,.string b=>eqS a b
 | _,_=>false
def pO0 (k:Value):List (Value × V)->Option V
 | []=>none
 | (k',v) :: es=>if hF0 k k' then some v else pO0 k es
def mset (k:Value) (v:V):List (Value × V)->List (Value × V)
 | []=>[(k,v)]
 | (k',u) :: es=>if hF0 k k' then (k',v) :: es else (k',u) :: mset k v es
def j50 (k:Value):List (Value × V)->(Option V->Prop)->Prop
 | [],K=>K none
 | (k',v) :: es,K=>(hF0 k k'=true->K (some v))/\(hF0 k k'=false->j50 k es K)
theorem pQ0 {k:Value} {K:Option V->Prop}:∀ {es:List (Value × V)},j50 k es K->K (pO0 k es)
 | [],h=>h
 | (k',v) :: es,h=>by
  simp only [pO0]
  split
  ·exact h.1 (by assumption)
  ·exact pQ0 (h.2 (by simpa using ‹¬ hF0 k k'=true›))
def kdT:Option IntKind->TypeDesc
 | some k=>.int k
 | none=>.string
theorem lk0 {kd:Option IntKind} {k k':Value} (h:isKey kd k=true) (h':isKey kd k'=true):Instr.sameNow (kdT kd) k k'=some (hF0 k k')/\(hF0 k k'=true->k=k')/\(hF0 k k'=true->Instr.sameBits 10000 k' k=true):=by
 cases kd with
 | some i =>
  cases k <;> simp only [isKey,decide_eq_true_eq] at h <;> first | cases h | skip
  cases k' <;> simp only [isKey,decide_eq_true_eq] at h' <;> first | cases h' | skip
  refine ⟨?_,?_,?_⟩ <;> simp_all [Instr.sameNow,kdT,hF0,Instr.sameBits]
 | none =>
  cases k <;> simp only [isKey] at h <;> first | cases h | skip
  cases k' <;> simp only [isKey] at h' <;> first | cases h' | skip
  rename_i a b
  have e1:(a == b)=eqS a b:=ou0 a b
  have e2:(b == a)=eqS b a:=ou0 b a
  refine ⟨by simp [Instr.sameNow,kdT,hF0,e1],fun h=>?_,fun h=>?_⟩
  ·simp only [hF0,eqS,decide_eq_true_eq] at h; rw [h]
  ·simp only [hF0,eqS,decide_eq_true_eq] at h; subst h; simp [Instr.sameBits,e2,eqS]
theorem mM0 {kd:Option IntKind} {k:Value} (h:isKey kd k=true):IsKey (kdT kd) k:=by
 cases kd <;> cases k <;> simp_all [isKey,IsKey,kdT]
def od0 (H:Imm) (kd:Option IntKind) (kvs:List (Value × V)) (es:List MapEntry):Prop :=
 es.length=kvs.length/\∀ (j:Nat) (k:Value) (v:V),kvs[j]?=some (k,v)->isKey kd k=true/\∃ e,es[j]?=some e/\e.key=k/\R H Mu.bot v e.val
theorem od0.tail {kd:Option IntKind} {p:Value × V} {kvs:List (Value × V)} {e:MapEntry} {es:List MapEntry} (h:od0 H kd (p :: kvs) (e :: es)):od0 H kd kvs es :=
 ⟨by simpa using h.1,fun j k v hj=>by simpa using h.2 (j + 1) k v (by simpa using hj)⟩
theorem od0.head {kd:Option IntKind} {p:Value × V} {kvs:List (Value × V)} {e:MapEntry} {es:List MapEntry} (h:od0 H kd (p :: kvs) (e :: es)):isKey kd p.1=true/\e.key=p.1/\R H Mu.bot p.2 e.val:=by
 obtain ⟨h1,e',h2,h3,h4⟩:=h.2 0 p.1 p.2 (by simp)
 simp at h2; subst h2
 exact ⟨h1,h3,h4⟩
theorem qz0 {kd:Option IntKind} {k:Value} (hk:isKey kd k=true):∀ (kvs:List (Value × V)) (es:List MapEntry) (i0:Nat),od0 H kd kvs es ->
  (pO0 k kvs=none/\Instr.findNow (kdT kd) k es i0=some none/\mset k=mset k/\∀ v,mset k v kvs=kvs++[(k,v)]) \/
  ∃ j u e,pO0 k kvs=some u/\es[j]?=some e/\R H Mu.bot u e.val/\e.key=k/\Instr.findNow (kdT kd) k es i0=some (some (i0 + j,e.val))/\∀ v,mset k v kvs=kvs.set j (k,v)
 | [],[],i0,_=>.inl ⟨rfl,rfl,rfl,fun v=>rfl⟩
 | [],e :: es,i0,h=>by have:=h.1; simp at this
 | p :: kvs,[],i0,h=>by have:=h.1; simp at this
 | (k',u) :: kvs,e :: es,i0,h=>by
  obtain ⟨h1,h2,h3⟩:=h.head
  obtain ⟨s1,s2,s3⟩:=lk0 hk h1
  have h2:e.key=k':=h2
  cases hq:hF0 k k' with
  | true =>
   have he:=s2 hq
   refine .inr ⟨0,u,e,by simp [pO0,hq],rfl,h3,by rw [h2,he],?_,fun v=>by simp only [mset,hq,if_true]; rw [he]; rfl⟩
   simp [Instr.findNow,h2,s1,hq]
  | false =>
   rcases qz0 hk kvs es (i0 + 1) h.tail with ⟨g1,g2,g3,g4⟩ | ⟨j,u',e',g1,g2,g3,g4,g5,g6⟩
   ·exact .inl ⟨by simp [pO0,hq,g1],by simp [Instr.findNow,h2,s1,hq,g2],rfl,fun v=>by simp [mset,hq,g4]⟩
   ·refine .inr ⟨j + 1,u',e',by simp [pO0,hq,g1],by simpa using g2,g3,g4,?_,fun v=>by simp [mset,hq,g6]⟩
    simp [Instr.findNow,h2,s1,hq,g5]; omega
def mkmapV (env:Env) (hp:Hp) (d:Option Nat) (kd:Option IntKind) (K:Env->Hp->Prop):Prop :=
 ∃ s,d=some s/\K ((Env.kill (.l s 0) env).put (some s) (.mp (.l s 0))) ((.l s 0,.mpo kd []) :: Hp.kill (.l s 0) hp)
def pS0 (hp:Hp) (kd:Option IntKind) (m k v:V) (K:Hp->Prop):Prop :=
 match m,k with
 | .mp i,.c kv=>isKey kd kv=true/\v.pure=true/\∃ kvs,hp.lookup i=some (.mpo kd kvs)/\K (Hp.set i (.mpo kd (mset kv v kvs)) hp)
 | _,_=>False
def mres (z:Value) (ok:Bool) (K:V->Prop) (r:Option V):Prop :=
 match r with
 | some v=>K (if ok then .tup [v,.c (.bool true)] else v)
 | none=>K (if ok then .tup [ofConst z,.c (.bool false)] else ofConst z)
def pR0 (hp:Hp) (kd:Option IntKind) (z:Value) (ok:Bool) (m k:V) (K:V->Prop):Prop :=
 match m,k with
 | .mp i,.c kv=>isKey kd kv=true/\∃ kvs,hp.lookup i=some (.mpo kd kvs)/\j50 kv kvs (mres z ok K)
 | _,_=>False
theorem mkmap_ok {o:Oper} {t:TypeId} {kd:Option IntKind} {K:Env->Hp->Prop} (ho:o.op=.makeMap t none) (hdn:∀ q,o.dst=some q->q < n) (h:mkmapV env hp o.dst kd K):cG0 P n o env hp K:=by
 intro H μ a w hS
 obtain ⟨s,hd,hk⟩:=h
 have hrun:(execOp a.eval o).run P w=.ok (.value (.map (some w.heap.size))) (w.alloc (.map #[] 0)):=by
  simp [execOp,ho,Instr.makeMap,World.alloc_eq]
 obtain ⟨h1,h2⟩:=hS.new (d:=some s) (i:=.l s 0) (ob:=.mpo kd []) (bo:=.map #[] 0) (blk:=⟨w.heap.size,0,0⟩) (v:=.mp (.l s 0)) (x:=.map (some w.heap.size))
  (fun q e=>by injection e with e; subst e; exact hdn _ hd) rfl
  ⟨_,#[],0,Mu.aS0 _ _ _,heap_alloc_new w _,kj0 hS.wd,rfl,fun j k v hj=>by simp at hj⟩ (.mp _ _ (Mu.aS0 _ _ _))
 exact ⟨_,_,H,_,_,_,hk,.inl hrun,by rw [hd]; exact h1,h2,.set hd fun j hj=>Mu.bz0 _ _ hj⟩
theorem mput_ok {o:Oper} {t kt et:TypeId} {m k x:Operand} {kd:Option IntKind} {vm vk vx:V} {K:Env->Hp->Prop} (ho:o.op=.insert t m k x\/o.op=.mapUpdate t m k x) (hd:o.dst=none) (ht:P.underlying t=some (.map kt et)) (hkt:P.underlying kt=some (kdT kd))
  (hm:Env.ev env m=some vm) (hk:Env.ev env k=some vk) (hx:Env.ev env x=some vx) (h:pS0 hp kd vm vk vx fun hp'=>K env hp'):cG0 P n o env hp K:=by
 intro H μ a w hS
 have rm:=ch0 hS hm
 have rk:=ch0 hS hk
 have rx:=ch0 hS hx
 unfold pS0 at h
 split at h
 ·rename_i i kv
  obtain ⟨hkey,hpu,kvs,hl,hK⟩:=h
  have ek:=rk.bS0
  obtain ⟨blk,es,clk,b1,b2,b3,b4,b5⟩:=hS.wd.ob i _ hl
  generalize em:a.eval m=y at rm
  cases rm with
  | mp _ blk' hb =>
  rw [b1] at hb; injection hb with hb; subst hb
  have hMO:od0 H kd kvs es.toList:=⟨by simpa using b4,fun j k v hj=>by
   obtain ⟨q1,e,q2,q3,q4⟩:=b5 j k v hj
   exact ⟨q1,e,by simpa using q2,q3,q4⟩⟩
  have hexec:∀ w',(Instr.mapUpdate t (.map (some blk.b)) kv (a.eval x)).run P w=.ok () w'->(execOp a.eval o).run P w=.ok .skip w':=by
   intro w' hr
   rcases ho with ho | ho <;> simp [execOp,ho,em,ek,hr]
  have hchk:=run_checkKey (w:=w) hkt (mM0 hkey) false 9999
  have fin:∀ (es':Array MapEntry) (clk':Nat),(Instr.mapUpdate t (.map (some blk.b)) kv (a.eval x)).run P w=.ok () { w with heap:=w.heap.setIfInBounds blk.b (.map es' clk') }->od0 H kd (mset kv vx kvs) es'.toList ->
    ∃ env' hp' H' μ' x' w',K env' hp'/\((execOp a.eval o).run P w=.ok (.value x') w'\/(x'=undef/\(execOp a.eval o).run P w=.ok .skip w'))/\Sat n H' μ' env' hp' (a.put o.dst x') w'/\Nx H μ hp w H' μ' hp' w'/\Same o.dst μ μ':=by
   intro es' clk' hrun hM'
   obtain ⟨s1,s2⟩:=heap_set (o':=.map es' clk') b2
   obtain ⟨g1,g2⟩:=hS.wd.chg (o':=.mpo kd (mset kv vx kvs)) (w':={ w with heap:=w.heap.setIfInBounds blk.b (.map es' clk') }) hl rfl b1 rfl rfl rfl rfl (by simp) s2
    ⟨blk,es',clk',b1,s1,b3,by simpa using hM'.1,fun j k v hj=>by
     obtain ⟨q1,e,q2,q3,q4⟩:=hM'.2 j k v hj
     exact ⟨q1,e,by simpa using q2,q3,q4⟩⟩
   exact ⟨_,_,H,μ,undef,_,hK,.inr ⟨rfl,hexec _ hrun⟩,by rw [hd]; exact ⟨hS.defers,hS.size,hS.env,g1⟩,g2,.refl _ _⟩
  rcases qz0 hkey kvs es.toList 0 hMO with ⟨f1,f2,_,f3⟩ | ⟨j,u,e,f1,f2,f3,f4,f5,f6⟩
  ·refine fin (es.push { key:=kv,val:=a.eval x,born:=clk }) (clk + 1) ?_ ?_
   ·simp [Instr.mapUpdate,run_underlying ht,Go.MapKept.run_getObj_map b2,hchk,run_findKey hkt f2,run_setObj_map _ b2]
   ·rw [f3]
    refine ⟨by simp [hMO.1],fun j k v hj=>?_⟩
    rw [List.getElem?_append] at hj
    split at hj
    ·rename_i hlt
     obtain ⟨q1,e,q2,q3,q4⟩:=hMO.2 j k v hj
     exact ⟨q1,e,by simp only [Array.toList_push]; rw [List.getElem?_append_left (by rw [hMO.1]; exact hlt)]; exact q2,q3,q4⟩
    ·rename_i hge
     have hj0:j - kvs.length=0:=by
      rcases Nat.eq_zero_or_pos (j - kvs.length) with h0 | h0
      ·exact h0
      ·rw [List.getElem?_eq_none (by simp; omega)] at hj; cases hj
     rw [hj0] at hj
     simp only [List.getElem?_cons_zero,Option.some.injEq,Prod.mk.injEq] at hj
     obtain ⟨rfl,rfl⟩:=hj
     have hje:j=es.toList.length:=by rw [hMO.1]; omega
     subst hje
     exact ⟨hkey,{ key:=kv,val:=a.eval x,born:=clk },by simp only [Array.toList_push]; rw [List.getElem?_append_right (Nat.le_refl _)]; simp,rfl,rx.pure hpu _⟩
  ·have hjlt:j < es.size:=by have:=(List.getElem?_eq_some_iff.1 f2).1; simpa using this
   have hje:es[j]?=some e:=by rw [<- Array.getElem?_toList]; exact f2
   have hsame:Instr.sameBits 10000 kv kv=true:=(lk0 hkey hkey).2.2 (by
    have hq:=(lk0 hkey hkey).1
    cases kd with
    | some ik=>cases kv <;> simp [isKey] at hkey; simp [hF0]
    | none=>cases kv <;> simp [isKey] at hkey; simp [hF0,eqS])
   refine fin (es.modify j fun e=>{ e with key:=kv,val:=a.eval x }) clk ?_ ?_
   ·have hkts:(Instr.keyThatStays kv kv).run P w=.ok kv w:=by simp [Instr.keyThatStays,hsame]
    simp [Instr.mapUpdate,run_underlying ht,Go.MapKept.run_getObj_map b2,hchk,run_findKey hkt f5,hje,f4,hkts,run_setObj_map _ b2]
   ·rw [f6]
    refine ⟨by simp [hMO.1],fun j' k v hj=>?_⟩
    rw [List.getElem?_set] at hj
    split at hj
    ·rename_i he
     subst he
     split at hj
     ·simp only [Option.some.injEq,Prod.mk.injEq] at hj
      obtain ⟨rfl,rfl⟩:=hj
      exact ⟨hkey,{ e with key:=kv,val:=a.eval x },by rw [Array.getElem?_toList,Array.getElem?_modify]; simp [hje],rfl,rx.pure hpu _⟩
     ·cases hj
    ·rename_i hne
     obtain ⟨q1,e',q2,q3,q4⟩:=hMO.2 j' k v hj
     exact ⟨q1,e',by rw [Array.getElem?_toList,Array.getElem?_modify,if_neg hne]; rw [<- Array.getElem?_toList]; exact q2,q3,q4⟩
 ·exact h.elim
theorem mget_ok {o:Oper} {t kt et:TypeId} {m k:Operand} {kd:Option IntKind} {inf:TypeInfo} {z:Value} {ok:Bool} {vm vk:V} {K:Env->Hp->Prop} (ho:o.op=.lookup t m k ok) (hdn:∀ q,o.dst=some q->q < n) (ht:P.underlying t=some (.map kt et)) (hkt:P.underlying kt=some (kdT kd))
  (hie:P.info? et=some inf) (hz:inf.zero=some z) (hm:Env.ev env m=some vm) (hk:Env.ev env k=some vk) (h:pR0 hp kd z ok vm vk fun v=>K (env.put o.dst v) hp):cG0 P n o env hp K:=by
 intro H μ a w hS
 have rm:=ch0 hS hm
 have rk:=ch0 hS hk
 unfold pR0 at h
 split at h
 ·rename_i i kv
  obtain ⟨hkey,kvs,hl,hK⟩:=h
  have hK:=pQ0 hK
  have ek:=rk.bS0
  obtain ⟨blk,es,clk,b1,b2,b3,b4,b5⟩:=hS.wd.ob i _ hl
  generalize em:a.eval m=y at rm
  cases rm with
  | mp _ blk' hb =>
  rw [b1] at hb; injection hb with hb; subst hb
  have hMO:od0 H kd kvs es.toList:=⟨by simpa using b4,fun j k v hj=>by
   obtain ⟨q1,e,q2,q3,q4⟩:=b5 j k v hj
   exact ⟨q1,e,by simpa using q2,q3,q4⟩⟩
  have hchk:=fun e=>run_checkKey (w:=w) hkt (mM0 hkey) e 9999
  have fin:∀ (v:V) (x:Value),(Instr.lookup t (.map (some blk.b)) kv ok).run P w=.ok x w->R H μ v x->K (env.put o.dst v) hp ->
    ∃ env' hp' H' μ' x' w',K env' hp'/\((execOp a.eval o).run P w=.ok (.value x') w'\/(x'=undef/\(execOp a.eval o).run P w=.ok .skip w'))/\Sat n H' μ' env' hp' (a.put o.dst x') w'/\Nx H μ hp w H' μ' hp' w'/\Same o.dst μ μ':=by
   intro v x hr hR hk
   exact ⟨_,_,H,μ,x,w,hk,.inl (by simp [execOp,ho,em,ek,hr]),hS.put hdn hR,Nx.refl H μ hp w,.refl _ _⟩
  have tup2:∀ {v:V} {x:Value} (b:Bool),R H μ v x->R H μ (if ok then .tup [v,.c (.bool b)] else v) (if ok then .tuple #[x,.bool b] else x):=by
   intro v x b hx
   cases ok with
   | false=>exact hx
   | true =>
    refine .tup _ _ rfl fun j u hj=>?_
    match j,hj with
    | 0,hj=>simp at hj; subst hj; simpa using hx
    | 1,hj=>simp at hj; subst hj; simpa using R.c _
    | j + 2,hj=>simp at hj
  have bind:∀ r,mres z ok (fun v=>K (env.put o.dst v) hp) r->(match r with | some v=>K (env.put o.dst (if ok then .tup [v,.c (.bool true)] else v)) hp | none=>K (env.put o.dst (if ok then .tup [ofConst z,.c (.bool false)] else ofConst z)) hp):=by
   intro r h; cases r <;> exact h
  have hK:=bind _ hK
  rcases qz0 hkey kvs es.toList 0 hMO with ⟨f1,f2,_,_⟩ | ⟨j,u,e,f1,f2,f3,f4,f5,_⟩
  ·rw [f1] at hK
   refine fin _ _ ?_ (tup2 false (ph0 H μ z)) hK
   simp [Instr.lookup,run_underlying ht,Go.MapKept.run_getObj_map b2,hchk,run_findKey hkt f2,bL0 hie hz]
  ·rw [f1] at hK
   refine fin _ _ ?_ (tup2 true (f3.lift rfl μ)) hK
   simp [Instr.lookup,run_underlying ht,Go.MapKept.run_getObj_map b2,hchk,run_findKey hkt f5]
 ·exact h.elim
end Go.Am
end

section
namespace Go.Am
variable {P:Program} {n:Sz} {H:Imm} {μ:Mu} {env:Env} {hp:Hp} {a:Act} {w:World}
def arcV (env:Env) (hp:Hp) (ty sz bytes d:Nat) (v:V) (es:List (List V)) (K:Env->Hp->Prop):Prop :=
 match v with
 | .arc i o m c=>o=0/\m<=c/\∃ xs,hp.lookup i=some (.row ty sz true xs)/\c<=xs.length /\
   (m + es.length<=c->0 < c/\K (env.put (some d) (.arc i 0 (m + es.length) c)) (Hp.set i (.row ty sz true (xs.take m++es++xs.drop (m + es.length))) hp)) /\
   (¬ m + es.length<=c->(m + es.length) * bytes<=140737488355328/\K ((Env.kill (.l d 0) env).put (some d) (.arr (.l d 0) 0 (m + es.length))) ((.l d 0,.row ty sz true (xs.take m++es)) :: Hp.kill (.l d 0) hp))
 | _=>False
def qn0 (env:Env) (hp:Hp) (ty sz bytes d:Nat) (v u:V) (K:Env->Hp->Prop):Prop:=srcV hp sz u.kw0 fun es=>arcV env hp ty sz bytes d v es K
def oi0 (env:Env) (hp:Hp) (ty sz bytes:Nat) (z:List V) (d:Nat) (v u:V) (K:Env->Hp->Prop):Prop :=
 match u with
 | .c (.int _ k)=>0<=k/\k<=140737488355328/\arcV env hp ty sz bytes d v (List.replicate k.toNat z) K/\(match v with | .arc _ _ m c=>¬ m + k.toNat<=c | _=>False)
 | _=>False
theorem iX0 (t tn ty e:TypeId) (i:TypeInfo) (z:Value) (k kn:IntKind) (ht:P.underlying t=some (.slice e)) (htn:P.underlying tn=some (.int kn)) (hi:P.info? e=some i) (hz:i.zero=some z)
  (b:Addr) (sLen sCap:Nat) (olds:List Value) (hlo:olds.length=sLen * i.size) (holds:∀ j v,olds[j]?=some v->w.cell? (b.add j)=some v)
  (m:Nat) (hm0:0 < m) (hs:0 < i.size) (hg:sCap < sLen + m) (h63:(m:Int)<=140737488355328) (h63':((sLen + m:Nat):Int)<=9223372036854775807) (h48:m * i.bytes<=281474976710656) (hfit:Builtin.nextslicecap (sLen + m) sCap * i.bytes<=281474976710656) :
  (Builtin.append_ #[t,tn] ty #[.slice (some b) sLen sCap,.int k m]).run P w =
   .ok (.slice (some ⟨w.heap.size,0,none⟩) (sLen + m) (grownCap w (sLen + m) sCap e))
    (w.drew.alloc (.cells (olds.toArray++Builtin.zeroCells z.cells m++Builtin.zeroCells z.cells (grownCap w (sLen + m) sCap e - (sLen + m))) e)):=by
 have hn:¬ (sLen + m<=sCap):=by omega
 have hw:IntKind.i64.wrap (m:Int)=m:=by rw [IntKind.wrap_i64]; omega
 have h1:¬ (9223372036854775807 < ((sLen:Int) + (m:Int))):=by omega
 have h2:¬ (281474976710656 < Builtin.nextslicecap (sLen + m) sCap * i.bytes):=by omega
 have h3:¬ (281474976710656 < (m:Int) * (i.bytes:Int)):=by rw [<- Int.natCast_mul]; omega
 have hneg:¬ ((m:Int) < 0):=by omega
 have hfo:=run_firstCells_some (P:=P) w.drew i.size sLen b sLen sCap olds hlo (by simpa using holds)
 have hm:m ≠ 0:=by omega
 have hns:¬ (m * i.size=0):=Nat.mul_ne_zero hm (by omega)
 simp [Builtin.append_,run_underlying ht,run_underlying htn,sizeOf,typeInfo,zeroValue,hi,hz,asInt,asIntOf,hw,hn,hneg,hns,h1,h2,h3,Question.forced,hfo,newRow,grownCap]
theorem pc0 (z:Array Value) (m j:Nat) (h:j < m * z.size):(Builtin.zeroCells z m)[j]?=z[j % z.size]?:=by
 have hp:0 < z.size:=by
  rcases Nat.eq_zero_or_pos z.size with h0 | h0
  ·rw [h0] at h; simp at h
  ·exact h0
 have hmod:=Nat.mod_lt j hp
 simp only [Builtin.zeroCells,Array.getElem?_map,Array.getElem?_range,h,if_true,Option.map_some]
 rw [getElem!_pos z _ hmod,Array.getElem?_eq_getElem hmod]
theorem ha0 {z:List V} {zv:Array Value} {sz m:Nat} (hzr:RL H Mu.bot z zv) (hzl:z.length=sz) (hzsc:scalars z=true) :
  (Builtin.zeroCells zv m).toList.length=(List.replicate m z).length * sz/\(∀ u ∈ (Builtin.zeroCells zv m).toList,u.oneCell'=true)/\(∀ (k:Nat) (e:List V),(List.replicate m z)[k]?=some e->e.length=sz/\scalars e=true) /\
  (∀ (k:Nat) (e:List V) (j:Nat) (u:V),(List.replicate m z)[k]?=some e->e[j]?=some u->∃ y,(Builtin.zeroCells zv m).toList[k * sz + j]?=some y/\R H Mu.bot u y):=by
 have hs:zv.size=sz:=by rw [hzr.1,hzl]
 have get:∀ (k:Nat) (e:List V),(List.replicate m z)[k]?=some e->k < m/\e=z:=by
  intro k e he
  rw [List.getElem?_replicate] at he
  split at he
  ·simp only [Option.some.injEq] at he; exact ⟨by assumption,he.symm⟩
  ·cases he
 refine ⟨by simp [size_zeroCells,hs],fun u hu=>?_,fun k e he=>by rw [(get k e he).2]; exact ⟨hzl,hzsc⟩,fun k e j u he hj=>?_⟩
 ·obtain ⟨q,hq1,hq2⟩:=List.getElem_of_mem hu
  have:(Builtin.zeroCells zv m)[q]?=some u:=by rw [<- Array.getElem?_toList,List.getElem?_eq_getElem hq1,hq2]
  exact One.fill (m:=m) (hzr.scalar hzsc) rfl q u this
 ·obtain ⟨g1,rfl⟩:=get k e he
  have hj':j < sz:=by rw [<- hzl]; exact (List.getElem?_eq_some_iff.1 hj).1
  have hlt:k * sz + j < m * zv.size:=by
   rw [hs]
   have:(k + 1) * sz<=m * sz:=Nat.mul_le_mul_right _ g1
   rw [Nat.add_mul] at this; omega
  have hmod:(k * sz + j) % zv.size=j:=by rw [hs,Nat.add_comm,Nat.add_mul_mod_self_right,Nat.mod_eq_of_lt hj']
  refine ⟨zv.getD j undef,?_,hzr.2 j u hj⟩
  rw [Array.getElem?_toList,pc0 _ _ _ hlt,hmod]
  have:j < zv.size:=by omega
  simp [Array.getD,this]
theorem arc_ok {o:Oper} {s x:Operand} {t tn e:TypeId} {inf:TypeInfo} {z:List V} {d:Nat} {v:V} {es:List (List V)} {K:Env->Hp->Prop}
  (ho:o.op=.call { callee:=.builtin .append,args:=#[s,x],argTypes:=#[t,tn] }) (hd:o.dst=some d) (hdn:d < n)
  (ht:P.underlying t=some (.slice e)) (hi:P.info? e=some inf) (hz:zeroCells P e=some z) (hzl:z.length=inf.size) (hzsc:scalars z=true) (hpos:0 < inf.size) (hby:0 < inf.bytes)
  (hS:Sat n H μ env hp a w) (rs:R H μ v (a.eval s)) (news:List Value) (hl:news.length=es.length * inf.size) (h1:∀ u ∈ news,u.oneCell'=true) (hes:∀ (k:Nat) (e:List V),es[k]?=some e->e.length=inf.size/\scalars e=true)
  (hr:∀ (k:Nat) (e:List V) (j:Nat) (u:V),es[k]?=some e->e[j]?=some u->∃ y,news[k * inf.size + j]?=some y/\R H Mu.bot u y)
  (hroom:∀ (g sLen sCap:Nat) (cur:Array Value),w.heap[g]?=some (.cells cur e (0,0))->sLen + es.length<=sCap->sLen * inf.size + news.length<=cur.size->(∀ i o m c,v=.arc i o m c->sLen=m/\sCap=c) ->
   (Builtin.append_ #[t,tn] o.type #[.slice (some ⟨g,0,none⟩) sLen sCap,a.eval x]).run P w =
    .ok (.slice (some ⟨g,0,none⟩) (sLen + es.length) sCap) (w.setRow g (cur.toList.take (sLen * inf.size)++news++cur.toList.drop (sLen * inf.size + news.length)).toArray))
  (hgrow:∀ (b:Option Addr) (zv:Value) (sLen sCap:Nat) (olds:List Value),inf.zero=some zv->olds.length=sLen * inf.size->(∀ adr,b=some adr->∀ j v,olds[j]?=some v->w.cell? (adr.add j)=some v)->(b=none->sLen=0/\sCap=0)->sCap < sLen + es.length->sLen<=sCap->(sLen + es.length) * inf.bytes<=140737488355328 ->
   (Builtin.append_ #[t,tn] o.type #[.slice b sLen sCap,a.eval x]).run P w =
    .ok (.slice (some ⟨w.heap.size,0,none⟩) (sLen + es.length) (grownCap w (sLen + es.length) sCap e))
     (w.drew.alloc (.cells (olds.toArray++news.toArray++Builtin.zeroCells zv.cells (grownCap w (sLen + es.length) sCap e - (sLen + es.length))) e)))
  (h:arcV env hp e inf.size inf.bytes d v es K) :
  ∃ env' hp' H' μ' x w',K env' hp'/\((execOp a.eval o).run P w=.ok (.value x) w'\/(x=undef/\(execOp a.eval o).run P w=.ok .skip w'))/\Sat n H' μ' env' hp' (a.put o.dst x) w'/\Nx H μ hp w H' μ' hp' w'/\Same o.dst μ μ':=by
 obtain ⟨inf',zv,hi',hiz,hzr⟩:=fO0 hz H Mu.bot
 rw [hi] at hi'; injection hi' with hi'; subst hi'
 have hzs:zv.cells.size=inf.size:=by rw [hzr.1,hzl]
 have hexec:∀ (r:Value) (w':World),(Builtin.append_ #[t,tn] o.type #[a.eval s,a.eval x]).run P w=.ok r w'->(execOp a.eval o).run P w=.ok (.value r) w':=by
  intro r w' hr
  simp [execOp,ho,resolve,invoke,builtin,hr]
 unfold arcV at h
 split at h
 ·rename_i i o' m c
  obtain ⟨rfl,hmc,xs,hlk,hcx,hA,hB⟩:=h
  have hOb:=hS.wd.ob i _ hlk
  generalize ev:a.eval s=y at rs
  cases rs with
  | arc _ _ _ _ ad hc hb =>
  by_cases hle:m + es.length<=c
  ·obtain ⟨hc0,hK⟩:=hA hle
   obtain ⟨blk,b1,b2,b3⟩:=hb.resolve_left (by omega)
   rcases hS.wd.ob i _ hlk with ⟨_,z1⟩ | ⟨blk',cur,z1,z2,z3,z4,_⟩
   ·rw [z1] at b1; cases b1
   rw [b1] at z1; injection z1 with z1; subst z1
   obtain ⟨c1,e1,f1,f2,f3,f4⟩:=ObOk.seg (o:=m) (es:=es) hpos b1 hOb z3 (by omega) hl h1 hes hr
   obtain ⟨g1,g2⟩:=hS.wd.write hlk rfl b1 z3 rfl f4
   have hrun:=hroom blk.b m c cur z3 hle f1 (fun _ _ _ _ e=>by injection e with e1 e2 e3 e4; exact ⟨e3,e4⟩)
   rw [<- e1] at hrun
   refine ⟨_,_,H,μ,.slice (some ⟨blk.b,0,none⟩) (m + es.length) c,_,hK,.inl (hexec _ _ (by rw [ev,b2,Nat.zero_mul]; exact hrun)),?_,g2,.refl _ _⟩
   rw [hd]
   exact ⟨by rw [put_defers]; exact hS.defers,by rw [gS0]; exact hS.size,iD0 (fun q e=>by rw [hS.size]; injection e with e; omega) hS.env (.arc _ _ _ _ _ (by omega) (.inr ⟨blk,b1,by simp,b3⟩)),g1⟩
  ·obtain ⟨hbb,hK⟩:=hB hle
   have small:∀ k:Nat,k * inf.bytes<=140737488355328->k<=140737488355328:=fun k hk=>Nat.le_trans (Nat.le_mul_of_pos_right k hby) hk
   have hsmall:=small _ hbb
   have hlenT:(xs.take m++es).length=m + es.length:=by simp; omega
   have olds:∃ vals:List Value,vals.length=m * inf.size/\(∀ adr,ad=some adr->∀ j v,vals[j]?=some v->w.cell? (adr.add j)=some v)/\(ad=none->m=0/\c=0) /\
     (∀ (k:Nat) (e:List V),(xs.take m)[k]?=some e->e.length=inf.size/\scalars e=true) /\
     (∀ (k:Nat) (e:List V) (j:Nat) (u:V),(xs.take m)[k]?=some e->e[j]?=some u->∃ y,vals[k * inf.size + j]?=some y/\R H Mu.bot u y):=by
    have hs':∀ (k:Nat) (e:List V),(xs.take m)[k]?=some e->k < m/\xs[k]?=some e:=by
     intro k e he
     rw [List.getElem?_take] at he
     split at he
     ·exact ⟨by assumption,he⟩
     ·cases he
    rcases hb with rfl | ⟨blk,b1,b2,b3⟩
    ·have:m=0:=by omega
     subst this
     exact ⟨[],by simp,fun _ _ j v hj=>by simp at hj,fun _=>⟨rfl,rfl⟩,fun k e he=>absurd (hs' k e he).1 (by omega),fun k e j u he _=>absurd (hs' k e he).1 (by omega)⟩
    ·rcases hOb with ⟨_,z1⟩ | ⟨blk',cur,z1,⟨z2,z2'⟩,z3,z4,z5,z6,z7,z8,z9⟩
     ·rw [z1] at b1; cases b1
     rw [b1] at z1; injection z1 with z1; subst z1
     have hfit:m * inf.size<=cur.size:=by rw [z4]; exact Nat.mul_le_mul_right _ (by omega)
     refine ⟨cur.toList.take (m * inf.size),by simp; omega,fun adr e j v hj=>?_,fun e=>?_,fun k e he=>z6 k e (hs' k e he).2,fun k e j u he hj=>?_⟩
     ·rw [b2] at e; injection e with e; subst e
      rw [Nat.zero_mul,dC0,hs0 z3,Nat.zero_add]
      rw [List.getElem?_take] at hj
      split at hj
      ·simpa using hj
      ·cases hj
     ·rw [b2] at e; cases e
     ·obtain ⟨hkm,he'⟩:=hs' k e he
      obtain ⟨y,y1,y2⟩:=z9 k e he' j u hj
      refine ⟨y,?_,y2⟩
      have hj':j < inf.size:=by rw [<- (z6 k e he').1]; exact (List.getElem?_eq_some_iff.1 hj).1
      have hlt:k * inf.size + j < m * inf.size:=by
       have:(k + 1) * inf.size<=m * inf.size:=Nat.mul_le_mul_right _ hkm
       rw [Nat.add_mul] at this; omega
      rw [List.getElem?_take,if_pos hlt,Array.getElem?_toList]
      exact y1
   obtain ⟨vals,hvl,hvc,hvn,hvs,hvr⟩:=olds
   have hTs:∀ (k:Nat) (e:List V),(xs.take m++es)[k]?=some e->e.length=inf.size/\scalars e=true:=by
    intro k e he
    rw [List.getElem?_append] at he
    split at he
    ·exact hvs k e he
    ·exact hes _ e he
   have htl:(xs.take m).length=m:=by simp; omega
   have hTr:∀ (k:Nat) (e:List V) (j:Nat) (u:V),(xs.take m++es)[k]?=some e->e[j]?=some u->∃ y,(vals++news)[k * inf.size + j]?=some y/\R H Mu.bot u y:=by
    intro k e j u he hj
    have hj':j < inf.size:=by rw [<- (hTs k e he).1]; exact (List.getElem?_eq_some_iff.1 hj).1
    rw [List.getElem?_append] at he
    split at he
    ·rename_i hlt
     obtain ⟨y,y1,y2⟩:=hvr k e j u he hj
     exact ⟨y,by rw [List.getElem?_append_left (List.getElem?_eq_some_iff.1 y1).1]; exact y1,y2⟩
    ·rename_i hge
     obtain ⟨y,y1,y2⟩:=hr _ e j u he hj
     refine ⟨y,?_,y2⟩
     rw [htl] at hge y1
     have e1:k * inf.size=m * inf.size + (k - m) * inf.size:=by rw [<- Nat.add_mul]; congr 1; omega
     rw [List.getElem?_append_right (by rw [hvl,e1]; omega),hvl]
     rw [show k * inf.size + j - m * inf.size=(k - m) * inf.size + j by omega]; exact y1
   have hTl:(vals++news).length=(xs.take m++es).length * inf.size:=by rw [hlenT,List.length_append,hvl,hl,Nat.add_mul]
   have hcap1:=grownCap_ge w (m + es.length) c e
   have hcap2:=grownCap_le_maxLen w (m + es.length) c e (by simp only [maxLen]; omega)
   have hsz:((vals++news).toArray++Builtin.zeroCells zv.cells (grownCap w (m + es.length) c e - (m + es.length))).size=grownCap w (m + es.length) c e * inf.size:=by
    simp only [Array.size_append,List.size_toArray,size_zeroCells,hzs,hTl,hlenT,<- Nat.add_mul]
    congr 1; omega
   obtain ⟨g1,g2⟩:=(hS.wd.drew).new (i:=.l d 0) (ob:=.row e inf.size true (xs.take m++es)) (bo:=.cells ((vals++news).toArray++Builtin.zeroCells zv.cells (grownCap w (m + es.length) c e - (m + es.length))) e) (blk:=⟨w.heap.size,inf.size,grownCap w (m + es.length) c e⟩) rfl
    (ObOk.row0 (Mu.aS0 _ _ _) hcap2 (by rw [hlenT]; exact hcap1) (heap_alloc_new w.drew _) hsz (kj0 hS.wd) ((One.list (kV0 hpos hTl hTs hTr)).append (One.fill (hzr.scalar hzsc) rfl)) hTs hTr)
   have hrun:=hgrow ad zv m c vals hiz hvl hvc hvn (by omega) hmc hbb
   have harr:(vals++news).toArray=vals.toArray++news.toArray:=by simp
   rw [harr] at g1 g2
   refine ⟨_,_,H,_,.slice (some ⟨w.heap.size,0,none⟩) (m + es.length) (grownCap w (m + es.length) c e),_,hK,.inl (hexec _ _ (by rw [ev]; exact hrun)),?_,(Nx.drew H μ hp w).trans g2,.set hd fun j hj=>Mu.bz0 _ _ hj⟩
   rw [hd]
   exact hS.mk' hdn (fun j hj=>Mu.bz0 _ _ hj) g1 (.arr _ _ _ _ _ hcap1 (.inr ⟨_,Mu.aS0 _ _ _,by simp,by simp⟩))
 ·exact h.elim
theorem arcApp_ok {o:Oper} {s x:Operand} {t e:TypeId} {inf:TypeInfo} {z:List V} {d:Nat} {v u:V} {K:Env->Hp->Prop}
  (ho:o.op=.call { callee:=.builtin .append,args:=#[s,x],argTypes:=#[t,t] }) (hd:o.dst=some d) (hdn:d < n)
  (ht:P.underlying t=some (.slice e)) (hi:P.info? e=some inf) (hz:zeroCells P e=some z) (hzl:z.length=inf.size) (hzsc:scalars z=true) (hpos:0 < inf.size) (hby:0 < inf.bytes)
  (hs:Env.ev env s=some v) (hx:Env.ev env x=some u) (h:qn0 env hp e inf.size inf.bytes d v u K):cG0 P n o env hp K:=by
 intro H μ a w hS
 have rs:=ch0 hS hs
 have rx:=(ch0 hS hx).un
 obtain ⟨es,sa,c,news,hA,ex,hl,hsrc,h1,hes,hr⟩:=qc0 hpos hS.wd rx h
 refine arc_ok ho hd hdn ht hi hz hzl hzsc hpos hby hS rs news hl h1 hes hr (fun g sLen sCap cur hg hroom hfit _=>?_) (fun b zv sLen sCap olds hz0 hlo holds hbn hgt hsc hbb=>?_) hA
 ·rcases hsrc with h0 | ⟨b,off,rfl,hcells⟩
  ·have hnn:news=[]:=List.eq_nil_of_length_eq_zero (by rw [hl,h0]; simp)
   subst hnn
   have hself:(cur.toList.take (sLen * inf.size)++[]++cur.toList.drop (sLen * inf.size + ([]:List Value).length)).toArray=cur:=by simp
   rw [hself,setRow_self w g cur e (0,0) hg]
   have hfc:(Builtin.firstCells inf.size 0 (.slice sa 0 c)).run P w=.ok #[] w:=by
    cases sa <;> simp [Builtin.firstCells,loadCells,loadCellsFrom]
   rw [ex,h0]
   rw [h0] at hroom
   simp [Builtin.append_,run_underlying ht,sizeOf,typeInfo,hi,Builtin.lenOf,hfc,storeCells]
   omega
  ·rw [ex]
   exact run_append_room (P:=P) w t o.type e inf ht hi g sLen sCap cur hg ⟨b,off,none⟩ es.length c news hl (fun j u hj=>by rw [dC0]; exact hcells j u hj) h1 hroom hfit
 ·have small:∀ k:Nat,k * inf.bytes<=140737488355328->k<=140737488355328:=fun k hk=>Nat.le_trans (Nat.le_mul_of_pos_right k hby) hk
  have hsm:=small _ hbb
  rcases hsrc with h0 | ⟨b',off,rfl,hcells⟩
  ·omega
  rw [ex]
  cases b with
  | none =>
   obtain ⟨rfl,rfl⟩:=hbn rfl
   have hv0:olds=[]:=List.eq_nil_of_length_eq_zero (by rw [hlo]; simp)
   subst hv0
   have hbb':es.length * inf.bytes<=140737488355328:=by simpa using hbb
   have hrun:=run_append_nil (P:=P) w t o.type e inf zv ht hi hz0 ⟨b',off,none⟩ es.length c news hl (fun j u hj=>by rw [dC0]; exact hcells j u hj) (by omega) (by omega) (by omega)
   simpa using hrun
  | some adr =>
   exact run_append_grow (P:=P) w t o.type e inf zv ht hi hz0 adr sLen sCap olds hlo (holds adr rfl) ⟨b',off,none⟩ es.length c news hl (fun j u hj=>by rw [dC0]; exact hcells j u hj)
    hgt (by omega) (growslice_fits (by omega) hbb)
theorem rN0 {o:Oper} {s x:Operand} {t tn e:TypeId} {inf:TypeInfo} {z:List V} {d:Nat} {kn:IntKind} {v u:V} {K:Env->Hp->Prop}
  (ho:o.op=.call { callee:=.builtin .append,args:=#[s,x],argTypes:=#[t,tn] }) (hd:o.dst=some d) (hdn:d < n) (htn:P.underlying tn=some (.int kn))
  (ht:P.underlying t=some (.slice e)) (hi:P.info? e=some inf) (hz:zeroCells P e=some z) (hzl:z.length=inf.size) (hzsc:scalars z=true) (hpos:0 < inf.size) (hby:0 < inf.bytes)
  (hs:Env.ev env s=some v) (hx:Env.ev env x=some u) (h:oi0 env hp e inf.size inf.bytes z d v u K):cG0 P n o env hp K:=by
 intro H μ a w hS
 have rs:=ch0 hS hs
 unfold oi0 at h
 split at h
 ·rename_i k0 k
  obtain ⟨hk0,hk1,hA,hno⟩:=h
  have ex:=(ch0 hS hx).bS0
  obtain ⟨inf',zv,hi',hiz,hzr⟩:=fO0 hz H Mu.bot
  rw [hi] at hi'; injection hi' with hi'; subst hi'
  obtain ⟨q1,q2,q3,q4⟩:=ha0 (m:=k.toNat) hzr hzl hzsc
  have hek:a.eval x=.int k0 (k.toNat:Int):=by rw [ex]; congr 1; omega
  refine arc_ok ho hd hdn ht hi hz hzl hzsc hpos hby hS rs (Builtin.zeroCells zv.cells k.toNat).toList q1 q2 q3 q4 (fun g sLen sCap cur hg hroom hfit e1=>?_) (fun b zv' sLen sCap olds hz0 hlo holds hbn hgt hsc hbb=>?_) hA
  ·exfalso
   split at hno
   ·rename_i i o' m c
    obtain ⟨e2,e3⟩:=e1 _ _ _ _ rfl
    simp only [List.length_replicate] at hroom
    omega
   ·exact hno
  ·rw [hiz] at hz0; injection hz0 with hz0; subst hz0
   simp only [List.length_replicate] at hgt hbb ⊢
   have small:∀ k:Nat,k * inf.bytes<=140737488355328->k<=140737488355328:=fun k hk=>Nat.le_trans (Nat.le_mul_of_pos_right k hby) hk
   have hsm:=small _ hbb
   have hkb:k.toNat * inf.bytes<=140737488355328:=Nat.le_trans (Nat.mul_le_mul_right _ (by omega)) hbb
   rw [hek]
   cases b with
   | none =>
    obtain ⟨rfl,rfl⟩:=hbn rfl
    have hv0:olds=[]:=List.eq_nil_of_length_eq_zero (by rw [hlo]; simp)
    subst hv0
    have hrun:=Go.Lib.run_append_nil_zeros (P:=P) w t tn o.type e inf zv k0 kn ht htn hi hiz k.toNat (by omega) hpos (by omega) (by omega)
    simpa using hrun
   | some adr =>
    have hrun:=iX0 (P:=P) (w:=w) t tn o.type e inf zv k0 kn ht htn hi hiz adr sLen sCap olds hlo (holds adr rfl) k.toNat (by omega) hpos hgt (by omega) (by omega) (by omega) (growslice_fits (by omega) hbb)
    simpa using hrun
 ·exact h.elim
def clrV (hp:Hp) (sz:Nat) (z:List V) (v:V) (K:Hp->Prop):Prop :=
 match v.kw0 with
 | .arr i o m=>0 < m/\∃ ty xs,hp.lookup i=some (.row ty sz true xs)/\o + m<=xs.length/\K (Hp.set i (.row ty sz true (xs.take o++List.replicate m z++xs.drop (o + m))) hp)
 | _=>False
theorem clr_ok {o:Oper} {x:Operand} {t e:TypeId} {inf:TypeInfo} {z:List V} {v:V} {K:Env->Hp->Prop} (ho:o.op=.call { callee:=.builtin .clear,args:=#[x],argTypes:=#[t] }) (hdn:∀ q,o.dst=some q->q < n)
  (ht:P.underlying t=some (.slice e)) (hi:P.info? e=some inf) (hz:zeroCells P e=some z) (hzl:z.length=inf.size) (hzsc:scalars z=true) (hpos:0 < inf.size)
  (hx:Env.ev env x=some v) (h:clrV hp inf.size z v fun hp'=>K (env.put o.dst (.tup [])) hp'):cG0 P n o env hp K:=by
 intro H μ a w hS
 have rx:=(ch0 hS hx).un
 obtain ⟨inf',zv,hi',hiz,hzr⟩:=fO0 hz H Mu.bot
 rw [hi] at hi'; injection hi' with hi'; subst hi'
 unfold clrV at h
 split at h
 ·rename_i i o' m hvv
  rw [hvv] at rx
  obtain ⟨hm0,ty,xs,hlk,hle,hK⟩:=h
  generalize ev:a.eval x=y at rx
  cases rx with
  | arr _ _ _ ad cap hc hb =>
  obtain ⟨blk,b1,b2,b3⟩:=hb.resolve_left (by omega)
  have hOb:=hS.wd.ob i _ hlk
  rcases hS.wd.ob i _ hlk with ⟨_,z1⟩ | ⟨blk',cur,z1,z2,z3,z4,_⟩
  ·rw [z1] at b1; cases b1
  rw [b1] at z1; injection z1 with z1; subst z1
  obtain ⟨q1,q2,q3,q4⟩:=ha0 (m:=m) hzr hzl hzsc
  obtain ⟨c1,e1,f1,f2,f3,f4⟩:=ObOk.seg (o:=o') (es:=List.replicate m z) hpos b1 hOb z3 (by simpa using hle) q1 q2 q3 q4
  rw [List.length_replicate] at f4
  obtain ⟨g1,g2⟩:=hS.wd.write hlk rfl b1 z3 rfl f4
  have hst:=run_storeCells_at P blk.b (o' * inf.size) ty (Builtin.zeroCells zv.cells m).toList 0 cur w z3 (by simpa using f1) q2
  simp only [Nat.add_zero] at hst
  refine ⟨_,_,H,μ,.tuple #[],_,hK,.inl ?_,⟨by rw [put_defers]; exact hS.defers,by rw [gS0]; exact hS.size,iD0 (fun q e=>by rw [hS.size]; exact hdn q e) hS.env (.tup [] #[] rfl fun j v hj=>by simp at hj),g1⟩,g2,.refl _ _⟩
  obtain ⟨m',rfl⟩:∃ m',m=m' + 1:=⟨m - 1,by omega⟩
  rw [e1]
  have hrun:(Builtin.clear_ #[t] o.type #[.slice (some ⟨blk.b,o' * inf.size,none⟩) (m' + 1) cap]).run P w=.ok (.tuple #[]) (w.setRow blk.b (cur.toList.take (o' * inf.size)++(Builtin.zeroCells zv.cells (m' + 1)).toList++cur.toList.drop (o' * inf.size + (Builtin.zeroCells zv.cells (m' + 1)).toList.length)).toArray):=by
   simp only [Builtin.clear_]
   simp [run_underlying ht,zeroValue,typeInfo,hi,hiz,hst]
  rw [z2.1] at b2
  rw [b2] at ev
  simp [execOp,ho,resolve,invoke,builtin,ev,hrun]
 ·exact h.elim
def sl3V (v:V) (lo hi mx:Option (Option V)) (K:V->Prop):Prop :=
 match v with
 | .arc _ _ m c=>intO mx 0 fun q=>intO hi 0 fun h=>intO lo 0 fun l=>0<=l/\l<=h/\h<=q/\q<=c/\K .any
 | .arr _ _ m=>intO mx 0 fun q=>intO hi 0 fun h=>intO lo 0 fun l=>0<=l/\l<=h/\h<=q/\q<=m/\K .any
 | _=>False
theorem sl3_ok {o:Oper} {t e:TypeId} {inf:TypeInfo} {x lo hi mx:Operand} {v:V} {K:Env->Hp->Prop} (ho:o.op=.slice t x (some lo) (some hi) (some mx)) (hdn:∀ q,o.dst=some q->q < n)
  (ht:P.underlying t=some (.slice e)) (hi':P.info? e=some inf) (hx:Env.ev env x=some v) (h:sl3V v (some (Env.ev env lo)) (some (Env.ev env hi)) (some (Env.ev env mx)) fun u=>K (env.put o.dst u) hp):cG0 P n o env hp K:=by
 intro H μ a w hS
 have rx:=ch0 hS hx
 have key:∀ (m c:Nat),(∀ (K:V->Prop),intO (some (Env.ev env mx)) 0 (fun q=>intO (some (Env.ev env hi)) 0 fun h=>intO (some (Env.ev env lo)) 0 fun l=>0<=l/\l<=h/\h<=q/\q<=c/\K .any)->∃ kq q kh h kl l,a.eval mx=.int kq q/\a.eval hi=.int kh h/\a.eval lo=.int kl l/\0<=l/\l<=h/\h<=q/\q<=c/\K .any):=by
  intro m c K h
  have one:∀ {y:Operand} {K':Int->Prop},intO (some (Env.ev env y)) 0 K'->∃ k i,a.eval y=.int k i/\K' i:=by
   intro y K' h
   unfold intO at h
   split at h
   ·rename_i e; cases e
   ·rename_i k i e
    injection e with e
    exact ⟨_,_,(ch0 hS e).bS0,h⟩
   ·exact h.elim
  obtain ⟨kq,q,e1,h⟩:=one h
  obtain ⟨kh,hh,e2,h⟩:=one h
  obtain ⟨kl,l,e3,h⟩:=one h
  exact ⟨kq,q,kh,hh,kl,l,e1,e2,e3,h⟩
 have fin:∀ (ad:Option Addr) (m c:Nat),a.eval x=.slice ad m c->(∃ kq q kh h kl l,a.eval mx=.int kq q/\a.eval hi=.int kh h/\a.eval lo=.int kl l/\0<=l/\l<=h/\h<=q/\q<=(c:Int)/\K (env.put o.dst .any) hp) ->
   ∃ env' hp' H' μ' x' w',K env' hp'/\((execOp a.eval o).run P w=.ok (.value x') w'\/(x'=undef/\(execOp a.eval o).run P w=.ok .skip w'))/\Sat n H' μ' env' hp' (a.put o.dst x') w'/\Nx H μ hp w H' μ' hp' w'/\Same o.dst μ μ':=by
  rintro ad m c ex ⟨kq,q,kh,hh,kl,l,e1,e2,e3,c1,c2,c3,c4,hk⟩
  have hsize:(sizeOf e).run P w=.ok inf.size w:=by simp [sizeOf,typeInfo,hi']
  have hrun:∃ y,(execOp a.eval o).run P w=.ok (.value y) w:=by
   simp [execOp,ho,Instr.sliceAt,run_underlying ht,Instr.slice,Instr.sliceBounds,Instr.sliceBound,asIntOf,ex,e1,e2,e3,hsize]
   have d1:0<=q/\q<=(c:Int):=⟨by omega,c4⟩
   have d2:0<=hh/\hh<=q:=⟨by omega,c3⟩
   have d3:0<=l/\l<=hh:=⟨c1,c2⟩
   simp [d1,d2,d3,hsize]
   rw [if_pos (by omega),if_pos (by omega)]
   exact ⟨_,rfl⟩
  obtain ⟨y,hrun⟩:=hrun
  exact ⟨_,_,H,μ,y,w,hk,.inl hrun,hS.put hdn (.any _),Nx.refl H μ hp w,.refl _ _⟩
 unfold sl3V at h
 split at h
 ·rename_i i o' m c
  generalize ev:a.eval x=y at rx
  cases rx with
  | arc _ _ _ _ ad hc hb=>exact fin ad m c ev (key m c (fun u=>K (env.put o.dst u) hp) h)
 ·rename_i i o' m
  generalize ev:a.eval x=y at rx
  cases rx with
  | arr _ _ _ ad cap hc hb =>
   obtain ⟨kq,q,kh,hh,kl,l,e1,e2,e3,c1,c2,c3,c4,hk⟩:=key m m (fun u=>K (env.put o.dst u) hp) h
   exact fin ad m cap ev ⟨kq,q,kh,hh,kl,l,e1,e2,e3,c1,c2,c3,by omega,hk⟩
 ·exact h.elim
def appW (env:Env) (hp:Hp) (ty sz bytes d:Nat) (v u:V) (K:Env->Hp->Prop):Prop :=
 match v with
 | .arc i o m c=>qn0 env hp ty sz bytes d (.arc i o m c) u K
 | v=>appV env hp ty sz bytes d v u K
theorem appW_ok {o:Oper} {s x:Operand} {t e:TypeId} {inf:TypeInfo} {z:List V} {d:Nat} {v u:V} {K:Env->Hp->Prop}
  (ho:o.op=.call { callee:=.builtin .append,args:=#[s,x],argTypes:=#[t,t] }) (hd:o.dst=some d) (hdn:d < n)
  (ht:P.underlying t=some (.slice e)) (hi:P.info? e=some inf) (hz:zeroCells P e=some z) (hzl:z.length=inf.size) (hzsc:scalars z=true) (hpos:0 < inf.size) (hby:0 < inf.bytes)
  (hs:Env.ev env s=some v) (hx:Env.ev env x=some u) (h:appW env hp e inf.size inf.bytes d v u K):cG0 P n o env hp K:=by
 unfold appW at h
 split at h
 ·exact arcApp_ok ho hd hdn ht hi hz hzl hzsc hpos hby hs hx h
 ·exact app_ok ho hd hdn ht hi hz hzl hzsc hpos hby hs hx h
end Go.Am
end
