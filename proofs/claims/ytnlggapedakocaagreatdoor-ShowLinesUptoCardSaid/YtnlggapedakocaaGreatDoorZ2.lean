/- ShowLines of the given program, part 2 of 5 of the proof: for all arguments within the bound the law answers true, and each argument reads behind the call as before. Conditions: those of the given card. -/
import Derived.Test.YtnlggapedakocaaGreatDoorZ1
import Derived.Laws.BytesString
import Derived.Lib.ConvBytes
set_option maxHeartbeats 1600000
set_option linter.all false
set_option linter.unusedVariables false
set_option linter.unusedSimpArgs false
set_option linter.unnecessarySimpa false
section
namespace Go.Am
variable {P:Program} {n:Sz} {H:Imm} {μ:Mu} {env:Env} {hp:Hp} {a:Act} {w:World}
def iaAV (m sz:Nat):V->V->(V->Prop)->Prop
 | .rp cs,.c (.int _ i),K=>0<=i/\i < m/\K (.rp (cs.drop (i.toNat * sz)))
 | .bp id o,.c (.int _ i),K=>0<=i/\i < m/\K (.bp id (o + i.toNat * sz))
 | _,_,_=>False
theorem iaA_ok {o:Oper} {x ix:Operand} {t e:TypeId} {m:Nat} {inf:TypeInfo} {v u:V} {K:Env->Hp->Prop} (ho:o.op=.indexAddr t x ix) (hd:∀ s,o.dst=some s->s < n)
  (ht:P.underlying t=some (.array m e)) (hi:P.info? e=some inf) (hpos:0 < inf.size) (hx:Env.ev env x=some v) (hu:Env.ev env ix=some u) (h:iaAV m inf.size v u fun r=>K (env.put o.dst r) hp):cG0 P n o env hp K:=by
 intro H μ a w hS
 have hsize:(sizeOf e).run P w=.ok inf.size w:=by simp [sizeOf,typeInfo,hi]
 have rv:=ch0 hS hx
 have ru:=ch0 hS hu
 unfold iaAV at h
 split at h
 ·rename_i cs kk i
  have eu:=ru.bS0
  obtain ⟨h0,h1,hk⟩:=h
  have h1':i < (m:Int):=h1
  generalize ev:a.eval x=y at rv
  cases rv with
  | rp _ b off cv hm hr =>
  refine ⟨_,_,H,μ,.pointer (some ⟨b,off + i.toNat * inf.size,none⟩),w,hk,.inl ?_,hS.put hd (.rp _ b (off + i.toNat * inf.size) (fun j=>cv (i.toNat * inf.size + j)) (fun j v hj=>?_) (fun j v hj=>?_)),Nx.refl H μ hp w,.refl _ _⟩
  ·simp [execOp,ho,ev,eu,Instr.indexAt,asIntOf,run_underlying ht,Instr.sureAddr,h0,h1',hsize,dC0]
  ·rw [List.getElem?_drop] at hj
   obtain ⟨blk,q1,q2⟩:=hm _ v hj
   exact ⟨blk,q1,by rw [Nat.add_assoc]; exact q2⟩
  ·rw [List.getElem?_drop] at hj; exact hr _ v hj
 ·rename_i id off kk i
  have eu:=ru.bS0
  obtain ⟨h0,h1,hk⟩:=h
  have h1':i < (m:Int):=h1
  generalize ev:a.eval x=y at rv
  cases rv with
  | bp _ _ blk hb =>
  refine ⟨_,_,H,μ,.pointer (some ⟨blk.b,off + i.toNat * inf.size,none⟩),w,hk,.inl ?_,hS.put hd (.bp _ _ blk hb),Nx.refl H μ hp w,.refl _ _⟩
  simp [execOp,ho,ev,eu,Instr.indexAt,asIntOf,run_underlying ht,Instr.sureAddr,h0,h1',hsize,dC0]
 ·exact h.elim
theorem Wd.seal {i:Id} {cs:List V} (hW:Wd H μ hp w) (hl:hp.lookup i=some (.box cs)):∃ H' blk vals ty,Imm.le H H'/\Wd H' μ (Hp.set i .gone hp) w/\Nx H μ hp w H' μ (Hp.set i .gone hp) w /\
  μ i=some blk/\H' blk.b=some vals/\w.heap[blk.b]?=some (.cells vals ty (0,0))/\vals.size=cs.length/\Cells H μ cs vals 0:=by
 obtain ⟨blk,vals,ty,k1,k2,k3,⟨k4,k4'⟩,k5⟩:=hW.ob i _ hl
 let H':Imm:=fun b=>if b=blk.b then some vals else H b
 have hne:∀ b,b ≠ blk.b->H' b=H b:=fun b h=>if_neg h
 have hle:Imm.le H H':=fun b cs hb=>by
  by_cases e:b=blk.b
  ·subst e; rw [k4] at hb; cases hb
  ·rw [hne b e]; exact hb
 obtain ⟨d1,d2⟩:=hW.del i
 have hother:∀ j o,(Hp.set i .gone hp).lookup j=some o->o.own=true->∀ bj,μ j=some bj->bj.b ≠ blk.b:=fun j o hj ho bj hbj e=>by
  rcases em0 hj with rfl | ⟨h1,h2⟩
  ·cases ho
  ·exact h1 (hW.inj j i o _ bj blk h2 ho hl rfl hbj k1 e)
 refine ⟨H',blk,vals,ty,hle,⟨fun j o hj=>?_,d1.inj,fun b cs' hb=>?_,fun p hp=>hle _ _ (hW.glo p hp)⟩,⟨⟨hle,rfl,rfl,rfl,Nat.le_refl _,fun _ _ _=>rfl,d2.own,fun b cs' hb h0=>?_⟩,fun _=>rfl⟩,k1,if_pos rfl,k2,k3,k5⟩
 ·exact (d1.ob j o hj).mono hle rfl (fun _ _=>rfl) (fun _ _=>rfl) fun ho bj hbj=>hne _ (hother j o hj ho bj hbj)
 ·by_cases e:b=blk.b
  ·subst e
   have:H' blk.b=some vals:=if_pos rfl
   rw [this] at hb; injection hb with hb; subst hb
   exact ⟨ty,(0,0),k2⟩
  ·rw [hne b e] at hb; exact hW.imm b cs' hb
 ·by_cases e:b=blk.b
  ·subst e; exact .inr ⟨i,_,blk,hl,rfl,k1,rfl⟩
  ·rw [hne b e,h0] at hb; cases hb
def chunk (m sz:Nat) (cs:List V):List (List V):=(List.range m).map fun k=>(cs.drop (k * sz)).take sz
def slAV (hp:Hp) (m sz:Nat):V->(List (List V)->Hp->Prop)->Prop
 | .bp i o,K=>o=0/\∃ cs,hp.lookup i=some (.box cs)/\cs.length=m * sz/\V.bt0 cs=true/\scalars cs=true/\K (chunk m sz cs) (Hp.set i .gone hp)
 | _,_=>False
theorem slA_ok {o:Oper} {x:Operand} {t e:TypeId} {m:Nat} {inf:TypeInfo} {v:V} {K:Env->Hp->Prop} (ho:o.op=.slice t x none none none) (hd:∀ s,o.dst=some s->s < n)
  (ht:P.underlying t=some (.array m e)) (hi:P.info? e=some inf) (hpos:0 < inf.size) (hm:0 < m) (hx:Env.ev env x=some v) (h:slAV hp m inf.size v fun xs hp'=>K (env.put o.dst (.lst xs)) hp'):cG0 P n o env hp K:=by
 intro H μ a w hS
 have hsize:(sizeOf e).run P w=.ok inf.size w:=by simp [sizeOf,typeInfo,hi]
 have hv:=ch0 hS hx
 unfold slAV at h
 split at h
 ·rename_i i off
  obtain ⟨rfl,cs,hl,hlen,hpure,hsc,hk⟩:=h
  obtain ⟨H',blk,vals,ty,g1,g2,g3,g4,g5,g6,g7,g8⟩:=hS.wd.seal hl
  generalize ev:a.eval x=y at hv
  cases hv with
  | bp _ _ blk' hb =>
  rw [g4] at hb; injection hb with hb; subst hb
  have hrun:(execOp a.eval o).run P w=.ok (.value (.slice (some ⟨blk.b,0,none⟩) m m)) w:=by
   have:m ≠ 0:=by omega
   simp [execOp,ho,ev,Instr.sliceAt,run_underlying ht,Instr.sureAddr,Instr.sliceBounds,Instr.sliceBound,this,hsize,dC0]
  have hget:∀ (k:Nat) (el:List V) (j:Nat) (u:V),(chunk m inf.size cs)[k]?=some el->el[j]?=some u->k < m/\j < inf.size/\cs[k * inf.size + j]?=some u:=by
   intro k el j u h1 h2
   unfold chunk at h1
   rw [List.getElem?_map] at h1
   obtain ⟨q,h3,rfl⟩:=Option.map_eq_some_iff.1 h1
   have hkm:k < m:=by have:=(List.getElem?_eq_some_iff.1 h3).1; simpa using this
   rw [List.getElem?_range hkm] at h3; injection h3 with h3; subst h3
   rw [List.getElem?_take] at h2
   split at h2
   ·rename_i hj; rw [List.getElem?_drop] at h2; exact ⟨hkm,hj,h2⟩
   ·cases h2
  refine ⟨_,_,H',μ,_,w,hk,.inl hrun,⟨by rw [put_defers]; exact hS.defers,by rw [gS0]; exact hS.size,iD0 (fun s e=>by rw [hS.size]; exact hd s e) (fun s u hu=>(hS.env s u hu).le g1) ?_,g2⟩,g3,.refl _ _⟩
  refine .lst _ inf.size _ m m (fun k j=>vals.getD (k * inf.size + j) undef) (by simp [chunk]) (Nat.le_refl _) (fun k el hk'=>?_) (fun k el j u h1 h2=>?_) (fun k el j u h1 h2=>?_)
  ·have hk2:=hk'
   unfold chunk at hk'
   rw [List.getElem?_map] at hk'
   obtain ⟨q,h3,rfl⟩:=Option.map_eq_some_iff.1 hk'
   have hkm:k < m:=by have:=(List.getElem?_eq_some_iff.1 h3).1; simpa using this
   rw [List.getElem?_range hkm] at h3; injection h3 with h3; subst h3
   refine ⟨?_,ly0 fun j u hj=>eK0 (hget k _ j u hk2 hj).2.2 hsc⟩
   have:(k + 1) * inf.size<=m * inf.size:=Nat.mul_le_mul_right _ hkm
   rw [Nat.add_mul] at this
   simp [hlen]; omega
  ·obtain ⟨q1,q2,q3⟩:=hget k el j u h1 h2
   obtain ⟨x',r1,r2⟩:=g8 _ u q3
   rw [Nat.zero_add] at r1
   exact ⟨blk.b,0,vals,rfl,g5,by rw [Nat.zero_add,Array.getD_eq_getD_getElem?,r1]; rfl⟩
  ·obtain ⟨q1,q2,q3⟩:=hget k el j u h1 h2
   obtain ⟨x',r1,r2⟩:=g8 _ u q3
   rw [Nat.zero_add] at r1
   have:vals.getD (k * inf.size + j) undef=x':=by rw [Array.getD_eq_getD_getElem?,r1]; rfl
   rw [this]
   exact (r2.le g1).pure (V.e80 q3 hpure) Mu.bot
 ·exact h.elim
def appzNV (env:Env) (hp:Hp) (ty sz bytes:Nat) (z:List V) (d:Nat) (u:V) (K:Env->Hp->Prop):Prop :=
 match u with
 | .c (.int _ k)=>0 < k/\k * bytes<=140737488355328/\k<=140737488355328/\K ((Env.kill (.l d 0) env).put (some d) (.arr (.l d 0) 0 k.toNat)) ((.l d 0,.row ty sz true (List.replicate k.toNat z)) :: Hp.kill (.l d 0) hp)
 | _=>False
def bI0 (env:Env) (hp:Hp) (ty sz bytes:Nat) (z:List V) (d:Nat) (v u:V) (K:Env->Hp->Prop):Prop :=
 match v with
 | .nil=>appzNV env hp ty sz bytes z d u K
 | v=>oi0 env hp ty sz bytes z d v u K
theorem appzW_ok {o:Oper} {s x:Operand} {t tn e:TypeId} {inf:TypeInfo} {z:List V} {d:Nat} {kn:IntKind} {v u:V} {K:Env->Hp->Prop}
  (ho:o.op=.call { callee:=.builtin .append,args:=#[s,x],argTypes:=#[t,tn] }) (hd:o.dst=some d) (hdn:d < n) (htn:P.underlying tn=some (.int kn))
  (ht:P.underlying t=some (.slice e)) (hi:P.info? e=some inf) (hz:zeroCells P e=some z) (hzl:z.length=inf.size) (hzsc:scalars z=true) (hpos:0 < inf.size) (hby:0 < inf.bytes)
  (hs:Env.ev env s=some v) (hx:Env.ev env x=some u) (h:bI0 env hp e inf.size inf.bytes z d v u K):cG0 P n o env hp K:=by
 unfold bI0 at h
 split at h
 ·intro H μ a w hS
  have rs:=ch0 hS hs
  unfold appzNV at h
  split at h
  ·rename_i k0 k
   obtain ⟨hk0,hk1,hk2,hk⟩:=h
   have ex:=(ch0 hS hx).bS0
   have ev:a.eval s=.slice none 0 0:=by generalize a.eval s=y at rs; cases rs; rfl
   obtain ⟨inf',zv,hi',hiz,hzr⟩:=fO0 hz H Mu.bot
   rw [hi] at hi'; injection hi' with hi'; subst hi'
   have hzs:zv.cells.size=inf.size:=by rw [hzr.1,hzl]
   obtain ⟨q1,q2,q3,q4⟩:=ha0 (m:=k.toNat) hzr hzl hzsc
   have hek:a.eval x=.int k0 (k.toNat:Int):=by rw [ex]; congr 1; omega
   have hkb:k.toNat * inf.bytes<=140737488355328:=by
    have:((k.toNat * inf.bytes:Nat):Int)<=140737488355328:=by rw [Int.natCast_mul,show ((k.toNat:Nat):Int)=k by omega]; exact hk1
    omega
   have hrun:=Go.Lib.run_append_nil_zeros (P:=P) w t tn o.type e inf zv k0 kn ht htn hi hiz k.toNat (by omega) hpos (by omega) (by omega)
   have hexec:(execOp a.eval o).run P w=.ok (.value (.slice (some ⟨w.heap.size,0,none⟩) k.toNat (grownCap w k.toNat 0 e))) (w.drew.alloc (.cells ((Builtin.zeroCells zv.cells k.toNat).toList.toArray++Builtin.zeroCells zv.cells (grownCap w k.toNat 0 e - k.toNat)) e)):=by
    have hrun':(Builtin.append_ #[t,tn] o.type #[a.eval s,a.eval x]).run P w=.ok (.slice (some ⟨w.heap.size,0,none⟩) k.toNat (grownCap w k.toNat 0 e)) (w.drew.alloc (.cells ((Builtin.zeroCells zv.cells k.toNat).toList.toArray++Builtin.zeroCells zv.cells (grownCap w k.toNat 0 e - k.toNat)) e)):=by
     rw [ev,hek]; simpa using hrun
    simp [execOp,ho,resolve,invoke,builtin,hrun']
   have hcap:=grownCap_ge w k.toNat 0 e
   have hcap2:=grownCap_le_maxLen w k.toNat 0 e (by simp only [maxLen]; omega)
   have hsz:((Builtin.zeroCells zv.cells k.toNat).toList.toArray++Builtin.zeroCells zv.cells (grownCap w k.toNat 0 e - k.toNat)).size=grownCap w k.toNat 0 e * inf.size:=by
    simp only [Array.size_append,List.size_toArray,Array.length_toList,size_zeroCells,hzs,<- Nat.add_mul]
    congr 1; omega
   have hW0:=hS.wd
   obtain ⟨g1,g2⟩:=(hW0.drew).new (i:=.l d 0) (ob:=.row e inf.size true (List.replicate k.toNat z)) (bo:=.cells ((Builtin.zeroCells zv.cells k.toNat).toList.toArray++Builtin.zeroCells zv.cells (grownCap w k.toNat 0 e - k.toNat)) e) (blk:=⟨w.heap.size,inf.size,grownCap w k.toNat 0 e⟩) rfl
    (ObOk.row0 (Mu.aS0 _ _ _) hcap2 (by simpa using hcap) (heap_alloc_new w.drew _) hsz (kj0 hW0) ((One.list (kV0 hpos q1 q3 q4)).append (One.fill (hzr.scalar hzsc) rfl)) q3 q4)
   exact ⟨_,_,H,_,_,_,hk,.inl hexec,by rw [hd]; exact hS.mk' hdn (fun j hj=>Mu.bz0 _ _ hj) g1 (.arr _ _ _ _ _ hcap (.inr ⟨_,Mu.aS0 _ _ _,by simp,by simp⟩)),(Nx.drew H μ hp w).trans g2,.set hd fun j hj=>Mu.bz0 _ _ hj⟩
  ·exact h.elim
 ·exact rN0 ho hd hdn htn ht hi hz hzl hzsc hpos hby hs hx h
theorem foldl_push (l:List UInt8) (s:ByteArray):(l.map fun b=>(b.toNat:Int)).foldl (fun r n=>r.push (UInt8.ofNat n.toNat)) s=⟨⟨s.data.toList++l⟩⟩:=by
 induction l generalizing s with
 | nil=>obtain ⟨⟨s⟩⟩:=s; simp
 | cons b l ih =>
  simp only [List.map_cons,List.foldl_cons]
  rw [ih]
  simp [ByteArray.push]
theorem cvBS_ok {o:Oper} {x:Operand} {src dst e:TypeId} {v:V} {K:Env->Hp->Prop} (ho:o.op=.convert src dst x) (hd:∀ s,o.dst=some s->s < n)
  (hs:P.underlying src=some (.slice e)) (hdst:P.underlying dst=some .string) (he:P.underlying e=some (.int .u8)) (hv:Env.ev env x=some v) (h:srcV hp 1 v fun es=>∃ s,es=a10 s/\K (env.put o.dst (.c (.string s))) hp):cG0 P n o env hp K:=by
 intro H μ a w hS
 have rx:=ch0 hS hv
 obtain ⟨es,sa,c,news,⟨s,rfl,hk⟩,ex,hl,hsrc,h1,hes,hr⟩:=qc0 (by decide) hS.wd rx h
 have hnews:news=(s.data.toList.map fun b=>(b.toNat:Int)).map (Value.int .u8):=by
  apply List.ext_getElem?
  intro j
  by_cases hj:j < s.size
  ·have hb:s.data.toList[j]?=some s.data.toList[j]:=List.getElem?_eq_getElem (by simpa using hj)
   obtain ⟨y,y1,y2⟩:=hr j [.c (.int .u8 s.data.toList[j].toNat)] 0 _ (by unfold a10; rw [List.getElem?_map,hb]; rfl) rfl
   have:=y2.bS0; subst this
   rw [Nat.mul_one,Nat.add_zero] at y1
   rw [y1,List.getElem?_map,List.getElem?_map,hb]; rfl
  ·rw [List.getElem?_eq_none (by rw [hl,fR0]; omega),List.getElem?_eq_none (by simp; omega)]
 have hsx:SrcX P H w (a.eval x) 1 (a10 s) news:=by rw [ex]; exact .slice hl hsrc h1 hes hr
 have hfc:=hsx.cells w rfl
 have hrun:(execOp a.eval o).run P w=.ok (.value (.string s)) w:=by
  have hcb:(Conv.bytesToString (a.eval x)).run P w=.ok (.string s) w:=by
   rw [ex] at hfc ⊢
   cases sa with
   | none =>
    simp [Builtin.firstCells] at hfc
    have h0:s.size=0:=by
     have:=hl; rw [hfc,fR0] at this; simpa using this.symm
    have:s=ByteArray.empty:=by
     obtain ⟨⟨l⟩⟩:=s
     have:l=[]:=List.eq_nil_of_length_eq_zero h0
     subst this; rfl
    subst this
    simp [Conv.bytesToString]
   | some ad =>
    rw [fR0] at hfc ⊢
    simp only [Builtin.firstCells,Nat.mul_one] at hfc
    rw [hnews] at hfc
    rw [run_bytesToString w ad s.size c _ hfc,foldl_push]
    simp only [ByteArray.empty,ByteArray.emptyWithCapacity]
    obtain ⟨⟨l⟩⟩:=s
    rfl
  cases hsx':a.eval x with
  | slice sa' l' c' =>
   rw [hsx'] at hcb
   simp [execOp,ho,hsx',convert,run_underlying hs,run_underlying hdst,run_underlying he,hcb]
  | _=>rw [ex] at hsx'; cases hsx'
 exact ⟨_,_,H,μ,_,w,hk,.inl hrun,hS.put hd (.c _),Nx.refl H μ hp w,.refl _ _⟩
end Go.Am
end

section
namespace Go.Am
variable {P:Program} {n:Sz} {H:Imm} {μ:Mu} {env:Env} {hp:Hp} {a:Act} {w:World}
def callP (P:Program) (env:Env) (hp:Hp) (d:Option Nat) (f:Operand) (xs:List Operand) (K:Env->Hp->Prop) (Kp:V->Hp->Prop):Prop :=
 ∃ g caps vs,Env.ev env f=some (.fn g caps)/\xs.mapM (Env.ev env)=some vs/\V.dB0 (Hp.frz (.tup (vs++caps)) hp) (vs++caps) fun args =>
   V.bt0 args=true/\J P g args [] fun r=>match r with
    | .ret v _=>v.pure=true/\K (env.put d v) (Hp.frz (.tup (vs++caps)) hp)
    | .pan v _=>v.pure=true/\Kp v (Hp.frz (.tup (vs++caps)) hp)
def vcOp (P:Program) (env:Env) (hp:Hp) (d:Option Nat) (op:IOp) (K:Env->Hp->Prop) (Kp:V->Hp->Prop):Prop :=
 match op with
 | .alloc z=>∃ s,d=some s/\K ((Env.kill (.l s 0) env).put (some s) (.bp (.l s 0) 0)) ((.l s 0,.box z) :: Hp.kill (.l s 0) hp)
 | .box sz x=>∃ s v us,d=some s/\Env.ev env x=some v/\v.cells=some us /\
   K ((Env.kill (.l s 0) env).put (some s) (.bp (.l s 0) 0)) ((.l s 0,.box (us.map (V.kill (.l s 0)))) :: Hp.kill (.l s 0) hp)
 | .mks ty sz bytes z l c=>∃ s kl kc li ci,d=some s/\Env.ev env l=some (.c (.int kl li))/\Env.ev env c=some (.c (.int kc ci))/\0<=li/\li<=ci/\ci * bytes<=281474976710656/\ci<=281474976710656 /\
   K ((Env.kill (.l s 0) env).put (some s) (.arr (.l s 0) 0 li.toNat)) ((.l s 0,.row ty sz true (List.replicate li.toNat z)) :: Hp.kill (.l s 0) hp)
 | .st sz x y=>d=none/\∃ u v us,Env.ev env x=some u/\Env.ev env y=some v/\v.cells=some us/\us.length=sz/\scalars us=true/\stV hp us u fun hp'=>K env hp'
 | .app ty sz bytes x y=>∃ s v u,d=some s/\Env.ev env x=some v/\Env.ev env y=some u/\appW env hp ty sz bytes s v u K
 | .call f xs=>callP P env hp d f xs K Kp\/callX P env hp d f xs K Kp
 | .mkrow ty sz xs=>∃ s,d=some s/\mkrowV env hp s ty sz xs K
 | .isnl ng x=>∃ v,Env.ev env x=some v/\pC0 v fun b=>K (env.put d (.c (.bool (if ng then !b else b)))) hp
 | .capn x=>∃ v,Env.ev env x=some v/\capV v fun c=>K (env.put d (.c (.int .i64 c))) hp
 | .cpy sz x y=>∃ v u,Env.ev env x=some v/\Env.ev env y=some u/\cpyV hp sz v u fun k hp'=>K (env.put d (.c (.int .i64 k))) hp'
 | .mkmap kd=>mkmapV env hp d kd K
 | .mput kd m k x=>d=none/\∃ vm vk vx,Env.ev env m=some vm/\Env.ev env k=some vk/\Env.ev env x=some vx/\pS0 hp kd vm vk vx fun hp'=>K env hp'
 | .mget kd z ok m k=>∃ vm vk,Env.ev env m=some vm/\Env.ev env k=some vk/\pR0 hp kd z ok vm vk fun v=>K (env.put d v) hp
 | .sl3 x lo hi mx=>∃ v,Env.ev env x=some v/\sl3V v (some (Env.ev env lo)) (some (Env.ev env hi)) (some (Env.ev env mx)) fun u=>K (env.put d u) hp
 | .appz ty sz bytes z x y=>∃ s v u,d=some s/\Env.ev env x=some v/\Env.ev env y=some u/\bI0 env hp ty sz bytes z s v u K
 | .clr sz z x=>∃ v,Env.ev env x=some v/\clrV hp sz z v fun hp'=>K (env.put d (.tup [])) hp'
 | .allocS t z=>∃ s,d=some s/\K ((Env.kill (.l s 0) env).put (some s) (.bp (.l s 0) 0)) ((.l s 0,.box (.self (.l s 0) t :: z)) :: Hp.kill (.l s 0) hp)
 | .cvSB x=>∃ s,Env.ev env x=some (.c (.string s))/\K (env.put d (.lst (a10 s))) hp
 | .appS ty x y=>∃ s v bs,d=some s/\Env.ev env x=some v/\Env.ev env y=some (.c (.string bs))/\bs0 env hp ty 1 1 s v (a10 bs) K
 | .cvBS x=>∃ v,Env.ev env x=some v/\srcV hp 1 v fun es=>∃ s,es=a10 s/\K (env.put d (.c (.string s))) hp
 | .iaA m sz x i=>∃ v u,Env.ev env x=some v/\Env.ev env i=some u/\iaAV m sz v u fun r=>K (env.put d r) hp
 | .boxS t sz x=>∃ s v us,d=some s/\Env.ev env x=some v/\v.cells=some (.c (.pointer none) :: us) /\
   K ((Env.kill (.l s 0) env).put (some s) (.bp (.l s 0) 0)) ((.l s 0,.box (.self (.l s 0) t :: us.map (V.kill (.l s 0)))) :: Hp.kill (.l s 0) hp)
 | .slA m sz x=>∃ v,Env.ev env x=some v/\slAV hp m sz v fun xs hp'=>K (env.put d (.lst xs)) hp'
 | .pan x=>∃ t v,Env.ev env x=some (.ifc t v)/\Kp (.ifc t v) hp
 | op=>pv hp (Env.ev env) op fun v=>K (env.put d v) hp
theorem OpT.of_steps {o:Oper} {K:Env->Hp->Prop} {Kp:V->Hp->Prop} (h:cG0 P n o env hp K):OpT P n o env hp K Kp:=by
 intro H μ a w Q hS _
 obtain ⟨env',hp',H',μ',x,w',hk,hr,h1,h2,h3⟩:=h H μ a w hS
 unfold Oper.wp
 rcases hr with hr | ⟨rfl,hr⟩
 ·rw [hr]; exact ⟨env',hp',H',μ',hk,h1,h2,h3⟩
 ·rw [hr]; exact ⟨env',hp',H',μ',hk,h1,h2,h3⟩
theorem Wd.only {hp':Hp} (h:Wd H μ hp w) (h0:hp'=[]):Wd H μ hp' w:=by
 subst h0
 exact ⟨fun i o hl=>by simp at hl,fun i j oi oj bi bj hi=>by simp at hi,h.imm,h.glo⟩
theorem Owns.nil {b:Nat}:¬ Owns [] μ b:=by rintro ⟨i,o,blk,h,_⟩; simp at h
theorem Wd.stay {H':Imm} {μ0 μ':Mu} {w':World} (hW:Wd H μ hp w) (hx:Nj H μ0 [] w H' μ' [] w') (hi:∀ b cs,H' b=some cs->∃ ty fz,w'.heap[b]?=some (.cells cs ty fz)) :
  Wd H' μ hp w'/\Nx H μ hp w H' μ hp w':=by
 have hk:∀ b,b < w.heap.size->w'.heap[b]?=w.heap[b]?:=fun b hb=>hx.keep b hb Owns.nil
 have hnew:∀ b cs,H' b=some cs->H b=none->w.heap.size<=b:=fun b cs h h0=>(hx.fresh b cs h h0).resolve_right Owns.nil
 refine ⟨⟨fun i o hl=>?_,hW.inj,hi,fun p hp=>hx.imm _ _ (hW.glo p hp)⟩,⟨⟨hx.imm,hx.os,hx.tape,hx.output,hx.size,fun b hb _=>hk b hb,fun b h _=>h,fun b cs h h0=>.inl (hnew b cs h h0)⟩,fun _=>rfl⟩⟩
 have hO:=hW.ob i o hl
 by_cases hg:o=.gone
 ·subst hg; trivial
 have hlt:∀ blk,μ i=some blk->blk.b < w.heap.size:=fun blk hb=>by
  cases ho:o.own with
  | true=>exact hO.lt ho hb
  | false =>
   have:=hO.kM0 ho hg hb
   cases hH:H blk.b with
   | none=>exact absurd hH this
   | some cs=>obtain ⟨ty,fz,e⟩:=hW.imm _ _ hH; exact (Array.getElem?_eq_some_iff.1 e).1
 refine hO.mono hx.imm rfl (fun _ _=>rfl) (fun blk hb=>hk _ (hlt blk hb)) (fun ho blk hb=>?_)
 have hn:=hO.kl0 ho hb
 rw [hn]
 cases hH:H' blk.b with
 | none=>rfl
 | some cs=>have:=hnew _ _ hH hn; have:=hlt blk hb; omega
theorem qu0 {o:Oper} {c:Call} {f:Operand} {g:Nat} {caps vs:List V} {K:Env->Hp->Prop} {Kp:V->Hp->Prop} (ho:o.op=.call c) (hcal:c.callee=.value f) (hd:∀ s,o.dst=some s->s < n)
  (hf:Env.ev env f=some (.fn g caps)) (hv:c.args.toList.mapM (Env.ev env)=some vs)
  (h:V.dB0 (Hp.frz (.tup (vs++caps)) hp) (vs++caps) fun args=>V.bt0 args=true/\J P g args [] fun r=>match r with
    | .ret v _=>v.pure=true/\K (env.put o.dst v) (Hp.frz (.tup (vs++caps)) hp)
    | .pan v _=>v.pure=true/\Kp v (Hp.frz (.tup (vs++caps)) hp)):OpTd P n o none env hp K Kp:=by
 intro H μ a w Q hS hQ
 obtain ⟨cv,ef,hcv⟩:=mz0 (ch0 hS hf)
 have hargs:=lp0 (rho hS) c.args.toList vs hv
 simp only [Array.toArray_toList] at hargs
 obtain ⟨H1,hle,hS1,hx1⟩:=hS.frz (.tup (vs++caps))
 have hall:=hargs.append hcv
 obtain ⟨us,⟨hp0,hJ⟩,hlen,hr⟩:=mk0 hS1.wd (cs:=vs++caps) (vals:=c.args.map a.eval++cv) (off:=0) (by rw [hall.1]; omega)
  (fun j v hj=>by rw [Nat.zero_add]; exact (hall.2 j v hj).le hle) h
 have hRL:RL H1 Mu.bot us (c.args.map a.eval++cv):=⟨by rw [hall.1,hlen],fun j v hj=>by
  have:=hr j v hj
  rw [Nat.zero_add] at this
  exact this.pure (V.e80 hj hp0) _⟩
 have hcall:=hJ H1 Mu.bot (c.args.map a.eval++cv) w hRL ⟨fun i o hl=>by simp [hpE] at hl,fun i j oi oj bi bj hi=>by simp [hpE] at hi,hS1.wd.imm,hS1.wd.glo⟩
 have hrun:(execOp a.eval o).run P w=(callFunc g (c.args.map a.eval++cv)).run P w:=by
  simp [execOp,ho,resolve,hcal,ef,Deferred.ofValue,invoke]
 have back:∀ r H' μ' e w',JP H1 Mu.bot 0 [] w r e H' μ' w'->(∃ v,(∃ obs,r=.ret v obs)\/∃ obs,r=.pan v obs)->Sat n H' μ env (Hp.frz (.tup (vs++caps)) hp) a w'/\Nx H μ hp w H' μ (Hp.frz (.tup (vs++caps)) hp) w':=by
  intro r H' μ' e w' hjp _
  have hh:Nj H1 Mu.bot [] w H' μ' (match r with | .ret _ obs=>hpE 0 obs | .pan _ obs=>hpE 0 obs) w'/\∀ b cs,H' b=some cs->∃ ty fz,w'.heap[b]?=some (.cells cs ty fz):=by
   cases r with
   | ret v obs=>exact ⟨hjp.2.1,hjp.2.2.1.imm⟩
   | pan v obs=>exact ⟨hjp.2.1,hjp.2.2.1.imm⟩
  obtain ⟨hx,hi⟩:=hh
  have hx':Nj H1 Mu.bot [] w H' μ' [] w':=⟨hx.imm,hx.os,hx.tape,hx.output,hx.size,hx.keep,fun b hO _=>absurd hO Owns.nil,hx.fresh⟩
  obtain ⟨k1,k2⟩:=hS1.wd.stay hx' hi
  exact ⟨⟨hS1.defers,hS1.size,fun s v hs=>(hS1.env s v hs).le hx.imm,k1⟩,hx1.trans k2⟩
 unfold Oper.wp
 rw [hrun]
 have good:∀ e w',(∃ r H' μ',(match r with
    | .ret v _=>v.pure=true/\K (env.put o.dst v) (Hp.frz (.tup (vs++caps)) hp)
    | .pan v _=>v.pure=true/\Kp v (Hp.frz (.tup (vs++caps)) hp))/\JP H1 Mu.bot 0 [] w r e H' μ' w') ->
   (match e with
    | .returned v=>∃ env' hp' H' μ',K env' hp'/\Sat n H' μ' env' hp' (a.put o.dst v) w'/\Nx H μ hp w H' μ' hp' w'/\Same none μ μ'
    | .panicked chain=>Q (.panic chain) a w'
    | .outgrown=>False):=by
  rintro e w' ⟨r,H',μ',hq,hjp⟩
  obtain ⟨b1,b2⟩:=back r H' μ' e w' hjp (by cases r with | ret v obs=>exact ⟨v,.inl ⟨obs,rfl⟩⟩ | pan v obs=>exact ⟨v,.inr ⟨obs,rfl⟩⟩)
  cases r with
  | ret v obs =>
   obtain ⟨x,rfl,hx⟩:=hjp.1
   exact ⟨_,_,H',μ,hq.2,b1.put hd (hx.pure hq.1 μ),b2,.refl _ _⟩
  | pan v obs =>
   obtain ⟨x,rfl,hx⟩:=hjp.1
   exact hQ v x _ H' μ w' hq.2 (hx.pure hq.1 μ) b2 b1.wd (.refl _ _)
 unfold dG0 at hcall
 split at hcall
 ·rename_i g' av w' hr
  rw [hr]
  refine Calls.mono hcall fun e w'' he=>?_
  have:=good e w'' he
  cases e with
  | returned v=>exact this
  | panicked ch=>exact this
  | outgrown=>exact this.elim
 ·rename_i v w' hr
  rw [hr]
  exact good _ _ hcall
 ·rename_i v w' hr
  rw [hr]
  exact good _ _ hcall
 ·exact hcall.elim
end Go.Am
end

section
namespace Go.Am
variable {P:Program} {n:Sz} {H:Imm} {μ:Mu} {env:Env} {hp:Hp} {a:Act} {w:World}
theorem gu0 {o:Oper} {io:IOp} {K:Env->Hp->Prop} {Kp:V->Hp->Prop} (hc:comp P o=some io) (hd:∀ s,o.dst=some s->s < n)
  (h:pv hp (Env.ev env) io fun v=>K (env.put o.dst v) hp):OpT P n o env hp K Kp:=by
 refine .of_steps fun H μ a w hS=>?_
 obtain ⟨v,x,h1,h2,h3⟩:=pv_ok hc hS h
 exact ⟨_,hp,H,μ,x,w,h1,.inl h3,hS.put hd h2,Nx.refl H μ hp w,.refl _ _⟩
theorem st_opT {o:Oper} {t:TypeId} {d:TypeDesc} {inf:TypeInfo} {x y:Operand} {u v:V} {us:List V} {K:Env->Hp->Prop} {Kp:V->Hp->Prop} (ho:o.op=.store t x y) (hd:o.dst=none)
  (ht:P.underlying t=some d) (hi:P.info? t=some inf) (hu:Env.ev env x=some u) (hv:Env.ev env y=some v) (hus:v.cells=some us) (hl:us.length=inf.size) (hsc:scalars us=true)
  (h:stV hp us u fun hp'=>K env hp'):OpT P n o env hp K Kp:=by
 refine .of_steps fun H μ a w hS=>?_
 have hr:=(ch0 hS hv).cells hus
 obtain ⟨ad,w',hp',e1,e2,e3,e4,e5⟩:=stV_ok (P:=P) hS (ch0 hS hu) hr hsc h
 refine ⟨env,hp',H,μ,undef,w',e3,.inr ⟨rfl,?_⟩,by rw [hd]; exact e4,e5,.refl _ _⟩
 have hsz:(a.eval y).cells.size=inf.size:=by rw [hr.1,hl]
 simp [execOp,ho,Instr.storeAt,e1,Instr.sureAddr,storeVar,sizeOf,typeInfo,hi,hsz,e2]
theorem pan_opT {o:Oper} {x:Operand} {t:Nat} {v:V} {K:Env->Hp->Prop} {Kp:V->Hp->Prop} (ho:o.op=.panic x) (hv:Env.ev env x=some (.ifc t v)) (h:Kp (.ifc t v) hp):OpT P n o env hp K Kp:=by
 intro H μ a w Q hS hQ
 have hr:=ch0 hS hv
 have hx:∃ y,a.eval x=.iface t y:=by
  generalize a.eval x=z at hr
  cases hr with
  | ifc _ _ y _=>exact ⟨y,rfl⟩
 obtain ⟨y,e⟩:=hx
 unfold Oper.wp
 have hrun:(execOp a.eval o).run P w=.halt (.panic (a.eval x)) w:=by simp [execOp,ho,Instr.panic,e]
 rw [hrun]
 exact hQ _ _ hp H μ w h hr (Nx.refl H μ hp w) hS.wd (.refl _ _)
theorem cvSB_ok {o:Oper} {x:Operand} {src dst e:TypeId} {u:TypeDesc} {s:ByteArray} {K:Env->Hp->Prop} (ho:o.op=.convert src dst x) (hd:∀ s,o.dst=some s->s < n)
  (hs:P.underlying src=some u) (hdst:P.underlying dst=some (.slice e)) (he:P.underlying e=some (.int .u8)) (hv:Env.ev env x=some (.c (.string s))) (h:K (env.put o.dst (.lst (a10 s))) hp):cG0 P n o env hp K:=by
 intro H μ a w hS
 have hx:=(ch0 hS hv).bS0
 have hrun:(execOp a.eval o).run P w=.ok (.value (.slice (some ⟨w.heap.size,0,none⟩) s.size (grownCap w s.size 0 e))) (Lib.bytesWorld w e s):=by
  simp [execOp,ho,hx,Lib.run_convert_string_bytes w src dst e s hs hdst he]
 have h0:H w.heap.size=none:=kj0 hS.wd
 let H':Imm:=fun b=>if b=w.heap.size then some (Lib.bytesCells w e s) else H b
 have hle:Imm.le H H':=fun b cs hb=>by
  show (if b=w.heap.size then _ else H b)=some cs
  rw [if_neg (fun hh=>by rw [hh,h0] at hb; cases hb)]; exact hb
 have hnj:Nj H μ [] w H' μ [] (Lib.bytesWorld w e s):=⟨hle,rfl,rfl,rfl,by rw [Lib.bytesWorld_size]; omega,fun b hb _=>Lib.bytesWorld_at_old w e s b hb,fun b hb _=>hb,fun b cs hb hn=>by
  by_cases hbw:b=w.heap.size
  ·exact .inl (by omega)
  ·have:H' b=H b:=if_neg hbw
   rw [this,hn] at hb; cases hb⟩
 obtain ⟨g1,g2⟩:=hS.wd.stay hnj (fun b cs hb=>by
  by_cases hbw:b=w.heap.size
  ·have:H' b=some (Lib.bytesCells w e s):=if_pos hbw
   rw [this] at hb; injection hb with hb; subst hb; subst hbw
   exact ⟨_,_,Lib.bytesWorld_at_new w e s⟩
  ·have:H' b=H b:=if_neg hbw
   rw [this] at hb
   obtain ⟨ty,fz,hh⟩:=hS.wd.imm _ _ hb
   have hlt:b < w.heap.size:=(Array.getElem?_eq_some_iff.1 hh).1
   exact ⟨ty,fz,by rw [Lib.bytesWorld_at_old w e s b hlt]; exact hh⟩)
 have hget:∀ (i:Nat) (el:List V) (j:Nat) (v:V),(a10 s)[i]?=some el->el[j]?=some v->∃ b,s.data.toList[i]?=some b/\j=0/\v=.c (.int .u8 b.toNat):=by
  intro i el j v h1 h2
  unfold a10 at h1
  rw [List.getElem?_map] at h1
  obtain ⟨b,h3,rfl⟩:=Option.map_eq_some_iff.1 h1
  cases j with
  | zero=>simp at h2; exact ⟨b,h3,rfl,h2.symm⟩
  | succ j=>simp at h2
 have hr:R H' μ (.lst (a10 s)) (.slice (some ⟨w.heap.size,0,none⟩) s.size (grownCap w s.size 0 e)):=by
  refine .lst _ 1 _ _ _ (fun i _=>.int .u8 ((s.data.toList.getD i 0).toNat)) (by simp [a10]) (grownCap_ge w s.size 0 e) (fun i el hi=>?_) (fun i el j v hi hj=>?_) (fun i el j v hi hj=>?_)
  ·unfold a10 at hi
   rw [List.getElem?_map] at hi
   obtain ⟨b,h3,rfl⟩:=Option.map_eq_some_iff.1 hi
   exact ⟨rfl,rfl⟩
  ·obtain ⟨b,h1,rfl,rfl⟩:=hget i el j v hi hj
   refine ⟨w.heap.size,0,Lib.bytesCells w e s,rfl,if_pos rfl,?_⟩
   have hlt:=(List.getElem?_eq_some_iff.1 h1).1
   have hlt':i < s.size:=hlt
   have:s.data[i]?=some b:=by rw [<- Array.getElem?_toList]; exact h1
   simp [Lib.bytesCells,Array.getElem?_append,this,List.getD,h1,hlt']
  ·obtain ⟨b,h1,rfl,rfl⟩:=hget i el j v hi hj
   have:(s.data.toList.getD i 0)=b:=by simp only [List.getD,h1,Option.getD_some]
   rw [this]; exact .c _
 exact ⟨_,hp,H',μ,_,_,h,.inl hrun,Sat.put ⟨hS.defers,hS.size,fun s v hv=>(hS.env s v hv).le hle,g1⟩ hd hr,g2,.refl _ _⟩
theorem mN0 {kt:TypeId} {kd:Option IntKind} (h:kdOf P kt=some kd):P.underlying kt=some (kdT kd):=by
 unfold kdOf at h
 split at h
 ·rename_i k e; simp only [Option.some.injEq] at h; subst h; exact e
 ·rename_i e; simp only [Option.some.injEq] at h; subst h; exact e
 ·cases h
theorem kx0 {o:Oper} {io:IOp} {K:Env->Hp->Prop} {Kp:V->Hp->Prop} (hc:comp P o=some io) (hd:∀ s,o.dst=some s->s < n) (h:vcOp P env hp o.dst io K Kp):OpT P n o env hp K Kp:=by
 have hc0:=hc
 obtain ⟨dst,op,type,pos,after,guard⟩:=o
 cases op <;> simp only [comp] at hc
 case alloc t =>
  split at hc
  ·rename_i z hz
   split at hc
   ·simp only [Option.some.injEq] at hc; subst hc
    obtain ⟨s,e,hk⟩:=h
    simp only at e
    exact .of_steps (allocS_ok rfl e (hd s e) hz hk)
   ·simp only [Option.some.injEq] at hc; subst hc
    obtain ⟨s,e,hk⟩:=h
    simp only at e
    exact .of_steps (alloc_ok rfl e (hd s e) hz hk)
  ·cases hc
 case box t x =>
  simp only [Option.some.injEq] at hc
  split at hc
  ·subst hc
   obtain ⟨s,v,us,e,h1,h2,hk⟩:=h
   exact .of_steps (boxS_ok rfl e (hd s e) h1 h2 hk)
  ·subst hc
   obtain ⟨s,v,us,e,h1,h2,hk⟩:=h
   exact .of_steps (box_ok rfl e (hd s e) h1 h2 hk)
 case makeSlice t l c =>
  split at hc
  ·rename_i e ht
   split at hc
   ·rename_i i z hi hz
    split at hc
    ·rename_i hcond
     simp only [Option.some.injEq] at hc; subst hc
     obtain ⟨s,kl,kc,li,ci,e,h1,h2,h3,h4,h5,h6,hk⟩:=h
     simp only at e
     exact .of_steps (mks_ok rfl e (hd s e) ht hi hz rfl (by simpa using hcond.1) hcond.2.1 hcond.2.2 h1 h2 h3 h4 h5 h6 hk)
    ·cases hc
   ·cases hc
  ·cases hc
 case binOp op t x y yt =>
  split at hc
  ·simp only [Option.some.injEq] at hc; subst hc; exact gu0 hc0 hd h
  ·simp only [Option.some.injEq] at hc; subst hc; exact gu0 hc0 hd h
  ·rename_i e ht
   split at hc
   ·rename_i hy
    simp only [Option.some.injEq] at hc; subst hc
    obtain ⟨v,h1,h2⟩:=h
    exact .of_steps (isnl_ok (ng:=false) rfl hd ht hy h1 h2)
   ·cases hc
  ·rename_i e ht
   split at hc
   ·rename_i hy
    simp only [Option.some.injEq] at hc; subst hc
    obtain ⟨v,h1,h2⟩:=h
    exact .of_steps (isnl_ok (ng:=true) rfl hd ht hy h1 h2)
   ·cases hc
  ·split at hc
   ·simp only [Option.some.injEq] at hc; subst hc; exact gu0 hc0 hd h
   ·cases hc
  ·split at hc
   ·simp only [Option.some.injEq] at hc; subst hc; exact gu0 hc0 hd h
   ·cases hc
  ·simp only [Option.some.injEq] at hc; subst hc; exact gu0 hc0 hd h
  ·simp only [Option.some.injEq] at hc; subst hc; exact gu0 hc0 hd h
  ·cases hc
 case typeAssert x xt t ok =>
  cases ok with
  | false=>simp only at hc; cases hc
  | true =>
   simp only at hc
   split at hc
   ·split at hc
    ·cases hc
    ·simp only [Option.some.injEq] at hc; subst hc; exact gu0 hc0 hd h
   ·cases hc
 case buildSlice t m ps =>
  split at hc
  ·rename_i e ht
   split at hc
   ·rename_i i z hi hz
    split at hc
    ·rename_i hcond
     simp only [Option.some.injEq] at hc; subst hc
     obtain ⟨s,e,h1⟩:=h
     simp only at e
     exact .of_steps (mkrow_ok rfl e (hd s e) ht hi hz hcond.1 hcond.2.1 hcond.2.2.1 hcond.2.2.2 h1)
    ·cases hc
   ·cases hc
  ·cases hc
 case store t x y =>
  split at hc
  ·rename_i d i ht hi
   simp only [Option.some.injEq] at hc; subst hc
   obtain ⟨e,u,v,us,h1,h2,h3,h4,h5,hk⟩:=h
   simp only at e
   exact st_opT rfl e ht hi h1 h2 h3 h4 h5 hk
  ·cases hc
 case panic x =>
  simp only [Option.some.injEq] at hc; subst hc
  obtain ⟨t,v,h1,h2⟩:=h
  exact pan_opT rfl h1 h2
 case call c =>
  obtain ⟨callee,args,argTypes⟩:=c
  cases callee with
  | value f =>
   simp only [Option.some.injEq] at hc; subst hc
   rcases h with ⟨g,caps,vs,h1,h2,h3⟩ | h
   ·exact (qu0 rfl rfl hd h1 h2 h3).weak
   ·exact on0 rfl rfl hd (by simpa using h)
  | invoke r m=>simp only at hc; cases hc
  | builtin b =>
   simp only at hc
   unfold compB at hc
   split at hc
   case h_4 s x t t' e1 e2 =>
    have e1':args=#[s,x]:=by rw [<- Array.toArray_toList (xs:=args),e1]
    have e2':argTypes=#[t,t']:=by rw [<- Array.toArray_toList (xs:=argTypes),e2]
    subst e1'; subst e2'
    split at hc
    ·rename_i e e' ht ht'
     split at hc
     ·rename_i i z hi hz
      split at hc
      ·rename_i hcond
       simp only [Option.some.injEq] at hc; subst hc
       obtain ⟨rfl,hzl,hpos,hby,hzsc⟩:=hcond
       obtain ⟨d,v,u,hd',h1,h2,hk⟩:=h
       simp only at hd'
       exact .of_steps (appW_ok rfl hd' (hd d hd') ht hi hz hzl hzsc hpos hby h1 h2 hk)
      ·cases hc
     ·cases hc
    ·rename_i e k ht ht'
     split at hc
     ·rename_i i z hi hz
      split at hc
      ·rename_i hcond
       simp only [Option.some.injEq] at hc; subst hc
       obtain ⟨hzl,hpos,hby,hzsc⟩:=hcond
       obtain ⟨d,v,u,hd',h1,h2,hk⟩:=h
       simp only at hd'
       exact .of_steps (appzW_ok rfl hd' (hd d hd') ht' ht hi hz hzl hzsc hpos hby h1 h2 hk)
      ·cases hc
     ·cases hc
    ·rename_i e ht ht'
     split at hc
     ·rename_i i z hi hz
      split at hc
      ·rename_i hcond
       simp only [Option.some.injEq] at hc; subst hc
       obtain ⟨hzl,hsz,hby,hzsc⟩:=hcond
       obtain ⟨d,v,bs,hd',h1,h2,hk⟩:=h
       simp only at hd'
       exact .of_steps (appS_ok rfl hd' (hd d hd') ht ht' hi hz hzl hzsc hsz hby h1 h2 hk)
      ·cases hc
     ·cases hc
    ·cases hc
   case h_5 s x t t' e1 e2 =>
    have e1':args=#[s,x]:=by rw [<- Array.toArray_toList (xs:=args),e1]
    have e2':argTypes=#[t,t']:=by rw [<- Array.toArray_toList (xs:=argTypes),e2]
    subst e1'; subst e2'
    split at hc
    ·rename_i e e' ht ht'
     split at hc
     ·rename_i i hi
      split at hc
      ·rename_i hcond
       simp only [Option.some.injEq] at hc; subst hc
       obtain ⟨v,u,h1,h2,hk⟩:=h
       exact .of_steps (cpy_ok rfl hd ht hi hcond.2 h1 h2 hk)
      ·cases hc
     ·cases hc
    ·cases hc
   case h_7 x t e1 e2 =>
    have e1':args=#[x]:=by rw [<- Array.toArray_toList (xs:=args),e1]
    have e2':argTypes=#[t]:=by rw [<- Array.toArray_toList (xs:=argTypes),e2]
    subst e1'; subst e2'
    split at hc
    ·rename_i e ht
     split at hc
     ·rename_i i z hi hz
      split at hc
      ·rename_i hcond
       simp only [Option.some.injEq] at hc; subst hc
       obtain ⟨v,h1,hk⟩:=h
       exact .of_steps (clr_ok rfl hd ht hi hz hcond.1 hcond.2.2 hcond.2.1 h1 hk)
      ·cases hc
     ·cases hc
    ·cases hc
   case h_6 x t e1 e2 =>
    have e1':args=#[x]:=by rw [<- Array.toArray_toList (xs:=args),e1]
    have e2':argTypes=#[t]:=by rw [<- Array.toArray_toList (xs:=argTypes),e2]
    subst e1'; subst e2'
    split at hc
    ·rename_i e ht
     simp only [Option.some.injEq] at hc; subst hc
     obtain ⟨v,h1,h2⟩:=h
     exact .of_steps (capn_ok rfl hd ht h1 h2)
    ·cases hc
   all_goals
    (repeat' split at hc)
    all_goals first
     | (cases hc; done)
     | (simp only [Option.some.injEq] at hc; subst hc; exact gu0 hc0 hd h)
 case makeMap t r =>
  cases r with
  | some r=>simp only at hc; cases hc
  | none =>
   simp only at hc
   split at hc
   ·obtain ⟨kd,hkd,rfl⟩:=Option.map_eq_some_iff.1 hc
    exact .of_steps (mkmap_ok rfl hd h)
   ·cases hc
 case insert t m k x =>
  split at hc
  ·rename_i kt et ht
   obtain ⟨kd,hkd,rfl⟩:=Option.map_eq_some_iff.1 hc
   obtain ⟨e,vm,vk,vx,h1,h2,h3,hk⟩:=h
   exact .of_steps (mput_ok (.inl rfl) e ht (mN0 hkd) h1 h2 h3 hk)
  ·cases hc
 case mapUpdate t m k x =>
  split at hc
  ·rename_i kt et ht
   obtain ⟨kd,hkd,rfl⟩:=Option.map_eq_some_iff.1 hc
   obtain ⟨e,vm,vk,vx,h1,h2,h3,hk⟩:=h
   exact .of_steps (mput_ok (.inr rfl) e ht (mN0 hkd) h1 h2 h3 hk)
  ·cases hc
 case lookup t m k ok =>
  split at hc
  ·rename_i kt et ht
   split at hc
   ·rename_i kd z hkd hz
    obtain ⟨inf,hi,hz⟩:=Option.bind_eq_some_iff.1 hz
    simp only [Option.some.injEq] at hc; subst hc
    obtain ⟨vm,vk,h1,h2,hk⟩:=h
    exact .of_steps (mget_ok rfl hd ht (mN0 hkd) hi hz h1 h2 hk)
   ·cases hc
  ·cases hc
 case makeFunc fn first cs =>
  cases fn <;> simp only at hc <;> try (cases hc; done)
  split at hc
  ·simp only [Option.some.injEq] at hc; subst hc; exact gu0 hc0 hd h
  ·cases hc
 case slice t x lo hi mx =>
  cases mx with
  | some m =>
   cases lo with
   | none=>simp only at hc; cases hc
   | some lo =>
    cases hi with
    | none=>simp only at hc; cases hc
    | some hi =>
     simp only at hc
     split at hc
     ·rename_i e ht
      split at hc
      ·rename_i hs
       obtain ⟨inf,hinf⟩:=Option.isSome_iff_exists.1 hs
       simp only [Option.some.injEq] at hc; subst hc
       obtain ⟨v,h1,hk⟩:=h
       exact .of_steps (sl3_ok rfl hd ht hinf h1 hk)
      ·cases hc
     ·cases hc
  | none =>
   simp only at hc
   split at hc
   ·simp only [Option.some.injEq] at hc; subst hc; exact gu0 hc0 hd h
   ·split at hc
    ·simp only [Option.some.injEq] at hc; subst hc; exact gu0 hc0 hd h
    ·cases hc
   ·rename_i m e ht
    split at hc
    ·rename_i i hi
     split at hc
     ·rename_i hcond
      simp only [Option.some.injEq] at hc; subst hc
      obtain ⟨v,h1,hk⟩:=h
      exact .of_steps (slA_ok rfl hd ht hi hcond.1 hcond.2 h1 hk)
     ·cases hc
    ·cases hc
   ·cases hc
 case indexAddr t x ix =>
  split at hc
  ·(repeat' split at hc)
   all_goals first
    | (cases hc; done)
    | (simp only [Option.some.injEq] at hc; subst hc; exact gu0 hc0 hd h)
  ·rename_i m e ht
   split at hc
   ·rename_i inf hi
    split at hc
    ·rename_i hpos
     simp only [Option.some.injEq] at hc; subst hc
     obtain ⟨v,u,h1,h2,hk⟩:=h
     exact .of_steps (iaA_ok rfl hd ht hi hpos h1 h2 hk)
    ·cases hc
   ·cases hc
  ·cases hc
 case convert src dst x =>
  split at hc
  ·simp only [Option.some.injEq] at hc; subst hc; exact gu0 hc0 hd h
  ·simp only [Option.some.injEq] at hc; subst hc; exact gu0 hc0 hd h
  ·rename_i hs ht
   split at hc
   ·rename_i he
    simp only [Option.some.injEq] at hc; subst hc
    obtain ⟨s,h1,hk⟩:=h
    exact .of_steps (cvSB_ok rfl hd hs ht he h1 hk)
   ·cases hc
  ·rename_i hs ht
   split at hc
   ·rename_i he
    simp only [Option.some.injEq] at hc; subst hc
    obtain ⟨v,h1,hk⟩:=h
    exact .of_steps (cvBS_ok rfl hd hs ht he h1 hk)
   ·cases hc
  ·cases hc
 all_goals
  (repeat' split at hc)
  all_goals first
   | (cases hc; done)
   | (simp only [Option.some.injEq] at hc; subst hc; exact gu0 hc0 hd h)
   | (simp only [Option.some.injEq] at hc; subst hc; exact h.elim)
structure I where
 d:Option Nat
 g:Option (Nat × Bool)
 op:IOp
 deriving Inhabited
abbrev V.und:V:=.c (.tuple #[])
def grdV:V->Bool->Prop->Prop->Prop
 | .c (.bool b),want,A,B=>(b=want->A)/\(b ≠ want->B)
 | .c (.tuple _),_,_,B=>B
 | _,_,_,_=>False
theorem nO0 {v:V} {want:Bool} {A B:Prop} (h:grdV v want A B):(∃ b,v=.c (.bool b)/\(b=want->A)/\(b ≠ want->B))\/∃ x,v=.c (.tuple x)/\B:=by
 cases v with
 | c x=>cases x <;> first | exact .inl ⟨_,rfl,h⟩ | exact .inr ⟨_,rfl,h⟩ | exact h.elim
 | _=>exact h.elim
def vcI (P:Program) (env:Env) (hp:Hp) (i:I) (K:Env->Hp->Prop) (Kp:V->Hp->Prop):Prop :=
 match i.g with
 | none=>vcOp P env hp i.d i.op K Kp
 | some (s,want)=>∃ v,env.lookup s=some v/\grdV v want (vcOp P env hp i.d i.op K Kp) (K (env.put i.d V.und) hp)
def vcIs (P:Program) (env:Env) (hp:Hp):List I->(Env->Hp->Prop)->(V->Hp->Prop)->Prop
 | [],K,_=>K env hp
 | i :: is,K,Kp=>vcI P env hp i (fun env' hp'=>vcIs P env' hp' is K Kp) Kp
def fC0 (P:Program) (n:Nat) (ops:Array Oper) (o:Oper):Option I :=
 match comp P o,o.guard with
 | some io,none=>if o.dst.all (· < n) then some ⟨o.dst,none,io⟩ else none
 | some io,some (j,want) =>
  match (ops[j]?).bind (·.dst) with
  | some s=>if o.dst.all (· < n) && decide (s < n) then some ⟨o.dst,some (s,want),io⟩ else none
  | none=>none
 | none,_=>none
theorem de0 {ops:Array Oper} {o:Oper} {i:I} (h:fC0 P n ops o=some i):comp P o=some i.op/\o.dst=i.d/\(∀ s,o.dst=some s->s < n) /\
  ((o.guard=none/\i.g=none)\/∃ j want s,o.guard=some (j,want)/\(ops[j]?).bind (·.dst)=some s/\s < n/\i.g=some (s,want)):=by
 unfold fC0 at h
 split at h
 ·rename_i io hc hg
  split at h
  ·rename_i hd
   simp only [Option.some.injEq] at h; subst h
   exact ⟨hc,rfl,fun s e=>by rw [e] at hd; simpa using hd,.inl ⟨hg,rfl⟩⟩
  ·cases h
 ·rename_i io j want hc hg
  split at h
  ·rename_i s hs
   split at h
   ·rename_i hd
    simp only [Option.some.injEq] at h; subst h
    simp only [Bool.and_eq_true,decide_eq_true_eq] at hd
    exact ⟨hc,rfl,fun s' e=>by have h1:=hd.1; rw [e] at h1; simpa using h1,.inr ⟨j,want,s,hg,hs,hd.2,rfl⟩⟩
   ·cases h
  ·cases h
 ·cases h
def Kept (ops:Array Oper) (a a':Act):Prop:=∀ t,(∀ (k:Nat) (o:Oper),ops[k]?=some o->o.dst ≠ some t)->a'.tmps.getD t undef=a.tmps.getD t undef
theorem Kept.refl {ops:Array Oper}:Kept ops a a:=fun _ _=>rfl
theorem Kept.trans {ops:Array Oper} {a1 a2:Act} (h:Kept ops a a1) (k:Kept ops a1 a2):Kept ops a a2:=fun t ht=>(k t ht).trans (h t ht)
theorem Kept.put {ops:Array Oper} {j:Nat} {o:Oper} (ho:ops[j]?=some o) (x:Value):Kept ops a (a.put o.dst x):=by
 intro t ht
 have h:=ht j o ho
 cases e:o.dst with
 | none=>rfl
 | some s =>
  rw [e] at h
  have hne:s ≠ t:=fun q=>h (by rw [q])
  simp only [Act.put,Array.getD_eq_getD_getElem?]
  rw [Array.getElem?_setIfInBounds_ne hne]
theorem q20 {o:Oper} {K:Act->World->Prop} {Q:Exit->Act->World->Prop} (h:o.wp P a w K Q) (hd:∀ a' w',K a' w'->a'.defers=a.defers):o.wp P a w (fun a' w'=>K a' w'/\∃ x,a'=a.put o.dst x) Q:=by
 unfold Oper.wp at h ⊢
 generalize (execOp a.eval o).run P w=r at h ⊢
 cases r with
 | ok nx w' =>
  cases nx with
  | value v=>exact ⟨h,_,rfl⟩
  | skip=>exact ⟨h,_,rfl⟩
  | defer d =>
   have:=hd _ _ h
   have e:({ a with defers:=d :: a.defers }.put o.dst undef).defers=d :: a.defers:=by
    unfold Act.put; split <;> rfl
   rw [e] at this; exact absurd (congrArg List.length this) (by simp)
  | enter f args =>
   refine Calls.mono (h:Calls P f args w' _) fun e w'' he=>?_
   cases e with
   | returned v=>exact ⟨he,_,rfl⟩
   | panicked c=>exact he
   | outgrown=>exact he
  | row r args=>exact Rows.mono (h:Rows P r args w' _) fun v w'' he=>⟨he,_,rfl⟩
  | _=>exact h
 | halt hh w'=>cases hh <;> exact h
def OpG (P:Program) (n:Sz) (ops:Array Oper) (j:Nat) (env:Env) (hp:Hp) (K:Env->Hp->Prop) (Kp:V->Hp->Prop):Prop :=
 ∀ H μ a w (Q:Exit->Act->World->Prop),Sat n H μ env hp a w ->
  (∀ v x hp' H' μ' w',Kp v hp'->R H' μ' v x->Nx H μ hp w H' μ' hp' w'->Wd H' μ' hp' w'->Q (.panic [{ v:=x,recovered:=false }]) a w') ->
  wpOp P ops Q j (fun a' w'=>∃ env' hp' H' μ',K env' hp'/\Sat n H' μ' env' hp' a' w'/\Nx H μ hp w H' μ' hp' w'/\Kept ops a a') a w
theorem rE0 {ops:Array Oper} {j:Nat} {o:Oper} {i:I} {K:Env->Hp->Prop} {Kp:V->Hp->Prop} (ho:ops[j]?=some o) (hc:fC0 P n ops o=some i) (h:vcI P env hp i K Kp):OpG P n ops j env hp K Kp:=by
 intro H μ a w Q hS hQ
 obtain ⟨h1,h2,h3,h4⟩:=de0 hc
 unfold wpOp
 simp only [ho]
 unfold vcI at h
 rcases h4 with ⟨g1,g2⟩ | ⟨q,want,s,g1,g2,g3,g4⟩
 ·rw [g2] at h
  simp only at h
  have hw:Region.wanted o (yielded ops a.tmps)=true:=by simp [Region.wanted,g1]
  rw [if_pos hw]
  exact .inl (id0 (q20 (kx0 h1 h3 (by rw [h2]; exact h) H μ a w Q hS fun v x hp' H' μ' w' k1 k2 k3 k4 _=>hQ v x hp' H' μ' w' k1 k2 k3 k4) fun a' w' ⟨_,_,_,_,_,g,_⟩=>g.defers.trans hS.defers.symm) fun a' w' ⟨⟨env',hp',H',μ',q1,q2,q3,_⟩,x,qx⟩=>⟨env',hp',H',μ',q1,q2,q3,by rw [qx]; exact Kept.put ho x⟩)
 ·rw [g4] at h
  simp only at h
  obtain ⟨gv,hgv,hgr⟩:=h
  rcases nO0 hgr with ⟨b,rfl,k1,k2⟩ | ⟨gx,rfl,k2⟩
  rotate_left
  ·have hv:=(hS.env s _ hgv).bS0
   have hy:yielded ops a.tmps q=none:=by
    unfold yielded
    rw [g2]
    have hlt:s < a.tmps.size:=by rw [hS.size]; exact g3
    have:a.tmps[s]?=some (.tuple gx):=by
     rw [Array.getD_eq_getD_getElem?] at hv
     rw [Array.getElem?_eq_getElem hlt] at hv ⊢
     simpa using hv
    simp [this]
   have hw:¬ Region.wanted o (yielded ops a.tmps)=true:=by simp [Region.wanted,g1,hy]
   rw [if_neg hw,h2]
   exact ⟨_,hp,H,μ,k2,hS.put (fun s e=>h3 s (by rw [h2]; exact e)) (.c _),Nx.refl H μ hp w,by rw [<- h2]; exact Kept.put ho _⟩
  have hb:=hgv
  have hv:=(hS.env s _ hb).bS0
  have hy:yielded ops a.tmps q=some b:=by
   unfold yielded
   rw [g2]
   have hlt:s < a.tmps.size:=by rw [hS.size]; exact g3
   have:a.tmps[s]?=some (.bool b):=by
    rw [Array.getD_eq_getD_getElem?] at hv
    rw [Array.getElem?_eq_getElem hlt] at hv ⊢
    simpa using hv
   simp [this]
  by_cases hbw:b=want
  ·have hw:Region.wanted o (yielded ops a.tmps)=true:=by simp [Region.wanted,g1,hy,hbw]
   rw [if_pos hw]
   exact .inl (id0 (q20 (kx0 h1 h3 (by rw [h2]; exact k1 hbw) H μ a w Q hS fun v x hp' H' μ' w' k1 k2 k3 k4 _=>hQ v x hp' H' μ' w' k1 k2 k3 k4) fun a' w' ⟨_,_,_,_,_,g,_⟩=>g.defers.trans hS.defers.symm) fun a' w' ⟨⟨env',hp',H',μ',q1,q2,q3,_⟩,x,qx⟩=>⟨env',hp',H',μ',q1,q2,q3,by rw [qx]; exact Kept.put ho x⟩)
  ·have hw:¬ Region.wanted o (yielded ops a.tmps)=true:=by simp [Region.wanted,g1,hy,hbw]
   rw [if_neg hw,h2]
   exact ⟨_,hp,H,μ,k2 hbw,hS.put (fun s e=>h3 s (by rw [h2]; exact e)) (.c _),Nx.refl H μ hp w,by rw [<- h2]; exact Kept.put ho _⟩
def nq0 (P:Program) (n:Nat) (ops:Array Oper):List Oper->Option (List I)
 | []=>some []
 | o :: os=>match fC0 P n ops o,nq0 P n ops os with
  | some i,some is=>some (i :: is)
  | _,_=>none
theorem ht0 {ops:Array Oper}:∀ {l:List Oper} {is:List I},nq0 P n ops l=some is->is.length=l.length/\∀ (k:Nat) (o:Oper),l[k]?=some o->∃ i,is[k]?=some i/\fC0 P n ops o=some i
 | [],is,h=>by simp [nq0] at h; subst h; exact ⟨rfl,fun k o hk=>by simp at hk⟩
 | o :: os,is,h=>by
  unfold nq0 at h
  split at h
  ·rename_i i is' h1 h2
   simp only [Option.some.injEq] at h; subst h
   obtain ⟨k1,k2⟩:=ht0 h2
   refine ⟨by simp [k1],fun k o' hk=>?_⟩
   cases k with
   | zero=>simp at hk; subst hk; exact ⟨i,rfl,h1⟩
   | succ k=>simp at hk; exact k2 k o' hk
  ·cases h
theorem sF0 {ops:Array Oper} {Kp:V->Hp->Prop} {K:Env->Hp->Prop}:∀ (m j:Nat) (is:List I) (env:Env) (hp:Hp),is.length=m ->
  (∀ (k:Nat) (i:I),is[k]?=some i->∃ o,ops[j + k]?=some o/\fC0 P n ops o=some i)->vcIs P env hp is K Kp ->
  ∀ H μ a w (Q:Exit->Act->World->Prop),Sat n H μ env hp a w ->
   (∀ v x hp' H' μ' a' w',Kp v hp'->R H' μ' v x->Nx H μ hp w H' μ' hp' w'->Wd H' μ' hp' w'->a'.defers=n.ds->a'.tmps.size=n.n->Kept ops a a'->Q (.panic [{ v:=x,recovered:=false }]) a' w') ->
   (∀ env' hp' H' μ' a' w',K env' hp'->Sat n H' μ' env' hp' a' w'->Nx H μ hp w H' μ' hp' w'->Q .normal a' w') ->
   wpOps P ops Q (List.range' j m) a w:=by
 intro m
 induction m with
 | zero =>
  intro j is env hp hl hget h H μ a w Q hS hQp hQ
  have:is=[]:=List.eq_nil_of_length_eq_zero hl
  subst this
  exact hQ env hp H μ a w h hS (Nx.refl H μ hp w)
 | succ m ih =>
  intro j is env hp hl hget h H μ a w Q hS hQp hQ
  cases is with
  | nil=>simp at hl
  | cons i is =>
   simp only [vcIs] at h
   obtain ⟨o,ho,hc⟩:=hget 0 i rfl
   rw [Nat.add_zero] at ho
   rw [List.range'_succ,wpOps_cons]
   refine wpOp_mono (fun a' w' ⟨env',hp',H',μ',h1,h2,h3,hk⟩=>?_) (rE0 ho hc h H μ a w Q hS fun v x hp' H' μ' w' k1 k2 k3 k4=>hQp v x hp' H' μ' a w' k1 k2 k3 k4 hS.defers hS.size .refl)
   exact ih (j + 1) is env' hp' (by simpa using hl) (fun k i' hk=>by
    have:=hget (k + 1) i' (by simpa using hk)
    rwa [show j + (k + 1)=j + 1 + k by omega] at this) h1 H' μ' a' w' Q h2
    (fun v x hp'' H'' μ'' a'' w'' k1 k2 k3 k4 k5 k6 k7=>hQp v x hp'' H'' μ'' a'' w'' k1 k2 (h3.trans k3) k4 k5 k6 (hk.trans k7))
    (fun env'' hp'' H'' μ'' a'' w'' k1 k2 k3=>hQ env'' hp'' H'' μ'' a'' w'' k1 k2 (h3.trans k3))
end Go.Am
end

section
namespace Go.Am
def kp0 (ops:List Oper):List Nat->List Nat
 | acc=>ops.foldl (fun acc o=>acc++[o.after.toList.foldl (fun s e=>if Region.binds .any e then s ||| 2 ^ e.on ||| acc.getD e.on 0 else s) 0]) acc
theorem pz0 (acc:List Nat) (j:Nat):∀ (es:List Edge) (s:Nat),(es.foldl (fun s e=>if Region.binds .any e then s ||| 2 ^ e.on ||| acc.getD e.on 0 else s) s).testBit j=true ->
  s.testBit j=true\/∃ e ∈ es,Region.binds .any e=true/\(e.on=j\/(acc.getD e.on 0).testBit j=true)
 | [],s,h=>.inl h
 | e :: es,s,h=>by
  simp only [List.foldl_cons] at h
  rcases pz0 acc j es _ h with h1 | ⟨e',h1,h2⟩
  ·by_cases hb:Region.binds .any e=true
   ·rw [if_pos hb] at h1
    rw [Nat.testBit_or,Nat.testBit_or,Bool.or_eq_true,Bool.or_eq_true] at h1
    rcases h1 with (h1 | h1) | h1
    ·exact .inl h1
    ·refine .inr ⟨e,by simp,hb,.inl ?_⟩
     rw [Nat.testBit_two_pow] at h1
     simpa using h1
    ·exact .inr ⟨e,by simp,hb,.inr h1⟩
   ·rw [if_neg hb] at h1; exact .inl h1
  ·exact .inr ⟨e',by simp [h1],h2⟩
theorem iW0:∀ (ops:List Oper) (acc:List Nat) (i:Nat),i < acc.length->(kp0 ops acc).getD i 0=acc.getD i 0
 | [],acc,i,h=>rfl
 | o :: ops,acc,i,h=>by
  have:=iW0 ops (acc++[o.after.toList.foldl (fun s e=>if Region.binds .any e then s ||| 2 ^ e.on ||| acc.getD e.on 0 else s) 0]) i (by simp; omega)
  simp only [kp0,List.foldl_cons] at this ⊢
  rw [this]
  simp [List.getD_eq_getElem?_getD,List.getElem?_append_left h]
theorem m40:∀ (ops:List Oper) (acc:List Nat) (i j:Nat) (o:Oper),ops[i]?=some o->(∀ e ∈ o.after.toList,Region.binds .any e=true->e.on < acc.length + i) ->
  ((kp0 ops acc).getD (acc.length + i) 0).testBit j=true->∃ e ∈ o.after.toList,Region.binds .any e=true/\(e.on=j\/((kp0 ops acc).getD e.on 0).testBit j=true)
 | [],acc,i,j,o,h,_,_=>by simp at h
 | o' :: ops,acc,i,j,o,h,hlt,hb=>by
  let x:=o'.after.toList.foldl (fun s e=>if Region.binds .any e then s ||| 2 ^ e.on ||| acc.getD e.on 0 else s) 0
  have hstep:kp0 (o' :: ops) acc=kp0 ops (acc++[x]):=rfl
  rw [hstep] at hb ⊢
  cases i with
  | zero =>
   simp only [List.getElem?_cons_zero,Option.some.injEq] at h; subst h
   rw [Nat.add_zero,iW0 ops (acc++[x]) acc.length (by simp)] at hb
   have hx:(acc++[x]).getD acc.length 0=x:=by simp [List.getD_eq_getElem?_getD]
   rw [hx] at hb
   rcases pz0 acc j _ 0 hb with h1 | ⟨e,h1,h2,h3⟩
   ·simp at h1
   ·refine ⟨e,h1,h2,h3.imp id fun h4=>?_⟩
    have hl:=hlt e h1 h2
    rw [iW0 ops (acc++[x]) e.on (by simp; omega)]
    have:(acc++[x]).getD e.on 0=acc.getD e.on 0:=by simp [List.getD_eq_getElem?_getD,List.getElem?_append_left (show e.on < acc.length by omega)]
    rw [this]; exact h4
  | succ i =>
   simp only [List.getElem?_cons_succ] at h
   have:=m40 ops (acc++[x]) i j o h (fun e he hbe=>by have:=hlt e he hbe; simp; omega) (by
    have e1:(acc++[x]).length + i=acc.length + (i + 1):=by simp; omega
    rw [e1]; exact hb)
   exact this
def ahead (ops:Array Oper) (i j:Nat):Bool:=((kp0 ops.toList []).getD j 0).testBit i
def ms0 (ops:Array Oper):Bool:=ops.toList.zipIdx.all fun p=>p.1.after.toList.all fun e=>!Region.binds .any e || decide (e.on < p.2)
theorem hg0 {ops:Array Oper} (h:ms0 ops=true) {j:Nat} {o:Oper} (ho:ops[j]?=some o):∀ e ∈ o.after.toList,Region.binds .any e=true->e.on < j:=by
 intro e he hbe
 unfold ms0 at h
 rw [List.all_eq_true] at h
 have hm:(o,j) ∈ ops.toList.zipIdx:=by
  rw [List.mem_zipIdx_iff_getElem?]; simpa using ho
 have:=h _ hm
 rw [List.all_eq_true] at this
 simpa [hbe] using this e he
def if0 (ops:Array Oper) (listed:Array Bool):Prop:=∀ (j:Nat) (o:Oper),ops[j]?=some o->listed.getD j true=true->∀ e ∈ o.after,Region.binds .any e=true->listed.getD e.on false=true
theorem ba0 {ops:Array Oper} (hb:ms0 ops=true) {listed:Array Bool} (hsz:listed.size=ops.size) (hcl:if0 ops listed) :
  ∀ (j i:Nat) (o:Oper),ops[j]?=some o->(∀ e ∈ o.after,Region.binds .any e=true->listed.getD e.on false=true)->ahead ops i j=true->listed.getD i true=true:=by
 intro j
 induction j using Nat.strongRecOn with
 | _ j ih =>
  intro i o ho hr ha
  have hlt:=hg0 hb ho
  obtain ⟨e,h1,h2,h3⟩:=m40 ops.toList [] j i o (by simpa using ho) (fun e he hbe=>by simpa using hlt e he hbe) (by simpa [ahead] using ha)
  have he:e ∈ o.after:=by simpa using h1
  have hl:=hr e he h2
  have hej:=hlt e h1 h2
  have hjs:j < ops.size:=(Array.getElem?_eq_some_iff.1 ho).1
  have hgd:listed.getD e.on true=true:=by
   have:e.on < listed.size:=by omega
   simp [Array.getD,this] at hl ⊢
   exact hl
  rcases h3 with rfl | h3
  ·exact hgd
  ·have hes:e.on < ops.size:=by omega
   exact ih e.on hej i ops[e.on] (Array.getElem?_eq_getElem hes) (hcl e.on _ (Array.getElem?_eq_getElem hes) hgd) (by simpa [ahead] using h3)
theorem lI0 (ops:Array Oper):if0 ops (Array.replicate ops.size false):=by
 intro j o ho hl
 have hjs:j < ops.size:=(Array.getElem?_eq_some_iff.1 ho).1
 simp [Array.getD,hjs] at hl
theorem hS0 {ops:Array Oper} {listed:Array Bool} (hsz:listed.size=ops.size) (hcl:if0 ops listed) {i:Nat} (hr:i ∈ Region.ready .any ops listed):if0 ops (listed.setIfInBounds i true):=by
 obtain ⟨h0,o,ho,hall⟩:=mem_ready.1 hr
 have up:∀ q,listed.getD q false=true->(listed.setIfInBounds i true).getD q false=true:=by
  intro q hq
  by_cases hqi:q=i
  ·subst hqi
   by_cases hlt:q < listed.size
   ·simp [Array.getD_eq_getD_getElem?,hlt]
   ·simp [Array.getD,hlt] at hq
  ·rw [Array.getD_eq_getD_getElem?,Array.getElem?_setIfInBounds_ne (Ne.symm hqi),<- Array.getD_eq_getD_getElem?]; exact hq
 intro j oj hoj hl e he hb
 by_cases hji:j=i
 ·subst hji
  rw [ho] at hoj; injection hoj with hoj; subst hoj
  exact up _ (hall e he hb)
 ·rw [Array.getD_eq_getD_getElem?,Array.getElem?_setIfInBounds_ne (Ne.symm hji),<- Array.getD_eq_getD_getElem?] at hl
  exact up _ (hcl j oj hoj hl e he hb)
end Go.Am
end

section
namespace Go.Am
variable {P:Program} {n:Sz} {H:Imm} {μ:Mu} {env:Env} {hp:Hp} {a:Act} {w:World}
def IOp.args:IOp->List Operand
 | .mv x=>[x]
 | .pick c a b=>[c,a,b]
 | .ld x=>[x]
 | .lda _ x=>[x]
 | .nchk x=>[x]
 | .bin _ x y=>[x,y]
 | .binb _ x y=>[x,y]
 | .un _ x=>[x]
 | .conv _ x=>[x]
 | .mkfn _ cs=>cs
 | .mkif _ x=>[x]
 | .slS x lo hi=>x :: (lo.toList++hi.toList)
 | .slL _ x lo hi=>x :: (lo.toList++hi.toList)
 | .fa _ x=>[x]
 | .fld _ x=>[x]
 | .flda _ _ x=>[x]
 | .ia _ x i=>[x,i]
 | .ixS x i=>[x,i]
 | .ext x _=>[x]
 | .len x=>[x]
 | .lenS x=>[x]
 | .mx x y=>[x,y]
 | .mn x y=>[x,y]
 | .build _ ps=>ps.map (·.2.2)
 | .alloc _=>[]
 | .box _ x=>[x]
 | .mkrow _ _ xs=>xs
 | .isnl _ x=>[x]
 | .capn x=>[x]
 | .mks _ _ _ _ l c=>[l,c]
 | .st _ a v=>[a,v]
 | .app _ _ _ s x=>[s,x]
 | .cpy _ d s=>[d,s]
 | .call f xs=>f :: xs
 | .pan x=>[x]
 | .ta _ _ x=>[x]
 | .isni _ x=>[x]
 | .ixA _ x i=>[x,i]
 | .mkmap _=>[]
 | .mput _ m k v=>[m,k,v]
 | .mget _ _ _ m k=>[m,k]
 | .sl3 x lo hi q=>[x,lo,hi,q]
 | .appz _ _ _ _ s x=>[s,x]
 | .clr _ _ x=>[x]
 | .allocS _ _=>[]
 | .cvSB x=>[x]
 | .cvIS x=>[x]
 | .appS _ s x=>[s,x]
 | .cvBS x=>[x]
 | .iaA _ _ x i=>[x,i]
 | .slA _ _ x=>[x]
 | .boxS _ _ x=>[x]
theorem mapM_congr {ρ ρ':Operand->Option V}:∀ {xs:List Operand},(∀ x ∈ xs,ρ x=ρ' x)->xs.mapM ρ=xs.mapM ρ'
 | [],_=>rfl
 | x :: xs,h=>by
  rw [List.mapM_cons,List.mapM_cons,h x (by simp),mapM_congr fun y hy=>h y (by simp [hy])]
theorem mG0 {ρ ρ':Operand->Option V} {K:List V->Prop}:∀ {ps:List (Nat × Nat × Operand)} {cs:List V},(∀ x ∈ ps.map (·.2.2),ρ x=ρ' x)->hZ0 ρ ps cs K->hZ0 ρ' ps cs K
 | [],cs,_,h=>h
 | (off,sz,x) :: ps,cs,hc,h=>by
  obtain ⟨v,us,h1,h2,h3,h4,h5⟩:=h
  exact ⟨v,us,by rw [<- hc x (by simp)]; exact h1,h2,h3,h4,mG0 (fun y hy=>hc y (by simp only [List.map_cons,List.mem_cons]; exact .inr hy)) h5⟩
theorem pv_congr {ρ ρ':Operand->Option V} {op:IOp} {K:V->Prop} (hc:∀ x ∈ op.args,ρ x=ρ' x) (h:pv hp ρ op K):pv hp ρ' op K:=by
 cases op <;> simp only [pv] at h ⊢ <;> simp only [IOp.args] at hc
 case slS x lo hi =>
  rw [hc x (by simp)] at h
  have e1:lo.map ρ=lo.map ρ':=by cases lo with | none=>rfl | some y=>simp [hc y (by simp)]
  have e2:hi.map ρ=hi.map ρ':=by cases hi with | none=>rfl | some y=>simp [hc y (by simp)]
  rw [e1,e2] at h; exact h
 case slL sz x lo hi =>
  rw [hc x (by simp)] at h
  have e1:lo.map ρ=lo.map ρ':=by cases lo with | none=>rfl | some y=>simp [hc y (by simp)]
  have e2:hi.map ρ=hi.map ρ':=by cases hi with | none=>rfl | some y=>simp [hc y (by simp)]
  rw [e1,e2] at h; exact h
 case mkfn f cs=>rw [mapM_congr hc] at h; exact h
 case build z ps=>exact mG0 hc h
 all_goals first
  | exact h.elim
  | (simp only [List.mem_cons,List.not_mem_nil,or_false,forall_eq_or_imp,forall_eq] at hc
     first
      | (rw [hc] at h; exact h)
      | (obtain ⟨e1,e2⟩:=hc; rw [e1,e2] at h; exact h)
      | (obtain ⟨e1,e2,e3⟩:=hc; rw [e1,e2,e3] at h; exact h))
def Id.inS (ss:List Nat):Id->Bool
 | .e _=>false
 | .l s _=>ss.contains s
mutual
def V.hasS (ss:List Nat):V->Bool
 | .bp j _=>j.inS ss
 | .self j _=>j.inS ss
 | .ep j _ _=>j.inS ss
 | .arr j _ _=>j.inS ss
 | .mp j=>j.inS ss
 | .arc j _ _ _=>j.inS ss
 | .agg cs=>V.fG0 ss cs
 | .fn _ cs=>V.fG0 ss cs
 | .tup cs=>V.fG0 ss cs
 | .ifc _ v=>v.hasS ss
 | .any=>false
 | .c _=>false
 | .nil=>false
 | .lst _=>false
 | .rp _=>false
def V.fG0 (ss:List Nat):List V->Bool
 | []=>false
 | v :: vs=>v.hasS ss || V.fG0 ss vs
end
mutual
theorem V.kN0 {ss:List Nat} {i:Id}:∀ {v:V},v.hasS ss=false->v.has i=true->i.inS ss=false
 | .self j _,h,k=>by simp only [V.has,decide_eq_true_eq] at k; subst k; simpa only [V.hasS] using h
 | .bp j _,h,k=>by simp only [V.has,decide_eq_true_eq] at k; subst k; simpa only [V.hasS] using h
 | .ep j _ _,h,k=>by simp only [V.has,decide_eq_true_eq] at k; subst k; simpa only [V.hasS] using h
 | .mp j,h,k=>by simp only [V.has,decide_eq_true_eq] at k; subst k; simpa only [V.hasS] using h
 | .arc j _ _ _,h,k=>by simp only [V.has,decide_eq_true_eq] at k; subst k; simpa only [V.hasS] using h
 | .arr j _ _,h,k=>by simp only [V.has,decide_eq_true_eq] at k; subst k; simpa only [V.hasS] using h
 | .agg cs,h,k=>V.iJ0 (by simpa only [V.hasS] using h) (by simpa only [V.has] using k)
 | .fn _ cs,h,k=>V.iJ0 (by simpa only [V.hasS] using h) (by simpa only [V.has] using k)
 | .tup cs,h,k=>V.iJ0 (by simpa only [V.hasS] using h) (by simpa only [V.has] using k)
 | .ifc _ v,h,k=>V.kN0 (by simpa only [V.hasS] using h) (by simpa only [V.has] using k)
 | .any,h,k=>by simp [V.has] at k
 | .c _,h,k=>by simp [V.has] at k
 | .nil,h,k=>by simp [V.has] at k
 | .lst _,h,k=>by simp [V.has] at k
 | .rp _,h,k=>by simp [V.has] at k
theorem V.iJ0 {ss:List Nat} {i:Id}:∀ {cs:List V},V.fG0 ss cs=false->V.hasL i cs=true->i.inS ss=false
 | [],h,k=>by simp [V.hasL] at k
 | v :: vs,h,k=>by
  simp only [V.fG0,Bool.or_eq_false_iff] at h
  simp only [V.hasL,Bool.or_eq_true] at k
  rcases k with k | k
  ·exact V.kN0 h.1 k
  ·exact V.iJ0 h.2 k
end
def Ob.hasS (ss:List Nat):Ob->Bool
 | .gone=>false
 | .box cs=>V.fG0 ss cs
 | .row _ _ _ _=>false
 | .mpo _ _=>false
theorem Ob.kN0 {ss:List Nat} {i:Id} {o:Ob} (h:o.hasS ss=false) (k:o.has i=true):i.inS ss=false:=by
 cases o with
 | gone=>simp [Ob.has] at k
 | box cs=>exact V.iJ0 h k
 | row _ _ _ _=>simp [Ob.has] at k
 | mpo _ _=>simp [Ob.has] at k
def Env.g60 (ss:List Nat) (env:Env):Env:=env.map fun p=>(p.1,if p.2.hasS ss then .any else p.2)
def Hp.g60 (ss:List Nat) (hp:Hp):Hp:=(hp.filter fun p=>!p.1.inS ss).map fun p=>(p.1,if p.2.hasS ss then .gone else p.2)
def Mu.cutS (ss:List Nat) (μ:Mu):Mu:=fun j=>if j.inS ss then Option.none else μ j
theorem cP0 (p:Id->Bool):∀ (hp:Hp) (j:Id),(hp.filter fun q=>p q.1).lookup j=if p j then hp.lookup j else none
 | [],j=>by simp
 | (k,o) :: hp,j=>by
  rw [List.filter_cons]
  by_cases hk:p k=true
  ·simp only [hk,if_true,List.lookup_cons]
   cases e:(j == k) with
   | true=>have:=eq_of_beq e; subst this; rw [if_pos hk]
   | false=>exact cP0 p hp j
  ·have hk':p k=false:=by simpa using hk
   simp only [hk',Bool.false_eq_true,if_false]
   rw [cP0 p hp j,List.lookup_cons]
   by_cases hj:p j=true
   ·rw [if_pos hj,if_pos hj]
    have:(j == k)=false:=by
     rw [beq_eq_false_iff_ne]; rintro rfl; exact hk hj
    rw [this]
   ·rw [if_neg hj,if_neg hj]
theorem oH0 (ss:List Nat) (env:Env) (s:Nat):(Env.g60 ss env).lookup s=(env.lookup s).map fun v=>if v.hasS ss then .any else v:=dN0 (fun _ (v:V)=>if v.hasS ss then V.any else v) env s
theorem kP0 (ss:List Nat) (hp:Hp) (j:Id):(Hp.g60 ss hp).lookup j=if j.inS ss then none else (hp.lookup j).map fun o=>if o.hasS ss then .gone else o:=by
 unfold Hp.g60
 rw [dN0 (fun _ (o:Ob)=>if o.hasS ss then Ob.gone else o) _ j,cP0 (fun i=>!i.inS ss)]
 cases j.inS ss <;> rfl
theorem Mu.cutS_in {ss:List Nat} {i:Id} (h:i.inS ss=true):Mu.cutS ss μ i=none:=by simp [Mu.cutS,h]
theorem Mu.hT0 {ss:List Nat} {i:Id} (h:i.inS ss=false):Mu.cutS ss μ i=μ i:=by simp [Mu.cutS,h]
theorem Sat.cleanS (ss:List Nat) (hS:Sat n H μ env hp a w):Sat n H (Mu.cutS ss μ) (Env.g60 ss env) (Hp.g60 ss hp) a w/\Nx H μ hp w H (Mu.cutS ss μ) (Hp.g60 ss hp) w:=by
 have hcase:∀ j o,(Hp.g60 ss hp).lookup j=some o->j.inS ss=false/\(o=.gone\/(hp.lookup j=some o/\∀ q,o.has q=true->Mu.cutS ss μ q=μ q)):=by
  intro j o h
  rw [kP0] at h
  split at h
  ·cases h
  ·rename_i hj
   refine ⟨by simpa using hj,?_⟩
   cases hl:hp.lookup j with
   | none=>rw [hl] at h; cases h
   | some q =>
    rw [hl] at h
    simp only [Option.map_some,Option.some.injEq] at h
    split at h
    ·exact .inl h.symm
    ·rename_i hq
     subst h
     exact .inr ⟨rfl,fun i hi=>Mu.hT0 (Ob.kN0 (by simpa using hq) hi)⟩
 have hW:=hS.wd
 refine ⟨⟨hS.defers,hS.size,fun s v hv=>?_,⟨fun j o h=>?_,fun j k oj ok bj bk hj hoj hk hok hbj hbk heq=>?_,hW.imm,hW.glo⟩⟩,
  ⟨⟨Imm.le_refl H,rfl,rfl,rfl,Nat.le_refl _,fun _ _ _=>rfl,fun b hO _=>?_,fr0⟩,fun k=>Mu.hT0 rfl⟩⟩
 ·rw [oH0] at hv
  cases hl:env.lookup s with
  | none=>rw [hl] at hv; cases hv
  | some u =>
   rw [hl] at hv
   simp only [Option.map_some,Option.some.injEq] at hv
   split at hv
   ·subst hv; exact .any _
   ·rename_i hn
    subst hv
    exact (hS.env s u hl).mono (Imm.le_refl H) fun i hi=>Mu.hT0 (V.kN0 (by simpa using hn) hi)
 ·obtain ⟨hj,rfl | ⟨h1,h2⟩⟩:=hcase j o h
  ·trivial
  ·exact (hW.ob j o h1).mono (Imm.le_refl H) (Mu.hT0 hj) h2 (fun _ _=>rfl) (fun _ _ _=>rfl)
 ·obtain ⟨h1,rfl | ⟨h2,_⟩⟩:=hcase j oj hj
  ·cases hoj
  ·obtain ⟨k1,rfl | ⟨k2,_⟩⟩:=hcase k ok hk
   ·cases hok
   ·rw [Mu.hT0 h1] at hbj
    rw [Mu.hT0 k1] at hbk
    exact hW.inj j k oj ok bj bk h2 hoj k2 hok hbj hbk heq
 ·obtain ⟨j,o,blk,h1,h2,h3,h4⟩:=hO
  obtain ⟨hj,rfl | ⟨k1,_⟩⟩:=hcase j o h1
  ·cases h2
  ·rw [Mu.hT0 hj] at h3
   exact ⟨j,o,blk,k1,h2,h3,h4⟩
def Mu.le (μ μ':Mu):Prop:=∀ i b,μ i=some b->μ' i=some b
theorem Mu.le_refl (μ:Mu):Mu.le μ μ:=fun _ _ h=>h
theorem Mu.le_trans {A B C:Mu} (h:Mu.le A B) (k:Mu.le B C):Mu.le A C:=fun i b x=>k i b (h i b x)
theorem R.ext {H':Imm} (hH:Imm.le H H') {v:V} {x:Value} (h:R H μ v x):∀ {μ':Mu},Mu.le μ μ'->R H' μ' v x:=by
 induction h with
 | any x=>intro μ' _; exact .any x
 | c v=>intro μ' _; exact .c v
 | nil=>intro μ' _; exact .nil
 | lst xs sz a n cap cv hn hc hs hm hr ih =>
  intro μ' _
  refine .lst xs sz a n cap cv hn hc hs (fun i e j v hi hj=>?_) (fun i e j v hi hj=>ih i e j v hi hj (Mu.le_refl _))
  obtain ⟨b,off,cs,h1,h2,h3⟩:=hm i e j v hi hj
  exact ⟨b,off,cs,h1,hH _ _ h2,h3⟩
 | rp cs b off cv hm hr ih =>
  intro μ' _
  refine .rp cs b off cv (fun j v hj=>?_) (fun j v hj=>ih j v hj (Mu.le_refl _))
  obtain ⟨blk,h1,h2⟩:=hm j v hj
  exact ⟨blk,hH _ _ h1,h2⟩
 | bp i off blk h=>intro μ' hμ; exact .bp i off blk (hμ _ _ h)
 | self i t a blk h ht ha=>intro μ' hμ; exact .self i t a blk (hμ _ _ h) ht ha
 | ep i k off blk h=>intro μ' hμ; exact .ep i k off blk (hμ _ _ h)
 | mp i blk h=>intro μ' hμ; exact .mp i blk (hμ _ _ h)
 | arc i o n c a hc h=>intro μ' hμ; exact .arc i o n c a hc (h.imp id fun ⟨blk,h1,h2⟩=>⟨blk,hμ _ _ h1,h2⟩)
 | arr i o n a cap hc h=>intro μ' hμ; exact .arr i o n a cap hc (h.imp id fun ⟨blk,h1,h2⟩=>⟨blk,hμ _ _ h1,h2⟩)
 | agg cs vs hn hr ih=>intro μ' hμ; exact .agg cs vs hn (fun j v hj=>ih j v hj hμ)
 | fn f cs vs hn hr ih=>intro μ' hμ; exact .fn f cs vs hn (fun j v hj=>ih j v hj hμ)
 | tup cs vs hn hr ih=>intro μ' hμ; exact .tup cs vs hn (fun j v hj=>ih j v hj hμ)
 | ifc t v x h ih=>intro μ' hμ; exact .ifc t v x (ih hμ)
theorem Cells.ext {H':Imm} (hH:Imm.le H H') {μ':Mu} (hμ:Mu.le μ μ') {cs:List V} {vals:Array Value} {off:Nat} (h:Cells H μ cs vals off):Cells H' μ' cs vals off:=fun j v hj=>by
 obtain ⟨x,h1,h2⟩:=h j v hj
 exact ⟨x,h1,h2.ext hH hμ⟩
theorem ObOk.ext {i:Id} {o:Ob} {H':Imm} {μ':Mu} {w':World} (h:ObOk H μ w i o) (hH:Imm.le H H') (hi:μ' i=μ i) (hμ:Mu.le μ μ')
  (hb:∀ blk,μ i=some blk->w'.heap[blk.b]?=w.heap[blk.b]?) (hown:o.own=true->∀ blk,μ i=some blk->H' blk.b=H blk.b):ObOk H' μ' w' i o:=by
 cases o with
 | gone=>trivial
 | box cs =>
  obtain ⟨blk,vals,ty,h1,h2,h3,h4,h5⟩:=h
  exact ⟨blk,vals,ty,by rw [hi]; exact h1,by rw [hb blk h1]; exact h2,h3,by rw [hown rfl blk h1]; exact h4,h5.ext hH hμ⟩
 | row ty sz own xs =>
  rcases h with ⟨h1,h2⟩ | ⟨blk,vals,h1,h2,h3,h4,h5,h6,h7,h8,h9⟩
  ·exact .inl ⟨h1,by rw [hi]; exact h2⟩
  ·exact .inr ⟨blk,vals,by rw [hi]; exact h1,h2,by rw [hb blk h1]; exact h3,h4,h5,h6,fun e=>by rw [hown e blk h1]; exact h7 e,fun e=>hH _ _ (h8 e),fun k e he=>(h9 k e he).ext hH (Mu.le_refl _)⟩
 | mpo kd kvs =>
  obtain ⟨blk,es,clk,h1,h2,h3,h4,h6⟩:=h
  refine ⟨blk,es,clk,by rw [hi]; exact h1,by rw [hb blk h1]; exact h2,by rw [hown rfl blk h1]; exact h3,h4,fun j k v hj=>?_⟩
  obtain ⟨q1,e,q2,q3,q4⟩:=h6 j k v hj
  exact ⟨q1,e,q2,q3,q4.ext hH (Mu.le_refl _)⟩
theorem bB0 {α β:Type} [BEq α] [LawfulBEq α]:∀ {l:List (α × β)} {k:α} {v:β},l.lookup k=some v->(k,v) ∈ l
 | [],k,v,h=>by simp at h
 | (k',v') :: l,k,v,h=>by
  rw [List.lookup_cons] at h
  cases e:(k == k') with
  | true=>rw [e] at h; have:=eq_of_beq e; subst this; simp only [Option.some.injEq] at h; subst h; simp
  | false=>rw [e] at h; simp [bB0 h]
def Hp.onl (T:List Id) (hp:Hp):Hp:=hp.filter fun p=>T.contains p.1
theorem bw0 (T:List Id) (hp:Hp) (j:Id):(Hp.onl T hp).lookup j=if T.contains j then hp.lookup j else none:=cP0 (fun i=>T.contains i) hp j
theorem pK0 (T:List Id) (hp:Hp) (j:Id):(fJ0 T hp).lookup j=if T.contains j then none else hp.lookup j:=by
 unfold fJ0
 rw [cP0 (fun i=>!T.contains i)]
 cases T.contains j <;> rfl
theorem ce0 (T:List Id) (hO hp:Hp) (j:Id):(hO++fJ0 T hp).lookup j=(hO.lookup j).or (if T.contains j then none else hp.lookup j):=by
 rw [List.lookup_append,pK0]
def offB (T:List Id) (d:Option Nat) (hO:Hp):Bool:=hO.all fun p=>T.contains p.1 || p.1.at d
theorem kU0 {T:List Id} {d:Option Nat} {hO:Hp} (h:offB T d hO=true) {i:Id} {o:Ob} (hl:hO.lookup i=some o):T.contains i=true\/i.at d=true:=by
 unfold offB at h
 rw [List.all_eq_true] at h
 have:=h (i,o) (bB0 hl)
 simpa using this
theorem Same.le {d:Option Nat} {μ μ':Mu} (h:Same d μ μ') (hf:∀ i:Id,i.at d=true->μ i=none):Mu.le μ μ':=fun i b hb=>by
 cases e:i.at d with
 | true=>rw [hf i e] at hb; cases hb
 | false=>rw [h i e]; exact hb
theorem Wd.merge {T:List Id} {d:Option Nat} {hpT hO:Hp} {H':Imm} {μ':Mu} {w':World} (hW:Wd H μ hp w) (hT:∀ i,hpT.lookup i=if T.contains i then hp.lookup i else none)
  (hW':Wd H' μ' hO w') (hN:Nx H μ hpT w H' μ' hO w') (hs:Same d μ μ') (hf:∀ i:Id,i.at d=true->μ i=none/\hp.lookup i=none) (hoff:offB T d hO=true) :
  Wd H' μ' (hO++fJ0 T hp) w'/\Nx H μ hp w H' μ' (hO++fJ0 T hp) w':=by
 have hle:=hs.le fun i h=>(hf i h).1
 have hcase:∀ i o,(hO++fJ0 T hp).lookup i=some o->hO.lookup i=some o\/(hO.lookup i=none/\T.contains i=false/\hp.lookup i=some o/\μ' i=μ i):=by
  intro i o h
  rw [ce0] at h
  cases e:hO.lookup i with
  | some o'=>rw [e] at h; exact .inl h
  | none =>
   rw [e] at h
   simp only [Option.none_or] at h
   split at h
   ·cases h
   ·rename_i hc
    refine .inr ⟨rfl,by simpa using hc,h,hs i ?_⟩
    cases ea:i.at d with
    | false=>rfl
    | true=>rw [(hf i ea).2] at h; cases h
 have hcallO:∀ b,Owns hpT μ b->∃ i o blk,T.contains i=true/\hp.lookup i=some o/\o.own=true/\μ i=some blk/\blk.b=b:=by
  rintro b ⟨i,o,blk,h1,h2,h3,h4⟩
  rw [hT] at h1
  split at h1
  ·rename_i hc; exact ⟨i,o,blk,hc,h1,h2,h3,h4⟩
  ·cases h1
 have hrest:∀ i o blk,T.contains i=false->hp.lookup i=some o->o.own=true->μ i=some blk->blk.b < w.heap.size/\¬ Owns hpT μ blk.b:=by
  intro i o blk hi hl ho hb
  refine ⟨(hW.ob i o hl).lt ho hb,fun hO=>?_⟩
  obtain ⟨i',o',blk',h0,h1,h2,h3,h4⟩:=hcallO _ hO
  have:=hW.inj i' i o' o blk' blk h1 h2 hl ho h3 hb h4
  subst this
  rw [hi] at h0; cases h0
 have hfrz:∀ b cs,H b=some cs->¬ Owns hpT μ b:=by
  intro b cs hb hO
  obtain ⟨i',ob,blk',h0,k1,k2,k3,rfl⟩:=hcallO _ hO
  rw [(hW.ob i' ob k1).kl0 k2 k3] at hb; cases hb
 have hnew0:∀ b cs,H' b=some cs->H b=none->b < w.heap.size->Owns hpT μ b:=fun b cs h h0 hb=>(hN.fresh b cs h h0).resolve_left (by omega)
 refine ⟨⟨fun i o h=>?_,fun i j oi oj bi bj hi hoi hj hoj hbi hbj heq=>?_,hW'.imm,hW'.glo⟩,⟨⟨hN.imm,hN.os,hN.tape,hN.output,hN.size,fun b hb hno=>?_,fun b hO hb=>?_,fun b cs hb h0=>?_⟩,hN.ext⟩⟩
 ·rcases hcase i o h with h1 | ⟨h0,h1,h2,h3⟩
  ·exact hW'.ob i o h1
  ·have hO:=hW.ob i o h2
   by_cases hg:o=.gone
   ·subst hg; trivial
   ·have hb0:∀ blk,μ i=some blk->blk.b < w.heap.size/\¬ Owns hpT μ blk.b:=by
     intro blk hb
     cases ho:o.own with
     | true=>exact hrest i o blk h1 h2 ho hb
     | false =>
      have:=hO.kM0 ho hg hb
      cases hH:H blk.b with
      | none=>exact absurd hH this
      | some cs=>obtain ⟨ty,fz,e⟩:=hW.imm _ _ hH; exact ⟨(Array.getElem?_eq_some_iff.1 e).1,hfrz _ _ hH⟩
    refine hO.ext hN.imm h3 hle (fun blk hb=>hN.keep _ (hb0 blk hb).1 (hb0 blk hb).2) (fun ho blk hb=>?_)
    have hn:=hO.kl0 ho hb
    rw [hn]
    cases hH:H' blk.b with
    | none=>rfl
    | some cs=>exact absurd (hnew0 _ _ hH hn (hb0 blk hb).1) (hb0 blk hb).2
 ·rcases hcase i oi hi with h1 | ⟨h0,h1,h2,h3⟩
  ·rcases hcase j oj hj with k1 | ⟨k0,k1,k2,k3⟩
   ·exact hW'.inj i j oi oj bi bj h1 hoi k1 hoj hbi hbj heq
   ·exfalso
    rw [k3] at hbj
    obtain ⟨q1,q2⟩:=hrest j oj bj k1 k2 hoj hbj
    exact q2 (hN.own bj.b ⟨i,oi,bi,h1,hoi,hbi,heq⟩ q1)
  ·rcases hcase j oj hj with k1 | ⟨k0,k1,k2,k3⟩
   ·exfalso
    rw [h3] at hbi
    obtain ⟨q1,q2⟩:=hrest i oi bi h1 h2 hoi hbi
    exact q2 (hN.own bi.b ⟨j,oj,bj,k1,hoj,hbj,heq.symm⟩ q1)
   ·rw [h3] at hbi
    rw [k3] at hbj
    exact hW.inj i j oi oj bi bj h2 hoi k2 hoj hbi hbj heq
 ·refine hN.keep b hb fun hO=>hno ?_
  obtain ⟨i,o,blk,h0,h1,h2,h3,h4⟩:=hcallO b hO
  exact ⟨i,o,blk,h1,h2,h3,h4⟩
 ·obtain ⟨i,o,blk,h1,h2,h3,h4⟩:=hO
  rcases hcase i o h1 with k1 | ⟨k0,k1,k2,k3⟩
  ·obtain ⟨i',o',blk',q0,q1,q2,q3,q4⟩:=hcallO b (hN.own b ⟨i,o,blk,k1,h2,h3,h4⟩ hb)
   exact ⟨i',o',blk',q1,q2,q3,q4⟩
  ·exact ⟨i,o,blk,k2,h2,by rw [<- k3]; exact h3,h4⟩
 ·rcases hN.fresh b cs hb h0 with h | h
  ·exact .inl h
  ·obtain ⟨i,o,blk,_,h1,h2,h3,h4⟩:=hcallO b h
   exact .inr ⟨i,o,blk,h1,h2,h3,h4⟩
end Go.Am
end

section
namespace Go.Am
variable {P:Program} {n:Sz} {H:Imm} {μ:Mu} {env:Env} {hp:Hp} {a:Act} {w:World}
def fX0 (ρ:Operand->Option V) (args:List Operand):Env:=args.filterMap fun x=>match x with | .tmp t=>(ρ x).map fun v=>(t,v) | _=>none
theorem ot0 {env:Env} {args:List Operand}:∀ x ∈ args,Env.ev env x=Env.ev (fX0 (Env.ev env) args) x:=by
 intro x hx
 cases x with
 | tmp t =>
  simp only [Env.ev]
  induction args with
  | nil=>simp at hx
  | cons y ys ih =>
   unfold fX0
   rw [List.filterMap_cons]
   cases y with
   | tmp s =>
    cases hl:env.lookup s with
    | none =>
     simp only [Env.ev,hl,Option.map_none]
     by_cases e:t=s
     ·subst e
      rw [hl]
      symm
      have:∀ (l:List Operand),((l.filterMap fun x=>match x with | .tmp t=>(Env.ev env x).map fun v=>(t,v) | _=>none):Env).lookup t=none\/True:=fun _=>.inr trivial
      clear ih this hx
      induction ys with
      | nil=>rfl
      | cons z zs ihz =>
       rw [List.filterMap_cons]
       cases z with
       | tmp q =>
        cases hq:env.lookup q with
        | none=>simp only [Env.ev,hq,Option.map_none]; exact ihz
        | some v =>
         simp only [Env.ev,hq,Option.map_some,List.lookup_cons]
         have:(t == q)=false:=by
          cases e:(t == q) with
          | false=>rfl
          | true=>have:=eq_of_beq e; subst this; rw [hl] at hq; cases hq
         rw [this]; exact ihz
       | _=>exact ihz
     ·rcases List.mem_cons.1 hx with h | h
      ·injection h with h; exact absurd h e
      ·exact ih h
    | some v =>
     simp only [Env.ev,hl,Option.map_some,List.lookup_cons]
     cases e:(t == s) with
     | true=>have:=eq_of_beq e; subst this; rw [hl]
     | false =>
      rcases List.mem_cons.1 hx with h | h
      ·injection h with h; subst h; simp at e
      ·exact ih h
   | _ =>
    rcases List.mem_cons.1 hx with h | h
    ·cases h
    ·exact ih h
 | _=>rfl
theorem po0 {env:Env} {args:List Operand} {t:Nat} {v:V} (h:(fX0 (Env.ev env) args).lookup t=some v):Operand.tmp t ∈ args/\Env.ev env (.tmp t)=some v:=by
 induction args with
 | nil=>simp [fX0] at h
 | cons y ys ih =>
  unfold fX0 at h
  rw [List.filterMap_cons] at h
  cases y with
  | tmp s =>
   cases hl:env.lookup s with
   | none=>simp only [Env.ev,hl,Option.map_none] at h; have:=ih h; exact ⟨by simp [this.1],this.2⟩
   | some u =>
    simp only [Env.ev,hl,Option.map_some,List.lookup_cons] at h
    cases e:(t == s) with
    | true=>rw [e] at h; have:=eq_of_beq e; subst this; simp only [Option.some.injEq] at h; subst h; exact ⟨by simp,hl⟩
    | false=>rw [e] at h; have:=ih h; exact ⟨by simp [this.1],this.2⟩
  | _=>have:=ih h; exact ⟨by simp [this.1],this.2⟩
theorem Sat.ofArgs {env:Env} {args:List Operand} {hp':Hp} (hd:a.defers=n.ds) (hn:a.tmps.size=n.n) (hr:∀ x ∈ args,∀ u,Env.ev env x=some u->R H μ u (a.eval x)) (hW:Wd H μ hp' w) :
  Sat n H μ (fX0 (Env.ev env) args) hp' a w:=by
 refine ⟨hd,hn,fun s v hs=>?_,hW⟩
 obtain ⟨h1,h2⟩:=po0 hs
 exact hr _ h1 v h2
def V.base:V->List Id
 | .bp i _=>[i]
 | .self i _=>[i]
 | .ep i _ _=>[i]
 | .arr i _ _=>[i]
 | .mp i=>[i]
 | .arc i _ _ _=>[i]
 | _=>[]
structure Eff where
 rd:List Id
 wr:List Id
 nw:Bool
 hp:Hp
def rdE (ids:List Id) (hp:Hp):Option Eff:=match ids with
 | []=>none
 | i :: is=>some ⟨i :: is,[],false,hp⟩
def IOp.tch (ev:Operand->Option V):IOp->List Id
 | .ld x=>match ev x with | some v=>v.base | none=>[]
 | .lda _ x=>match ev x with | some v=>v.base | none=>[]
 | .slL _ x _ _=>match ev x with | some v=>v.base | none=>[]
 | .ia _ x _=>match ev x with | some v=>v.base | none=>[]
 | _=>[]
def b40:V->(Bool->Prop)->Prop
 | .nil,K=>K true
 | .lst xs,K=>(xs=[]\/xs[0]?=some []->False)/\K false
 | .arr _ _ m,K=>m ≠ 0/\K false
 | _,_=>False
def appD (hp:Hp) (ty sz bytes s:Nat) (v u:V) (K:V->Option Eff->Prop):Prop :=
 match v with
 | .nil=>srcV hp sz u fun es=>es.length * bytes<=140737488355328/\K (.arr (.l s 0) 0 es.length) (some ⟨[],u.base,true,(.l s 0,.row ty sz true es) :: hp⟩)
 | .arr i o m=>o=0/\∃ xs,hp.lookup i=some (.row ty sz true xs)/\m<=xs.length/\srcV hp sz u fun es=>(m + es.length) * bytes<=140737488355328 /\
   K (.arr (.l s 0) 0 (m + es.length)) (some ⟨[],i :: u.base,true,(.l s 0,.row ty sz true (xs.take m++es)) :: Hp.set i .gone hp⟩)
 | _=>False
def callPD (P:Program) (env:Env) (f:Operand) (xs:List Operand) (K Kp:V->Option Eff->Prop):Prop :=
 ∃ g caps vs,Env.ev env f=some (.fn g caps)/\xs.mapM (Env.ev env)=some vs/\V.dB0 [] (vs++caps) fun args=>V.bt0 args=true/\∃ r,J P g args [] (·=r)/\match r with
  | .ret v _=>v.pure=true/\K v none
  | .pan v _=>v.pure=true/\Kp v none
def callTD (P:Program) (hp:Hp) (env:Env) (d:Option Nat) (f:Operand) (xs:List Operand) (K Kp:V->Option Eff->Prop):Prop :=
 ∃ T g caps vs ids,Env.ev env f=some (.fn g caps)/\xs.mapM (Env.ev env)=some vs/\ids.Nodup /\
  V.seeL false ids (Hp.frz (.tup (V.bq0 ids (vs++caps++boxes (Hp.onl T hp) ids))) (Hp.onl T hp)) (vs++caps) fun us=>∃ args,V.fA0 (toE ids 0) us=some args /\
   eZ0 ids (Hp.frz (.tup (V.bq0 ids (vs++caps++boxes (Hp.onl T hp) ids))) (Hp.onl T hp)) ids fun obs=>∃ r,J P g args obs (·=r)/\match r with
    | .ret v obs'=>∃ base,(d=some base\/obs'.length<=ids.length)/\fB0 env (Hp.frz (.tup (V.bq0 ids (vs++caps++boxes (Hp.onl T hp) ids))) (Hp.onl T hp)) ids base v obs' fun v' _ h =>
            offB T d h=true/\K v' (some ⟨[],T,true,h++fJ0 T hp⟩)
    | .pan v obs'=>fB0 env (Hp.frz (.tup (V.bq0 ids (vs++caps++boxes (Hp.onl T hp) ids))) (Hp.onl T hp)) ids 0 v obs' fun v' _ h =>
            offB T none h=true/\Kp v' (some ⟨[],T,false,h++fJ0 T hp⟩)
def ne (P:Program) (hp:Hp) (env:Env) (d:Option Nat) (op:IOp) (K Kp:V->Option Eff->Prop):Prop :=
 match op with
 | .alloc z=>∃ s,d=some s/\K (.bp (.l s 0) 0) (some ⟨[],[],true,(.l s 0,.box z) :: hp⟩)
 | .box sz x=>∃ s v us,d=some s/\Env.ev env x=some v/\v.cells=some us/\K (.bp (.l s 0) 0) (some ⟨[],[],true,(.l s 0,.box (us.map (V.kill (.l s 0)))) :: hp⟩)
 | .mks ty sz bytes z l c=>∃ s kl kc li ci,d=some s/\Env.ev env l=some (.c (.int kl li))/\Env.ev env c=some (.c (.int kc ci))/\0<=li/\li<=ci/\ci * bytes<=281474976710656/\ci<=281474976710656 /\
   K (.arr (.l s 0) 0 li.toNat) (some ⟨[],[],true,(.l s 0,.row ty sz true (List.replicate li.toNat z)) :: hp⟩)
 | .mkrow ty sz xs=>∃ s vs,d=some s/\xs.mapM (Env.ev env)=some vs/\V.seeL false [] [] vs fun us=>∃ els,us.mapM V.cells=some els/\els.all (fun e=>e.length == sz && scalars e && V.bt0 e)=true /\
   K (.arr (.l s 0) 0 els.length) (some ⟨[],[],true,(.l s 0,.row ty sz true els) :: hp⟩)
 | .st sz x y=>d=none/\∃ u v us,Env.ev env x=some u/\Env.ev env y=some v/\v.cells=some us/\us.length=sz/\scalars us=true/\stV hp us u fun h=>K .any (some ⟨[],u.base,false,h⟩)
 | .app ty sz bytes x y=>∃ s v u,d=some s/\Env.ev env x=some v/\Env.ev env y=some u/\appD hp ty sz bytes s v u K
 | .isnl ng x=>∃ v,Env.ev env x=some v/\b40 v fun b=>K (.c (.bool (if ng then !b else b))) (some ⟨[],[],true,hp⟩)
 | .capn _=>False
 | .pan _=>False
 | .cpy _ _ _=>False
 | .mkmap _=>False
 | .mput _ _ _ _=>False
 | .mget _ _ _ _ _=>False
 | .sl3 _ _ _ _=>False
 | .appz _ _ _ _ _ _=>False
 | .clr _ _ _=>False
 | .allocS _ _=>False
 | .cvSB _=>False
 | .appS _ _ _=>False
 | .cvBS _=>False
 | .iaA _ _ _ _=>False
 | .slA _ _ _=>False
 | .boxS _ _ _=>False
 | .call f xs=>callPD P env f xs K Kp\/callTD P hp env d f xs K Kp
 | op=>pv hp (Env.ev env) op fun v=>K v (rdE (op.tch (Env.ev env)) hp)
def Eff.tch:Option Eff->List Id
 | some f=>f.rd++f.wr
 | none=>[]
def Eff.nd (d:Option Nat):Option Eff->Option Nat
 | some f=>if f.nw then d else none
 | none=>none
def Eff.wrs:Option Eff->List Id
 | some f=>f.wr
 | none=>[]
def Eff.wrote (d:Option Nat) (e:Option Eff) (i:Id):Bool:=(Eff.wrs e).contains i || i.at (Eff.nd d e)
def Eff.after (hp:Hp):Option Eff->Hp
 | some f=>f.hp
 | none=>hp
def Fits (hp:Hp) (d:Option Nat) (e:Option Eff):Prop:=∀ i,Eff.wrote d e i=false->(Eff.after hp e).lookup i=hp.lookup i
def oe0 (P:Program) (n:Sz) (o:Oper) (hp:Hp) (env:Env) (args:List Operand) (v:V) (e:Option Eff):Prop :=
 ∀ H μ a w hp' (Q:Exit->Act->World->Prop),a.defers=n.ds->a.tmps.size=n.n->(∀ x ∈ args,∀ u,Env.ev env x=some u->R H μ u (a.eval x)) ->
  (∀ i,i ∈ Eff.tch e->hp'.lookup i=hp.lookup i)->Wd H μ hp' w->(∀ i:Id,i.at (Eff.nd o.dst e)=true->μ i=none/\hp'.lookup i=none/\hp.lookup i=none) ->
  o.wp P a w (fun a' w'=>∃ x H' μ' hp2,a'=a.put o.dst x/\(o.dst ≠ none->R H' μ' v x)/\Same (Eff.nd o.dst e) μ μ' /\
   (∀ i,hp2.lookup i=if Eff.wrote o.dst e i then (Eff.after hp e).lookup i else hp'.lookup i)/\Wd H' μ' hp2 w'/\Nx H μ hp' w H' μ' hp2 w') Q
def rK0 (P:Program) (n:Sz) (o:Oper) (hp:Hp) (env:Env) (args:List Operand) (v:V) (e:Option Eff):Prop :=
 ∀ H μ a w hp' (Q:Exit->Act->World->Prop),a.defers=n.ds->a.tmps.size=n.n->(∀ x ∈ args,∀ u,Env.ev env x=some u->R H μ u (a.eval x)) ->
  (∀ i,i ∈ Eff.tch e->hp'.lookup i=hp.lookup i)->Wd H μ hp' w->(∀ i:Id,i.at o.dst=true->μ i=none/\hp'.lookup i=none/\hp.lookup i=none) ->
  (∀ x H' μ' hp2 w',R H' μ' v x->(∀ i,hp2.lookup i=if Eff.wrote none e i then (Eff.after hp e).lookup i else hp'.lookup i)->Wd H' μ' hp2 w'->Nx H μ hp' w H' μ' hp2 w'->Q (.panic [{ v:=x,recovered:=false }]) a w') ->
  o.wp P a w (fun _ _=>False) Q
theorem rm0 {o:Oper} {env:Env} {args:List Operand} {v:V} {T:List Id} {hpT hO:Hp} {d:Option Nat} {Kp:V->Hp->Prop}
  (hop:OpTd P n o d (fX0 (Env.ev env) args) hpT (fun e h=>h=hO/\∀ s,o.dst=some s->e.lookup s=some v) Kp) (hdn:∀ s,o.dst=some s->s < n)
  (hT:∀ i,hpT.lookup i=if T.contains i then hp.lookup i else none) (hoff:offB T d hO=true) :
  ∀ H μ a w hp' (Q:Exit->Act->World->Prop),a.defers=n.ds->a.tmps.size=n.n->(∀ x ∈ args,∀ u,Env.ev env x=some u->R H μ u (a.eval x)) ->
   (∀ i,i ∈ T->hp'.lookup i=hp.lookup i)->Wd H μ hp' w->(∀ i:Id,i.at d=true->μ i=none/\hp'.lookup i=none) ->
   (∀ v x H' μ' hp2 w',Kp v hp2->R H' μ' v x->Nx H μ hpT w H' μ' hp2 w'->Wd H' μ' hp2 w'->Same d μ μ'->Q (.panic [{ v:=x,recovered:=false }]) a w') ->
   o.wp P a w (fun a' w'=>∃ x H' μ',a'=a.put o.dst x/\(o.dst ≠ none->R H' μ' v x)/\Same d μ μ'/\Wd H' μ' (hO++fJ0 T hp') w'/\Nx H μ hp' w H' μ' (hO++fJ0 T hp') w') Q:=by
 intro H μ a w hp' Q hd hn hr hag hW hf hQ
 have hT':∀ i,hpT.lookup i=if T.contains i then hp'.lookup i else none:=fun i=>by
  rw [hT i]
  split
  ·rename_i hc; rw [hag i (by simpa using hc)]
  ·rfl
 have hWT:Wd H μ hpT w:=hW.sub fun i o hl=>by
  rw [hT'] at hl
  split at hl
  ·exact hl
  ·cases hl
 have h1:=hop H μ a w Q (Sat.ofArgs hd hn hr hWT) fun v x hp' H' μ' w' k1 k2 k3 k4 k5=>hQ v x H' μ' hp' w' k1 k2 k3 k4 k5
 refine id0 (q20 h1 fun a' w' ⟨_,_,_,_,_,h2,_⟩=>h2.defers.trans hd.symm) ?_
 rintro a' w' ⟨⟨env',hp2,H',μ',⟨rfl,hv⟩,h2,h3,h4⟩,x,rfl⟩
 obtain ⟨g1,g2⟩:=hW.merge hT' h2.wd h3 h4 hf hoff
 refine ⟨x,H',μ',rfl,fun hne=>?_,h4,g1,g2⟩
 cases e:o.dst with
 | none=>exact absurd e hne
 | some s =>
  have:=h2.env s v (hv s e)
  rw [e] at this
  have hs:=hdn s e
  simp only [Act.put] at this
  rw [Array.getD_eq_getD_getElem?,Array.getElem?_setIfInBounds_self_of_lt (by rw [hn]; exact hs)] at this
  exact this
theorem pv_agree {ρ:Operand->Option V} {op:IOp} {K:V->Prop} {hp':Hp} (hl:∀ i,i ∈ op.tch ρ->hp'.lookup i=hp.lookup i) (h:pv hp ρ op K):pv hp' ρ op K:=by
 cases op
 case ld x =>
  obtain ⟨v,h1,h2⟩:=h
  refine ⟨v,h1,?_⟩
  simp only [IOp.tch,h1] at hl
  cases v <;> try exact h2
  all_goals simp only [V.base,List.mem_singleton,forall_eq] at hl; simp only [ldV,hl]; exact h2
 case lda sz x =>
  obtain ⟨v,h1,h2⟩:=h
  refine ⟨v,h1,?_⟩
  simp only [IOp.tch,h1] at hl
  cases v <;> try exact h2
  all_goals simp only [V.base,List.mem_singleton,forall_eq] at hl; simp only [ldaV,hl]; exact h2
 case slL sz x lo hi =>
  obtain ⟨v,h1,h2⟩:=h
  refine ⟨v,h1,?_⟩
  simp only [IOp.tch,h1] at hl
  cases v <;> try exact h2
  all_goals simp only [V.base,List.mem_singleton,forall_eq] at hl; simp only [slLV,hl]; exact h2
 case ia sz x i =>
  obtain ⟨v,u,h1,h2,h3⟩:=h
  refine ⟨v,u,h1,h2,?_⟩
  simp only [IOp.tch,h1] at hl
  unfold iaV at h3 ⊢
  split at h3
  ·exact h3
  ·simp only [V.base,List.mem_singleton,forall_eq] at hl; simp only [hl]; exact h3
  ·exact h3.elim
 all_goals exact h
end Go.Am
end

section
namespace Go.Am
variable {P:Program} {n:Sz} {H:Imm} {μ:Mu} {env:Env} {hp:Hp} {a:Act} {w:World}
theorem binI_pick {op:BinOp} {k:IntKind} {p q:Int} {K:V->Prop} (h:binI op k p q K):∃ v,K v/\binI op k p q (·=v):=by
 cases op <;> simp only [binI] at h ⊢ <;> first
  | exact h.elim
  | exact ⟨_,h.2,h.1,rfl⟩
  | exact ⟨_,h,rfl⟩
theorem binS_pick {op:BinOp} {p q:ByteArray} {K:V->Prop} (h:binS op p q K):∃ v,K v/\binS op p q (·=v):=by
 cases op <;> simp only [binS] at h ⊢ <;> first
  | exact h.elim
  | exact ⟨_,h.2,h.1,rfl⟩
  | exact ⟨_,h,rfl⟩
theorem binV_pick {op:BinOp} {x y:V} {K:V->Prop} (h:binV op x y K):∃ v,K v/\binV op x y (·=v):=by
 unfold binV at h ⊢
 split at h
 ·cases op <;> simp only at h ⊢ <;> first
   | exact ⟨_,h.2,h.1,rfl⟩
   | (obtain ⟨v,h1,h2⟩:=binI_pick h.2; exact ⟨v,h1,h.1,h2⟩)
 ·exact binS_pick h
 ·exact h.elim
theorem rO0 {ne:Bool} {x y:V} {K:V->Prop} (h:qp0 ne x y K):∃ v,K v/\qp0 ne x y (·=v):=by
 unfold qp0 at h ⊢
 split at h
 ·exact ⟨_,h,rfl⟩
 ·exact h.elim
theorem unV_pick {op:UnOp} {x:V} {K:V->Prop} (h:unV op x K):∃ v,K v/\unV op x (·=v):=by
 unfold unV at h ⊢
 split at h
 ·cases op <;> simp only at h ⊢ <;> first
   | exact h.elim
   | exact ⟨_,h,rfl⟩
 ·cases op <;> simp only at h ⊢ <;> first
   | exact h.elim
   | exact ⟨_,h,rfl⟩
 ·exact h.elim
theorem ldV_pick {x:V} {K:V->Prop} (h:ldV hp x K):∃ v,K v/\ldV hp x (·=v):=by
 cases x <;> simp only [ldV] at h ⊢ <;> first | exact h.elim | skip
 ·obtain ⟨v,h1,h2⟩:=h; exact ⟨v,h2,v,h1,rfl⟩
 ·obtain ⟨cs,h0,v,h1,h2⟩:=h; exact ⟨v,h2,cs,h0,v,h1,rfl⟩
 ·obtain ⟨ty,sz,own,xs,h0,e,h3,v,h1,h2⟩:=h; exact ⟨v,h2,ty,sz,own,xs,h0,e,h3,v,h1,rfl⟩
theorem ldaV_pick {x:V} {sz:Nat} {K:V->Prop} (h:ldaV hp sz x K):∃ v,K v/\ldaV hp sz x (·=v):=by
 cases x <;> simp only [ldaV] at h ⊢ <;> first | exact h.elim | skip
 ·exact ⟨_,h.2,h.1,rfl⟩
 ·obtain ⟨cs,h0,h1,h2⟩:=h; exact ⟨_,h2,cs,h0,h1,rfl⟩
 ·obtain ⟨ty,sz',own,xs,h0,e,h3,h1,h2⟩:=h; exact ⟨_,h2,ty,sz',own,xs,h0,e,h3,h1,rfl⟩
theorem faV_pick {x:V} {off:Nat} {K:V->Prop} (h:faV off x K):∃ v,K v/\faV off x (·=v):=by
 cases x <;> simp only [faV] at h ⊢ <;> first | exact h.elim | exact ⟨_,h,rfl⟩
theorem si0 {x:V} {K:V->Prop} (h:nC0 x K):∃ v,K v/\nC0 x (·=v):=by
 cases x <;> simp only [nC0] at h ⊢ <;> first | exact h.elim | exact ⟨_,h,rfl⟩
theorem lenV_pick {x:V} {K:V->Prop} (h:lenV x K):∃ v,K v/\lenV x (·=v):=by
 cases x <;> simp only [lenV] at h ⊢ <;> first | exact h.elim | exact ⟨_,h,rfl⟩
theorem iaV_pick {x i:V} {sz:Nat} {K:V->Prop} (h:iaV hp sz x i K):∃ v,K v/\iaV hp sz x i (·=v):=by
 unfold iaV at h ⊢
 split at h
 ·obtain ⟨e,h1,h2,h3,h4⟩:=h; exact ⟨_,h4,e,h1,h2,h3,rfl⟩
 ·obtain ⟨h1,h2,h3,h4⟩:=h; exact ⟨_,h4,h1,h2,h3,rfl⟩
 ·exact h.elim
theorem ixSV_pick {x i:V} {K:V->Prop} (h:ixSV x i K):∃ v,K v/\ixSV x i (·=v):=by
 unfold ixSV at h ⊢
 split at h
 ·obtain ⟨h1,b,h2,h3⟩:=h; exact ⟨_,h3,h1,b,h2,rfl⟩
 ·exact h.elim
theorem extV_pick {x:V} {i:Nat} {K:V->Prop} (h:extV i x K):∃ v,K v/\extV i x (·=v):=by
 unfold extV at h ⊢
 split at h
 ·obtain ⟨v,h1,h2⟩:=h; exact ⟨v,h2,v,h1,rfl⟩
 ·exact h.elim
theorem dy0 {x:Option (Option V)} {d:Int} {K:Int->Prop} (h:intO x d K):∃ i,K i/\∀ K',K' i->intO x d K':=by
 unfold intO at h ⊢
 split at h
 ·exact ⟨_,h,fun K' h=>h⟩
 ·exact ⟨_,h,fun K' h=>h⟩
 ·exact h.elim
theorem slSV_pick {x:V} {lo hi:Option (Option V)} {K:V->Prop} (h:slSV x lo hi K):∃ v,K v/\slSV x lo hi (·=v):=by
 unfold slSV at h ⊢
 split at h
 ·obtain ⟨i,h1,h2⟩:=dy0 h
  obtain ⟨j,⟨k1,k2,k3,k4⟩,h4⟩:=dy0 h1
  exact ⟨_,k4,h2 _ (h4 _ ⟨k1,k2,k3,rfl⟩)⟩
 ·exact h.elim
theorem slLV_pick {x:V} {sz:Nat} {lo hi:Option (Option V)} {K:V->Prop} (h:slLV hp sz x lo hi K):∃ v,K v/\slLV hp sz x lo hi (·=v):=by
 unfold slLV at h ⊢
 split at h
 ·obtain ⟨i,h1,h2⟩:=dy0 h
  obtain ⟨j,⟨k1,k2,k3⟩,h4⟩:=dy0 h1
  exact ⟨_,k3,h2 _ (h4 _ ⟨k1,k2,rfl⟩)⟩
 ·obtain ⟨i,h1,h2⟩:=dy0 h
  obtain ⟨j,⟨k1,k2,k3,k4,k5⟩,h4⟩:=dy0 h1
  exact ⟨_,k5,h2 _ (h4 _ ⟨k1,k2,k3,k4,rfl⟩)⟩
 ·obtain ⟨h0,h⟩:=h
  obtain ⟨i,h1,h2⟩:=dy0 h
  obtain ⟨j,⟨k1,k2,k3,k4⟩,h4⟩:=dy0 h1
  exact ⟨_,k4,h0,h2 _ (h4 _ ⟨k1,k2,k3,rfl⟩)⟩
 ·obtain ⟨h0,h⟩:=h
  obtain ⟨i,h1,h2⟩:=dy0 h
  obtain ⟨j,⟨k1,k2,k3,k4⟩,h4⟩:=dy0 h1
  exact ⟨_,k4,h0,h2 _ (h4 _ ⟨k1,k2,k3,rfl⟩)⟩
 ·exact h.elim
theorem nN0 {ρ:Operand->Option V}:∀ {ps:List (Nat × Nat × Operand)} {cs:List V} {K:List V->Prop},hZ0 ρ ps cs K->∃ us,K us/\∀ K':List V->Prop,K' us->hZ0 ρ ps cs K'
 | [],cs,K,h=>⟨cs,h,fun K' h=>h⟩
 | (off,sz,x) :: ps,cs,K,h=>by
  obtain ⟨v,us,h1,h2,h3,h4,h5⟩:=h
  obtain ⟨r,k1,k2⟩:=nN0 h5
  exact ⟨r,k1,fun K' hk=>⟨v,us,h1,h2,h3,h4,k2 K' hk⟩⟩
theorem pv_pick {ρ:Operand->Option V} {op:IOp} {K:V->Prop} (h:pv hp ρ op K):∃ v,K v/\pv hp ρ op (·=v):=by
 cases op <;> simp only [pv] at h ⊢
 case mv x=>obtain ⟨v,h1,h2⟩:=h; exact ⟨v,h2,v,h1,rfl⟩
 case pick c x y =>
  obtain ⟨t,h1,h2,h3⟩:=h
  cases t with
  | true=>obtain ⟨v,k1,k2⟩:=h2 rfl; exact ⟨v,k2,true,h1,(fun _=>⟨v,k1,rfl⟩),(fun e=>by cases e)⟩
  | false=>obtain ⟨v,k1,k2⟩:=h3 rfl; exact ⟨v,k2,false,h1,(fun e=>by cases e),(fun _=>⟨v,k1,rfl⟩)⟩
 case ld x=>obtain ⟨v,h1,h2⟩:=h; obtain ⟨u,k1,k2⟩:=ldV_pick h2; exact ⟨u,k1,v,h1,k2⟩
 case lda sz x=>obtain ⟨v,h1,h2⟩:=h; obtain ⟨u,k1,k2⟩:=ldaV_pick h2; exact ⟨u,k1,v,h1,k2⟩
 case nchk x=>obtain ⟨v,h1,h2⟩:=h; obtain ⟨u,k1,k2⟩:=si0 h2; exact ⟨u,k1,v,h1,k2⟩
 case bin op x y=>obtain ⟨v,u,h1,h2,h3⟩:=h; obtain ⟨r,k1,k2⟩:=binV_pick h3; exact ⟨r,k1,v,u,h1,h2,k2⟩
 case binb ne x y=>obtain ⟨v,u,h1,h2,h3⟩:=h; obtain ⟨r,k1,k2⟩:=rO0 h3; exact ⟨r,k1,v,u,h1,h2,k2⟩
 case un op x=>obtain ⟨v,h1,h2⟩:=h; obtain ⟨u,k1,k2⟩:=unV_pick h2; exact ⟨u,k1,v,h1,k2⟩
 case conv k x=>obtain ⟨k',m,h1,h2⟩:=h; exact ⟨_,h2,k',m,h1,rfl⟩
 case cvIS x=>obtain ⟨k',m,h1,h2,h3⟩:=h; exact ⟨_,h3,k',m,h1,h2,rfl⟩
 case mkfn f cs=>obtain ⟨vs,h1,h2⟩:=h; exact ⟨_,h2,vs,h1,rfl⟩
 case mkif t x=>obtain ⟨v,h1,h2⟩:=h; exact ⟨_,h2,v,h1,rfl⟩
 case slS x lo hi=>obtain ⟨v,h1,h2⟩:=h; obtain ⟨u,k1,k2⟩:=slSV_pick h2; exact ⟨u,k1,v,h1,k2⟩
 case slL sz x lo hi=>obtain ⟨v,h1,h2⟩:=h; obtain ⟨u,k1,k2⟩:=slLV_pick h2; exact ⟨u,k1,v,h1,k2⟩
 case fa off x=>obtain ⟨v,h1,h2⟩:=h; obtain ⟨u,k1,k2⟩:=faV_pick h2; exact ⟨u,k1,v,h1,k2⟩
 case fld off x=>obtain ⟨cs,h1,v,h2,h3⟩:=h; exact ⟨v,h3,cs,h1,v,h2,rfl⟩
 case flda off sz x=>obtain ⟨cs,h1,h2,h3⟩:=h; exact ⟨_,h3,cs,h1,h2,rfl⟩
 case ia sz x i=>obtain ⟨v,u,h1,h2,h3⟩:=h; obtain ⟨r,k1,k2⟩:=iaV_pick h3; exact ⟨r,k1,v,u,h1,h2,k2⟩
 case ixS x i=>obtain ⟨v,u,h1,h2,h3⟩:=h; obtain ⟨r,k1,k2⟩:=ixSV_pick h3; exact ⟨r,k1,v,u,h1,h2,k2⟩
 case ext x i=>obtain ⟨v,h1,h2⟩:=h; obtain ⟨u,k1,k2⟩:=extV_pick h2; exact ⟨u,k1,v,h1,k2⟩
 case len x=>obtain ⟨v,h1,h2⟩:=h; obtain ⟨u,k1,k2⟩:=lenV_pick h2; exact ⟨u,k1,v,h1,k2⟩
 case lenS x=>obtain ⟨s,h1,h2⟩:=h; exact ⟨_,h2,s,h1,rfl⟩
 case mx x y=>obtain ⟨k,k',p,q,h1,h2,h3⟩:=h; exact ⟨_,h3,k,k',p,q,h1,h2,rfl⟩
 case mn x y=>obtain ⟨k,k',p,q,h1,h2,h3⟩:=h; exact ⟨_,h3,k,k',p,q,h1,h2,rfl⟩
 case build z ps=>obtain ⟨us,k1,k2⟩:=nN0 h; exact ⟨_,k1,k2 _ rfl⟩
 case ta t z x =>
  obtain ⟨v,h1,h2⟩:=h
  unfold taV at h2 ⊢
  split at h2
  ·rename_i t' u
   by_cases e:t'=t
   ·exact ⟨_,h2.1 e,_,h1,(fun _=>rfl),fun ne=>absurd e ne⟩
   ·exact ⟨_,h2.2 e,_,h1,(fun e'=>absurd e' e),fun _=>rfl⟩
  ·exact ⟨_,h2,_,h1,rfl⟩
  ·exact h2.elim
 case isni ng x =>
  obtain ⟨v,h1,h2⟩:=h
  unfold pB0 at h2 ⊢
  split at h2
  ·exact ⟨_,h2,_,h1,rfl⟩
  ·exact ⟨_,h2,_,h1,rfl⟩
  ·exact h2.elim
 case ixA n x i =>
  obtain ⟨cs,u,h1,h2,h3⟩:=h
  unfold ixAV at h3 ⊢
  split at h3
  ·obtain ⟨k1,k2,v,k3,k4⟩:=h3; exact ⟨_,k4,_,_,h1,h2,k1,k2,_,k3,rfl⟩
  ·exact h3.elim
 all_goals exact h.elim
mutual
theorem qi0 {hp:Hp}:∀ {v:V} {K:V->Prop},V.view hp v K->∃ u,K u/\∀ K':V->Prop,K' u->V.view hp v K'
 | .nil,K,h=>⟨_,h,fun K' h=>h⟩
 | .arr i o m,K,h=>by
  simp only [V.view] at h ⊢
  obtain ⟨ty,sz,xs,h1,h2,h3⟩:=h
  exact ⟨_,h3,fun K' hk=>⟨ty,sz,xs,h1,h2,hk⟩⟩
 | .agg cs,K,h=>by
  simp only [V.view] at h ⊢
  obtain ⟨us,h1,h2⟩:=dR0 h
  exact ⟨_,h1,fun K' hk=>h2 _ hk⟩
 | .tup cs,K,h=>by
  simp only [V.view] at h ⊢
  obtain ⟨us,h1,h2⟩:=dR0 h
  exact ⟨_,h1,fun K' hk=>h2 _ hk⟩
 | .ifc t v,K,h=>by
  simp only [V.view] at h ⊢
  obtain ⟨u,h1,h2⟩:=qi0 h
  exact ⟨_,h1,fun K' hk=>h2 _ hk⟩
 | .any,K,h=>⟨_,h,fun K' h=>h⟩
 | .c _,K,h=>⟨_,h,fun K' h=>h⟩
 | .lst _,K,h=>⟨_,h,fun K' h=>h⟩
 | .rp _,K,h=>⟨_,h,fun K' h=>h⟩
 | .bp _ _,K,h=>⟨_,h,fun K' h=>h⟩
 | .self _ _,K,h=>⟨_,h,fun K' h=>h⟩
 | .ep _ _ _,K,h=>⟨_,h,fun K' h=>h⟩
 | .mp _,K,h=>⟨_,h,fun K' h=>h⟩
 | .arc i o m _,K,h=>by
  simp only [V.view] at h ⊢
  obtain ⟨ty,sz,xs,h1,h2,h3⟩:=h
  exact ⟨_,h3,fun K' hk=>⟨ty,sz,xs,h1,h2,hk⟩⟩
 | .fn _ _,K,h=>⟨_,h,fun K' h=>h⟩
theorem dR0 {hp:Hp}:∀ {cs:List V} {K:List V->Prop},V.dB0 hp cs K->∃ us,K us/\∀ K':List V->Prop,K' us->V.dB0 hp cs K'
 | [],K,h=>⟨[],h,fun K' h=>h⟩
 | c :: cs,K,h=>by
  simp only [V.dB0] at h ⊢
  obtain ⟨u,h1,h2⟩:=qi0 h
  obtain ⟨us,h3,h4⟩:=dR0 h1
  exact ⟨_,h3,fun K' hk=>h2 _ (h4 _ hk)⟩
end
theorem Wd.bare (h:Wd H μ hp w):Wd H μ [] w:=h.only rfl
mutual
theorem ry0 {nl:Bool} {ks:List Id} {hp:Hp}:∀ {v:V} {K:V->Prop},V.see nl ks hp v K->∃ u,K u/\∀ K':V->Prop,K' u->V.see nl ks hp v K'
 | .nil,K,h=>by
  simp only [V.see] at h ⊢
  split at h
  ·rename_i e; simp only [e,if_true]; exact ⟨_,h,fun K' h=>h⟩
  ·rename_i e; simp only [e,if_false]; exact ⟨_,h,fun K' h=>h⟩
 | .arr i o m,K,h=>by
  simp only [V.see] at h ⊢
  split at h
  ·rename_i e; simp only [e,if_true]; exact ⟨_,h,fun K' h=>h⟩
  ·rename_i e
   simp only [e]
   obtain ⟨ty,sz,xs,h1,h2,h3⟩:=h
   exact ⟨_,h3,fun K' hk=>by simp only [Bool.false_eq_true,if_false]; exact ⟨ty,sz,xs,h1,h2,hk⟩⟩
 | .agg cs,K,h=>by
  simp only [V.see] at h ⊢
  obtain ⟨us,h1,h2⟩:=gw0 h
  exact ⟨_,h1,fun K' hk=>h2 _ hk⟩
 | .tup cs,K,h=>by
  simp only [V.see] at h ⊢
  obtain ⟨us,h1,h2⟩:=gw0 h
  exact ⟨_,h1,fun K' hk=>h2 _ hk⟩
 | .ifc t v,K,h=>by
  simp only [V.see] at h ⊢
  obtain ⟨u,h1,h2⟩:=ry0 h
  exact ⟨_,h1,fun K' hk=>h2 _ hk⟩
 | .fn g cs,K,h=>by
  simp only [V.see] at h ⊢
  obtain ⟨us,h1,h2⟩:=gw0 h
  exact ⟨_,h1,fun K' hk=>h2 _ hk⟩
 | .any,K,h=>⟨_,h,fun K' h=>h⟩
 | .c _,K,h=>⟨_,h,fun K' h=>h⟩
 | .lst _,K,h=>⟨_,h,fun K' h=>h⟩
 | .rp _,K,h=>⟨_,h,fun K' h=>h⟩
 | .self _ _,K,h=>⟨_,h,fun K' h=>h⟩
 | .bp _ _,K,h=>⟨_,h,fun K' h=>h⟩
 | .ep _ _ _,K,h=>⟨_,h,fun K' h=>h⟩
 | .mp _,K,h=>⟨_,h,fun K' h=>h⟩
 | .arc i o m _,K,h=>by
  simp only [V.see] at h ⊢
  split at h
  ·rename_i e; simp only [e,if_true]; exact ⟨_,h,fun K' h=>h⟩
  ·rename_i e
   simp only [e]
   obtain ⟨ty,sz,xs,h1,h2,h3⟩:=h
   exact ⟨_,h3,fun K' hk=>by simp only [Bool.false_eq_true,if_false]; exact ⟨ty,sz,xs,h1,h2,hk⟩⟩
theorem gw0 {nl:Bool} {ks:List Id} {hp:Hp}:∀ {cs:List V} {K:List V->Prop},V.seeL nl ks hp cs K->∃ us,K us/\∀ K':List V->Prop,K' us->V.seeL nl ks hp cs K'
 | [],K,h=>⟨[],h,fun K' h=>h⟩
 | c :: cs,K,h=>by
  simp only [V.seeL] at h ⊢
  obtain ⟨u,h1,h2⟩:=ry0 h
  obtain ⟨us,h3,h4⟩:=gw0 h1
  exact ⟨_,h3,fun K' hk=>h2 _ (h4 _ hk)⟩
end
theorem jm0 {ids:List Id}:∀ {is:List Id} {K:List Ob->Prop},eZ0 ids hp is K->∃ obs,K obs/\∀ K':List Ob->Prop,K' obs->eZ0 ids hp is K'
 | [],K,h=>⟨[],h,fun K' h=>h⟩
 | i :: is,K,h=>by
  unfold eZ0 at h ⊢
  split at h
  ·rename_i cs e
   obtain ⟨us,⟨us',h1,h2⟩,h3⟩:=gw0 h
   obtain ⟨obs,h4,h5⟩:=jm0 h2
   refine ⟨_,h4,fun K' hk=>?_⟩
   exact h3 _ ⟨us',h1,h5 _ hk⟩
  ·rename_i e
   obtain ⟨obs,h4,h5⟩:=jm0 h
   exact ⟨_,h4,fun K' hk=>h5 _ hk⟩
  ·rename_i e1 e2
   obtain ⟨obs,h4,h5⟩:=jm0 h
   exact ⟨_,h4,fun K' hk=>h5 _ hk⟩
theorem qb0 {sz:Nat} {v:V} {K:List (List V)->Prop} (h:srcV hp sz v K):∃ es,K es/\∀ K':List (List V)->Prop,K' es->srcV hp sz v K':=by
 cases v <;> try exact h.elim
 ·exact ⟨_,h,fun K' h=>h⟩
 ·exact ⟨_,h.2,fun K' hk=>⟨h.1,hk⟩⟩
 ·obtain ⟨ty,own,xs,h1,h2,h3⟩:=h
  exact ⟨_,h3,fun K' hk=>⟨ty,own,xs,h1,h2,hk⟩⟩
theorem n80 {sz:Nat} {v:V} {hp':Hp} {K:List (List V)->Prop} (hl:∀ i,i ∈ v.base->hp'.lookup i=hp.lookup i) (h:srcV hp sz v K):srcV hp' sz v K:=by
 cases v <;> try exact h
 simp only [V.base,List.mem_singleton,forall_eq] at hl
 simp only [srcV,hl]; exact h
theorem stV_pick {us:List V} {v:V} {K:Hp->Prop} (h:stV hp us v K):∃ i ob,v.base=[i]/\hp.lookup i ≠ none/\K (Hp.set i ob hp)/\∀ (hp':Hp) (K':Hp->Prop),hp'.lookup i=hp.lookup i->K' (Hp.set i ob hp')->stV hp' us v K':=by
 cases v <;> try exact h.elim
 ·obtain ⟨cs,h1,h2,h3⟩:=h
  exact ⟨_,_,rfl,by rw [h1]; simp,h3,fun hp' K' e hk=>⟨cs,by rw [e]; exact h1,h2,hk⟩⟩
 ·obtain ⟨ty,sz,xs,h1,e,h2,h3,h4,h5⟩:=h
  exact ⟨_,_,rfl,by rw [h1]; simp,h5,fun hp' K' e' hk=>⟨ty,sz,xs,by rw [e']; exact h1,e,h2,h3,h4,hk⟩⟩
theorem sb0 {v:V} {K:Bool->Prop} (h:b40 v K):∃ b,K b/\pC0 v (·=b):=by
 cases v <;> try exact h.elim
 ·exact ⟨true,h,rfl⟩
 ·exact ⟨false,h.2,rfl,fun e=>(h.1 e).elim⟩
 ·exact ⟨false,h.2,rfl,fun e=>(h.1 e).elim⟩
def IOp.mk:IOp->Bool
 | .alloc _=>true
 | .box _ _=>true
 | .mks _ _ _ _ _ _=>true
 | .mkrow _ _ _=>true
 | .app _ _ _ _ _=>true
 | .call _ _=>true
 | .isnl _ _=>true
 | _=>false
theorem hK0 {o:Oper} {args:List Operand} {v:V} {T:List Id} {hpT hO hA:Hp} {nw:Bool}
  (hop:OpTd P n o (if nw then o.dst else none) (fX0 (Env.ev env) args) hpT (fun e h=>h=hO/\∀ s,o.dst=some s->e.lookup s=some v) fun _ _=>False) (hdn:∀ s,o.dst=some s->s < n)
  (hT:∀ i,hpT.lookup i=if T.contains i then hp.lookup i else none) (hoff:offB T (if nw then o.dst else none) hO=true)
  (hA1:∀ i,i ∈ T->hO.lookup i=hA.lookup i) (hA2:∀ i:Id,i.at (if nw then o.dst else none)=true->hp.lookup i=none->hO.lookup i=hA.lookup i)
  : oe0 P n o hp env args v (some ⟨[],T,nw,hA⟩):=by
 intro H μ a w hp' Q hd hn hr hag hW hf
 refine id0 (rm0 hop hdn hT hoff H μ a w hp' Q hd hn hr (fun i hi=>hag i (by simpa [Eff.tch] using hi)) hW (fun i hi=>⟨(hf i hi).1,(hf i hi).2.1⟩) (fun _ _ _ _ _ _ k=>k.elim)) ?_
 rintro a' w' ⟨x,H',μ',h1,h2,h3,h4,h5⟩
 refine ⟨x,H',μ',_,h1,h2,h3,fun i=>?_,h4,h5⟩
 rw [ce0]
 simp only [Eff.wrote,Eff.wrs,Eff.nd,Eff.after]
 by_cases hc:T.contains i=true
 ·simp only [hc,if_true,Bool.true_or,Option.or_none]; exact hA1 i (by simpa using hc)
 ·have hc':T.contains i=false:=by simpa using hc
  simp only [hc',Bool.false_eq_true,if_false,Bool.false_or]
  by_cases ha:i.at (if nw then o.dst else none)=true
  ·rw [if_pos ha,(hf i ha).2.1,Option.or_none]
   exact hA2 i ha (hf i ha).2.2
  ·rw [if_neg ha]
   cases e:hO.lookup i with
   | none=>rfl
   | some ob=>rcases kU0 hoff e with h | h
              ·exact absurd h hc
              ·exact absurd h ha
theorem lg0 {d:Option Nat} {T:List Id} {nw:Bool} {hA:Hp} (h:∀ i,i ∉ T->i.at (if nw then d else none)=false->hA.lookup i=hp.lookup i):Fits hp d (some ⟨[],T,nw,hA⟩):=by
 intro i hi
 simp only [Eff.wrote,Eff.wrs,Eff.nd,Bool.or_eq_false_iff] at hi
 exact h i (by simpa using hi.1) hi.2
end Go.Am
end

section
namespace Go.Am
variable {P:Program} {n:Sz} {H:Imm} {μ:Mu} {env:Env} {hp:Hp} {a:Act} {w:World}
theorem Hp.set_onl {T:List Id} {j:Id} {ob:Ob} (hl:hp.lookup j ≠ none) (hj:j ∈ T) (i:Id) (hi:i ∈ T):(Hp.set j ob (Hp.onl T hp)).lookup i=(Hp.set j ob hp).lookup i:=by
 rw [bx0,bx0,bw0,if_pos (by simpa using hi)]
theorem my0 {args xs:List Operand} (h:∀ x ∈ xs,x ∈ args):xs.mapM (Env.ev (fX0 (Env.ev env) args))=xs.mapM (Env.ev env) :=
 (mapM_congr fun x hx=>ot0 x (h x hx)).symm
theorem gY0 {args:List Operand} {x:Operand} (h:x ∈ args):Env.ev (fX0 (Env.ev env) args) x=Env.ev env x:=(ot0 x h).symm
theorem at_l {s q:Nat} {d:Option Nat}:(Id.l s q).at d=(d == some s):=rfl
theorem bQ0 {s:Nat} {ob:Ob} {hp0:Hp} (i:Id):(((Id.l s 0,ob) :: hp0):Hp).lookup i=if i=.l s 0 then some ob else hp0.lookup i:=by
 rw [List.lookup_cons]
 by_cases h:i=.l s 0
 ·subst h; simp
 ·have:(i == Id.l s 0)=false:=by simpa using h
  rw [this,if_neg h]
theorem kS0 {o:Oper} {io:IOp} {v:V} {s:Nat} {ob:Ob} (hc:comp P o=some io) (hd:o.dst=some s) (hdn:∀ s,o.dst=some s->s < n)
  (h:vcOp P (fX0 (Env.ev env) io.args) [] o.dst io (fun e h=>h=[(.l s 0,ob)]/\∀ s,o.dst=some s->e.lookup s=some v) fun _ _=>False) :
  oe0 P n o hp env io.args v (some ⟨[],[],true,(.l s 0,ob) :: hp⟩)/\Fits hp o.dst (some ⟨[],[],true,(.l s 0,ob) :: hp⟩):=by
 refine ⟨hK0 (T:=[]) (hpT:=[]) (hO:=[(.l s 0,ob)]) (nw:=true) (kx0 hc hdn h) hdn (fun i=>by simp) (by simp [offB,at_l,hd]) (fun i hi=>by simp at hi) (fun i ha hn=>?_),lg0 fun i _ ha=>?_⟩
 ·rw [bQ0,bQ0,hn]; rfl
 ·rw [bQ0,if_neg]
  rintro rfl
  simp [at_l,hd] at ha
theorem pv_nesem {o:Oper} {io:IOp} {K:V->Prop} (hc:comp P o=some io) (h:pv hp (Env.ev env) io K) :
  ∃ v,K v/\oe0 P n o hp env io.args v (rdE (io.tch (Env.ev env)) hp)/\Fits hp o.dst (rdE (io.tch (Env.ev env)) hp):=by
 obtain ⟨v,h1,h2⟩:=pv_pick h
 have hrd:∀ ids:List Id,(∀ i,i ∈ Eff.tch (rdE ids hp)->i ∈ ids)/\(∀ i,i ∈ ids->i ∈ Eff.tch (rdE ids hp))/\Eff.nd o.dst (rdE ids hp)=none/\(∀ i,Eff.wrote o.dst (rdE ids hp) i=false)/\Eff.after hp (rdE ids hp)=hp:=by
  intro ids
  cases ids with
  | nil=>exact ⟨fun i h=>by simp [rdE,Eff.tch] at h,fun i h=>by simp at h,rfl,fun i=>by cases i <;> rfl,rfl⟩
  | cons x xs=>exact ⟨fun i h=>by simpa [rdE,Eff.tch] using h,fun i h=>by simpa [rdE,Eff.tch] using h,rfl,fun i=>by cases i <;> simp [Eff.wrote,rdE,Eff.wrs,Eff.nd,Id.at],rfl⟩
 obtain ⟨r1,r2,r3,r4,r5⟩:=hrd (io.tch (Env.ev env))
 refine ⟨v,h1,?_,fun i _=>by rw [r5]⟩
 intro H μ a w hp' Q hd hn hr hag hW hf
 have h3:pv hp' (Env.ev env) io (·=v):=pv_agree (fun i hi=>hag i (r2 i hi)) h2
 have h4:pv hp' (Env.ev (fX0 (Env.ev env) io.args)) io (·=v):=pv_congr (fun x hx=>ot0 x hx) h3
 obtain ⟨v',x,rfl,hx,hrun⟩:=pv_ok hc (Sat.ofArgs hd hn hr hW) h4
 unfold Oper.wp
 rw [hrun]
 exact ⟨x,H,μ,hp',rfl,fun _=>hx,.refl _ _,fun i=>by rw [r4 i]; rfl,hW,Nx.refl H μ hp' w⟩
theorem sj0 {o:Oper} {args:List Operand} {v:V} (hop:OpTd P n o none (fX0 (Env.ev env) args) [] (fun e h=>h=[]/\∀ s,o.dst=some s->e.lookup s=some v) fun _ _=>False) (hdn:∀ s,o.dst=some s->s < n) :
  oe0 P n o hp env args v none:=by
 intro H μ a w hp' Q hd hn hr hag hW hf
 refine id0 (rm0 (T:=[]) (hp:=hp) hop hdn (fun i=>by simp) (by simp [offB]) H μ a w hp' Q hd hn hr (fun i hi=>by simp at hi) hW (fun i hi=>by cases i <;> simp [Id.at] at hi) (fun _ _ _ _ _ _ k=>k.elim)) ?_
 rintro a' w' ⟨x,H',μ',h1,h2,h3,h4,h5⟩
 exact ⟨x,H',μ',_,h1,h2,h3,fun i=>by rw [ce0]; cases i <;> simp [Eff.wrote,Eff.wrs,Eff.nd,Id.at],h4,h5⟩
theorem rl0 {o:Oper} {args:List Operand} {v:V} {T:List Id} {hpT hO hA:Hp} {e:Option Eff} {sd:Option Nat} (hsd:∀ i:Id,i.at sd=true->i.at o.dst=true)
  (hop:OpTd P n o sd (fX0 (Env.ev env) args) hpT (fun _ _=>False) fun u h=>u=v/\h=hO)
  (hT:∀ i,hpT.lookup i=if T.contains i then hp.lookup i else none) (hoff:offB T none hO=true) (htch:∀ i,i ∈ T->i ∈ Eff.tch e) (hw:∀ i,Eff.wrote none e i=T.contains i) (hA:∀ i,i ∈ T->hO.lookup i=(Eff.after hp e).lookup i) :
  rK0 P n o hp env args v e:=by
 intro H μ a w hp' Q hd hn hr hag hW hf hQ
 have hT':∀ i,hpT.lookup i=if T.contains i then hp'.lookup i else none:=fun i=>by
  rw [hT i]
  split
  ·rename_i hc; rw [hag i (htch i (by simpa using hc))]
  ·rfl
 have hWT:Wd H μ hpT w:=hW.sub fun i o hl=>by
  rw [hT'] at hl
  split at hl
  ·exact hl
  ·cases hl
 have hoff':offB T sd hO=true:=by
  unfold offB at hoff ⊢
  rw [List.all_eq_true] at hoff ⊢
  intro p hp
  have:=hoff p hp
  simp only [Bool.or_eq_true] at this ⊢
  rcases this with h | h
  ·exact .inl h
  ·cases hp1:p.1 <;> rw [hp1] at h <;> simp [Id.at] at h
 refine id0 (hop H μ a w Q (Sat.ofArgs hd hn hr hWT) fun u x hp2 H' μ' w' k1 k2 k3 k4 k5=>?_) (fun a' w' ⟨_,_,_,_,k,_⟩=>k.elim)
 obtain ⟨rfl,rfl⟩:=k1
 obtain ⟨g1,g2⟩:=hW.merge hT' k4 k3 k5 (fun i hi=>⟨(hf i (hsd i hi)).1,(hf i (hsd i hi)).2.1⟩) hoff'
 refine hQ x H' μ' _ w' k2 (fun i=>?_) g1 g2
 rw [ce0,hw i]
 by_cases hc:T.contains i=true
 ·simp only [hc,if_true,Option.or_none]; exact hA i (by simpa using hc)
 ·have hc':T.contains i=false:=by simpa using hc
  simp only [hc',Bool.false_eq_true,if_false]
  cases e:hp2.lookup i with
  | none=>rfl
  | some ob=>rcases kU0 hoff e with h | h
             ·exact absurd h hc
             ·cases i <;> simp [Id.at] at h
theorem OpTd.of_none {o:Oper} {K:Env->Hp->Prop} {Kp:V->Hp->Prop} (e:o.dst=none) (h:OpT P n o env hp K Kp):OpTd P n o (if false then o.dst else none) env hp K Kp:=by
 have h':OpTd P n o o.dst env hp K Kp:=h
 rw [e] at h'; exact h'
def pd0 (P:Program) (n:Sz) (o:Oper) (hp:Hp) (env:Env) (io:IOp) (K Kp:V->Option Eff->Prop):Prop :=
 (∃ v e,oe0 P n o hp env io.args v e/\Fits hp o.dst e/\(∀ f,e=some f->f.nw=true->io.mk=true)/\K v e) \/
 (∃ v e,rK0 P n o hp env io.args v e/\Fits hp none e/\(∀ f,e=some f->f.nw=false/\f.rd=[])/\io.mk=true/\Kp v e)
theorem st_ne {o:Oper} {sz:Nat} {x y:Operand} {K Kp:V->Option Eff->Prop} (hc:comp P o=some (.st sz x y)) (hdn:∀ s,o.dst=some s->s < n) (h:ne P hp env o.dst (.st sz x y) K Kp):pd0 P n o hp env (.st sz x y) K Kp:=by
 obtain ⟨hd,u,v,us,h1,h2,h3,h4,h5,h6⟩:=h
 obtain ⟨i,ob,b1,b2,b3,b4⟩:=stV_pick h6
 rw [b1] at b3
 refine .inl ⟨_,_,hK0 (T:=[i]) (hpT:=Hp.onl [i] hp) (hO:=Hp.set i ob (Hp.onl [i] hp)) (nw:=false) ?_ hdn (fun j=>bw0 _ _ _) ?_ (fun j hj=>Hp.set_onl b2 (by simp) j hj) (fun j ha=>by cases j <;> simp [Id.at] at ha),lg0 fun j hj _=>?_,(fun f e=>by injection e with e; subst e; intro h; cases h),b3⟩
 ·refine OpTd.of_none hd ?_
  have:OpT P n o (fX0 (Env.ev env) (IOp.st sz x y).args) (Hp.onl [i] hp) (fun e h=>h=Hp.set i ob (Hp.onl [i] hp)/\∀ s,o.dst=some s->e.lookup s=some .any) fun _ _=>False:=by
   refine kx0 hc hdn ⟨hd,u,v,us,by rw [gY0 (by simp [IOp.args])]; exact h1,by rw [gY0 (by simp [IOp.args])]; exact h2,h3,h4,h5,b4 _ _ (by rw [bw0]; simp) ⟨rfl,fun s e=>by rw [hd] at e; cases e⟩⟩
  exact this
 ·unfold offB
  rw [List.all_eq_true]
  intro p hp1
  simp only [Hp.set,Hp.onl,List.mem_map,List.mem_filter] at hp1
  obtain ⟨q,⟨_,hq⟩,rfl⟩:=hp1
  simp only [Bool.or_eq_true]
  exact .inl hq
 ·rw [bx0]
  have:j ≠ i:=by simpa using hj
  cases hp.lookup j <;> simp [this]
theorem app_ne {o:Oper} {ty sz bytes:Nat} {x y:Operand} {K Kp:V->Option Eff->Prop} (hc:comp P o=some (.app ty sz bytes x y)) (hdn:∀ s,o.dst=some s->s < n) (h:ne P hp env o.dst (.app ty sz bytes x y) K Kp):pd0 P n o hp env (.app ty sz bytes x y) K Kp:=by
 obtain ⟨s,v,u,hd,h1,h2,h3⟩:=h
 have e1:Env.ev (fX0 (Env.ev env) (IOp.app ty sz bytes x y).args) x=some v:=by rw [gY0 (by simp [IOp.args])]; exact h1
 have e2:Env.ev (fX0 (Env.ev env) (IOp.app ty sz bytes x y).args) y=some u:=by rw [gY0 (by simp [IOp.args])]; exact h2
 unfold appD at h3
 split at h3
 ·obtain ⟨es,⟨k1,k2⟩,k3⟩:=qb0 h3
  have hu:∀ i,i ∈ u.base->∃ ty sz own xs,hp.lookup i=some (.row ty sz own xs):=by
   intro i hi
   cases u <;> first | (simp [V.base] at hi; done) | exact h3.elim | skip
   simp only [V.base,List.mem_singleton] at hi
   obtain ⟨ty',own,xs,q1,_⟩:=h3
   subst hi; exact ⟨_,_,_,_,q1⟩
  refine .inl ⟨_,_,hK0 (T:=u.base) (hpT:=Hp.onl u.base hp) (hO:=(.l s 0,.row ty sz true es) :: Hp.kill (.l s 0) (Hp.onl u.base hp)) (nw:=true)
   (kx0 hc hdn ⟨s,.nil,u,hd,e1,e2,n80 (hp:=hp) (fun i hi=>by rw [bw0,if_pos (by simpa using hi)]) (k3 _ ⟨k1,rfl,fun s' e=>by rw [hd] at e; injection e with e; subst e; simp [Env.put]⟩)⟩) hdn (fun j=>bw0 _ _ _) ?_ (fun i hi=>?_) (fun i ha hn=>?_),lg0 fun i hi ha=>?_,fun _ _ _=>rfl,k2⟩
  ·unfold offB
   rw [List.all_eq_true]
   intro p hp1
   simp only [List.mem_cons,Hp.kill,Hp.onl,List.mem_map,List.mem_filter] at hp1
   simp only [Bool.or_eq_true]
   rcases hp1 with rfl | ⟨q,⟨_,hq⟩,rfl⟩
   ·right; simp [at_l,hd]
   ·left; exact hq
  ·rw [bQ0,bQ0]
   split
   ·rfl
   ·rename_i hne
    obtain ⟨ty',sz',own,xs,q1⟩:=hu i hi
    rw [e50,bw0,if_pos (by simpa using hi),q1]
    simp [hne,Ob.has]
  ·rw [bQ0,bQ0,e50,bw0,hn]; simp
  ·rw [bQ0,if_neg]
   rintro rfl
   simp [at_l,hd] at ha
 ·rename_i j o' m
  obtain ⟨rfl,xs,h4,h5,h6⟩:=h3
  obtain ⟨es,⟨k1,k2⟩,k3⟩:=qb0 h6
  have hu:∀ i,i ∈ u.base->∃ ty sz own xs,hp.lookup i=some (.row ty sz own xs):=by
   intro i hi
   cases u <;> first | (simp [V.base] at hi; done) | exact h6.elim | skip
   simp only [V.base,List.mem_singleton] at hi
   obtain ⟨ty',own,xs,q1,_⟩:=h6
   subst hi; exact ⟨_,_,_,_,q1⟩
  refine .inl ⟨_,_,hK0 (T:=j :: u.base) (hpT:=Hp.onl (j :: u.base) hp) (hO:=(.l s 0,.row ty sz true (xs.take m++es)) :: Hp.kill (.l s 0) (Hp.set j .gone (Hp.onl (j :: u.base) hp))) (nw:=true)
   (kx0 hc hdn ⟨s,.arr j 0 m,u,hd,e1,e2,rfl,xs,by rw [bw0,if_pos (by simp)]; exact h4,h5,n80 (hp:=hp) (fun i hi=>by rw [bw0,if_pos (by simp; exact .inr hi)]) (k3 _ ⟨k1,rfl,fun s' e=>by rw [hd] at e; injection e with e; subst e; simp [Env.put]⟩)⟩) hdn (fun j=>bw0 _ _ _) ?_ (fun i hi=>?_) (fun i ha hn=>?_),lg0 fun i hi ha=>?_,fun _ _ _=>rfl,k2⟩
  ·unfold offB
   rw [List.all_eq_true]
   intro p hp1
   simp only [List.mem_cons,Hp.kill,Hp.set,Hp.onl,List.mem_map,List.mem_filter] at hp1
   simp only [Bool.or_eq_true]
   rcases hp1 with rfl | ⟨q,⟨q',⟨_,hq⟩,rfl⟩,rfl⟩
   ·right; simp [at_l,hd]
   ·left; exact hq
  ·rw [bQ0,bQ0]
   split
   ·rfl
   ·rename_i hne
    rw [e50,bx0,bx0,bw0,if_pos (by simpa using hi)]
    cases hl:hp.lookup i with
    | none=>rfl
    | some ob =>
     by_cases hij:i=j
     ·subst hij; simp [hne,Ob.has]
     ·have:i ∈ u.base:=by simp only [List.mem_cons] at hi; exact hi.resolve_left hij
      obtain ⟨ty',sz',own,xs',q1⟩:=hu i this
      rw [hl] at q1; injection q1 with q1; subst q1
      simp [hne,hij,Ob.has]
  ·rw [bQ0,bQ0,e50,bx0,bx0,bw0,hn]; simp
  ·rw [bQ0,if_neg,bx0]
   ·have:i ≠ j:=by rintro rfl; simp at hi
    cases hp.lookup i <;> simp [this]
   ·rintro rfl
    simp [at_l,hd] at ha
 ·exact h3.elim
theorem call_ne {o:Oper} {f:Operand} {xs:List Operand} {K Kp:V->Option Eff->Prop} (hc:comp P o=some (.call f xs)) (hdn:∀ s,o.dst=some s->s < n) (h:ne P hp env o.dst (.call f xs) K Kp):pd0 P n o hp env (.call f xs) K Kp:=by
 have hc':∃ c:Call,o.op=.call c/\c.callee=.value f/\c.args.toList=xs:=by
  obtain ⟨dst,op,type,pos,after,guard⟩:=o
  cases op <;> simp only [comp] at hc
  case call c =>
   obtain ⟨callee,args,argTypes⟩:=c
   cases callee with
   | value f' =>
    simp only [Option.some.injEq,IOp.call.injEq] at hc
    obtain ⟨rfl,rfl⟩:=hc
    exact ⟨_,rfl,rfl,rfl⟩
   | invoke r m=>simp at hc
   | builtin b =>
    simp only at hc
    unfold compB at hc
    split at hc
    all_goals
     (repeat' split at hc)
     all_goals first | (cases hc; done) | (simp at hc; done)
  case makeFunc fn first cs =>
   cases fn <;> simp only at hc <;> try (cases hc; done)
   split at hc
   ·simp at hc
   ·cases hc
  case slice t x lo hi mx =>
   cases mx with
   | some m =>
    cases lo with
    | none=>simp only at hc; cases hc
    | some lo =>
     cases hi with
     | none=>simp only at hc; cases hc
     | some hi =>
      simp only at hc
      (repeat' split at hc)
      all_goals first | (cases hc; done) | (simp at hc; done)
   | none =>
    simp only at hc
    (repeat' split at hc)
    all_goals first | (cases hc; done) | (simp at hc; done)
  case makeMap t r =>
   cases r with
   | some r=>simp only at hc; cases hc
   | none =>
    simp only at hc
    split at hc
    ·obtain ⟨kd,_,e⟩:=Option.map_eq_some_iff.1 hc; cases e
    ·cases hc
  case insert t m k x =>
   split at hc
   ·obtain ⟨kd,_,e⟩:=Option.map_eq_some_iff.1 hc; cases e
   ·cases hc
  case mapUpdate t m k x =>
   split at hc
   ·obtain ⟨kd,_,e⟩:=Option.map_eq_some_iff.1 hc; cases e
   ·cases hc
  case typeAssert x xt t ok =>
   cases ok with
   | false=>simp only at hc; cases hc
   | true =>
    simp only at hc
    (repeat' split at hc)
    all_goals first | (cases hc; done) | (simp at hc; done)
  all_goals
   (repeat' split at hc)
   all_goals first | (cases hc; done) | (simp at hc; done)
 obtain ⟨c,ho,hcal,rfl⟩:=hc'
 rcases h with h | h
 ·obtain ⟨g,caps,vs,h1,h2,h3⟩:=h
  obtain ⟨us,⟨k1,r,k2,k3⟩,k4⟩:=dR0 h3
  have e1:Env.ev (fX0 (Env.ev env) (IOp.call f c.args.toList).args) f=some (.fn g caps):=by rw [gY0 (by simp [IOp.args])]; exact h1
  have e2:c.args.toList.mapM (Env.ev (fX0 (Env.ev env) (IOp.call f c.args.toList).args))=some vs:=by rw [my0 (fun x hx=>by simp only [IOp.args,List.mem_cons]; exact .inr hx)]; exact h2
  cases r with
  | ret v obs =>
   refine .inl ⟨v,none,sj0 (qu0 ho hcal hdn e1 e2 (k4 _ ⟨k1,k2.mono fun r e=>?_⟩)) hdn,fun i hi=>rfl,(fun f e=>by cases e),k3.2⟩
   subst e
   exact ⟨k3.1,rfl,fun s' e=>by rw [e]; simp [Env.put]⟩
  | pan v obs =>
   refine .inr ⟨v,none,rl0 (T:=[]) (hpT:=[]) (hO:=[]) (hA:=[]) (sd:=none) (fun i hi=>by cases i <;> simp [Id.at] at hi) (qu0 ho hcal hdn e1 e2 (k4 _ ⟨k1,k2.mono fun r e=>?_⟩)) (fun i=>by simp) (by simp [offB]) (fun i hi=>by simp at hi) (fun i=>by cases i <;> simp [Eff.wrote,Eff.wrs,Eff.nd,Id.at]) (fun i hi=>by simp at hi),fun i hi=>rfl,(fun f e=>by cases e),rfl,k3.2⟩
   subst e
   exact ⟨k3.1,rfl,rfl⟩
 ·obtain ⟨T,g,caps,vs,ids,h1,h2,hnd,h3⟩:=h
  obtain ⟨us,⟨args,h4,h5⟩,k4⟩:=gw0 h3
  obtain ⟨obs,⟨r,k2,k3⟩,k5⟩:=jm0 h5
  have e1:Env.ev (fX0 (Env.ev env) (IOp.call f c.args.toList).args) f=some (.fn g caps):=by rw [gY0 (by simp [IOp.args])]; exact h1
  have e2:c.args.toList.mapM (Env.ev (fX0 (Env.ev env) (IOp.call f c.args.toList).args))=some vs:=by rw [my0 (fun x hx=>by simp only [IOp.args,List.mem_cons]; exact .inr hx)]; exact h2
  cases r with
  | ret v obs' =>
   obtain ⟨base,hb,q1,v',os',q2,q3,hoff,hk⟩:=k3
   refine .inl ⟨v',_,hK0 (T:=T) (hpT:=Hp.onl T hp) (nw:=true) (on0 ho hcal hdn ⟨g,caps,vs,ids,false,e1,e2,hnd,k4 _ ⟨args,h4,k5 _ (k2.mono fun r e=>?_)⟩⟩) hdn (fun j=>bw0 _ _ _) hoff (fun i hi=>?_) (fun i ha hn=>?_),lg0 fun i hi ha=>?_,fun _ _ _=>rfl,hk⟩
   ·subst e
    exact ⟨base,hb,q1,v',os',q2,q3,rfl,fun s' e=>by rw [e]; simp [Env.put]⟩
   ·rw [ce0 T,if_pos (by simpa using hi),Option.or_none]
   ·rw [ce0 T,hn]; split <;> simp
   ·rw [ce0 T,if_neg (by simpa using hi)]
    cases e:List.lookup i _ with
    | none=>rfl
    | some ob=>rcases kU0 hoff e with h | h
               ·exact absurd (by simpa using h) hi
               ·simp only [if_true] at ha; rw [h] at ha; cases ha
  | pan v obs' =>
   obtain ⟨q1,v',os',q2,q3,hoff,hk⟩:=k3
   refine .inr ⟨v',_,rl0 (T:=T) (hpT:=Hp.onl T hp) (hA:=[]) (sd:=o.dst) (fun i hi=>hi) (on0 ho hcal hdn ⟨g,caps,vs,ids,false,e1,e2,hnd,k4 _ ⟨args,h4,k5 _ (k2.mono fun r e=>?_)⟩⟩) (fun j=>bw0 _ _ _) hoff (fun i hi=>by simpa [Eff.tch] using hi) (fun i=>by cases i <;> simp [Eff.wrote,Eff.wrs,Eff.nd,Id.at]) (fun i hi=>?_),fun i hi=>?_,(fun f e=>by injection e with e; subst e; exact ⟨rfl,rfl⟩),rfl,hk⟩
   ·subst e
    exact ⟨q1,v',os',q2,q3,rfl,rfl⟩
   ·simp only [Eff.after]
    rw [ce0 T,if_pos (by simpa using hi),Option.or_none]
   ·simp only [Eff.wrote,Eff.wrs,Eff.nd,Bool.or_eq_false_iff] at hi
    simp only [Eff.after]
    have hi1:i ∉ T:=by simpa using hi.1
    rw [ce0 T,if_neg (by simpa using hi1)]
    cases e:List.lookup i _ with
    | none=>rfl
    | some ob=>rcases kU0 hoff e with h | h
               ·exact absurd (by simpa using h) hi1
               ·cases i <;> simp [Id.at] at h
theorem ne_ok {o:Oper} {io:IOp} {K Kp:V->Option Eff->Prop} (hc:comp P o=some io) (hdn:∀ s,o.dst=some s->s < n) (h:ne P hp env o.dst io K Kp):pd0 P n o hp env io K Kp:=by
 have plain:(ne P hp env o.dst io K Kp=pv hp (Env.ev env) io fun v=>K v (rdE (io.tch (Env.ev env)) hp))->pd0 P n o hp env io K Kp:=by
  intro e
  rw [e] at h
  obtain ⟨v,h1,h2,h3⟩:=pv_nesem (n:=n) hc h
  refine .inl ⟨v,_,h2,h3,fun f e=>?_,h1⟩
  generalize io.tch (Env.ev env)=l at e
  cases l with
  | nil=>cases e
  | cons i is=>simp only [rdE,Option.some.injEq] at e; subst e; intro h; cases h
 cases io
 case alloc z =>
  obtain ⟨s,e,hk⟩:=h
  obtain ⟨k1,k2⟩:=kS0 (hp:=hp) (env:=env) (ob:=.box z) (v:=.bp (.l s 0) 0) hc e hdn ⟨s,e,rfl,by rw [e]; exact fun s' e'=>by injection e' with e'; subst e'; simp [Env.put]⟩
  exact .inl ⟨_,_,k1,k2,fun _ _ _=>rfl,hk⟩
 case box sz x =>
  obtain ⟨s,v,us,e,h1,h2,hk⟩:=h
  obtain ⟨k1,k2⟩:=kS0 (hp:=hp) (env:=env) (ob:=.box (us.map (V.kill (.l s 0)))) (v:=.bp (.l s 0) 0) hc e hdn ⟨s,v,us,e,by rw [gY0 (by simp [IOp.args])]; exact h1,h2,rfl,by rw [e]; exact fun s' e'=>by injection e' with e'; subst e'; simp [Env.put]⟩
  exact .inl ⟨_,_,k1,k2,fun _ _ _=>rfl,hk⟩
 case mks ty sz bytes z l c =>
  obtain ⟨s,kl,kc,li,ci,e,h1,h2,h3,h4,h5,h6,hk⟩:=h
  obtain ⟨k1,k2⟩:=kS0 (hp:=hp) (env:=env) (ob:=.row ty sz true (List.replicate li.toNat z)) (v:=.arr (.l s 0) 0 li.toNat) hc e hdn
   ⟨s,kl,kc,li,ci,e,by rw [gY0 (by simp [IOp.args])]; exact h1,by rw [gY0 (by simp [IOp.args])]; exact h2,h3,h4,h5,h6,rfl,by rw [e]; exact fun s' e'=>by injection e' with e'; subst e'; simp [Env.put]⟩
  exact .inl ⟨_,_,k1,k2,fun _ _ _=>rfl,hk⟩
 case mkrow ty sz xs =>
  obtain ⟨s,vs,e,h1,h2⟩:=h
  obtain ⟨us,⟨els,q1,q2,q3⟩,k4⟩:=gw0 h2
  obtain ⟨k1,k2⟩:=kS0 (hp:=hp) (env:=env) (ob:=.row ty sz true els) (v:=.arr (.l s 0) 0 els.length) hc e hdn
   ⟨s,e,vs,by rw [my0 (fun x hx=>by simpa [IOp.args] using hx)]; exact h1,k4 _ ⟨els,q1,q2,rfl,by rw [e]; exact fun s' e'=>by injection e' with e'; subst e'; simp [Env.put]⟩⟩
  exact .inl ⟨_,_,k1,k2,fun _ _ _=>rfl,q3⟩
 case st sz x y=>exact st_ne hc hdn h
 case app ty sz bytes x y=>exact app_ne hc hdn h
 case call f xs=>exact call_ne hc hdn h
 case isnl ng x =>
  obtain ⟨v,h1,h2⟩:=h
  obtain ⟨b,h3,h4⟩:=sb0 h2
  have:=kx0 (n:=n) (env:=fX0 (Env.ev env) (IOp.isnl ng x).args) (hp:=[]) (K:=fun e h=>h=[]/\∀ s,o.dst=some s->e.lookup s=some (.c (.bool (if ng then !b else b)))) (Kp:=fun _ _=>False) hc hdn
   ⟨v,by rw [gY0 (by simp [IOp.args])]; exact h1,by
    have fin:∀ b',b'=b->(fun (e:Env) (h:Hp)=>h=[]/\∀ s,o.dst=some s->e.lookup s=some (V.c (.bool (if ng then !b else b)))) ((fX0 (Env.ev env) (IOp.isnl ng x).args).put o.dst (.c (.bool (if ng then !b' else b')))) []:=by
     rintro _ rfl
     exact ⟨rfl,fun s' e=>by rw [e]; simp [Env.put]⟩
    have h5:=h4
    cases v with
    | nil=>exact fin _ h5
    | lst xs=>exact ⟨fin _ h5.1,fun hh=>fin _ (h5.2 hh)⟩
    | arr i o m=>exact ⟨fin _ h5.1,fun hh=>fin _ (h5.2 hh)⟩
    | _=>exact h5.elim⟩
  exact .inl ⟨.c (.bool (if ng then !b else b)),_,hK0 (T:=[]) (hpT:=[]) (hO:=[]) (nw:=true) this hdn (fun i=>by simp) (by simp [offB]) (fun i hi=>by simp at hi) (fun i _ hn=>by rw [hn]; rfl),lg0 fun _ _ _=>rfl,fun _ _ _=>rfl,h3⟩
 case capn x=>exact h.elim
 case pan x=>exact h.elim
 case cpy sz d s=>exact h.elim
 case mkmap=>exact h.elim
 case mput=>exact h.elim
 case mget=>exact h.elim
 case sl3=>exact h.elim
 case appz=>exact h.elim
 case clr=>exact h.elim
 case allocS=>exact h.elim
 case cvSB=>exact h.elim
 case appS=>exact h.elim
 case cvBS=>exact h.elim
 case iaA=>exact h.elim
 case slA=>exact h.elim
 case boxS=>exact h.elim
 all_goals exact plain rfl
end Go.Am
end

section
namespace Go.Am
variable {P:Program} {n:Sz} {H:Imm} {μ:Mu} {env:Env} {hp:Hp} {a:Act} {w:World}
def I.reads (i:I):List Nat:=(i.op.args.filterMap fun x=>match x with | .tmp t=>some t | _=>none)++(match i.g with | some (s,_)=>[s] | none=>[])
def o30 (ops:Array Oper) (is:List (I × List Nat)):Bool :=
 is.zipIdx.all fun p=>is.zipIdx.all fun q=>match q.1.1.d with
  | some s=>(!(p.1.1.reads.contains s) || p.2 == q.2 || (decide (q.2 < p.2) && ahead ops q.2 p.2) || (decide (p.2 < q.2) && ahead ops p.2 q.2)) && (p.2 == q.2 || p.1.1.d != some s)
  | none=>true
def depB (ops:Array Oper) (is:List (I × List Nat)):Bool:=is.zipIdx.all fun p=>p.1.2.all fun j=>decide (j < p.2) && ahead ops j p.2
def tailB (ops:Array Oper) (k:Nat):Bool:=(List.range ops.size).all fun i=>decide (i < k) || (List.range i).all fun j=>ahead ops j i
def lK0 (ops:Array Oper) (is:List (I × List Nat)):Bool:=ms0 ops && decide (is.length<=ops.size) && o30 ops is && depB ops is && tailB ops is.length
theorem lC0 {α:Type} {l:List α} {f:α × Nat->Bool} (h:l.zipIdx.all f=true) {i:Nat} {x:α} (hx:l[i]?=some x):f (x,i)=true:=by
 rw [List.all_eq_true] at h
 exact h _ (by rw [List.mem_zipIdx_iff_getElem?]; simpa using hx)
theorem jw0 {ops:Array Oper} {is:List (I × List Nat)} (h:o30 ops is=true) {i q:Nat} {x y:I × List Nat} {s:Nat} (hx:is[i]?=some x) (hy:is[q]?=some y) (hd:y.1.d=some s) :
  (s ∈ x.1.reads->i=q\/(q < i/\ahead ops q i=true)\/(i < q/\ahead ops i q=true))/\(i=q\/x.1.d ≠ some s):=by
 have h1:=lC0 (lC0 h hx) hy
 simp only [hd,Bool.and_eq_true,Bool.or_eq_true,beq_iff_eq,bne_iff_ne,decide_eq_true_eq,Bool.not_eq_true'] at h1
 obtain ⟨h1,h2⟩:=h1
 refine ⟨fun hm=>?_,h2⟩
 rcases h1 with ((h1 | h1) | h1) | h1
 ·have:x.1.reads.contains s=true:=by simpa using hm
  rw [this] at h1; cases h1
 ·exact .inl h1
 ·exact .inr (.inl h1)
 ·exact .inr (.inr h1)
theorem hu0 {ops:Array Oper} {is:List (I × List Nat)} (h:depB ops is=true) {i:Nat} {x:I × List Nat} (hx:is[i]?=some x) {j:Nat} (hj:j ∈ x.2):j < i/\ahead ops j i=true:=by
 have h1:=lC0 h hx
 rw [List.all_eq_true] at h1
 simpa using h1 j hj
theorem jx0 {ops:Array Oper} {k:Nat} (h:tailB ops k=true) {i j:Nat} (hk:k<=i) (hi:i < ops.size) (hj:j < i):ahead ops j i=true:=by
 unfold tailB at h
 rw [List.all_eq_true] at h
 have h1:=h i (by simpa using hi)
 simp only [Bool.or_eq_true,decide_eq_true_eq,List.all_eq_true,List.mem_range] at h1
 rcases h1 with h1 | h1
 ·omega
 ·exact h1 j hj
def unl (ops:Array Oper) (listed:Array Bool):Nat:=((List.range ops.size).filter fun i=>!listed.getD i true).length
theorem kF0 {α:Type} {p q:α->Bool}:∀ {l:List α} {x:α},(∀ y,p y=true->q y=true)->x ∈ l->q x=true->p x=false->(l.filter p).length < (l.filter q).length
 | [],x,_,h,_,_=>by simp at h
 | y :: l,x,hpq,h,hq,hp=>by
  have hle:∀ (l:List α),(l.filter p).length<=(l.filter q).length:=by
   intro l
   induction l with
   | nil=>simp
   | cons z l ih =>
    rw [List.filter_cons,List.filter_cons]
    by_cases hz:p z=true
    ·rw [if_pos hz,if_pos (hpq z hz)]; simpa using ih
    ·rw [if_neg hz]
     split
     ·simp; omega
     ·exact ih
  rw [List.filter_cons,List.filter_cons]
  rcases List.mem_cons.1 h with rfl | h
  ·rw [if_neg (by rw [hp]; simp),if_pos hq]
   have:=hle l
   simp; omega
  ·have ih:=kF0 hpq h hq hp
   by_cases hz:p y=true
   ·rw [if_pos hz,if_pos (hpq y hz)]; simpa using ih
   ·rw [if_neg hz]
    split
    ·simp; omega
    ·exact ih
theorem jl0 {listed:Array Bool} {i j:Nat} (d:Bool) (h:j ≠ i):(listed.setIfInBounds i true).getD j d=listed.getD j d:=by
 rw [Array.getD_eq_getD_getElem?,Array.getElem?_setIfInBounds_ne (Ne.symm h),<- Array.getD_eq_getD_getElem?]
theorem ei0 {listed:Array Bool} {i:Nat} (h:i < listed.size) (d:Bool):(listed.setIfInBounds i true).getD i d=true:=by
 simp [Array.getD_eq_getD_getElem?,h]
theorem o70 {ops:Array Oper} {listed:Array Bool} (hsz:listed.size=ops.size) {i:Nat} (hi:i < ops.size) (hl:listed.getD i true=false):unl ops (listed.setIfInBounds i true) < unl ops listed:=by
 refine kF0 (x:=i) (fun y hy=>?_) (by simpa using hi) (by simp [hl]) (by rw [ei0 (by omega)]; rfl)
 by_cases hyi:y=i
 ·subst hyi; rw [ei0 (by omega)] at hy; simp at hy
 ·rw [jl0 true hyi] at hy; exact hy
theorem o80 {ops:Array Oper} {listed:Array Bool} (h:unl ops listed=0) {i:Nat} (hi:i < ops.size):listed.getD i true=true:=by
 have h1:((List.range ops.size).filter fun i=>!listed.getD i true)=[]:=List.eq_nil_of_length_eq_zero h
 rw [List.filter_eq_nil_iff] at h1
 have:=h1 i (by simpa using hi)
 simpa using this
theorem jr0 {ops:Array Oper} {listed:Array Bool} {i:Nat} (h:i ∈ Region.ready .any ops listed):i < ops.size/\listed.getD i true=false:=by
 obtain ⟨h1,o,h2,_⟩:=mem_ready.1 h
 exact ⟨(Array.getElem?_eq_some_iff.1 h2).1,h1⟩
def Upto (ops:Array Oper) (m:Nat) (listed:Array Bool):Prop:=listed.size=ops.size/\∀ j,j < ops.size->listed.getD j true=decide (j < m)
theorem Upto.ready {ops:Array Oper} {m:Nat} {listed:Array Bool} (hb:ms0 ops=true) (h:Upto ops m listed) (htail:∀ i j,m<=i->i < ops.size->j < i->ahead ops j i=true) (hcl:if0 ops listed) (hm:m < ops.size):m ∈ Region.ready .any ops listed:=by
 obtain ⟨h0,h1⟩:=h
 refine mem_ready.2 ⟨by rw [h1 m hm]; simp,ops[m],Array.getElem?_eq_getElem hm,fun e he hbe=>?_⟩
 have hlt:=hg0 hb (Array.getElem?_eq_getElem hm) e (by simpa using he) hbe
 have:=h1 e.on (by omega)
 have h2:e.on < listed.size:=by omega
 simp [Array.getD,h2] at this ⊢
 rw [this]; exact decide_eq_true hlt
theorem Upto.only {ops:Array Oper} {m:Nat} {listed:Array Bool} (hb:ms0 ops=true) (h:Upto ops m listed) (htail:∀ i j,m<=i->i < ops.size->j < i->ahead ops j i=true) (hcl:if0 ops listed) {i:Nat} (hi:i ∈ Region.ready .any ops listed):i=m:=by
 obtain ⟨h0,h1⟩:=h
 obtain ⟨k1,o,k2,k3⟩:=mem_ready.1 hi
 have hlt:i < ops.size:=(Array.getElem?_eq_some_iff.1 k2).1
 have hmi:m<=i:=by rw [h1 i hlt] at k1; simpa using k1
 by_cases e:i=m
 ·exact e
 ·have:=ba0 hb h0 hcl i m o k2 k3 (htail i m hmi hlt (by omega))
  rw [h1 m (by omega)] at this
  simp at this
theorem Upto.step {ops:Array Oper} {m:Nat} {listed:Array Bool} (h:Upto ops m listed) (hm:m < ops.size):Upto ops (m + 1) (listed.setIfInBounds m true):=by
 obtain ⟨h0,h1⟩:=h
 refine ⟨by simpa using h0,fun j hj=>?_⟩
 by_cases e:j=m
 ·subst e; rw [ei0 (by omega)]; simp
 ·rw [jl0 true e,h1 j hj]
  by_cases h2:j < m
  ·simp [h2]; omega
  ·simp [h2]; omega
theorem oc0 {ops:Array Oper} {Kp:V->Hp->Prop} {K:Env->Hp->Prop} (hb:ms0 ops=true):∀ (fuel m:Nat) (listed:Array Bool) (is:List I) (env:Env) (hp:Hp),
  Upto ops m listed->if0 ops listed->(∀ i j,m<=i->i < ops.size->j < i->ahead ops j i=true)->m + is.length=ops.size->unl ops listed<=fuel ->
  (∀ (k:Nat) (i:I),is[k]?=some i->∃ o,ops[m + k]?=some o/\fC0 P n ops o=some i)->vcIs P env hp is K Kp ->
  ∀ H μ a w (Q:Exit->Act->World->Prop),Sat n H μ env hp a w ->
   (∀ v x hp' H' μ' a' w',Kp v hp'->R H' μ' v x->Nx H μ hp w H' μ' hp' w'->Wd H' μ' hp' w'->a'.defers=n.ds->a'.tmps.size=n.n->Kept ops a a'->Q (.panic [{ v:=x,recovered:=false }]) a' w') ->
   (∀ env' hp' H' μ' a' w',K env' hp'->Sat n H' μ' env' hp' a' w'->Nx H μ hp w H' μ' hp' w'->Q .normal a' w') ->
   wpAny P .any ops Q fuel listed a w:=by
 have stop:∀ {m:Nat} {listed:Array Bool} {is:List I},Upto ops m listed->m + is.length=ops.size->((∃ i,i ∈ Region.ready .any ops listed)->m < ops.size):=by
  intro m listed is hU hl ⟨i,hi⟩
  obtain ⟨h1,h2⟩:=jr0 hi
  rw [hU.2 i h1] at h2
  simp at h2; omega
 intro fuel
 induction fuel with
 | zero =>
  intro m listed is env hp hU hcl htail hl hf hget h H μ a w Q hS hQp hQ
  have hm:¬ m < ops.size:=fun hm=>by
   have:=o80 (Nat.le_zero.1 hf) hm
   rw [hU.2 m hm] at this; simp at this
  have:is=[]:=List.eq_nil_of_length_eq_zero (by omega)
  subst this
  refine ⟨?_,hQ env hp H μ a w h hS (Nx.refl H μ hp w)⟩
  cases hr:Region.ready .any ops listed with
  | nil=>rfl
  | cons i l=>exact absurd (stop hU hl ⟨i,by rw [hr]; simp⟩) hm
 | succ fuel ih =>
  intro m listed is env hp hU hcl htail hl hf hget h H μ a w Q hS hQp hQ
  cases is with
  | nil =>
   have hm:¬ m < ops.size:=by simp at hl; omega
   refine ⟨fun _=>hQ env hp H μ a w h hS (Nx.refl H μ hp w),fun i hi=>absurd (stop hU hl ⟨i,hi⟩) hm⟩
  | cons i is =>
   have hm:m < ops.size:=by simp at hl; omega
   have hrm:=hU.ready hb htail hcl hm
   refine ⟨fun e=>by rw [e] at hrm; simp at hrm,fun j hj=>?_⟩
   have:=hU.only hb htail hcl hj
   subst this
   simp only [vcIs] at h
   obtain ⟨o,ho,hc⟩:=hget 0 i rfl
   rw [Nat.add_zero] at ho
   refine wpOp_mono (fun a' w' ⟨env',hp',H',μ',h1,h2,h3,hk⟩=>?_) (rE0 ho hc h H μ a w Q hS fun v x hp' H' μ' w' k1 k2 k3 k4=>hQp v x hp' H' μ' a w' k1 k2 k3 k4 hS.defers hS.size .refl)
   obtain ⟨hj1,hj2⟩:=jr0 hj
   have hu:=o70 hU.1 hj1 hj2
   refine ih (j + 1) _ is env' hp' (hU.step hj1) (hS0 hU.1 hcl hj) (fun i q hi=>htail i q (by omega)) (by simp at hl; omega) (by omega) (fun k i' hk=>by
    have:=hget (k + 1) i' (by simpa using hk)
    rwa [show j + (k + 1)=j + 1 + k by omega] at this) h1 H' μ' a' w' Q h2
    (fun v x hp'' H'' μ'' a'' w'' k1 k2 k3 k4 k5 k6 k7=>hQp v x hp'' H'' μ'' a'' w'' k1 k2 (h3.trans k3) k4 k5 k6 (hk.trans k7))
    (fun env'' hp'' H'' μ'' a'' w'' k1 k2 k3=>hQ env'' hp'' H'' μ'' a'' w'' k1 k2 (h3.trans k3))
end Go.Am
end

section
namespace Go.Am
variable {P:Program} {n:Sz} {H:Imm} {μ:Mu} {env:Env} {hp:Hp} {a:Act} {w:World}
structure Lg where
 k:Nat
 tch:List Id
 wr:List Id
 nd:Option Nat
def ok1 (deps:List Nat) (l:Lg) (tch wr:List Id) (nd:Option Nat):Bool :=
 !l.tch.any (fun i=>i.at nd) && (deps.contains l.k || !(l.tch.any (fun i=>wr.contains i) || tch.any (fun i=>l.wr.contains i || i.at l.nd)))
def okE (deps:List Nat) (log:List Lg) (e:Option Eff) (nd:Option Nat):Bool:=match e with
 | none=>true
 | some f=>log.all fun l=>ok1 deps l (f.rd++f.wr) f.wr nd
def logE (j:Nat) (e:Option Eff) (nd:Option Nat) (log:List Lg):List Lg:=match e with
 | none=>log
 | some f=>⟨j,f.rd++f.wr,f.wr,nd⟩ :: log
def neG (P:Program) (hp:Hp) (env:Env) (i:I) (K Kp:V->Option Eff->Prop):Prop :=
 match i.g with
 | none=>ne P hp env i.d i.op K Kp
 | some (s,want)=>∃ v,env.lookup s=some v/\grdV v want (ne P hp env i.d i.op K Kp) (K V.und none)
def Hp.outS (ss:List Nat) (hp:Hp):Hp:=hp.filter fun p=>!p.1.inS ss
def vcDp (P:Program) (j0:Nat):Nat->List (I × List Nat)->Env->Hp->List Lg->Prop
 | _,[],_,_,_=>True
 | j,(i,deps) :: is,env,hp,log=>if deps.contains j0 then vcDp P j0 (j + 1) is env hp log else
   neG P hp env i (fun v e=>okE deps log e (Eff.nd i.d e)=true/\Eff.wrs e=[]/\vcDp P j0 (j + 1) is (env.put i.d v) (Eff.after hp e) (logE j e (Eff.nd i.d e) log)) fun _ _=>False
def vcD (P:Program) (ss:List Nat) (K:Env->Hp->Prop) (Kp:V->Hp->Prop):Nat->List (I × List Nat)->Env->Hp->List Lg->Prop
 | _,[],env,hp,_=>K env hp
 | j,(i,deps) :: is,env,hp,log =>
   neG P hp env i (fun v e=>okE deps log e (Eff.nd i.d e)=true/\vcD P ss K Kp (j + 1) is (env.put i.d v) (Eff.after hp e) (logE j e (Eff.nd i.d e) log))
      fun v e=>okE deps log (some ⟨[],Eff.wrs e,false,hp⟩) i.d=true/\(log.all fun l=>l.wr.isEmpty || deps.contains l.k)=true/\Kp v (Hp.outS ss (Eff.after hp e)) /\
       vcDp P j (j + 1) is env (Eff.after hp e) (logE j (some ⟨[],Eff.wrs e,false,hp⟩) i.d log)
inductive Ent where
 | val (v:V) (e:Option Eff)
 | pan (v:V) (e:Option Eff)
 | skip
 deriving Inhabited
def rI0 (P:Program) (n:Sz) (ops:Array Oper) (j:Nat) (i:I) (env:Env) (hp:Hp):Ent->Prop
 | .skip=>True
 | .val v e=>∃ o,ops[j]?=some o/\Fits hp i.d e/\(∀ f,e=some f->f.nw=true->i.op.mk=true)/\((i.g=none/\oe0 P n o hp env i.op.args v e) \/
   (∃ s b want,i.g=some (s,want)/\env.lookup s=some (.c (.bool b))/\((b=want/\oe0 P n o hp env i.op.args v e)\/(b ≠ want/\v=V.und/\e=none))) \/
   ∃ s x want,i.g=some (s,want)/\env.lookup s=some (.c (.tuple x))/\v=V.und/\e=none)
 | .pan v e=>∃ o,ops[j]?=some o/\Fits hp none e/\(∀ f,e=some f->f.nw=false/\f.rd=[])/\i.op.mk=true/\((i.g=none/\rK0 P n o hp env i.op.args v e) \/
   ∃ s want,i.g=some (s,want)/\env.lookup s=some (.c (.bool want))/\rK0 P n o hp env i.op.args v e)
def qJ0 (i:I) (env:Env):Ent->Env
 | .val v _=>env.put i.d v
 | _=>env
def nextHp (hp:Hp):Ent->Hp
 | .val _ e=>Eff.after hp e
 | .pan _ e=>Eff.after hp e
 | .skip=>hp
def ndE (d:Option Nat):Ent->Option Nat
 | .val _ e=>Eff.nd d e
 | .pan _ _=>d
 | .skip=>none
def wrsE:Ent->List Id
 | .val _ e=>Eff.wrs e
 | .pan _ e=>Eff.wrs e
 | .skip=>[]
def tchE:Ent->List Id
 | .val _ e=>Eff.tch e
 | .pan _ e=>Eff.wrs e
 | .skip=>[]
def wrE (d:Option Nat) (e:Ent) (i:Id):Bool:=match e with
 | .val _ f=>Eff.wrote d f i
 | .pan _ f=>Eff.wrote none f i
 | .skip=>false
def effE:Ent->Bool
 | .val _ (some _)=>true
 | .pan _ _=>true
 | _=>false
theorem rk0 {ops:Array Oper} {j:Nat} {o:Oper} {i:I} {K Kp:V->Option Eff->Prop} (ho:ops[j]?=some o) (hc:fC0 P n ops o=some i) (h:neG P hp env i K Kp) :
  (∃ v e,rI0 P n ops j i env hp (.val v e)/\K v e)\/(∃ v e,rI0 P n ops j i env hp (.pan v e)/\Kp v e):=by
 obtain ⟨h1,h2,h3,h4⟩:=de0 hc
 have go:ne P hp env i.d i.op K Kp->(∃ v e,(Fits hp i.d e/\(∀ f,e=some f->f.nw=true->i.op.mk=true)/\oe0 P n o hp env i.op.args v e)/\K v e)\/(∃ v e,(Fits hp none e/\(∀ f,e=some f->f.nw=false/\f.rd=[])/\i.op.mk=true/\rK0 P n o hp env i.op.args v e)/\Kp v e):=by
  intro hne
  rw [<- h2] at hne
  rcases ne_ok h1 h3 hne with ⟨v,e,k1,k2,k3,k4⟩ | ⟨v,e,k1,k2,k3,k4,k5⟩
  ·rw [h2] at k2; exact .inl ⟨v,e,⟨k2,k3,k1⟩,k4⟩
  ·exact .inr ⟨v,e,⟨k2,k3,k4,k1⟩,k5⟩
 unfold neG at h
 split at h
 ·rename_i g
  rcases go h with ⟨v,e,⟨q1,q2,q3⟩,k⟩ | ⟨v,e,⟨q1,q2,q3,q4⟩,k⟩
  ·exact .inl ⟨v,e,⟨o,ho,q1,q2,.inl ⟨g,q3⟩⟩,k⟩
  ·exact .inr ⟨v,e,⟨o,ho,q1,q2,q3,.inl ⟨g,q4⟩⟩,k⟩
 ·rename_i s want g
  obtain ⟨gv,hb,hgr⟩:=h
  rcases nO0 hgr with ⟨b,rfl,k1,k2⟩ | ⟨gx,rfl,k2⟩
  rotate_left
  ·exact .inl ⟨V.und,none,⟨o,ho,fun i _=>rfl,(fun f e=>by cases e),.inr (.inr ⟨s,gx,want,g,hb,rfl,rfl⟩)⟩,k2⟩
  by_cases hbw:b=want
  ·rcases go (k1 hbw) with ⟨v,e,⟨q1,q2,q3⟩,k⟩ | ⟨v,e,⟨q1,q2,q3,q4⟩,k⟩
   ·exact .inl ⟨v,e,⟨o,ho,q1,q2,.inr (.inl ⟨s,b,want,g,hb,.inl ⟨hbw,q3⟩⟩)⟩,k⟩
   ·subst hbw; exact .inr ⟨v,e,⟨o,ho,q1,q2,q3,.inr ⟨s,b,g,hb,q4⟩⟩,k⟩
  ·exact .inl ⟨V.und,none,⟨o,ho,fun i _=>rfl,(fun f e=>by cases e),.inr (.inl ⟨s,b,want,g,hb,.inr ⟨hbw,rfl,rfl⟩⟩)⟩,k2 hbw⟩
inductive Tab (P:Program) (n:Sz) (ops:Array Oper) (ss:List Nat) (Kp:V->Hp->Prop):Option Nat->Nat->List (I × List Nat)->Env->Hp->List Lg->List Ent->Prop where
 | nil (p:Option Nat) (j:Nat) (env:Env) (hp:Hp) (log:List Lg):Tab P n ops ss Kp p j [] env hp log []
 | val (p:Option Nat) (j:Nat) (i:I) (deps:List Nat) (is:List (I × List Nat)) (env:Env) (hp:Hp) (log:List Lg) (v:V) (e:Option Eff) (es:List Ent) (h:rI0 P n ops j i env hp (.val v e))
   (hk:okE deps log e (Eff.nd i.d e)=true) (hp':∀ q,p=some q->Eff.wrs e=[]/\deps.contains q=false)
   (hr:Tab P n ops ss Kp p (j + 1) is (env.put i.d v) (Eff.after hp e) (logE j e (Eff.nd i.d e) log) es):Tab P n ops ss Kp p j ((i,deps) :: is) env hp log (.val v e :: es)
 | pan (j:Nat) (i:I) (deps:List Nat) (is:List (I × List Nat)) (env:Env) (hp:Hp) (log:List Lg) (v:V) (e:Option Eff) (es:List Ent) (h:rI0 P n ops j i env hp (.pan v e))
   (hk:okE deps log (some ⟨[],Eff.wrs e,false,hp⟩) i.d=true) (hl:(log.all fun l=>l.wr.isEmpty || deps.contains l.k)=true) (hK:Kp v (Hp.outS ss (Eff.after hp e)))
   (hr:Tab P n ops ss Kp (some j) (j + 1) is env (Eff.after hp e) (logE j (some ⟨[],Eff.wrs e,false,hp⟩) i.d log) es):Tab P n ops ss Kp none j ((i,deps) :: is) env hp log (.pan v e :: es)
 | skip (q j:Nat) (i:I) (deps:List Nat) (is:List (I × List Nat)) (env:Env) (hp:Hp) (log:List Lg) (es:List Ent) (hd:deps.contains q=true)
   (hr:Tab P n ops ss Kp (some q) (j + 1) is env hp log es):Tab P n ops ss Kp (some q) j ((i,deps) :: is) env hp log (.skip :: es)
def envs:List (I × List Nat)->List Ent->Env->Nat->Env
 | _,_,env,0=>env
 | (i,_) :: is,e :: es,env,j + 1=>envs is es (qJ0 i env e) j
 | _,_,env,_ + 1=>env
def hps:List Ent->Hp->Nat->Hp
 | _,hp,0=>hp
 | e :: es,hp,j + 1=>hps es (nextHp hp e) j
 | [],hp,_ + 1=>hp
theorem oB0 (es:List Ent) (hp:Hp):hps es hp 0=hp:=by cases es <;> rfl
theorem qX0 {ops:Array Oper} {ss:List Nat} {Kp:V->Hp->Prop} {j0:Nat}:∀ (is:List (I × List Nat)) (j:Nat) (env:Env) (hp:Hp) (log:List Lg),
  (∀ (k:Nat) (i:I × List Nat),is[k]?=some i->∃ o,ops[j + k]?=some o/\fC0 P n ops o=some i.1)->vcDp P j0 j is env hp log->∃ es,Tab P n ops ss Kp (some j0) j is env hp log es
 | [],j,env,hp,log,_,_=>⟨[],.nil _ _ _ _ _⟩
 | (i,deps) :: is,j,env,hp,log,hget,h=>by
  have hget':∀ (k:Nat) (i:I × List Nat),is[k]?=some i->∃ o,ops[j + 1 + k]?=some o/\fC0 P n ops o=some i.1:=fun k i hk=>by
   have:=hget (k + 1) i (by simpa using hk)
   rwa [show j + (k + 1)=j + 1 + k by omega] at this
  obtain ⟨o,ho,hc⟩:=hget 0 _ rfl
  rw [Nat.add_zero] at ho
  unfold vcDp at h
  split at h
  ·rename_i hd
   obtain ⟨es,k⟩:=qX0 (ss:=ss) (Kp:=Kp) is (j + 1) env hp log hget' h
   exact ⟨_,.skip j0 j i deps is env hp log es hd k⟩
  ·rename_i hd
   rcases rk0 ho hc h with ⟨v,e,k1,k2,k3,k4⟩ | ⟨v,e,k1,k2⟩
   ·obtain ⟨es,k⟩:=qX0 (ss:=ss) (Kp:=Kp) is (j + 1) _ _ _ hget' k4
    exact ⟨_,.val _ _ _ _ _ _ _ _ _ _ _ k1 k2 (fun q e=>by injection e with e; subst e; exact ⟨k3,by simpa using hd⟩) k⟩
   ·exact k2.elim
theorem tab_of {ops:Array Oper} {ss:List Nat} {K:Env->Hp->Prop} {Kp:V->Hp->Prop}:∀ (is:List (I × List Nat)) (j:Nat) (env:Env) (hp:Hp) (log:List Lg),
  (∀ (k:Nat) (i:I × List Nat),is[k]?=some i->∃ o,ops[j + k]?=some o/\fC0 P n ops o=some i.1)->vcD P ss K Kp j is env hp log ->
  ∃ es,Tab P n ops ss Kp none j is env hp log es/\((∀ (k:Nat) (e:Ent),es[k]?=some e->∃ v f,e=.val v f)->K (envs is es env is.length) (hps es hp is.length))
 | [],j,env,hp,log,_,h=>⟨[],.nil _ _ _ _ _,fun _=>h⟩
 | (i,deps) :: is,j,env,hp,log,hget,h=>by
  have hget':∀ (k:Nat) (i:I × List Nat),is[k]?=some i->∃ o,ops[j + 1 + k]?=some o/\fC0 P n ops o=some i.1:=fun k i hk=>by
   have:=hget (k + 1) i (by simpa using hk)
   rwa [show j + (k + 1)=j + 1 + k by omega] at this
  obtain ⟨o,ho,hc⟩:=hget 0 _ rfl
  rw [Nat.add_zero] at ho
  unfold vcD at h
  rcases rk0 ho hc h with ⟨v,e,k1,k2,k3⟩ | ⟨v,e,k1,k2,k3,k4,k5⟩
  ·obtain ⟨es,q1,q2⟩:=tab_of is (j + 1) _ _ _ hget' k3
   exact ⟨_,.val _ _ _ _ _ _ _ _ _ _ _ k1 k2 (fun q e=>by cases e) q1,fun hall=>q2 fun k e he=>hall (k + 1) e (by simpa using he)⟩
  ·obtain ⟨es,q1⟩:=qX0 (ss:=ss) (Kp:=Kp) is (j + 1) _ _ _ hget' k5
   refine ⟨_,.pan _ _ _ _ _ _ _ _ _ _ k1 k2 k3 k4 q1,fun hall=>?_⟩
   obtain ⟨v',f,e'⟩:=hall 0 _ rfl
   cases e'
section facts
variable {ops:Array Oper} {ss:List Nat} {Kp:V->Hp->Prop} {p:Option Nat} {j:Nat} {is:List (I × List Nat)} {log:List Lg} {es:List Ent}
theorem Tab.len (h:Tab P n ops ss Kp p j is env hp log es):es.length=is.length:=by
 induction h with
 | nil=>rfl
 | val _ _ _ _ _ _ _ _ _ _ _ _ _ _ _ ih=>simp [ih]
 | pan _ _ _ _ _ _ _ _ _ _ _ _ _ _ _ ih=>simp [ih]
 | skip _ _ _ _ _ _ _ _ _ _ _ ih=>simp [ih]
theorem Tab.get (h:Tab P n ops ss Kp p j is env hp log es):∀ (k:Nat) (i:I × List Nat) (e:Ent),is[k]?=some i->es[k]?=some e ->
  rI0 P n ops (j + k) i.1 (envs is es env k) (hps es hp k) e:=by
 induction h with
 | nil=>intro k i e hi; simp at hi
 | val p j i deps is env hp log v e es h hk hp' hr ih =>
  intro k i' e' hi he
  cases k with
  | zero=>simp at hi he; subst hi; subst he; exact h
  | succ k=>have:=ih k i' e' (by simpa using hi) (by simpa using he); rwa [show j + (k + 1)=j + 1 + k by omega]
 | pan j i deps is env hp log v e es h hk hl hK hr ih =>
  intro k i' e' hi he
  cases k with
  | zero=>simp at hi he; subst hi; subst he; exact h
  | succ k=>have:=ih k i' e' (by simpa using hi) (by simpa using he); rwa [show j + (k + 1)=j + 1 + k by omega]
 | skip q j i deps is env hp log es hd hr ih =>
  intro k i' e' hi he
  cases k with
  | zero=>simp at hi he; subst hi; subst he; trivial
  | succ k=>have:=ih k i' e' (by simpa using hi) (by simpa using he); rwa [show j + (k + 1)=j + 1 + k by omega]
theorem Tab.skips (h:Tab P n ops ss Kp p j is env hp log es):∀ (k:Nat) (i:I × List Nat),is[k]?=some i->es[k]?=some .skip ->
  (∃ q,p=some q/\i.2.contains q=true)\/∃ q v e,q < k/\es[q]?=some (.pan v e)/\i.2.contains (j + q)=true:=by
 induction h with
 | nil=>intro k i hi; simp at hi
 | val p j i deps is env hp log v e es h hk hp' hr ih =>
  intro k i' hi he
  cases k with
  | zero=>simp at he
  | succ k =>
   rcases ih k i' (by simpa using hi) (by simpa using he) with h1 | ⟨q,v',e',h1,h2,h3⟩
   ·exact .inl h1
   ·exact .inr ⟨q + 1,v',e',by omega,by simpa using h2,by rwa [show j + (q + 1)=j + 1 + q by omega]⟩
 | pan j i deps is env hp log v e es h hk hl hK hr ih =>
  intro k i' hi he
  cases k with
  | zero=>simp at he
  | succ k =>
   rcases ih k i' (by simpa using hi) (by simpa using he) with ⟨q,h1,h2⟩ | ⟨q,v',e',h1,h2,h3⟩
   ·injection h1 with h1; subst h1
    exact .inr ⟨0,v,e,by omega,rfl,h2⟩
   ·exact .inr ⟨q + 1,v',e',by omega,by simpa using h2,by rwa [show j + (q + 1)=j + 1 + q by omega]⟩
 | skip q j i deps is env hp log es hd hr ih =>
  intro k i' hi he
  cases k with
  | zero=>simp at hi; subst hi; exact .inl ⟨q,rfl,hd⟩
  | succ k =>
   rcases ih k i' (by simpa using hi) (by simpa using he) with h1 | ⟨q,v',e',h1,h2,h3⟩
   ·exact .inl h1
   ·exact .inr ⟨q + 1,v',e',by omega,by simpa using h2,by rwa [show j + (q + 1)=j + 1 + q by omega]⟩
def lgOf (j:Nat) (d:Option Nat) (e:Ent):Lg:=⟨j,tchE e,wrsE e,ndE d e⟩
theorem Tab.order (h:Tab P n ops ss Kp p j is env hp log es):∀ (k:Nat) (i:I × List Nat) (e:Ent),is[k]?=some i->es[k]?=some e->effE e=true ->
  (∀ l ∈ log,ok1 i.2 l (tchE e) (wrsE e) (ndE i.1.d e)=true) /\
  ∀ (q:Nat) (iq:I × List Nat) (eq:Ent),q < k->is[q]?=some iq->es[q]?=some eq->effE eq=true->ok1 i.2 (lgOf (j + q) iq.1.d eq) (tchE e) (wrsE e) (ndE i.1.d e)=true:=by
 induction h with
 | nil=>intro k i e hi; simp at hi
 | val p j i deps is env hp log v e es h hk hp' hr ih =>
  intro k i' e' hi he hf
  cases k with
  | zero =>
   simp at hi he; subst hi; subst he
   refine ⟨fun l hl=>?_,fun q _ _ hq=>by omega⟩
   cases e with
   | none=>cases hf
   | some f=>simp only [okE,List.all_eq_true] at hk; exact hk l hl
  | succ k =>
   obtain ⟨h1,h2⟩:=ih k i' e' (by simpa using hi) (by simpa using he) hf
   refine ⟨fun l hl=>h1 l (by cases e <;> simp [logE,hl]),fun q iq eq hq hi' he' hfq=>?_⟩
   cases q with
   | zero =>
    simp at hi' he'; subst hi'; subst he'
    cases e with
    | none=>cases hfq
    | some f=>exact h1 _ (by simp [logE,lgOf,tchE,wrsE,ndE,Eff.tch,Eff.wrs])
   | succ q=>have:=h2 q iq eq (by omega) (by simpa using hi') (by simpa using he') hfq; rwa [show j + (q + 1)=j + 1 + q by omega]
 | pan j i deps is env hp log v e es h hk hl hK hr ih =>
  intro k i' e' hi he hf
  cases k with
  | zero =>
   simp at hi he; subst hi; subst he
   refine ⟨fun l hl=>?_,fun q _ _ hq=>by omega⟩
   simp only [okE,List.all_eq_true,List.nil_append] at hk; exact hk l hl
  | succ k =>
   obtain ⟨h1,h2⟩:=ih k i' e' (by simpa using hi) (by simpa using he) hf
   refine ⟨fun l hl=>h1 l (by simp [logE,hl]),fun q iq eq hq hi' he' hfq=>?_⟩
   cases q with
   | zero =>
    simp at hi' he'; subst hi'; subst he'
    exact h1 _ (by simp [logE,lgOf,tchE,wrsE,ndE])
   | succ q=>have:=h2 q iq eq (by omega) (by simpa using hi') (by simpa using he') hfq; rwa [show j + (q + 1)=j + 1 + q by omega]
 | skip q j i deps is env hp log es hd hr ih =>
  intro k i' e' hi he hf
  cases k with
  | zero=>simp at he; subst he; cases hf
  | succ k =>
   obtain ⟨h1,h2⟩:=ih k i' e' (by simpa using hi) (by simpa using he) hf
   refine ⟨h1,fun q iq eq hq hi' he' hfq=>?_⟩
   cases q with
   | zero=>simp at he'; subst he'; cases hfq
   | succ q=>have:=h2 q iq eq (by omega) (by simpa using hi') (by simpa using he') hfq; rwa [show j + (q + 1)=j + 1 + q by omega]
theorem Tab.pans (h:Tab P n ops ss Kp p j is env hp log es):∀ (k:Nat) (i:I × List Nat) (v:V) (e:Option Eff),is[k]?=some i->es[k]?=some (.pan v e) ->
  p=none/\Kp v (Hp.outS ss (hps es hp (k + 1)))/\(∀ l ∈ log,l.wr=[]\/i.2.contains l.k=true) /\
  (∀ (q:Nat) (eq:Ent),q < k->es[q]?=some eq->wrsE eq=[]\/i.2.contains (j + q)=true) /\
  ∀ (q:Nat) (iq:I × List Nat) (eq:Ent),k < q->is[q]?=some iq->es[q]?=some eq->eq=.skip\/wrsE eq=[]:=by
 have behind:∀ {q0 j is env hp log es},Tab P n ops ss Kp (some q0) j is env hp log es->∀ (q:Nat) (iq:I × List Nat) (eq:Ent),is[q]?=some iq->es[q]?=some eq->eq=.skip\/wrsE eq=[]:=by
  intro q0 j is env hp log es hT
  generalize hp0:some q0=p0 at hT
  induction hT with
  | nil=>intro q iq eq hi; simp at hi
  | val p j i deps is env hp log v e es h hk hp' hr ih =>
   intro q iq eq hi he
   cases q with
   | zero=>simp at he; subst he; exact .inr (hp' q0 hp0.symm).1
   | succ q=>exact ih hp0 q iq eq (by simpa using hi) (by simpa using he)
  | pan=>cases hp0
  | skip q' j i deps is env hp log es hd hr ih =>
   intro q iq eq hi he
   cases q with
   | zero=>simp at he; subst he; exact .inl rfl
   | succ q=>exact ih hp0 q iq eq (by simpa using hi) (by simpa using he)
 induction h with
 | nil=>intro k i v e hi; simp at hi
 | val p j i deps is env hp log v e es h hk hp' hr ih =>
  intro k i' v' e' hi he
  cases k with
  | zero=>simp at he
  | succ k =>
   obtain ⟨h1,h2,h3,h4,h5⟩:=ih k i' v' e' (by simpa using hi) (by simpa using he)
   refine ⟨h1,h2,fun l hl=>h3 l (by cases e <;> simp [logE,hl]),fun q eq hq he'=>?_,fun q iq eq hq hi' he'=>?_⟩
   ·cases q with
    | zero =>
     simp at he'; subst he'
     cases e with
     | none=>exact .inl rfl
     | some f=>rcases h3 ⟨j,f.rd++f.wr,f.wr,Eff.nd i.d (some f)⟩ (by simp [logE]) with h | h
               ·exact .inl h
               ·exact .inr h
    | succ q=>have:=h4 q eq (by omega) (by simpa using he'); rwa [show j + (q + 1)=j + 1 + q by omega]
   ·cases q with
    | zero=>omega
    | succ q=>exact h5 q iq eq (by omega) (by simpa using hi') (by simpa using he')
 | pan j i deps is env hp log v e es h hk hl hK hr ih =>
  intro k i' v' e' hi he
  cases k with
  | zero =>
   simp at hi he; subst hi; obtain ⟨rfl,rfl⟩:=he
   refine ⟨rfl,by show Kp v (Hp.outS ss (hps es _ 0)); rw [oB0]; exact hK,fun l hl'=>?_,fun q eq hq=>by omega,fun q iq eq hq hi' he'=>?_⟩
   ·rw [List.all_eq_true] at hl
    have:=hl l hl'
    simp only [Bool.or_eq_true,List.isEmpty_iff] at this
    exact this
   ·cases q with
    | zero=>omega
    | succ q=>exact behind hr q iq eq (by simpa using hi') (by simpa using he')
  | succ k =>
   obtain ⟨h1,_⟩:=ih k i' v' e' (by simpa using hi) (by simpa using he)
   cases h1
 | skip q j i deps is env hp log es hd hr ih =>
  intro k i' v' e' hi he
  cases k with
  | zero=>simp at he
  | succ k =>
   obtain ⟨h1,_⟩:=ih k i' v' e' (by simpa using hi) (by simpa using he)
   cases h1
theorem Tab.stay (h:Tab P n ops ss Kp p j is env hp log es) {id:Id}:∀ (t m:Nat),t<=m->m<=is.length ->
  (∀ (k:Nat) (i:I × List Nat) (e:Ent),t<=k->k < m->is[k]?=some i->es[k]?=some e->wrE i.1.d e id=false)->(hps es hp m).lookup id=(hps es hp t).lookup id:=by
 have one:∀ {hp:Hp} {i:I} {e:Ent},(match e with | .val _ f=>Fits hp i.d f | .pan _ f=>Fits hp none f | .skip=>True)->wrE i.d e id=false->(nextHp hp e).lookup id=hp.lookup id:=by
  intro hp i e hf hw
  cases e with
  | val v f=>exact hf id hw
  | pan v f=>exact hf id hw
  | skip=>rfl
 have fits:∀ {j i env hp e},rI0 P n ops j i env hp e->(match e with | .val _ f=>Fits hp i.d f | .pan _ f=>Fits hp none f | .skip=>True):=by
  intro j i env hp e he
  cases e with
  | val v f=>obtain ⟨o,_,h,_⟩:=he; exact h
  | pan v f=>obtain ⟨o,_,h,_⟩:=he; exact h
  | skip=>trivial
 have zero:∀ {p j is env hp log es},Tab P n ops ss Kp p j is env hp log es->∀ m,m<=is.length->(∀ (k:Nat) (i:I × List Nat) (e:Ent),k < m->is[k]?=some i->es[k]?=some e->wrE i.1.d e id=false)->(hps es hp m).lookup id=hp.lookup id:=by
  intro p j is env hp log es hT
  induction hT with
  | nil=>intro m hm _; simp at hm; subst hm; rfl
  | val p j i deps is env hp log v e es h hk hp' hr ih =>
   intro m hm hw
   cases m with
   | zero=>rfl
   | succ m =>
    have h1:=ih m (by simpa using hm) fun k i' e' hk hi he=>hw (k + 1) i' e' (by omega) (by simpa using hi) (by simpa using he)
    exact h1.trans (one (fits h) (hw 0 (i,deps) _ (by omega) rfl rfl))
  | pan j i deps is env hp log v e es h hk hl hK hr ih =>
   intro m hm hw
   cases m with
   | zero=>rfl
   | succ m =>
    have h1:=ih m (by simpa using hm) fun k i' e' hk hi he=>hw (k + 1) i' e' (by omega) (by simpa using hi) (by simpa using he)
    exact h1.trans (one (fits h) (hw 0 (i,deps) _ (by omega) rfl rfl))
  | skip q j i deps is env hp log es hd hr ih =>
   intro m hm hw
   cases m with
   | zero=>rfl
   | succ m=>exact ih m (by simpa using hm) fun k i' e' hk hi he=>hw (k + 1) i' e' (by omega) (by simpa using hi) (by simpa using he)
 induction h with
 | nil=>intro t m htm hm _; simp at hm; subst hm; simp at htm; subst htm; rfl
 | val p j i deps is env hp log v e es h hk hp' hr ih =>
  intro t m htm hm hw
  cases t with
  | zero=>exact zero (.val p j i deps is env hp log v e es h hk hp' hr) m hm fun k i' e' hk hi he=>hw k i' e' (by omega) hk hi he
  | succ t =>
   cases m with
   | zero=>omega
   | succ m=>exact ih t m (by omega) (by simpa using hm) fun k i' e' h1 h2 hi he=>hw (k + 1) i' e' (by omega) (by omega) (by simpa using hi) (by simpa using he)
 | pan j i deps is env hp log v e es h hk hl hK hr ih =>
  intro t m htm hm hw
  cases t with
  | zero=>exact zero (.pan j i deps is env hp log v e es h hk hl hK hr) m hm fun k i' e' hk hi he=>hw k i' e' (by omega) hk hi he
  | succ t =>
   cases m with
   | zero=>omega
   | succ m=>exact ih t m (by omega) (by simpa using hm) fun k i' e' h1 h2 hi he=>hw (k + 1) i' e' (by omega) (by omega) (by simpa using hi) (by simpa using he)
 | skip q j i deps is env hp log es hd hr ih =>
  intro t m htm hm hw
  cases t with
  | zero=>exact zero (.skip q j i deps is env hp log es hd hr) m hm fun k i' e' hk hi he=>hw k i' e' (by omega) hk hi he
  | succ t =>
   cases m with
   | zero=>omega
   | succ m=>exact ih t m (by omega) (by simpa using hm) fun k i' e' h1 h2 hi he=>hw (k + 1) i' e' (by omega) (by omega) (by simpa using hi) (by simpa using he)
theorem rc0 {es:List Ent} {hp:Hp} {m:Nat} {e:Ent} (h:es[m]?=some e):hps es hp (m + 1)=nextHp (hps es hp m) e:=by
 induction es generalizing hp m with
 | nil=>simp at h
 | cons x xs ih =>
  cases m with
  | zero =>
   simp at h; subst h
   show hps xs _ 0=_
   cases xs <;> rfl
  | succ m=>exact ih (by simpa using h)
end facts
theorem kb0:∀ (is:List (I × List Nat)) (es:List Ent) (env:Env) (j t:Nat) (u:V),es.length=is.length->(envs is es env j).lookup t=some u ->
  (∃ q i no,q < j/\is[q]?=some i/\i.1.d=some t/\es[q]?=some (.val u no)) \/
  (env.lookup t=some u/\∀ q i v no,q < j->is[q]?=some i->es[q]?=some (.val v no)->i.1.d ≠ some t)
 | is,es,env,0,t,u,_,h=>.inr ⟨by simpa [envs] using h,fun q i v no hq=>by omega⟩
 | [],es,env,j + 1,t,u,_,h=>.inr ⟨by simpa [envs] using h,fun q i v no _ hi=>by simp at hi⟩
 | (i,d) :: is,[],env,j + 1,t,u,hl,h=>by simp at hl
 | (i,d) :: is,e :: es,env,j + 1,t,u,hl,h=>by
  simp only [envs] at h
  rcases kb0 is es (qJ0 i env e) j t u (by simpa using hl) h with ⟨q,i',no,h1,h2,h3,h4⟩ | ⟨h1,h2⟩
  ·exact .inl ⟨q + 1,i',no,by omega,by simpa using h2,h3,by simpa using h4⟩
  ·have back:(∃ no,i.d=some t/\e=.val u no)\/(env.lookup t=some u/\∀ v no,e=.val v no->i.d ≠ some t):=by
    cases e with
    | val v no =>
     simp only [qJ0] at h1
     cases hd:i.d with
     | none=>rw [hd] at h1; exact .inr ⟨h1,fun _ _ _=>by simp⟩
     | some s =>
      rw [hd] at h1
      simp only [Env.put,List.lookup_cons] at h1
      cases e:(t == s) with
      | true =>
       rw [e] at h1
       have:=eq_of_beq e; subst this
       simp only [Option.some.injEq] at h1; subst h1
       exact .inl ⟨no,rfl,rfl⟩
      | false =>
       rw [e] at h1
       exact .inr ⟨h1,fun _ _ _ hh=>by injection hh with hh; subst hh; simp at e⟩
    | pan v=>exact .inr ⟨h1,fun _ _ e=>by cases e⟩
    | skip=>exact .inr ⟨h1,fun _ _ e=>by cases e⟩
   rcases back with ⟨no,b1,rfl⟩ | ⟨b1,b2⟩
   ·exact .inl ⟨0,(i,d),no,by omega,rfl,b1,rfl⟩
   ·refine .inr ⟨b1,fun q i' v no hq hi he=>?_⟩
    cases q with
    | zero =>
     simp only [List.getElem?_cons_zero,Option.some.injEq] at hi he
     subst hi
     exact b2 v no he
    | succ q=>exact h2 q i' v no (by omega) (by simpa using hi) (by simpa using he)
end Go.Am
end

section
namespace Go.Am
variable {P:Program} {n:Sz} {H:Imm} {μ:Mu} {env:Env} {hp:Hp} {a:Act} {w:World}
def newS (is:List (I × List Nat)):List Nat:=is.filterMap fun i=>if i.1.op.mk then i.1.d else none
theorem newS_mem {is:List (I × List Nat)} {q:Nat} {i:I × List Nat} {s:Nat} (h:is[q]?=some i) (hd:i.1.d=some s) (hm:i.1.op.mk=true):s ∈ newS is :=
 List.mem_filterMap.2 ⟨i,List.mem_of_getElem? h,by simp [hm,hd]⟩
theorem oR0 {a:Act} {d:Option Tmp} {x:Value} {t:Nat} (h:d ≠ some t):(a.put d x).tmps.getD t undef=a.tmps.getD t undef:=by
 cases d with
 | none=>rfl
 | some s =>
  have:s ≠ t:=fun e=>h (by rw [e])
  simp only [Act.put]
  rw [Array.getD_eq_getD_getElem?,Array.getElem?_setIfInBounds_ne this,<- Array.getD_eq_getD_getElem?]
theorem oS0 {a:Act} {t:Nat} {x:Value} (h:t < a.tmps.size):(a.put (some t) x).tmps.getD t undef=x:=by
 simp [Act.put,Array.getD_eq_getD_getElem?,h]
theorem pX0 {a:Act} {d:Option Tmp} {x:Value}:(a.put d x).tmps.size=a.tmps.size:=by
 cases d <;> simp [Act.put]
theorem m50 {a:Act} {d:Option Tmp} {x:Value}:(a.put d x).defers=a.defers:=by
 cases d <;> rfl
theorem fM0 {ops:Array Oper} {Q:Exit->Act->World->Prop} {i:Nat} {o:Oper} {K:Act->World->Prop} (ho:ops[i]?=some o) (h:Region.wanted o (yielded ops a.tmps)=true->o.wp P a w K Q) (h':¬ Region.wanted o (yielded ops a.tmps)=true->K (a.put o.dst undef) w):wpOp P ops Q i K a w:=by
 unfold wpOp
 simp only [ho]
 split
 ·rename_i hw; exact .inl (h hw)
 ·rename_i hw; exact h' hw
theorem sG0 {ops:Array Oper} {q s:Nat} {b:Bool} (h1:(ops[q]?).bind (·.dst)=some s) (h2:s < a.tmps.size) (h3:a.tmps.getD s undef=.bool b):yielded ops a.tmps q=some b:=by
 unfold yielded
 rw [h1]
 have:a.tmps[s]?=some (.bool b):=by
  rw [Array.getD_eq_getD_getElem?] at h3
  rw [Array.getElem?_eq_getElem h2] at h3 ⊢
  simpa using h3
 simp [this]
def Wr (is:List (I × List Nat)) (es:List Ent) (k:Nat) (id:Id):Prop:=∃ i e,is[k]?=some i/\es[k]?=some e/\wrE i.1.d e id=true
structure Mem (is:List (I × List Nat)) (es:List Ent) (hp:Hp) (H0:Imm) (μ0:Mu) (w0:World) (listed:Array Bool) (a:Act) (w:World) (H:Imm) (μ:Mu) (hpD:Hp):Prop where
 wd:Wd H μ hpD w
 nx:Nx H0 μ0 hp w0 H μ hpD w
 le:Mu.le μ0 μ
 vals:∀ j i,is[j]?=some i->listed.getD j true=true->∃ v e,es[j]?=some (.val v e)/\∀ s,i.1.d=some s->R H μ v (a.tmps.getD s undef)
 free:∀ j i e id,is[j]?=some i->es[j]?=some e->listed.getD j true=false->Id.at (ndE i.1.d e) id=true->μ id=none/\hpD.lookup id=none
 c1:∀ id,(∀ k,listed.getD k true=true->k < is.length->¬ Wr is es k id)->hpD.lookup id=hp.lookup id
 c2:∀ id k,listed.getD k true=true->k < is.length->Wr is es k id->(∀ k',k < k'->k' < is.length->listed.getD k' true=true->¬ Wr is es k' id)->hpD.lookup id=(hps es hp (k + 1)).lookup id
structure Good (n:Sz) (ops:Array Oper) (is:List (I × List Nat)) (es:List Ent) (hp:Hp) (H0:Imm) (μ0:Mu) (a0:Act) (w0:World) (listed:Array Bool) (a:Act) (w:World):Prop where
 size:listed.size=ops.size
 closed:if0 ops listed
 low:∀ j,is.length<=j->j < ops.size->listed.getD j true=false
 defers:a.defers=n.ds
 tmps:a.tmps.size=n.n
 mem:∃ H μ hpD,Mem is es hp H0 μ0 w0 listed a w H μ hpD
 old:∀ t,(∀ j i,is[j]?=some i->listed.getD j true=true->i.1.d ≠ some t)->a.tmps.getD t undef=a0.tmps.getD t undef
variable {ops:Array Oper} {is:List (I × List Nat)} {es:List Ent} {H0:Imm} {μ0:Mu} {a0:Act} {w0:World} {listed:Array Bool} {ss:List Nat} {Kp:V->Hp->Prop}
theorem rb0 (p:Nat->Prop):∀ m,(∀ k,k < m->¬ p k)\/∃ k,k < m/\p k/\∀ q,k < q->q < m->¬ p q
 | 0=>.inl fun k h=>by omega
 | m + 1=>by
  classical
  by_cases hp:p m
  ·exact .inr ⟨m,by omega,hp,fun q h1 h2=>by omega⟩
  ·rcases rb0 p m with h | ⟨k,h1,h2,h3⟩
   ·exact .inl fun k hk=>by
     by_cases e:k=m
     ·subst e; exact hp
     ·exact h k (by omega)
   ·exact .inr ⟨k,by omega,h2,fun q q1 q2=>by
     by_cases e:q=m
     ·subst e; exact hp
     ·exact h3 q q1 (by omega)⟩
theorem Mem.content {H:Imm} {μ:Mu} {hpD:Hp} (hM:Mem is es hp H0 μ0 w0 listed a w H μ hpD) (hT:Tab P n ops ss Kp none 0 is env hp [] es) {id:Id} {m:Nat} (hm:m<=is.length)
  (hA:∀ k,k < m->Wr is es k id->listed.getD k true=true) (hB:∀ k,k < is.length->listed.getD k true=true->Wr is es k id->k < m):hpD.lookup id=(hps es hp m).lookup id:=by
 have nw:∀ t,(∀ q,t<=q->q < m->¬ Wr is es q id)->∀ (k:Nat) (i:I × List Nat) (e:Ent),t<=k->k < m->is[k]?=some i->es[k]?=some e->wrE i.1.d e id=false:=by
  intro t h k i e h1 h2 hi he
  cases hw:wrE i.1.d e id with
  | false=>rfl
  | true=>exact absurd ⟨i,e,hi,he,hw⟩ (h k h1 h2)
 rcases rb0 (fun k=>Wr is es k id) m with h | ⟨k,h1,h2,h3⟩
 ·rw [hM.c1 id fun k hl hk hw=>h k (hB k hk hl hw) hw,hT.stay 0 m (by omega) hm (nw 0 fun q _ hq=>h q hq),oB0]
 ·rw [hM.c2 id k (hA k h1 h2) (by omega) h2 fun k' q1 q2 q3 q4=>h3 k' q1 (hB k' q2 q3 q4) q4,hT.stay (k + 1) m (by omega) hm (nw (k + 1) fun q q1 q2=>h3 q (by omega) q2)]
theorem gy0 {d:Option Nat} {e:Ent} {id:Id} (h:wrE d e id=true):(id ∈ wrsE e\/id.at (ndE d e)=true)/\effE e=true:=by
 cases e with
 | skip=>cases h
 | val v f =>
  simp only [wrE,Eff.wrote,Bool.or_eq_true] at h
  refine ⟨?_,?_⟩
  ·rcases h with h | h
   ·exact .inl (by simpa [wrsE] using h)
   ·exact .inr h
  ·cases f with
   | none=>simp only [Eff.wrs,Eff.nd] at h; cases id <;> simp [Id.at] at h
   | some f=>rfl
 | pan v f =>
  simp only [wrE,Eff.wrote,Bool.or_eq_true] at h
  refine ⟨?_,rfl⟩
  rcases h with h | h
  ·exact .inl (by simpa [wrsE] using h)
  ·cases f with
   | none=>cases id <;> simp [Eff.nd,Id.at] at h
   | some f=>cases id <;> simp [Eff.nd,Id.at] at h
theorem nl0 {e:Ent} {id:Id} (h:id ∈ wrsE e):id ∈ tchE e:=by
 cases e with
 | skip=>exact h
 | pan v f=>exact h
 | val v f =>
  cases f with
  | none=>exact h
  | some f=>simp only [wrsE,Eff.wrs] at h; simp [tchE,Eff.tch,h]
theorem nd_eff {d:Option Nat} {e:Ent} {id:Id} (h:id.at (ndE d e)=true):effE e=true:=by
 cases e with
 | skip=>cases id <;> simp [ndE,Id.at] at h
 | pan v f=>rfl
 | val v f =>
  cases f with
  | none=>cases id <;> simp [ndE,Eff.nd,Id.at] at h
  | some f=>rfl
theorem qI0 {d:Option Nat} {e:Ent} {id:Id} (h:id.at (ndE d e)=true):∃ s q,id=.l s q/\d=some s:=by
 cases id with
 | e k=>simp [Id.at] at h
 | l s q =>
  simp only [Id.at,beq_iff_eq] at h
  refine ⟨s,q,rfl,?_⟩
  cases e with
  | skip=>cases h
  | pan v f=>exact h
  | val v f =>
   cases f with
   | none=>cases h
   | some f=>simp only [ndE,Eff.nd] at h; split at h <;> first | exact h | cases h
theorem mi0 (hs:o30 ops is=true) {j m:Nat} {ij im:I × List Nat} {ej em:Ent} {id:Id} (hj:is[j]?=some ij) (hm:is[m]?=some im) (hne:j ≠ m) (h1:id.at (ndE ij.1.d ej)=true) (h2:id.at (ndE im.1.d em)=true):False:=by
 obtain ⟨s,q,e1,d1⟩:=qI0 h1
 obtain ⟨s',q',e2,d2⟩:=qI0 h2
 rw [e1] at e2; injection e2 with e2 _; subst e2
 exact ((jw0 hs hm hj d1).2).elim (fun e=>hne e.symm) fun h=>h d2
theorem Tab.conf (hT:Tab P n ops ss Kp none 0 is env hp [] es) (hs:o30 ops is=true) {k m:Nat} (hkm:k < m) {ik im:I × List Nat} {ek em:Ent} (hik:is[k]?=some ik) (hek:es[k]?=some ek) (him:is[m]?=some im) (hem:es[m]?=some em)
  {id:Id} (h:(wrE ik.1.d ek id=true/\(id ∈ tchE em\/id.at (ndE im.1.d em)=true)/\effE em=true)\/(wrE im.1.d em id=true/\(id ∈ tchE ek\/id.at (ndE ik.1.d ek)=true)/\effE ek=true)):im.2.contains k=true:=by
 have go:effE ek=true->effE em=true->ok1 im.2 (lgOf k ik.1.d ek) (tchE em) (wrsE em) (ndE im.1.d em)=true:=fun h1 h2=>by
  have:=(hT.order m im em him hem h2).2 k ik ek hkm hik hek h1
  rwa [Nat.zero_add] at this
 have fin:ok1 im.2 (lgOf k ik.1.d ek) (tchE em) (wrsE em) (ndE im.1.d em)=true->((∃ i,i ∈ tchE ek/\i ∈ wrsE em)\/∃ i,i ∈ tchE em/\(i ∈ wrsE ek\/i.at (ndE ik.1.d ek)=true))->im.2.contains k=true:=by
  intro h1 h2
  simp only [ok1,lgOf,Bool.and_eq_true,Bool.or_eq_true,Bool.not_eq_true',Bool.or_eq_false_iff,List.any_eq_false] at h1
  rcases h1.2 with h3 | ⟨h3,h4⟩
  ·exact h3
  ·rcases h2 with ⟨i,q1,q2⟩ | ⟨i,q1,q2⟩
   ·exact absurd (by simpa using q2) (h3 i q1)
   ·refine absurd ?_ (h4 i q1)
    rcases q2 with q2 | q2
    ·exact .inl (by simpa using q2)
    ·exact .inr q2
 have lead:ok1 im.2 (lgOf k ik.1.d ek) (tchE em) (wrsE em) (ndE im.1.d em)=true->∀ i,i ∈ tchE ek->i.at (ndE im.1.d em)=true->False:=by
  intro h1 i h2 h3
  simp only [ok1,lgOf,Bool.and_eq_true,Bool.not_eq_true',List.any_eq_false] at h1
  exact h1.1 i h2 h3
 rcases h with ⟨h1,h2,h3⟩ | ⟨h1,h2,h3⟩
 ·obtain ⟨w1,w2⟩:=gy0 h1
  have ok:=go w2 h3
  rcases h2 with h2 | h2
  ·exact fin ok (.inr ⟨id,h2,w1⟩)
  ·rcases w1 with w1 | w1
   ·exact (lead ok id (nl0 w1) h2).elim
   ·exact (mi0 hs hik him (by omega) w1 h2).elim
 ·obtain ⟨w1,w2⟩:=gy0 h1
  have ok:=go h3 w2
  rcases h2 with h2 | h2
  ·rcases w1 with w1 | w1
   ·exact fin ok (.inl ⟨id,h2,w1⟩)
   ·exact (lead ok id h2 w1).elim
  ·rcases w1 with w1 | w1
   ·exact fin ok (.inr ⟨id,nl0 w1,.inr h2⟩)
   ·exact (mi0 hs hik him (by omega) h2 w1).elim
theorem Tab.early (hT:Tab P n ops ss Kp none 0 is env hp [] es) {k m:Nat} (hkm:k < m) {ik im:I × List Nat} {ek em:Ent} (hik:is[k]?=some ik) (hek:es[k]?=some ek) (him:is[m]?=some im) (hem:es[m]?=some em)
  {id:Id} (h1:id ∈ tchE ek) (hf:effE ek=true) (h2:id.at (ndE im.1.d em)=true):False:=by
 have:=(hT.order m im em him hem (nd_eff h2)).2 k ik ek hkm hik hek hf
 simp only [ok1,lgOf,Bool.and_eq_true,Bool.not_eq_true',List.any_eq_false] at this
 exact this.1 id h1 h2
theorem Tab.free0 (hT:Tab P n ops ss Kp none 0 is env hp [] es) (hs:o30 ops is=true) (hno:∀ id:Id,id.inS (newS is)=true->hp.lookup id=none) {m:Nat} {im:I × List Nat} {em:Ent} (him:is[m]?=some im) (hem:es[m]?=some em) {id:Id}
  (h:id.at (ndE im.1.d em)=true):id.inS (newS is)=true/\(hps es hp m).lookup id=none:=by
 have hin:id.inS (newS is)=true:=by
  obtain ⟨s,q,rfl,hd⟩:=qI0 h
  have hmk:im.1.op.mk=true:=by
   have hE:=hT.get m im em him hem
   cases em with
   | skip=>simp [ndE,Id.at] at h
   | pan v f=>obtain ⟨o,_,_,_,hk,_⟩:=hE; exact hk
   | val v f =>
    obtain ⟨o,_,_,hk,_⟩:=hE
    cases f with
    | none=>simp [ndE,Eff.nd,Id.at] at h
    | some f =>
     refine hk f rfl ?_
     cases e:f.nw with
     | true=>rfl
     | false=>simp [ndE,Eff.nd,Id.at,e] at h
  have:=newS_mem him hd hmk
  simpa [Id.inS] using this
 refine ⟨hin,?_⟩
 have hml:m < is.length:=(List.getElem?_eq_some_iff.1 him).1
 rw [hT.stay 0 m (by omega) (by omega) fun k i e _ hk hi he=>?_,oB0]
 ·exact hno id hin
 ·cases hw:wrE i.1.d e id with
  | false=>rfl
  | true =>
   obtain ⟨w1,w2⟩:=gy0 hw
   rcases w1 with w1 | w1
   ·exact (hT.early hk hi he him hem (nl0 w1) w2 h).elim
   ·exact (mi0 hs hi him (by omega) w1 h).elim
theorem Good.done (hT:Tab P n ops ss Kp none 0 is env hp [] es) (h0:Sat n H0 μ0 env hp a0 w0) (hG:Good n ops is es hp H0 μ0 a0 w0 listed a w) (hall:∀ j,j < is.length->listed.getD j true=true) :
  (∀ (k:Nat) (e:Ent),es[k]?=some e->∃ v f,e=.val v f)/\∃ H μ,Sat n H μ (envs is es env is.length) (hps es hp is.length) a w/\Nx H0 μ0 hp w0 H μ (hps es hp is.length) w:=by
 obtain ⟨H,μ,hpD,hM⟩:=hG.mem
 have hlen:=hT.len
 have hval:∀ (j:Nat) (i:I × List Nat),is[j]?=some i->∃ v e,es[j]?=some (.val v e)/\∀ s,i.1.d=some s->R H μ v (a.tmps.getD s undef) :=
  fun j i hj=>hM.vals j i hj (hall j (List.getElem?_eq_some_iff.1 hj).1)
 have hsub:∀ id ob,(hps es hp is.length).lookup id=some ob->hpD.lookup id=some ob:=by
  intro id ob hl
  rw [hM.content hT (Nat.le_refl _) (fun k hk _=>hall k hk) (fun k hk _ _=>hk)]; exact hl
 refine ⟨fun k e hk=>?_,H,μ,⟨hG.defers,hG.tmps,fun t u hu=>?_,hM.wd.sub hsub⟩,hM.nx.sub hsub⟩
 ·have hk':k < is.length:=by rw [<- hlen]; exact (List.getElem?_eq_some_iff.1 hk).1
  obtain ⟨v,f,e1,_⟩:=hval k is[k] (List.getElem?_eq_getElem hk')
  rw [hk] at e1; injection e1 with e1
  exact ⟨v,f,e1⟩
 ·rcases kb0 is es env is.length t u hlen hu with ⟨q,i,no,q1,q2,q3,q4⟩ | ⟨q1,q2⟩
  ·obtain ⟨v',no',e1,e2⟩:=hval q i q2
   rw [q4] at e1; simp only [Option.some.injEq,Ent.val.injEq] at e1
   obtain ⟨rfl,rfl⟩:=e1
   exact e2 t q3
  ·rw [hG.old t fun j i hj _=>?_]
   ·exact (h0.env t u q1).ext hM.nx.imm hM.le
   ·obtain ⟨v',no',e1,_⟩:=hval j i hj
    exact q2 j i v' no' (List.getElem?_eq_some_iff.1 hj).1 hj e1
theorem Good.look (hT:Tab P n ops ss Kp none 0 is env hp [] es) (h0:Sat n H0 μ0 env hp a0 w0)
  (hb:ms0 ops=true) (hs:o30 ops is=true) (hl0:is.length<=ops.size) (hG:Good n ops is es hp H0 μ0 a0 w0 listed a w) {m:Nat} {i:I × List Nat} (hi:is[m]?=some i) (hr:m ∈ Region.ready .any ops listed)
  {H:Imm} {μ:Mu} {hpD:Hp} (hM:Mem is es hp H0 μ0 w0 listed a w H μ hpD)
  {t:Nat} (ht:t ∈ i.1.reads) {u:V} (hu:(envs is es env m).lookup t=some u):R H μ u (a.tmps.getD t undef):=by
 have hlen:=hT.len
 obtain ⟨r1,o,r2,r3⟩:=mem_ready.1 hr
 have hahead:∀ q,ahead ops q m=true->listed.getD q true=true:=fun q hq=>ba0 hb hG.size hG.closed m q o r2 r3 hq
 rcases kb0 is es env m t u hlen hu with ⟨q,iq,no,q1,q2,q3,q4⟩ | ⟨q1,q2⟩
 ·have hlq:listed.getD q true=true:=by
   rcases (jw0 hs hi q2 q3).1 ht with e | ⟨_,e⟩ | ⟨e,_⟩
   ·omega
   ·exact hahead q e
   ·omega
  obtain ⟨v',no',e1,e2⟩:=hM.vals q iq q2 hlq
  rw [q4] at e1; simp only [Option.some.injEq,Ent.val.injEq] at e1
  obtain ⟨rfl,rfl⟩:=e1
  exact e2 t q3
 ·rw [hG.old t fun j ij hj hlj hd=>?_]
  ·exact (h0.env t u q1).ext hM.nx.imm hM.le
  ·obtain ⟨v',no',e1,_⟩:=hM.vals j ij hj hlj
   rcases (jw0 hs hi hj hd).1 ht with e | ⟨e,_⟩ | ⟨e,he⟩
   ·subst e; rw [r1] at hlj; cases hlj
   ·exact q2 j ij v' no' e hj e1 hd
   ·have hjs:j < ops.size:=by have:=(List.getElem?_eq_some_iff.1 hj).1; omega
    have:listed.getD m true=true:=ba0 hb hG.size hG.closed j m ops[j] (Array.getElem?_eq_getElem hjs) (hG.closed j _ (Array.getElem?_eq_getElem hjs) hlj) he
    rw [r1] at this; cases this
theorem Good.AB (hT:Tab P n ops ss Kp none 0 is env hp [] es) (hb:ms0 ops=true) (hs:o30 ops is=true) (hd:depB ops is=true) (hl0:is.length<=ops.size) (hG:Good n ops is es hp H0 μ0 a0 w0 listed a w)
  {m:Nat} {i:I × List Nat} {e:Ent} (hi:is[m]?=some i) (he:es[m]?=some e) (hr:m ∈ Region.ready .any ops listed) {id:Id} (ht:id ∈ tchE e\/id.at (ndE i.1.d e)=true) (hf:effE e=true) :
  (∀ k,k < m->Wr is es k id->listed.getD k true=true)/\∀ k,k < is.length->listed.getD k true=true->Wr is es k id->k < m:=by
 obtain ⟨r1,o,r2,r3⟩:=mem_ready.1 hr
 refine ⟨fun k hk hw=>?_,fun k hk hl hw=>?_⟩
 ·obtain ⟨ik,ek,h1,h2,h3⟩:=hw
  have:=hT.conf hs hk h1 h2 hi he (.inl ⟨h3,ht,hf⟩)
  exact ba0 hb hG.size hG.closed m k o r2 r3 (hu0 hd hi (by simpa using this)).2
 ·obtain ⟨ik,ek,h1,h2,h3⟩:=hw
  apply Classical.byContradiction
  intro hn
  have hmk:m < k:=by
   rcases Nat.lt_or_ge m k with h | h
   ·exact h
   ·have:k=m:=by omega
    subst this; rw [r1] at hl; cases hl
  have hc:=hT.conf hs hmk hi he h1 h2 (.inr ⟨h3,ht,hf⟩)
  have hah:=(hu0 hd h1 (by simpa using hc)).2
  have hks:k < ops.size:=by omega
  have:listed.getD m true=true:=ba0 hb hG.size hG.closed k m ops[k] (Array.getElem?_eq_getElem hks) (hG.closed k _ (Array.getElem?_eq_getElem hks) hl) hah
  rw [r1] at this; cases this
theorem Good.step (hT:Tab P n ops ss Kp none 0 is env hp [] es) (hb:ms0 ops=true) (hs:o30 ops is=true) (hd:depB ops is=true) (hl0:is.length<=ops.size) (hG:Good n ops is es hp H0 μ0 a0 w0 listed a w)
  {m:Nat} {i:I × List Nat} (hi:is[m]?=some i) (hr:m ∈ Region.ready .any ops listed) (hdlt:∀ s,i.1.d=some s->s < n)
  {v:V} {e:Option Eff} {x:Value} {H:Imm} {μ:Mu} {hpD:Hp} (hM:Mem is es hp H0 μ0 w0 listed a w H μ hpD) (hes:es[m]?=some (.val v e)) {w':World} {H':Imm} {μ':Mu} {hp2:Hp} (hR:i.1.d ≠ none->R H' μ' v x)
  (hS:Same (Eff.nd i.1.d e) μ μ') (hL:∀ id,hp2.lookup id=if Eff.wrote i.1.d e id then (Eff.after (hps es hp m) e).lookup id else hpD.lookup id) (hW:Wd H' μ' hp2 w') (hN:Nx H μ hpD w H' μ' hp2 w') :
  Good n ops is es hp H0 μ0 a0 w0 (listed.setIfInBounds m true) (a.put i.1.d x) w':=by
 obtain ⟨hm1,hm2⟩:=jr0 hr
 have hml:m < is.length:=(List.getElem?_eq_some_iff.1 hi).1
 have hdist:∀ j ij s,is[j]?=some ij->j ≠ m->ij.1.d=some s->i.1.d ≠ some s:=fun j ij s hj hne hd=>((jw0 hs hi hj hd).2).resolve_left fun e=>hne e.symm
 have hle:Mu.le μ μ':=hS.le fun id h=>(hM.free m i _ id hi hes hm2 h).1
 have hset:∀ k,k ≠ m->(listed.setIfInBounds m true).getD k true=listed.getD k true:=fun k hk=>jl0 true hk
 have hsetm:(listed.setIfInBounds m true).getD m true=true:=ei0 (by rw [hG.size]; exact hm1) true
 have hwm:∀ id,Eff.wrote i.1.d e id=true ↔ Wr is es m id:=fun id=>⟨fun h=>⟨i,_,hi,hes,h⟩,fun ⟨i',e',h1,h2,h3⟩=>by
  rw [hi] at h1; injection h1 with h1; subst h1
  rw [hes] at h2; injection h2 with h2; subst h2
  exact h3⟩
 refine ⟨by simpa using hG.size,hS0 hG.size hG.closed hr,fun j hj1 hj2=>?_,by rw [m50]; exact hG.defers,by rw [pX0]; exact hG.tmps,⟨H',μ',hp2,hW,hM.nx.trans hN,Mu.le_trans hM.le hle,fun j ij hj hlj=>?_,fun j ij ej id hj hej hlj ha=>?_,fun id hno=>?_,fun id k hl hk hw hgt=>?_⟩,fun t ht=>?_⟩
 ·rw [hset j (by omega)]; exact hG.low j hj1 hj2
 ·by_cases hjm:j=m
  ·subst hjm
   rw [hi] at hj; injection hj with hj; subst hj
   refine ⟨v,e,hes,fun s hd=>?_⟩
   rw [hd,oS0 (by rw [hG.tmps]; exact hdlt s hd)]; exact hR (by rw [hd]; simp)
  ·rw [hset j hjm] at hlj
   obtain ⟨v1,no1,k1,k2⟩:=hM.vals j ij hj hlj
   refine ⟨v1,no1,k1,fun s hd=>?_⟩
   rw [oR0 (hdist j ij s hj hjm hd)]
   exact (k2 s hd).ext hN.imm hle
 ·by_cases hjm:j=m
  ·subst hjm; rw [hsetm] at hlj; cases hlj
  ·rw [hset j hjm] at hlj
   obtain ⟨f1,f2⟩:=hM.free j ij ej id hj hej hlj ha
   have hna:id.at (Eff.nd i.1.d e)=false:=by
    cases h:id.at (Eff.nd i.1.d e) with
    | false=>rfl
    | true=>exact (mi0 hs hj hi hjm (em:=.val v e) ha h).elim
   refine ⟨by rw [hS id hna]; exact f1,?_⟩
   rw [hL id,if_neg]
   ·exact f2
   ·intro hw
    have hw':wrE i.1.d (.val v e) id=true:=hw
    obtain ⟨w1,w2⟩:=gy0 hw'
    have w1:id ∈ wrsE (.val v e):=w1.resolve_right (by simp only [ndE]; rw [hna]; simp)
    rcases Nat.lt_or_ge j m with h | h
    ·have hc:=hT.conf hs h hj hej hi hes (.inr ⟨hw',.inr ha,nd_eff ha⟩)
     obtain ⟨r1,o,r2,r3⟩:=mem_ready.1 hr
     have:=ba0 hb hG.size hG.closed m j o r2 r3 (hu0 hd hi (by simpa using hc)).2
     rw [hlj] at this; cases this
    ·exact hT.early (by omega) hi hes hj hej (nl0 w1) w2 ha
 ·have h1:¬ Wr is es m id:=hno m hsetm hml
  rw [hL id,if_neg (fun h=>h1 ((hwm id).1 h))]
  refine hM.c1 id fun k hl hk hw=>?_
  by_cases hkm:k=m
  ·subst hkm; exact h1 hw
  ·exact hno k (by rw [hset k hkm]; exact hl) hk hw
 ·by_cases hkm:k=m
  ·subst hkm
   rw [hL id,if_pos ((hwm id).2 hw),rc0 hes]; rfl
  ·have hl':listed.getD k true=true:=by rw [<- hset k hkm]; exact hl
   have h1:¬ Wr is es m id:=by
    intro hwr
    have hw':wrE i.1.d (.val v e) id=true:=(hwm id).2 hwr
    obtain ⟨w1,w2⟩:=gy0 hw'
    have:=(hG.AB hT hb hs hd hl0 hi hes hr (id:=id) (by
     rcases w1 with w1 | w1
     ·exact .inl (nl0 w1)
     ·exact .inr w1) w2).2 k hk hl' hw
    exact hgt m this hml hsetm hwr
   rw [hL id,if_neg (fun h=>h1 ((hwm id).1 h))]
   refine hM.c2 id k hl' hk hw fun k' q1 q2 q3 q4=>?_
   by_cases hkm':k'=m
   ·subst hkm'; exact h1 q4
   ·exact hgt k' q1 q2 (by rw [hset k' hkm']; exact q3) q4
 ·have htd:i.1.d ≠ some t:=ht m i hi hsetm
  rw [oR0 htd]
  refine hG.old t fun j ij hj hlj=>?_
  by_cases hjm:j=m
  ·subst hjm; rw [hm2] at hlj; cases hlj
  ·exact ht j ij hj (by rw [hset j hjm]; exact hlj)
end Go.Am
end

section
namespace Go.Am
variable {P:Program} {n:Sz} {H:Imm} {μ:Mu} {env:Env} {hp:Hp} {a:Act} {w:World}
structure DReg where
 any:List (I × List Nat)
 rest:List I
 free:List Nat
def pure3 (o:Oper):Bool:=o.guard.isNone && match o.op with
 | .move _=>true
 | .assign _=>true
 | .nilCheck _=>true
 | .fieldAddr _ _ _=>true
 | _=>false
def freeB (ops:Array Oper) (is:List (I × List Nat)) (k:Nat):Bool :=
 match is[k]?,ops[k]? with
 | some i,some o=>pure3 o && o.after.toList.all (fun e=>!Region.binds .any e || i.2.contains e.on) && (List.range ops.size).all fun j=>j == k || ahead ops k j || ahead ops j k || match ops[j]? with
  | some oj=>o.apart ops oj
  | none=>true
 | _,_=>false
def freeL (ops:Array Oper) (is:List (I × List Nat)):List Nat:=(List.range is.length).filter (freeB ops is)
def compD (P:Program) (n:Nat) (ops:Array Oper) (r:DReg):Prop :=
 lK0 ops r.any=true/\nq0 P n ops ops.toList=some (r.any.map (·.1)++r.rest)/\r.free=freeL ops r.any
def vcDR (P:Program) (env:Env) (hp:Hp) (r:DReg) (K:Env->Hp->Prop) (Kp:V->Hp->Prop):Prop :=
 vcD P (newS r.any) (fun env' hp'=>vcIs P env' hp' r.rest K Kp) Kp 0 r.any (Env.g60 (newS r.any) env) (Hp.g60 (newS r.any) hp) []
theorem wpAny_first {ops:Array Oper} {is:List (I × List Nat)} {rest:List I} {es:List Ent} {Kp:V->Hp->Prop} {K:Env->Hp->Prop} {H0:Imm} {μ0:Mu} {a0:Act} {w0:World} {Q:Exit->Act->World->Prop}
  (hok:lK0 ops is=true) (hT:Tab P n ops (newS is) Kp none 0 is env hp [] es) (hK:(∀ (k:Nat) (e:Ent),es[k]?=some e->∃ v f,e=.val v f)->vcIs P (envs is es env is.length) (hps es hp is.length) rest K Kp) (h0:Sat n H0 μ0 env hp a0 w0)
  (hno:∀ id:Id,id.inS (newS is)=true->hp.lookup id=none)
  (hget:∀ (k:Nat) (i:I × List Nat),is[k]?=some i->∃ o,ops[k]?=some o/\fC0 P n ops o=some i.1) (hlen:is.length + rest.length=ops.size)
  (hget2:∀ (k:Nat) (i:I),rest[k]?=some i->∃ o,ops[is.length + k]?=some o/\fC0 P n ops o=some i)
  (hQp:∀ v x hp' H' μ' a' w',Kp v hp'->R H' μ' v x->Nx H0 μ0 hp w0 H' μ' hp' w'->Wd H' μ' hp' w'->a'.defers=n.ds->a'.tmps.size=n.n->Kept ops a0 a'->Q (.panic [{ v:=x,recovered:=false }]) a' w')
  (hQ:∀ env' hp' H' μ' a' w',K env' hp'->Sat n H' μ' env' hp' a' w'->Nx H0 μ0 hp w0 H' μ' hp' w'->Q .normal a' w') :
  ∀ (fuel:Nat) (listed:Array Bool) (a:Act) (w:World),unl ops listed<=fuel->Good n ops is es hp H0 μ0 a0 w0 listed a w->wpAny P .any ops Q fuel listed a w:=by
 simp only [lK0,Bool.and_eq_true,decide_eq_true_eq] at hok
 obtain ⟨⟨⟨⟨hb,hl0⟩,hs⟩,hd⟩,ht⟩:=hok
 have hkept:∀ {listed:Array Bool} {a:Act} {w:World},Good n ops is es hp H0 μ0 a0 w0 listed a w->Kept ops a0 a:=fun {listed a w} hG t ht =>
  hG.old t fun j i hj _ hd'=>by
   obtain ⟨o,ho,hc⟩:=hget j i hj
   obtain ⟨_,c2,_⟩:=de0 hc
   exact ht j o ho (by rw [c2]; exact hd')
 have fin:∀ (fuel:Nat) (listed:Array Bool) (a:Act) (w:World),unl ops listed<=fuel->Good n ops is es hp H0 μ0 a0 w0 listed a w->(∀ j,j < is.length->listed.getD j true=true)->wpAny P .any ops Q fuel listed a w:=by
  intro fuel listed a w hf hG hall
  obtain ⟨e,H,μ,k1,k2⟩:=hG.done hT h0 hall
  refine oc0 hb fuel is.length listed rest _ _ ⟨hG.size,fun j hj=>?_⟩ hG.closed (fun i j h1 h2 h3=>jx0 ht h1 h2 h3) hlen hf hget2 (hK e) H μ a w Q k1
   (fun v x hp' H' μ' a' w' q1 q2 q3 q4 q5 q6 q7=>hQp v x hp' H' μ' a' w' q1 q2 (k2.trans q3) q4 q5 q6 ((hkept hG).trans q7)) (fun env' hp' H' μ' a' w' q1 q2 q3=>hQ env' hp' H' μ' a' w' q1 q2 (k2.trans q3))
  by_cases hj2:j < is.length
  ·rw [hall j hj2,decide_eq_true hj2]
  ·rw [hG.low j (by omega) hj,decide_eq_false hj2]
 intro fuel
 induction fuel with
 | zero =>
  intro listed a w hf hG
  exact fin 0 listed a w hf hG fun j hj=>o80 (Nat.le_zero.1 hf) (by omega)
 | succ fuel ih =>
  intro listed a w hf hG
  by_cases hall:∀ j,j < is.length->listed.getD j true=true
  ·exact fin (fuel + 1) listed a w hf hG hall
  ·-- some are left: the first of them is ready
   have hex:∃ j,j < is.length/\listed.getD j true=false/\∀ q,q < j->listed.getD q true=true:=by
    apply Classical.byContradiction
    intro hn
    refine hall fun j=>?_
    induction j using Nat.strongRecOn with
    | _ j ihj =>
     intro hj
     cases e:listed.getD j true with
     | true=>rfl
     | false=>exact absurd ⟨j,hj,e,fun q hq=>ihj q hq (by omega)⟩ hn
   refine ⟨fun hr=>?_,fun m hm=>?_⟩
   ·obtain ⟨j,j1,j2,j3⟩:=hex
    have hjs:j < ops.size:=by omega
    have:j ∈ Region.ready .any ops listed:=mem_ready.2 ⟨j2,ops[j],Array.getElem?_eq_getElem hjs,fun e he hbe=>by
     have hlt:=hg0 hb (Array.getElem?_eq_getElem hjs) e (by simpa using he) hbe
     have:=j3 e.on hlt
     have h2:e.on < listed.size:=by rw [hG.size]; omega
     simp [Array.getD,h2] at this ⊢
     exact this⟩
    rw [hr] at this; simp at this
   ·obtain ⟨m1,m2⟩:=jr0 hm
    obtain ⟨r1,o,r2,r3⟩:=mem_ready.1 hm
    have hml:m < is.length:=by
     apply Classical.byContradiction
     intro hn
     obtain ⟨j,j1,j2,_⟩:=hex
     have:=ba0 hb hG.size hG.closed m j o r2 r3 (jx0 ht (by omega) m1 (by omega))
     rw [j2] at this; cases this
    have hi:is[m]?=some is[m]:=List.getElem?_eq_getElem hml
    obtain ⟨H,μ,hpD,hM⟩:=hG.mem
    obtain ⟨o',ho',hc⟩:=hget m _ hi
    rw [r2] at ho'; injection ho' with ho'; subst ho'
    obtain ⟨c1,c2,c3,c4⟩:=de0 hc
    have he:es[m]?=some es[m]! := by
     have:m < es.length:=by rw [hT.len]; exact hml
     simp [this]
    have t1:=hT.get m _ _ hi he
    have t2:=hT.skips m _ hi
    rw [Nat.zero_add] at t1
    have hdlt:∀ s,(is[m]).1.d=some s->s < n:=fun s e=>c3 s (by rw [c2]; exact e)
    have look:∀ {t:Nat},t ∈ (is[m]).1.reads->∀ {u:V},(envs is es env m).lookup t=some u->R H μ u (a.tmps.getD t undef) :=
     fun {t} ht' {u} hu=>hG.look hT h0 hb hs hl0 hi hm hM ht' hu
    have argsOk:∀ x ∈ (is[m]).1.op.args,∀ u,Env.ev (envs is es env m) x=some u->R H μ u (a.eval x):=by
     intro x hx u hu
     cases x with
     | tmp t=>exact look (List.mem_append_left _ (List.mem_filterMap.2 ⟨.tmp t,hx,rfl⟩)) hu
     | _=>exact ch0 (env:=[]) (hp:=hpD) (n:=n) (w:=w) ⟨hG.defers,hG.tmps,(fun s v h=>by cases h),hM.wd⟩ hu
    have hun:unl ops (listed.setIfInBounds m true)<=fuel:=by have:=o70 hG.size m1 m2; omega
    have agree:∀ {id:Id} {en:Ent},es[m]?=some en->id ∈ tchE en->effE en=true->hpD.lookup id=(hps es hp m).lookup id:=fun {id en} hen hid hf=>by
     obtain ⟨A,B⟩:=hG.AB hT hb hs hd hl0 hi hen hm (.inl hid) hf
     exact hM.content hT (by omega) A B
    have frees:∀ {id:Id} {en:Ent},es[m]?=some en->id.at (ndE (is[m]).1.d en)=true->μ id=none/\hpD.lookup id=none/\(hps es hp m).lookup id=none:=fun {id en} hen hid=>by
     obtain ⟨q1,q2⟩:=hM.free m _ en id hi hen m2 hid
     exact ⟨q1,q2,(hT.free0 hs hno hi hen hid).2⟩
    have onval:∀ {v e},es[m]?=some (.val v e)->oe0 P n o (hps es hp m) (envs is es env m) (is[m]).1.op.args v e->o.wp P a w (wpAny P .any ops Q fuel (listed.setIfInBounds m true)) Q:=by
     intro v e hes hn
     refine Oper.wp_mono (fun a' w' hh=>?_) (hn H μ a w hpD Q hG.defers hG.tmps argsOk (fun id hid=>agree hes hid (by cases e with | none=>simp [Eff.tch] at hid | some f=>rfl)) hM.wd (fun id hid=>frees hes (by rw [c2] at hid; exact hid)))
     obtain ⟨x,H',μ',hp2,rfl,k2,k3,k4,k5,k6⟩:=hh
     refine ih _ _ _ hun ?_
     rw [c2] at k2 k3 k4 ⊢
     exact hG.step hT hb hs hd hl0 hi hm hdlt hM hes k2 k3 k4 k5 k6
    have onpan:∀ {v e},es[m]?=some (.pan v e)->rK0 P n o (hps es hp m) (envs is es env m) (is[m]).1.op.args v e->Fits (hps es hp m) none e->(∀ f,e=some f->f.nw=false/\f.rd=[])->o.wp P a w (wpAny P .any ops Q fuel (listed.setIfInBounds m true)) Q:=by
     intro v e hes hn hfits hnw
     have htch:∀ id,id ∈ Eff.tch e->id ∈ tchE (.pan v e):=by
      intro id hid
      cases e with
      | none=>exact hid
      | some f=>simp only [Eff.tch,(hnw f rfl).2,List.nil_append] at hid; exact hid
     obtain ⟨_,hkp,_,b4,b5⟩:=hT.pans m _ v e hi hes
     refine Oper.wp_mono (fun a' w' hh=>hh.elim) (hn H μ a w hpD Q hG.defers hG.tmps argsOk (fun id hid=>agree hes (htch id hid) rfl) hM.wd (fun id hid=>frees hes (by rw [c2] at hid; exact hid)) ?_)
     intro x H' μ' hp2 w' q1 q2 q3 q4
     have hsub:∀ id ob,(Hp.outS (newS is) (hps es hp (m + 1))).lookup id=some ob->hp2.lookup id=some ob:=by
      intro id ob hl
      unfold Hp.outS at hl
      rw [cP0 (fun i=>!i.inS (newS is))] at hl
      split at hl
      ·rename_i hout
       have hout:id.inS (newS is)=false:=by simpa using hout
       rw [rc0 hes] at hl
       rw [q2 id]
       split
       ·exact hl
       ·rename_i hnw'
        have h1:(Eff.after (hps es hp m) e).lookup id=(hps es hp m).lookup id:=hfits id (by simpa using hnw')
        have hl:(Eff.after (hps es hp m) e).lookup id=some ob:=hl
        rw [h1] at hl
        rw [hM.content (m:=m) hT (by omega) (fun k hk hw=>?_) (fun k hk hlk hw=>?_)]
        ·exact hl
        ·obtain ⟨ik,ek,h1,h2,h3⟩:=hw
         rcases (gy0 h3).1 with h4 | h4
         ·rcases b4 k ek hk h2 with h5 | h5
          ·rw [h5] at h4; simp at h4
          ·rw [Nat.zero_add] at h5
           exact ba0 hb hG.size hG.closed m k o r2 r3 (hu0 hd hi (by simpa using h5)).2
         ·rw [(hT.free0 hs hno h1 h2 h4).1] at hout; cases hout
        ·obtain ⟨ik,ek,h1,h2,h3⟩:=hw
         apply Classical.byContradiction
         intro hkn
         have hmk:m < k:=by
                    rcases Nat.lt_or_ge m k with h | h
                    ·exact h
                    ·have:k=m:=by omega
                     subst this; rw [m2] at hlk; cases hlk
         rcases (gy0 h3).1 with h4 | h4
         ·rcases b5 k ik ek hmk h1 h2 with h5 | h5
          ·subst h5; cases h3
          ·rw [h5] at h4; simp at h4
         ·rw [(hT.free0 hs hno h1 h2 h4).1] at hout; cases hout
      ·cases hl
     exact hQp v x _ H' μ' a w' hkp q1 ((hM.nx.trans q4).sub hsub) (q3.sub hsub) hG.defers hG.tmps (hkept hG)
    have onskip:∀ {v},es[m]?=some (.val v none)->v=V.und->¬ Region.wanted o (yielded ops a.tmps)=true->wpAny P .any ops Q fuel (listed.setIfInBounds m true) (a.put o.dst undef) w:=by
     intro v hes hv hw
     refine ih _ _ _ hun ?_
     rw [c2]
     subst hv
     exact hG.step hT hb hs hd hl0 hi hm hdlt hM hes (fun _=>.c _) (.refl _ _) (fun id=>by rw [if_neg]; simp [Eff.wrote,Eff.wrs,Eff.nd]; cases id <;> rfl) hM.wd (Nx.refl H μ hpD w)
    have hyield:∀ {s want b},(is[m]).1.g=some (s,want)->(envs is es env m).lookup s=some (.c (.bool b))->(Region.wanted o (yielded ops a.tmps)=true ↔ b=want):=by
     intro s want b hg hb'
     rcases c4 with ⟨_,q2⟩ | ⟨q,want',s',q1,q2,q3,q4⟩
     ·rw [q2] at hg; cases hg
     ·rw [q4] at hg; injection hg with hg; injection hg with e1 e2; subst e1; subst e2
      have hv:=(look (List.mem_append_right _ (by rw [q4]; simp)) hb').bS0
      have hy:=sG0 q2 (by rw [hG.tmps]; exact q3) hv
      simp [Region.wanted,q1,hy]
    have hwant:(is[m]).1.g=none->Region.wanted o (yielded ops a.tmps)=true:=by
     intro hg
     rcases c4 with ⟨q1,_⟩ | ⟨q,want',s',q1,q2,q3,q4⟩
     ·simp [Region.wanted,q1]
     ·rw [q4] at hg; cases hg
    cases hes:es[m]! with
    | skip =>
     exfalso
     rw [hes] at he
     rcases t2 he with ⟨q,hq,_⟩ | ⟨q,v,e,q1,q2,q3⟩
     ·cases hq
     ·rw [Nat.zero_add] at q3
      obtain ⟨_,d2⟩:=hu0 hd hi (by simpa using q3)
      have:=ba0 hb hG.size hG.closed m q o r2 r3 d2
      obtain ⟨v',no',e1,_⟩:=hM.vals q is[q] (List.getElem?_eq_getElem (by omega)) this
      rw [q2] at e1; simp at e1
    | val v e =>
     rw [hes] at t1 he
     obtain ⟨o',ho',_,_,t1⟩:=t1
     rw [r2] at ho'; injection ho' with ho'; subst ho'
     rcases t1 with ⟨g,hn⟩ | ⟨s,b,want,g,hbv,(⟨hbw,hn⟩ | ⟨hbw,hv,hno'⟩)⟩ | ⟨s,gx,want,g,hbv,hv,hno'⟩
     ·exact fM0 r2 (fun _=>onval he hn) fun hw=>absurd (hwant g) hw
     ·exact fM0 r2 (fun _=>onval he hn) fun hw=>absurd ((hyield g hbv).2 hbw) hw
     ·subst hno'
      exact fM0 r2 (fun hw=>absurd ((hyield g hbv).1 hw) hbw) fun hw=>onskip he hv hw
     ·subst hno'
      have hnot:¬ Region.wanted o (yielded ops a.tmps)=true:=by
       rcases c4 with ⟨_,q2⟩ | ⟨q,want',s',q1,q2,q3,q4⟩
       ·rw [q2] at g; cases g
       ·rw [q4] at g; injection g with g; injection g with e1 e2; subst e1; subst e2
        have hv':=(look (List.mem_append_right _ (by rw [q4]; simp)) hbv).bS0
        have hlt:s' < a.tmps.size:=by rw [hG.tmps]; exact q3
        have hy:yielded ops a.tmps q=none:=by
         unfold yielded
         rw [q2]
         have:a.tmps[s']?=some (.tuple gx):=by
                    rw [Array.getD_eq_getD_getElem?] at hv'
                    rw [Array.getElem?_eq_getElem hlt] at hv' ⊢
                    simpa using hv'
         simp [this]
        simp [Region.wanted,q1,hy]
      exact fM0 r2 (fun hw=>absurd hw hnot) fun hw=>onskip he hv hw
    | pan v e =>
     rw [hes] at t1 he
     obtain ⟨o',ho',k1,k2,_,t1⟩:=t1
     rw [r2] at ho'; injection ho' with ho'; subst ho'
     rcases t1 with ⟨g,hn⟩ | ⟨s,want,g,hbv,hn⟩
     ·exact fM0 r2 (fun _=>onpan he hn k1 k2) fun hw=>absurd (hwant g) hw
     ·exact fM0 r2 (fun _=>onpan he hn k1 k2) fun hw=>absurd ((hyield g hbv).2 rfl) hw
theorem r60 {ops:Array Oper} {is:List (I × List Nat)} {es:List Ent} {Kp:V->Hp->Prop} {H0:Imm} {μ0:Mu} (h0:Sat n H0 μ0 env hp a w) (hT:Tab P n ops (newS is) Kp none 0 is env hp [] es) (hs:o30 ops is=true) (hno:∀ id:Id,id.inS (newS is)=true->hp.lookup id=none)
  (hμ:∀ id:Id,id.inS (newS is)=true->μ0 id=none) (hl0:is.length<=ops.size):Good n ops is es hp H0 μ0 a w (Array.replicate ops.size false) a w:=by
 have hf:∀ j,j < ops.size->(Array.replicate ops.size false).getD j true=false:=fun j hj=>by simp [Array.getD,hj]
 refine ⟨by simp,lI0 ops,fun j _ hj=>hf j hj,h0.defers,h0.size,⟨H0,μ0,hp,h0.wd,Nx.refl H0 μ0 hp w,Mu.le_refl _,fun j i hj hl=>?_,fun j i e id hj he hl ha=>?_,fun id _=>rfl,fun id k hl hk=>?_⟩,fun _ _=>rfl⟩
 ·rw [hf j (by have:=(List.getElem?_eq_some_iff.1 hj).1; omega)] at hl; cases hl
 ·have:=(hT.free0 hs hno hj he ha).1
  exact ⟨hμ id this,hno id this⟩
 ·rw [hf k (by omega)] at hl; cases hl
theorem vcDR_ok {ops:Array Oper} {r:DReg} {Kp:V->Hp->Prop} {K:Env->Hp->Prop} (hc:compD P n ops r) (h:vcDR P env hp r K Kp) :
  ∀ H μ a w (Q:Exit->Act->World->Prop),Sat n H μ env hp a w ->
   (∀ v x hp' H' μ' a' w',Kp v hp'->R H' μ' v x->Nx H μ hp w H' μ' hp' w'->Wd H' μ' hp' w'->a'.defers=n.ds->a'.tmps.size=n.n->Kept ops a a'->Q (.panic [{ v:=x,recovered:=false }]) a' w') ->
   (∀ env' hp' H' μ' a' w',K env' hp'->Sat n H' μ' env' hp' a' w'->Nx H μ hp w H' μ' hp' w'->Q .normal a' w') ->
   wpAny P .any ops Q ops.size (Array.replicate ops.size false) a w:=by
 intro H μ a w Q hS hQp hQ
 obtain ⟨hok,hcr,_⟩:=hc
 obtain ⟨c1,c2⟩:=ht0 hcr
 have hok':=hok
 simp only [lK0,Bool.and_eq_true,decide_eq_true_eq] at hok'
 have hl0:=hok'.1.1.1.2
 have hlen:r.any.length + r.rest.length=ops.size:=by simpa using c1
 have hgetAll:∀ (k:Nat) (i:I),(r.any.map (·.1)++r.rest)[k]?=some i->∃ o,ops[k]?=some o/\fC0 P n ops o=some i:=by
  intro k i hk
  have hk':k < ops.size:=by
   have:=(List.getElem?_eq_some_iff.1 hk).1
   simp at this; omega
  obtain ⟨i',h1,h2⟩:=c2 k ops[k] (by simp [hk'])
  rw [hk] at h1; injection h1 with h1; subst h1
  exact ⟨ops[k],Array.getElem?_eq_getElem hk',h2⟩
 have hget:∀ (k:Nat) (i:I × List Nat),r.any[k]?=some i->∃ o,ops[k]?=some o/\fC0 P n ops o=some i.1:=by
  intro k i hk
  refine hgetAll k i.1 ?_
  have hlt:=(List.getElem?_eq_some_iff.1 hk).1
  rw [List.getElem?_append_left (by simpa using hlt),List.getElem?_map,hk]; rfl
 have hget2:∀ (k:Nat) (i:I),r.rest[k]?=some i->∃ o,ops[r.any.length + k]?=some o/\fC0 P n ops o=some i:=by
  intro k i hk
  refine hgetAll _ i ?_
  rw [List.getElem?_append_right (by simp)]
  simpa using hk
 obtain ⟨s1,s2⟩:=hS.cleanS (newS r.any)
 have hno:∀ id:Id,id.inS (newS r.any)=true->(Hp.g60 (newS r.any) hp).lookup id=none:=fun id hid=>by rw [kP0,if_pos hid]
 obtain ⟨es,t1,t2⟩:=tab_of r.any 0 _ _ [] (fun k i hk=>by rw [Nat.zero_add]; exact hget k i hk) h
 refine wpAny_first hok t1 t2 s1 hno hget hlen hget2 (fun v x hp' H' μ' a' w' q1 q2 q3 q4 q5 q6 q7=>hQp v x hp' H' μ' a' w' q1 q2 (s2.trans q3) q4 q5 q6 q7)
  (fun env' hp' H' μ' a' w' q1 q2 q3=>hQ env' hp' H' μ' a' w' q1 q2 (s2.trans q3)) ops.size _ a w ?_ (r60 s1 t1 hok'.1.1.2 hno (fun id hid=>Mu.cutS_in hid) hl0)
 unfold unl
 exact Nat.le_trans (List.length_filter_le _ _) (by simp)
end Go.Am
end

section
namespace Go.Am
variable {P:Program} {n:Sz} {H:Imm} {μ:Mu} {env:Env} {hp:Hp} {a:Act} {w:World}
inductive AT where
 | done
 | nil
 | alt (i:I) (sub more:AT)
 | take (i:I) (sub:AT)
def AT.alts (f:Nat × I × List Nat->AT):List (Nat × I × List Nat)->AT
 | []=>.nil
 | x :: xs=>.alt x.2.1 (f x) (AT.alts f xs)
def qo0 (rem:List (Nat × I × List Nat)) (x:Nat × I × List Nat):Bool:=rem.all fun y=>!x.2.2.contains y.1
def jT0 (rem:List (Nat × I × List Nat)) (k:Nat):List (Nat × I × List Nat):=rem.filter fun y=>y.1 != k
def mkAT (free:List Nat):Nat->List (Nat × I × List Nat)->AT
 | 0,_=>.done
 | _ + 1,[]=>.done
 | f + 1,x :: xs=>match ((x :: xs).filter (qo0 (x :: xs))).find? (fun y=>free.contains y.1) with
  | some y=>.take y.2.1 (mkAT free f (jT0 (x :: xs) y.1))
  | none=>AT.alts (fun y=>mkAT free f (jT0 (x :: xs) y.1)) ((x :: xs).filter (qo0 (x :: xs)))
def vcT (P:Program) (K:Env->Hp->Prop) (Kp:V->Hp->Prop):AT->Env->Hp->Prop
 | .done,env,hp=>K env hp
 | .nil,_,_=>True
 | .alt i sub more,env,hp=>vcI P env hp i (fun e h=>vcT P K Kp sub e h) Kp/\vcT P K Kp more env hp
 | .take i sub,env,hp=>vcI P env hp i (fun e h=>vcT P K Kp sub e h) Kp
theorem rF0 {K:Env->Hp->Prop} {Kp:V->Hp->Prop} {f:Nat × I × List Nat->AT}:∀ {l:List (Nat × I × List Nat)},vcT P K Kp (AT.alts f l) env hp->∀ x ∈ l,vcI P env hp x.2.1 (fun e h=>vcT P K Kp (f x) e h) Kp
 | [],_,x,hx=>by simp at hx
 | y :: l,h,x,hx=>by
  rcases List.mem_cons.1 hx with rfl | hx
  ·exact h.1
  ·exact rF0 h.2 x hx
theorem faV_all {s f off sz:Nat} {b:Bool} (hf:lf0 P s f=some (off,sz,b)) (hz:sz ≠ 0) {v:V} {p:Value} {K:V->Prop} (hv:R H μ v p) (h:faV off v K) :
  ∃ u y,K u/\R H μ u y/\∀ w,(Instr.fieldAt s p f).run P w=.ok y w:=by
 obtain ⟨fs,fld,d,hs,hfld,hd,rfl,rfl,rfl⟩:=gK0 hf
 have hrun:∀ (ad:Addr) (w:World),(Instr.fieldAt s (.pointer (some ad)) f).run P w=.ok (.pointer (some (ad.add fld.offset))) w:=fun ad w=>by
  simp [Instr.fieldAt,run_underlying hs,hfld,Instr.sureAddr,fieldPlace,run_sizeOf hd,hz]
 have hadd:∀ b o:Nat,(⟨b,o,none⟩:Addr).add fld.offset=⟨b,o + fld.offset,none⟩:=fun b o=>by unfold Addr.add; split <;> simp_all
 unfold faV at h
 split at h
 ·cases hv with
  | rp cs b off cv hm hr =>
   refine ⟨_,_,h,.rp _ b (off + fld.offset) (fun j=>cv (fld.offset + j)) (fun j v hj=>?_) (fun j v hj=>?_),fun w=>by rw [hrun,hadd]⟩
   ·rw [List.getElem?_drop] at hj
    obtain ⟨blk,h1,h2⟩:=hm _ v hj
    exact ⟨blk,h1,by rw [Nat.add_assoc]; exact h2⟩
   ·rw [List.getElem?_drop] at hj; exact hr _ v hj
 ·cases hv with
  | bp _ _ blk hb=>exact ⟨_,_,h,.bp _ _ blk hb,fun w=>by rw [hrun,hadd]⟩
 ·cases hv with
  | ep _ _ _ blk hb=>exact ⟨_,_,h,.ep _ _ _ blk hb,fun w=>by rw [hrun,hadd,Nat.add_assoc]⟩
 ·exact h.elim
theorem pure3_ok {ops:Array Oper} {o:Oper} {i:I} {K:Env->Hp->Prop} {Kp:V->Hp->Prop} (hc:fC0 P n ops o=some i) (hp3:pure3 o=true) (hS:Sat n H μ env hp a w) (h:vcI P env hp i K Kp) :
  ∃ v x,K (env.put i.d v) hp/\R H μ v x/\Yields P ops o x a:=by
 obtain ⟨h1,h2,h3,h4⟩:=de0 hc
 obtain ⟨d,g,op⟩:=i
 simp only [pure3,Bool.and_eq_true,Option.isNone_iff_eq_none] at hp3
 obtain ⟨hg,hop⟩:=hp3
 have hw:Region.wanted o (yielded ops a.tmps)=true:=by simp [Region.wanted,hg]
 have hgn:g=none:=by
  rcases h4 with ⟨_,g1⟩ | ⟨_,_,_,g1,_⟩
  ·exact g1
  ·rw [hg] at g1; cases g1
 subst hgn
 have hρ:=rho hS
 simp only [vcI] at h
 clear h2 h3 h4 hc hg
 obtain ⟨dst,op',type,pos,after,guard⟩:=o
 simp only at h1 hop
 unfold Yields
 cases op' <;> simp only [comp] at h1 <;> try (simp at hop; done)
 case move x =>
  simp only [Option.some.injEq] at h1; subst h1
  obtain ⟨v,k1,k2⟩:=h
  exact ⟨v,a.eval x,k2,hρ _ _ k1,.inl ⟨hw,fun w'=>rfl⟩⟩
 case assign x =>
  simp only [Option.some.injEq] at h1; subst h1
  obtain ⟨v,k1,k2⟩:=h
  exact ⟨v,a.eval x,k2,hρ _ _ k1,.inl ⟨hw,fun w'=>rfl⟩⟩
 case nilCheck x =>
  simp only [Option.some.injEq] at h1; subst h1
  obtain ⟨v,k1,k2⟩:=h
  obtain ⟨m1,m2⟩:=rj0 (hρ _ _ k1) k2
  refine ⟨v,a.eval x,m1,hρ _ _ k1,.inl ⟨hw,fun w'=>?_⟩⟩
  rcases m2 with ⟨ad,e⟩ | ⟨f,cs,e⟩ <;> simp [execOp,e]
 case fieldAddr s x f =>
  split at h1
  ·rename_i off sz b hf
   split at h1
   ·cases h1
   ·rename_i hz
    simp only [Option.some.injEq] at h1; subst h1
    obtain ⟨v,k1,k2⟩:=h
    obtain ⟨u,y,m1,m2,m3⟩:=faV_all hf hz (hρ _ _ k1) k2
    exact ⟨u,y,m1,m2,.inl ⟨hw,fun w'=>by simp [execOp,m3]⟩⟩
  ·cases h1
theorem nL0 {o:Oper} {io:IOp} (h:comp P o=some io) (cs:Array SelectCase) (b:Bool):o.op ≠ .select cs b:=by
 intro e
 simp [comp,e] at h
theorem q10 {ops:Array Oper} {Q:Exit->Act->World->Prop} (hb:ms0 ops=true) {i:Nat} {oi:Oper} {v:Value} (hi:ops[i]?=some oi) (hsel:∀ (j:Nat) (o:Oper) cs b,ops[j]?=some o->o.op ≠ .select cs b)
  (hQ:∀ c a w,Q (.panic c) (a.put oi.dst v) w->Q (.panic c) a w) (hfree:∀ j oj,ops[j]?=some oj->j ≠ i->ahead ops i j=false->ahead ops j i=false->oi.apart ops oj=true) :
  ∀ (fuel:Nat) (listed:Array Bool) (a:Act) (w:World),listed.size=ops.size->if0 ops listed ->
   i ∈ Region.ready .any ops listed->Yields P ops oi v a ->
   wpAny P .any ops Q fuel (listed.setIfInBounds i true) (a.put oi.dst v) w->wpAny P .any ops Q (fuel + 1) listed a w:=by
 intro fuel
 induction fuel with
 | zero =>
  intro listed a w hsz hcl hr hy H
  refine ⟨fun h=>(by rw [h] at hr; cases hr),fun j hj=>?_⟩
  by_cases hji:j=i
  ·subst hji; exact hy.wpOp hi H
  ·have:=ready_mono hj hji
   rw [H.1] at this
   cases this
 | succ fuel ih =>
  intro listed a w hsz hcl hr hy H
  refine ⟨fun h=>(by rw [h] at hr; cases hr),fun j hj=>?_⟩
  by_cases hji:j=i
  ·subst hji; exact hy.wpOp hi H
  ·have h1:=H.2 j (ready_mono hj hji)
   obtain ⟨hjun,oj,hoj,hall⟩:=mem_ready.1 hj
   have hnot:ahead ops i j=false:=by
    cases e:ahead ops i j with
    | false=>rfl
    | true =>
     have:=ba0 hb hsz hcl j i oj hoj hall e
     rw [(mem_ready.1 hr).1] at this; cases this
   have hnot2:ahead ops j i=false:=by
    cases e:ahead ops j i with
    | false=>rfl
    | true =>
     obtain ⟨_,oi',hoi',hall'⟩:=mem_ready.1 hr
     have:=ba0 hb hsz hcl i j oi' hoi' hall' e
     rw [hjun] at this; cases this
   have h2:=wpOp_put hoj (hfree j oj hoj hji hnot hnot2) (fun cs b=>hsel i oi cs b hi) (fun cs b=>hsel j oj cs b hoj) hQ hy h1
   refine wpOp_mono (fun a' w' h3=>ih (listed.setIfInBounds j true) a' w' (by simpa using hsz) (hS0 hsz hcl hj) (ready_mono hr (Ne.symm hji)) h3.1 ?_) h2
   rw [Array.setIfInBounds_comm _ _ hji]
   exact h3.2
structure Left (is:List (I × List Nat)) (listed:Array Bool) (rem:List (Nat × I × List Nat)):Prop where
 mem:∀ k,k < is.length->listed.getD k true=false->∃ i,is[k]?=some i/\(k,i) ∈ rem
 un:∀ x ∈ rem,x.1 < is.length/\listed.getD x.1 true=false/\is[x.1]?=some x.2
theorem Left.uniq {is:List (I × List Nat)} {listed:Array Bool} {rem:List (Nat × I × List Nat)} (h:Left is listed rem) (x:Nat × I × List Nat) (hx:x ∈ rem) (y:Nat × I × List Nat) (hy:y ∈ rem) (e:x.1=y.1):x=y:=by
 have h1:=(h.un x hx).2.2
 have h2:=(h.un y hy).2.2
 rw [e,h2] at h1
 injection h1 with h1
 exact Prod.ext e h1.symm
theorem qj0 {ops:Array Oper} {is:List (I × List Nat)} {rest:List I} {free:List Nat} {Kp:V->Hp->Prop} {K:Env->Hp->Prop} (hok:lK0 ops is=true)
  (hget:∀ (k:Nat) (i:I × List Nat),is[k]?=some i->∃ o,ops[k]?=some o/\fC0 P n ops o=some i.1) (hlen:is.length + rest.length=ops.size)
  (hget2:∀ (k:Nat) (i:I),rest[k]?=some i->∃ o,ops[is.length + k]?=some o/\fC0 P n ops o=some i) (hfr:free=freeL ops is) :
  ∀ (fuel f:Nat) (listed:Array Bool) (rem:List (Nat × I × List Nat)) (env:Env) (hp:Hp),listed.size=ops.size->if0 ops listed->(∀ j,is.length<=j->j < ops.size->listed.getD j true=false) ->
   Left is listed rem->rem.length<=f->unl ops listed<=fuel->vcT P (fun e h=>vcIs P e h rest K Kp) Kp (mkAT free f rem) env hp ->
  ∀ H μ a w (Q:Exit->Act->World->Prop),(∀ (k:Nat) (o:Oper) c (a:Act) w x,ops[k]?=some o->Q (.panic c) (a.put o.dst x) w->Q (.panic c) a w)->Sat n H μ env hp a w ->
   (∀ v x hp' H' μ' a' w',Kp v hp'->R H' μ' v x->Nx H μ hp w H' μ' hp' w'->Wd H' μ' hp' w'->a'.defers=n.ds->a'.tmps.size=n.n->Kept ops a a'->Q (.panic [{ v:=x,recovered:=false }]) a' w') ->
   (∀ env' hp' H' μ' a' w',K env' hp'->Sat n H' μ' env' hp' a' w'->Nx H μ hp w H' μ' hp' w'->Q .normal a' w') ->
   wpAny P .any ops Q fuel listed a w:=by
 simp only [lK0,Bool.and_eq_true,decide_eq_true_eq] at hok
 obtain ⟨⟨⟨⟨hb,hl0⟩,hs⟩,hd⟩,ht⟩:=hok
 have fin:∀ (fuel f:Nat) (listed:Array Bool) (rem:List (Nat × I × List Nat)) (env:Env) (hp:Hp),listed.size=ops.size->if0 ops listed->(∀ j,is.length<=j->j < ops.size->listed.getD j true=false) ->
   Left is listed rem->unl ops listed<=fuel->vcT P (fun e h=>vcIs P e h rest K Kp) Kp (mkAT free f rem) env hp->(∀ j,j < is.length->listed.getD j true=true) ->
  ∀ H μ a w (Q:Exit->Act->World->Prop),(∀ (k:Nat) (o:Oper) c (a:Act) w x,ops[k]?=some o->Q (.panic c) (a.put o.dst x) w->Q (.panic c) a w)->Sat n H μ env hp a w ->
   (∀ v x hp' H' μ' a' w',Kp v hp'->R H' μ' v x->Nx H μ hp w H' μ' hp' w'->Wd H' μ' hp' w'->a'.defers=n.ds->a'.tmps.size=n.n->Kept ops a a'->Q (.panic [{ v:=x,recovered:=false }]) a' w') ->
   (∀ env' hp' H' μ' a' w',K env' hp'->Sat n H' μ' env' hp' a' w'->Nx H μ hp w H' μ' hp' w'->Q .normal a' w') ->
   wpAny P .any ops Q fuel listed a w:=by
  intro fuel f listed rem env hp hsz hcl hlow hL hf h hall
  have hr:rem=[]:=by
   cases rem with
   | nil=>rfl
   | cons x xs=>obtain ⟨h1,h2,_⟩:=hL.un x (by simp); rw [hall _ h1] at h2; cases h2
  subst hr
  have h':vcIs P env hp rest K Kp:=by cases f <;> exact h
  intro H μ a w Q _
  refine oc0 hb fuel is.length listed rest env hp ⟨hsz,fun j hj=>?_⟩ hcl (fun i j h1 h2 h3=>jx0 ht h1 h2 h3) hlen hf hget2 h' H μ a w Q
  by_cases hj2:j < is.length
  ·rw [hall j hj2,decide_eq_true hj2]
  ·rw [hlow j (by omega) hj,decide_eq_false hj2]
 intro fuel
 induction fuel with
 | zero =>
  intro f listed rem env hp hsz hcl hlow hL hf hu h
  exact fin 0 f listed rem env hp hsz hcl hlow hL hu h fun j hj=>o80 (Nat.le_zero.1 hu) (by omega)
 | succ fuel ih =>
  intro f listed rem env hp hsz hcl hlow hL hf hu h H μ a w Q hQs hS hQp hQ
  by_cases hall:∀ j,j < is.length->listed.getD j true=true
  ·exact fin (fuel + 1) f listed rem env hp hsz hcl hlow hL hu h hall H μ a w Q hQs hS hQp hQ
  ·have hex:∃ j,j < is.length/\listed.getD j true=false/\∀ q,q < j->listed.getD q true=true:=by
    apply Classical.byContradiction
    intro hn
    refine hall fun j=>?_
    induction j using Nat.strongRecOn with
    | _ j ihj =>
     intro hj
     cases e:listed.getD j true with
     | true=>rfl
     | false=>exact absurd ⟨j,hj,e,fun q hq=>ihj q hq (by omega)⟩ hn
   obtain ⟨j0,j01,j02,j03⟩:=id hex
   obtain ⟨i0,hi0,hmem0⟩:=hL.mem j0 j01 j02
   cases f with
   | zero=>have:rem=[]:=List.eq_nil_of_length_eq_zero (by omega)
           subst this; simp at hmem0
   | succ f =>
   have step:∀ {m:Nat} {i:I × List Nat},is[m]?=some i->(m,i) ∈ rem->m ∈ Region.ready .any ops listed ->
     listed.size=(listed.setIfInBounds m true).size/\if0 ops (listed.setIfInBounds m true)/\(∀ j,is.length<=j->j < ops.size->(listed.setIfInBounds m true).getD j true=false) /\
     Left is (listed.setIfInBounds m true) (jT0 rem m)/\(jT0 rem m).length<=f/\unl ops (listed.setIfInBounds m true)<=fuel:=by
    intro m i hi hmem hm
    obtain ⟨m1,m2⟩:=jr0 hm
    have hml:m < is.length:=(List.getElem?_eq_some_iff.1 hi).1
    have hun:=o70 hsz m1 m2
    refine ⟨by simp,hS0 hsz hcl hm,(fun j q1 q2=>?_),⟨fun k q1 q2=>?_,fun y hy=>?_⟩,?_,(by omega)⟩
    ·rw [jl0 true (by omega)]; exact hlow j q1 q2
    ·by_cases e:k=m
     ·subst e; rw [ei0 (by omega)] at q2; cases q2
     ·rw [jl0 true e] at q2
      obtain ⟨i',g1,g2⟩:=hL.mem k q1 q2
      exact ⟨i',g1,List.mem_filter.2 ⟨g2,by simpa using e⟩⟩
    ·obtain ⟨g1,g2⟩:=List.mem_filter.1 hy
     have g2:y.1 ≠ m:=by simpa using g2
     refine ⟨(hL.un y g1).1,?_,(hL.un y g1).2.2⟩
     rw [jl0 true g2]; exact (hL.un y g1).2.1
    ·have:(jT0 rem m).length < rem.length:=by
      have:=List.length_filter_lt_length_iff_exists.2 (⟨(m,i),hmem,by simp⟩:∃ x ∈ rem,¬ (x.1 != m)=true)
      exact this
     omega
   have hmk:mkAT free (f + 1) rem=match (rem.filter (qo0 rem)).find? (fun y=>free.contains y.1) with
     | some y=>.take y.2.1 (mkAT free f (jT0 rem y.1))
     | none=>AT.alts (fun y=>mkAT free f (jT0 rem y.1)) (rem.filter (qo0 rem)):=by
    cases rem with
    | nil=>simp at hmem0
    | cons x xs=>rfl
   rw [hmk] at h
   split at h
   ·rename_i y hy
    have hyf:=List.find?_some hy
    obtain ⟨hyr,hyrdy⟩:=List.mem_filter.1 (List.mem_of_find?_eq_some hy)
    have hfree:freeB ops is y.1=true:=by
     rw [hfr] at hyf
     have:y.1 ∈ freeL ops is:=by simpa using hyf
     exact (List.mem_filter.1 this).2
    obtain ⟨y1,y2,_⟩:=hL.un y hyr
    obtain ⟨iy,hiy,hmemy⟩:=hL.mem y.1 y1 y2
    have hey:y=(y.1,iy):=hL.uniq _ hyr _ hmemy rfl
    obtain ⟨oy,hoy,hcy⟩:=hget y.1 iy hiy
    unfold freeB at hfree
    rw [hiy,hoy] at hfree
    simp only [Bool.and_eq_true,List.all_eq_true,List.mem_range,Bool.or_eq_true,beq_iff_eq,Bool.not_eq_true'] at hfree
    obtain ⟨⟨p1,p2⟩,p3⟩:=hfree
    have hready:y.1 ∈ Region.ready .any ops listed:=mem_ready.2 ⟨y2,oy,hoy,fun e he hbe=>by
     have hlt:=hg0 hb hoy e (by simpa using he) hbe
     have hin:iy.2.contains e.on=true:=(p2 e (by simpa using he)).resolve_left (by rw [hbe]; simp)
     have hl:listed.getD e.on true=true:=by
      cases hh:listed.getD e.on true with
      | true=>rfl
      | false =>
       obtain ⟨ie,hie,hme⟩:=hL.mem e.on (by omega) hh
       unfold qo0 at hyrdy
       rw [List.all_eq_true] at hyrdy
       have:=hyrdy _ hme
       rw [hey] at this
       simp only [Bool.not_eq_true'] at this
       rw [hin] at this; cases this
     have h2:e.on < listed.size:=by have:=(Array.getElem?_eq_some_iff.1 hoy).1; omega
     simp [Array.getD,h2] at hl ⊢
     exact hl⟩
    have hT:vcI P env hp iy.1 (fun e h=>vcT P (fun e h=>vcIs P e h rest K Kp) Kp (mkAT free f (jT0 rem y.1)) e h) Kp:=by
     have:y.2.1=iy.1:=by rw [hey]
     rw [<- this]; exact h
    obtain ⟨v,x,q1,q2,q3⟩:=pure3_ok hcy p1 hS hT
    obtain ⟨c1,c2,c3,c4⟩:=de0 hcy
    obtain ⟨s1,s2,s3,s4,s5,s6⟩:=step hiy hmemy hready
    refine q10 hb hoy (fun j o cs b ho=>?_) (fun c a w=>hQs y.1 oy c a w x hoy) (fun j oj hoj hji hah hah2=>?_) fuel listed a w hsz hcl hready q3 ?_
    ·rcases Nat.lt_or_ge j is.length with hj | hj
     ·obtain ⟨o',ho',hc'⟩:=hget j _ (List.getElem?_eq_getElem hj)
      rw [ho] at ho'; injection ho' with ho'; subst ho'
      exact nL0 (de0 hc').1 cs b
     ·have hjs:=(Array.getElem?_eq_some_iff.1 ho).1
      obtain ⟨o',ho',hc'⟩:=hget2 (j - is.length) _ (List.getElem?_eq_getElem (by omega))
      rw [show is.length + (j - is.length)=j by omega,ho] at ho'; injection ho' with ho'; subst ho'
      exact nL0 (de0 hc').1 cs b
    ·have:=p3 j (Array.getElem?_eq_some_iff.1 hoj).1
     rw [hoj,hah,hah2] at this
     simpa [hji] using this
    ·refine ih f _ (jT0 rem y.1) _ hp (by rw [<- s1]; exact hsz) s2 s3 s4 s5 s6 q1 H μ _ w Q hQs ?_ (fun v' x' hp' H' μ' a' w' k1 k2 k3 k4 k5 k6 k7=>hQp v' x' hp' H' μ' a' w' k1 k2 k3 k4 k5 k6 ((Kept.put hoy x).trans k7)) (fun env' hp' H' μ' a' w' k1 k2 k3=>hQ env' hp' H' μ' a' w' k1 k2 k3)
     rw [c2]
     exact hS.put (fun s e=>c3 s (by rw [c2]; exact e)) q2
   ·refine ⟨fun hr=>?_,fun m hm=>?_⟩
    ·obtain ⟨j,j1,j2,j3⟩:=hex
     have hjs:j < ops.size:=by omega
     have:j ∈ Region.ready .any ops listed:=mem_ready.2 ⟨j2,ops[j],Array.getElem?_eq_getElem hjs,fun e he hbe=>by
      have hlt:=hg0 hb (Array.getElem?_eq_getElem hjs) e (by simpa using he) hbe
      have:=j3 e.on hlt
      have h2:e.on < listed.size:=by rw [hsz]; omega
      simp [Array.getD,h2] at this ⊢
      exact this⟩
     rw [hr] at this; simp at this
    ·obtain ⟨m1,m2⟩:=jr0 hm
     obtain ⟨r1,o,r2,r3⟩:=mem_ready.1 hm
     have hml:m < is.length:=by
      apply Classical.byContradiction
      intro hn
      obtain ⟨j,j1,j2,_⟩:=hex
      have:=ba0 hb hsz hcl m j o r2 r3 (jx0 ht (by omega) m1 (by omega))
      rw [j2] at this; cases this
     obtain ⟨i,hi,hmem⟩:=hL.mem m hml m2
     obtain ⟨o',ho',hc⟩:=hget m i hi
     rw [r2] at ho'; injection ho' with ho'; subst ho'
     have hrdy:qo0 rem (m,i)=true:=by
      unfold qo0
      rw [List.all_eq_true]
      intro y hy
      cases e:i.2.contains y.1 with
      | false=>simp [e]
      | true =>
       obtain ⟨_,d2⟩:=hu0 hd hi (by simpa using e)
       have:=ba0 hb hsz hcl m y.1 o r2 r3 d2
       rw [(hL.un y hy).2.1] at this; cases this
     have hI:=rF0 h (m,i) (List.mem_filter.2 ⟨hmem,hrdy⟩)
     obtain ⟨s1,s2,s3,s4,s5,s6⟩:=step hi hmem hm
     refine wpOp_mono (fun a' w' ⟨env',hp',H',μ',h1,h2,h3,hk⟩=>?_) (rE0 r2 hc hI H μ a w Q hS fun v x hp' H' μ' w' k1 k2 k3 k4=>hQp v x hp' H' μ' a w' k1 k2 k3 k4 hS.defers hS.size .refl)
     exact ih f _ (jT0 rem m) env' hp' (by rw [<- s1]; exact hsz) s2 s3 s4 s5 s6 h1 H' μ' a' w' Q hQs h2
      (fun v x hp'' H'' μ'' a'' w'' k1 k2 k3 k4 k5 k6 k7=>hQp v x hp'' H'' μ'' a'' w'' k1 k2 (h3.trans k3) k4 k5 k6 (hk.trans k7))
      (fun env'' hp'' H'' μ'' a'' w'' k1 k2 k3=>hQ env'' hp'' H'' μ'' a'' w'' k1 k2 (h3.trans k3))
theorem rf0 {Q Q':Exit->Act->World->Prop} (hQ:∀ ex a w,Q' ex a w->Q ex a w) (h:LetsOut Q'):LetsOut Q:=by obtain ⟨a,w,k⟩:=h; exact ⟨a,w,hQ _ _ _ k⟩
theorem wpO_monoQ {o:Oper} {K:Act->World->Prop} {Q Q':Exit->Act->World->Prop} (hQ:∀ ex a w,Q' ex a w->Q ex a w) {a:Act} {w:World} (h:o.wp P a w K Q'):o.wp P a w K Q:=by
 unfold Oper.wp at h ⊢
 generalize (execOp a.eval o).run P w=r at h
 cases r with
 | ok n w' =>
  cases n <;> simp only [Oper.upon] at h ⊢ <;> try exact h
  case enter f args =>
   refine Calls.mono h fun e w'' he=>?_
   cases e with
   | returned u=>exact he
   | panicked c=>exact hQ _ _ _ he
   | outgrown=>exact rf0 hQ he
 | halt x w' =>
  cases x <;> simp only [Oper.upon] at h ⊢ <;> first | exact h | exact hQ _ _ _ h
theorem sE0 {ops:Array Oper} {j:Nat} {K:Act->World->Prop} {Q Q':Exit->Act->World->Prop} (hQ:∀ ex a w,Q' ex a w->Q ex a w) {a:Act} {w:World} (h:wpOp P ops Q' j K a w):wpOp P ops Q j K a w:=by
 unfold wpOp at h ⊢
 split at h
 ·exact h
 ·split at h
  ·rename_i hw
   rw [if_pos hw]
   exact h.imp (wpO_monoQ hQ) fun g=>⟨g.1,rf0 hQ g.2⟩
  ·rename_i hw
   rw [if_neg hw]; exact h
theorem nk0 {ops:Array Oper} {Q Q':Exit->Act->World->Prop} (hQ:∀ ex a w,Q' ex a w->Q ex a w):∀ (fuel:Nat) (listed:Array Bool) (a:Act) (w:World),wpAny P .any ops Q' fuel listed a w->wpAny P .any ops Q fuel listed a w
 | 0,listed,a,w,h=>⟨h.1,hQ _ _ _ h.2⟩
 | fuel + 1,listed,a,w,h=>⟨fun e=>hQ _ _ _ (h.1 e),fun i hi=>wpOp_mono (fun a' w' k=>nk0 hQ fuel _ a' w' k) (sE0 hQ (h.2 i hi))⟩
def atRem (is:List (I × List Nat)):List (Nat × I × List Nat):=is.zipIdx.map fun p=>(p.2,p.1)
def vcAR (P:Program) (env:Env) (hp:Hp) (t:AT) (rest:List I) (K:Env->Hp->Prop) (Kp:V->Hp->Prop):Prop :=
 vcT P (fun env' hp'=>vcIs P env' hp' rest K Kp) Kp t env hp
theorem vcAR_ok {ops:Array Oper} {r:DReg} {Kp:V->Hp->Prop} {K:Env->Hp->Prop} (hc:compD P n ops r) (h:vcAR P env hp (mkAT r.free r.any.length (atRem r.any)) r.rest K Kp) :
  ∀ H μ a w (Q:Exit->Act->World->Prop),Sat n H μ env hp a w ->
   (∀ v x hp' H' μ' a' w',Kp v hp'->R H' μ' v x->Nx H μ hp w H' μ' hp' w'->Wd H' μ' hp' w'->a'.defers=n.ds->a'.tmps.size=n.n->Kept ops a a'->Q (.panic [{ v:=x,recovered:=false }]) a' w') ->
   (∀ env' hp' H' μ' a' w',K env' hp'->Sat n H' μ' env' hp' a' w'->Nx H μ hp w H' μ' hp' w'->Q .normal a' w') ->
   wpAny P .any ops Q ops.size (Array.replicate ops.size false) a w:=by
 intro H μ a w Q hS hQp hQ
 obtain ⟨hok,hcr,hfre⟩:=hc
 obtain ⟨c1,c2⟩:=ht0 hcr
 have hok':=hok
 simp only [lK0,Bool.and_eq_true,decide_eq_true_eq] at hok'
 have hl0:=hok'.1.1.1.2
 have hlen:r.any.length + r.rest.length=ops.size:=by simpa using c1
 have hgetAll:∀ (k:Nat) (i:I),(r.any.map (·.1)++r.rest)[k]?=some i->∃ o,ops[k]?=some o/\fC0 P n ops o=some i:=by
  intro k i hk
  have hk':k < ops.size:=by
   have:=(List.getElem?_eq_some_iff.1 hk).1
   simp at this; omega
  obtain ⟨i',h1,h2⟩:=c2 k ops[k] (by simp [hk'])
  rw [hk] at h1; injection h1 with h1; subst h1
  exact ⟨ops[k],Array.getElem?_eq_getElem hk',h2⟩
 have hget:∀ (k:Nat) (i:I × List Nat),r.any[k]?=some i->∃ o,ops[k]?=some o/\fC0 P n ops o=some i.1:=by
  intro k i hk
  refine hgetAll k i.1 ?_
  have hlt:=(List.getElem?_eq_some_iff.1 hk).1
  rw [List.getElem?_append_left (by simpa using hlt),List.getElem?_map,hk]; rfl
 have hget2:∀ (k:Nat) (i:I),r.rest[k]?=some i->∃ o,ops[r.any.length + k]?=some o/\fC0 P n ops o=some i:=by
  intro k i hk
  refine hgetAll _ i ?_
  rw [List.getElem?_append_right (by simp)]
  simpa using hk
 have hf:∀ j,j < ops.size->(Array.replicate ops.size false).getD j true=false:=fun j hj=>by simp [Array.getD,hj]
 let Q':Exit->Act->World->Prop:=fun ex a' w'=>match ex with
  | .normal=>Q .normal a' w'
  | .panic c=>∀ a'',a''.defers=a'.defers->a''.tmps.size=a'.tmps.size->Kept ops a' a''->Q (.panic c) a'' w'
  | ex=>Q ex a' w'
 have hsub:∀ ex a' w',Q' ex a' w'->Q ex a' w':=by
  intro ex a' w' h
  cases ex with
  | panic c=>exact h a' rfl rfl .refl
  | normal=>exact h
  | exit i=>exact h
  | ret=>exact h
  | goto=>exact h
  | outgrown=>exact h
 refine nk0 hsub ops.size (Array.replicate ops.size false) a w ?_
 refine qj0 hok hget hlen hget2 hfre ops.size r.any.length _ (atRem r.any) env hp (by simp) (lI0 ops) (fun j _ hj=>hf j hj) ⟨fun k hk _=>⟨r.any[k],List.getElem?_eq_getElem hk,?_⟩,fun x hx=>?_⟩ (by simp [atRem]) ?_ h H μ a w Q' ?_ hS ?_ hQ
 ·exact List.mem_map.2 ⟨(r.any[k],k),List.mem_zipIdx_iff_getElem?.2 (List.getElem?_eq_getElem hk),rfl⟩
 ·obtain ⟨p,hp1,rfl⟩:=List.mem_map.1 hx
  have:=List.mem_zipIdx_iff_getElem?.1 hp1
  have hlt:=(List.getElem?_eq_some_iff.1 this).1
  exact ⟨hlt,hf _ (by show p.2 < ops.size; omega),this⟩
 ·unfold unl
  exact Nat.le_trans (List.length_filter_le _ _) (by simp)
 ·intro k o c a1 w1 x ho hq a'' e1 e2 e3
  refine hq a'' (by rw [e1,m50]) (by rw [e2,pX0]) fun t ht=>?_
  rw [e3 t ht,oR0 (ht k o ho)]
 ·intro v x hp' H' μ' a' w' k1 k2 k3 k4 k5 k6 k7 a'' e1 e2 e3
  exact hQp v x hp' H' μ' a'' w' k1 k2 k3 k4 (e1.trans k5) (e2.trans k6) (k7.trans e3)
end Go.Am
end

section
namespace Go.Am
variable {P:Program} {n:Sz} {H:Imm} {μ:Mu} {env:Env} {hp:Hp} {a:Act} {w:World}
def Wk (E:Env) (h:Hp) (env:Env) (hp:Hp):Prop:=∀ n H μ a w,Sat n H μ env hp a w->∃ H' μ',Sat n H' μ' E h a w/\Nx H μ hp w H' μ' h w
theorem Wk.refl (env:Env) (hp:Hp):Wk env hp env hp:=fun n H μ a w h=>⟨H,μ,h,Nx.refl H μ hp w⟩
theorem Wk.trans {E1 E2 E3:Env} {h1 h2 h3:Hp} (x:Wk E1 h1 E2 h2) (y:Wk E2 h2 E3 h3):Wk E1 h1 E3 h3:=fun n H μ a w h=>by
 obtain ⟨H1,μ1,s1,x1⟩:=y n H μ a w h
 obtain ⟨H2,μ2,s2,x2⟩:=x n H1 μ1 a w s1
 exact ⟨H2,μ2,s2,x1.trans x2⟩
theorem Wk.sub {E:Env} {h:Hp} (hE:∀ p ∈ E,env.lookup p.1=some p.2) (hh:∀ p ∈ h,hp.lookup p.1=some p.2):Wk E h env hp:=fun n H μ a w hS=>by
 have hsub:∀ i o,h.lookup i=some o->hp.lookup i=some o:=fun i o hl=>hh (i,o) (bB0 hl)
 exact ⟨H,μ,⟨hS.defers,hS.size,fun s v hs=>hS.env s v (hE (s,v) (bB0 hs)),hS.wd.sub hsub⟩,(Nx.refl H μ hp w).sub hsub⟩
theorem Wk.row {s:Nat} {id:Id} {ty sz:Nat} (hs:env.lookup s=some .nil) (hi:id.isL=true:=by rfl):Wk ((s,.arr id 0 0) :: Env.dg0 [id] env) ((id,.row ty sz true []) :: Hp.dg0 [id] hp) env hp:=fun n H μ a w hS=>by
 obtain ⟨s1,x1⟩:=hS.clean [id] (by simp [hi])
 have hn:Mu.cut [id] μ id=none:=Mu.cut_in (by simp)
 have hcase:∀ j o,((id,Ob.row ty sz true []) :: Hp.dg0 [id] hp).lookup j=some o->(j=id/\o=.row ty sz true [])\/(Hp.dg0 [id] hp).lookup j=some o:=by
  intro j o h
  rw [List.lookup_cons] at h
  cases e:(j == id) with
  | true=>rw [e] at h; simp at h; exact .inl ⟨eq_of_beq e,h.symm⟩
  | false=>rw [e] at h; exact .inr h
 refine ⟨H,Mu.cut [id] μ,⟨s1.defers,s1.size,fun t v hv=>?_,⟨fun j o h=>?_,fun j k oj ok bj bk hj ho hk hok hbj hbk heq=>?_,s1.wd.imm,s1.wd.glo⟩⟩,
  ⟨⟨Imm.le_refl H,rfl,rfl,rfl,Nat.le_refl _,fun _ _ _=>rfl,fun b hO hb=>?_,fr0⟩,x1.ext⟩⟩
 ·rw [List.lookup_cons] at hv
  cases e:(t == s) with
  | true =>
   rw [e] at hv
   have:=eq_of_beq e; subst this
   simp only [Option.some.injEq] at hv; subst hv
   have:=hS.env t _ hs
   generalize a.tmps.getD t undef=x at this
   cases this
   exact .arr id 0 0 none 0 (Nat.le_refl _) (.inl rfl)
  | false=>rw [e] at hv; exact s1.env t v hv
 ·rcases hcase j o h with ⟨rfl,rfl⟩ | h
  ·exact .inl ⟨rfl,hn⟩
  ·exact s1.wd.ob j o h
 ·rcases hcase j oj hj with ⟨rfl,rfl⟩ | h1
  ·rw [hn] at hbj; cases hbj
  ·rcases hcase k ok hk with ⟨rfl,rfl⟩ | h2
   ·rw [hn] at hbk; cases hbk
   ·exact s1.wd.inj j k oj ok bj bk h1 ho h2 hok hbj hbk heq
 ·obtain ⟨j,o,blk,h1,h2,h3,h4⟩:=hO
  rcases hcase j o h1 with ⟨rfl,rfl⟩ | h5
  ·rw [hn] at h3; cases h3
  ·exact x1.own b ⟨j,o,blk,h5,h2,h3,h4⟩ hb
inductive Cd where
 | skip
 | reg (is:List I)
 | dreg (r:DReg)
 | areg (t:AT) (rest:List I) (ds:List (Option Nat))
 | seq (a b:Cd)
 | cond (c:Operand) (t e:Cd)
 | blk (id:Nat) (b:Cd)
 | loop (b:Cd)
 | exit (id:Nat)
 | ret
def sl0 (ops:Array Oper) (is:List I):List (I × List Nat):=is.zipIdx.map fun p=>(p.1,(List.range p.2).filter fun j=>ahead ops j p.2)
def oa0 (ops:Array Oper):Nat->Nat
 | 0=>0
 | m + 1=>if (List.range m).all fun j=>ahead ops j m then oa0 ops m else m + 1
def Cd.alt:Cd->Cd
 | .dreg r=>.areg (mkAT r.free r.any.length (atRem r.any)) r.rest ((r.any.map (·.1)++r.rest).map I.d)
 | .seq a b=>.seq a.alt b.alt
 | .cond c t e=>.cond c t.alt e.alt
 | .blk id b=>.blk id b.alt
 | .loop b=>.loop b.alt
 | .skip=>.skip
 | .reg is=>.reg is
 | .areg t rest ds=>.areg t rest ds
 | .exit id=>.exit id
 | .ret=>.ret
def cp0 (P:Program) (n:Nat):Code->Option Cd
 | .skip=>some .skip
 | .region _ ops draw=>match nq0 P n ops ops.toList with
  | none=>none
  | some is =>
   if draw then
    let k:=oa0 ops ops.size
    let r:DReg:=⟨sl0 ops (is.take k),is.drop k,freeL ops (sl0 ops (is.take k))⟩
    if lK0 ops r.any && P.follows .mixedOrders then some (.dreg r) else none
   else some (.reg is)
 | .seq a b=>match cp0 P n a,cp0 P n b with
  | some x,some y=>some (.seq x y)
  | _,_=>none
 | .cond c a b=>match cp0 P n a,cp0 P n b with
  | some x,some y=>some (.cond c x y)
  | _,_=>none
 | .block id b=>(cp0 P n b).map (.blk id)
 | .loop b=>(cp0 P n b).map .loop
 | .exit id=>some (.exit id)
 | .ret=>some .ret
 | _=>none
def Id.isE:Id->Bool
 | .e _=>true
 | .l _ _=>false
mutual
def V.allE:V->Bool
 | .bp j _=>j.isE
 | .self j _=>j.isE
 | .ep j _ _=>j.isE
 | .arr j _ _=>j.isE
 | .mp j=>j.isE
 | .arc j _ _ _=>j.isE
 | .agg cs=>V.kz0 cs
 | .fn _ cs=>V.kz0 cs
 | .tup cs=>V.kz0 cs
 | .ifc _ v=>v.allE
 | .any=>true
 | .c _=>true
 | .nil=>true
 | .lst _=>true
 | .rp _=>true
def V.kz0:List V->Bool
 | []=>true
 | v :: vs=>v.allE && V.kz0 vs
end
mutual
theorem V.oh0 {i:Id}:∀ {v:V},v.allE=true->v.has i=true->∃ k,i=.e k
 | .self j o,h,g=>by simp only [V.has,decide_eq_true_eq] at g; subst g; cases j with | e k=>exact ⟨k,rfl⟩ | l=>simp [V.allE,Id.isE] at h
 | .bp j o,h,g=>by simp only [V.has,decide_eq_true_eq] at g; subst g; cases j with | e k=>exact ⟨k,rfl⟩ | l=>simp [V.allE,Id.isE] at h
 | .ep j k o,h,g=>by simp only [V.has,decide_eq_true_eq] at g; subst g; cases j with | e k=>exact ⟨k,rfl⟩ | l=>simp [V.allE,Id.isE] at h
 | .mp j,h,g=>by simp only [V.has,decide_eq_true_eq] at g; subst g; cases j with | e k=>exact ⟨k,rfl⟩ | l=>simp [V.allE,Id.isE] at h
 | .arc j _ _ _,h,g=>by simp only [V.has,decide_eq_true_eq] at g; subst g; cases j with | e k=>exact ⟨k,rfl⟩ | l=>simp [V.allE,Id.isE] at h
 | .arr j k o,h,g=>by simp only [V.has,decide_eq_true_eq] at g; subst g; cases j with | e k=>exact ⟨k,rfl⟩ | l=>simp [V.allE,Id.isE] at h
 | .agg cs,h,g=>by simp only [V.has] at g; simp only [V.allE] at h; exact V.hd0 h g
 | .fn _ cs,h,g=>by simp only [V.has] at g; simp only [V.allE] at h; exact V.hd0 h g
 | .tup cs,h,g=>by simp only [V.has] at g; simp only [V.allE] at h; exact V.hd0 h g
 | .ifc _ v,h,g=>by simp only [V.has] at g; simp only [V.allE] at h; exact V.oh0 h g
 | .any,_,g=>by simp [V.has] at g
 | .c _,_,g=>by simp [V.has] at g
 | .nil,_,g=>by simp [V.has] at g
 | .lst _,_,g=>by simp [V.has] at g
 | .rp _,_,g=>by simp [V.has] at g
theorem V.hd0 {i:Id}:∀ {vs:List V},V.kz0 vs=true->V.hasL i vs=true->∃ k,i=.e k
 | [],_,g=>by simp [V.hasL] at g
 | v :: vs,h,g=>by
  simp only [V.hasL,Bool.or_eq_true] at g
  simp only [V.kz0,Bool.and_eq_true] at h
  rcases g with g | g
  ·exact V.oh0 h.1 g
  ·exact V.hd0 h.2 g
end
def stab (ds:List (Option Nat)) (env:Env):Env:=(env.filter fun p=>!ds.contains (some p.1)).map fun p=>(p.1,if p.2.allE then p.2 else .any)
theorem kr0 {ds:List (Option Nat)} {s:Nat} {v:V}:∀ {env:Env},(stab ds env).lookup s=some v->some s ∉ ds/\∃ u,env.lookup s=some u/\((v=u/\u.allE=true)\/v=.any)
 | [],h=>by simp [stab] at h
 | (t,u) :: e,h=>by
  unfold stab at h
  rw [List.filter_cons] at h
  by_cases hc:ds.contains (some t)=true
  ·simp only [hc,Bool.not_true,Bool.false_eq_true,if_false] at h
   obtain ⟨h1,u',h2,h3⟩:=kr0 (env:=e) h
   have hne:s ≠ t:=by rintro rfl; exact h1 (by simpa using hc)
   refine ⟨h1,u',?_,h3⟩
   rw [List.lookup_cons,show (s == t)=false by simpa using hne]; exact h2
  ·have hc':(!ds.contains (some t))=true:=by simpa using hc
   simp only [hc',if_true,List.map_cons,List.lookup_cons] at h
   cases e':(s == t) with
   | true =>
    rw [e'] at h
    have:s=t:=by simpa using e'
    subst this
    simp only [Option.some.injEq] at h
    refine ⟨by simpa using hc,u,by simp,?_⟩
    split at h
    ·rename_i hu; exact .inl ⟨h.symm,hu⟩
    ·exact .inr h.symm
   | false =>
    rw [e'] at h
    obtain ⟨h1,u',h2,h3⟩:=kr0 (env:=e) h
    exact ⟨h1,u',by rw [List.lookup_cons,e']; exact h2,h3⟩
theorem Sat.stab {ops:Array Oper} {ds:List (Option Nat)} {H':Imm} {μ':Mu} {hp':Hp} {a':Act} {w':World} (h:Sat n H μ env hp a w) (hx:Nx H μ hp w H' μ' hp' w') (hW:Wd H' μ' hp' w') (h1:a'.defers=n.ds) (h2:a'.tmps.size=n.n)
  (hk:Kept ops a a') (hd:∀ (k:Nat) (o:Oper),ops[k]?=some o->o.dst ∈ ds):Sat n H' μ' (stab ds env) hp' a' w':=by
 refine ⟨h1,h2,fun s v hv=>?_,hW⟩
 obtain ⟨k1,u,k2,k3⟩:=kr0 hv
 rcases k3 with ⟨rfl,k4⟩ | rfl
 ·rw [hk s fun k o ho he=>k1 (by rw [<- he]; exact hd k o ho)]
  exact (h.env s v k2).mono hx.imm fun i hi=>by obtain ⟨k,rfl⟩:=V.oh0 k4 hi; exact hx.ext k
 ·exact .any _
def l80 (K:Env->Hp->Prop) (Q:Qs):Qs
 | .normal,env,hp=>K env hp
 | .exit i,env,hp=>Q (.exit i) env hp
 | .ret,env,hp=>Q .ret env hp
 | .pan v,env,hp=>Q (.pan v) env hp
def blkQ (id:Nat) (Q:Qs):Qs
 | .normal,env,hp=>Q .normal env hp
 | .exit i,env,hp=>if i=id then Q .normal env hp else Q (.exit i) env hp
 | .ret,env,hp=>Q .ret env hp
 | .pan v,env,hp=>Q (.pan v) env hp
def vc (P:Program):Cd->Env->Hp->Qs->Prop
 | .skip,env,hp,Q=>Q .normal env hp
 | .reg is,env,hp,Q=>vcIs P env hp is (fun e h=>Q .normal e h) fun v h=>Q (.pan v) (stab (is.map I.d) env) h
 | .dreg r,env,hp,Q=>vcDR P env hp r (fun e h=>Q .normal e h) fun v h=>Q (.pan v) (stab ((r.any.map (·.1)++r.rest).map I.d) env) h
 | .areg t rest ds,env,hp,Q=>vcAR P env hp t rest (fun e h=>Q .normal e h) fun v h=>Q (.pan v) (stab ds env) h
 | .seq a b,env,hp,Q=>vc P a env hp (l80 (fun e h=>vc P b e h Q) Q)
 | .cond c t e,env,hp,Q=>∃ b,Env.ev env c=some (.c (.bool b))/\(b=true->vc P t env hp Q)/\(b=false->vc P e env hp Q)
 | .blk id b,env,hp,Q=>vc P b env hp (blkQ id Q)
 | .loop b,env,hp,Q=>∃ I:Nat->Env->Hp->Prop,(∃ m E h,I m E h/\Wk E h env hp) /\
   ∀ m E h,I m E h->vc P b E h (l80 (fun e' h'=>∃ m' E' h'',m' < m/\I m' E' h''/\Wk E' h'' e' h') Q)
 | .exit id,env,hp,Q=>Q (.exit id) env hp
 | .ret,env,hp,Q=>Q .ret env hp
theorem least (p:Nat->Prop):∀ m,p m->∃ k,p k/\∀ j,j < k->¬ p j:=by
 intro m
 induction m using Nat.strongRecOn with
 | _ m ih =>
  intro h
  by_cases hex:∃ j,j < m/\p j
  ·obtain ⟨j,h1,h2⟩:=hex; exact ih j h1 h2
  ·exact ⟨m,h,fun j hj hp=>hex ⟨j,hj,hp⟩⟩
open Classical in
noncomputable def leastOf (p:Nat->Prop):Nat:=if h:∃ k,p k/\∀ j,j < k->¬ p j then h.choose else 0
theorem leastOf_spec {p:Nat->Prop} {m:Nat} (h:p m):p (leastOf p)/\leastOf p<=m:=by
 have hex:=least p m h
 unfold leastOf
 rw [dif_pos hex]
 obtain ⟨h1,h2⟩:=hex.choose_spec
 exact ⟨h1,Nat.le_of_not_lt fun hlt=>h2 m hlt h⟩
theorem Sat.drawn (h:Sat n H μ env hp a w):Sat n H μ env hp a { w with drawn:=w.drawn + 1 } :=
 ⟨h.defers,h.size,h.env,⟨fun i o hl=>by
  have:=h.wd.ob i o hl
  cases o with
  | gone=>trivial
  | box cs=>exact this
  | row ty sz own xs=>exact this
  | mpo kd kvs=>exact this,h.wd.inj,h.wd.imm,h.wd.glo⟩⟩
theorem Nx.drawn {H':Imm} {μ':Mu} {hp':Hp} {w':World} (h:Nx H μ hp { w with drawn:=w.drawn + 1 } H' μ' hp' w'):Nx H μ hp w H' μ' hp' w' :=
 ⟨⟨h.imm,h.os,h.tape,h.output,h.size,h.keep,h.own,h.fresh⟩,h.ext⟩
theorem Sat.bare (h1:a.defers=n.ds) (h2:a.tmps.size=n.n) (h3:Wd H μ hp w):Sat n H μ [] hp a w:=⟨h1,h2,fun s v h=>by simp at h,h3⟩
theorem hL0 {ex:Ex} {e:Exit} (h:ex.ok H μ e):e=.normal ↔ ex=.normal:=by
 cases ex <;> cases e <;> simp [Ex.ok] at h ⊢
theorem mu0 {ops:Array Oper} {is:List I} (hc:nq0 P n ops ops.toList=some is):∀ (k:Nat) (o:Oper),ops[k]?=some o->o.dst ∈ is.map I.d:=by
 intro k o ho
 obtain ⟨i,h1,h2⟩:=(ht0 hc).2 k o (by simpa using ho)
 obtain ⟨_,h3,_⟩:=de0 h2
 rw [h3]
 exact List.mem_map.2 ⟨i,List.mem_of_getElem? h1,rfl⟩
theorem reg_tri {id:Nat} {ops:Array Oper} {is:List I} {Q:Qs} (hc:nq0 P n ops ops.toList=some is) (h:vcIs P env hp is (fun e h=>Q .normal e h) fun v h=>Q (.pan v) (stab (is.map I.d) env) h):Tri P n (.region id ops false) env hp Q:=by
 intro H μ a w hS
 obtain ⟨c1,c2⟩:=ht0 hc
 refine wp_region ?_
 rw [List.range_eq_range']
 refine sF0 ops.size 0 is env hp (by simpa using c1) (fun k i hk=>?_) h H μ a w _ hS (fun v x hp' H' μ' a' w' k1 k2 k3 k4 k5 k6 k7=>?_) (fun env' hp' H' μ' a' w' k1 k2 k3=>?_)
 ·have hk':k < ops.size:=by have:=(List.getElem?_eq_some_iff.1 hk).1; simp at c1; omega
  obtain ⟨i',h1,h2⟩:=c2 k ops[k] (by simp [hk'])
  rw [hk] at h1; injection h1 with h1; subst h1
  exact ⟨ops[k],by simp [hk'],h2⟩
 ·exact ⟨.pan v,_,hp',H',μ',k1,⟨x,rfl,k2⟩,k3,hS.stab k3 k4 k5 k6 k7 (mu0 hc)⟩
 ·exact ⟨.normal,env',hp',H',μ',k1,trivial,k3,k2⟩
theorem dreg_tri {id:Nat} {ops:Array Oper} {r:DReg} {Q:Qs} (hm:P.follows .mixedOrders=true) (hc:compD P n ops r) (h:vcDR P env hp r (fun e h=>Q .normal e h) fun v h=>Q (.pan v) (stab ((r.any.map (·.1)++r.rest).map I.d) env) h):Tri P n (.region id ops true) env hp Q:=by
 intro H μ a w hS
 refine wp_region_any hm ?_
 refine vcDR_ok hc h H μ a _ _ hS.drawn (fun v x hp' H' μ' a' w' k1 k2 k3 k4 k5 k6 k7=>?_) (fun env' hp' H' μ' a' w' k1 k2 k3=>?_)
 ·exact ⟨.pan v,_,hp',H',μ',k1,⟨x,rfl,k2⟩,k3.drawn,hS.stab k3.drawn k4 k5 k6 k7 (mu0 hc.2.1)⟩
 ·exact ⟨.normal,env',hp',H',μ',k1,trivial,k3.drawn,k2⟩
theorem areg_tri {id:Nat} {ops:Array Oper} {r:DReg} {Q:Qs} (hm:P.follows .mixedOrders=true) (hc:compD P n ops r) (h:vcAR P env hp (mkAT r.free r.any.length (atRem r.any)) r.rest (fun e h=>Q .normal e h) fun v h=>Q (.pan v) (stab ((r.any.map (·.1)++r.rest).map I.d) env) h):Tri P n (.region id ops true) env hp Q:=by
 intro H μ a w hS
 refine wp_region_any hm ?_
 refine vcAR_ok hc h H μ a _ _ hS.drawn (fun v x hp' H' μ' a' w' k1 k2 k3 k4 k5 k6 k7=>?_) (fun env' hp' H' μ' a' w' k1 k2 k3=>?_)
 ·exact ⟨.pan v,_,hp',H',μ',k1,⟨x,rfl,k2⟩,k3.drawn,hS.stab k3.drawn k4 k5 k6 k7 (mu0 hc.2.1)⟩
 ·exact ⟨.normal,env',hp',H',μ',k1,trivial,k3.drawn,k2⟩
theorem vc_ok:∀ {c:Code} {cd:Cd},cp0 P n c=some cd->∀ {env:Env} {hp:Hp} {Q:Qs},vc P cd env hp Q->Tri P n c env hp Q:=by
 intro c
 induction c with
 | skip =>
  intro cd hc env hp Q h H μ a w hS
  simp only [cp0,Option.some.injEq] at hc; subst hc
  exact wp_skip ⟨.normal,env,hp,H,μ,h,trivial,Nx.refl H μ hp w,hS⟩
 | ret =>
  intro cd hc env hp Q h H μ a w hS
  simp only [cp0,Option.some.injEq] at hc; subst hc
  exact wp_ret ⟨.ret,env,hp,H,μ,h,trivial,Nx.refl H μ hp w,hS⟩
 | exit id =>
  intro cd hc env hp Q h H μ a w hS
  simp only [cp0,Option.some.injEq] at hc; subst hc
  exact wp_exit ⟨.exit id,env,hp,H,μ,h,rfl,Nx.refl H μ hp w,hS⟩
 | region id ops draw =>
  intro cd hc env hp Q h
  simp only [cp0] at hc
  split at hc
  ·cases hc
  ·rename_i is his
   cases draw with
   | true =>
    simp only [if_true] at hc
    split at hc
    ·rename_i hok
     simp only [Option.some.injEq] at hc; subst hc
     simp only [Bool.and_eq_true] at hok
     refine dreg_tri hok.2 ⟨hok.1,?_,rfl⟩ h
     rw [his]
     congr 1
     have:(sl0 ops (is.take (oa0 ops ops.size))).map (·.1)=is.take (oa0 ops ops.size):=by
      simp only [sl0,List.map_map]
      have:((fun x:I × List Nat=>x.1) ∘ fun p:I × Nat=>(p.1,(List.range p.2).filter fun j=>ahead ops j p.2))=Prod.fst:=rfl
      rw [this,List.zipIdx_map_fst]
     simp only [this,List.take_append_drop]
    ·cases hc
   | false =>
    simp only [Bool.false_eq_true,if_false,Option.some.injEq] at hc; subst hc
    exact reg_tri his h
 | seq x y ihx ihy =>
  intro cd hc env hp Q h H μ a w hS
  simp only [cp0] at hc
  split at hc
  ·rename_i cx cy hx hy
   simp only [Option.some.injEq] at hc; subst hc
   refine wp_seq (wp_mono (ihx hx h H μ a w hS) fun e a' w' hp=>?_)
   obtain ⟨ex,env',hp',H',μ',q1,q2,q3,q4⟩:=hp
   cases ex with
   | normal =>
    have:e=.normal:=(hL0 q2).2 rfl
    subst this
    exact wp_mono (ihy hy q1 H' μ' a' w' q4) fun e a'' w'' hh=>hh.trans q3
   | exit i=>cases e <;> simp only [Ex.ok] at q2; exact ⟨.exit i,env',hp',H',μ',q1,q2,q3,q4⟩
   | ret=>cases e <;> simp only [Ex.ok] at q2; exact ⟨.ret,env',hp',H',μ',q1,trivial,q3,q4⟩
   | pan v=>cases e <;> simp only [Ex.ok] at q2; exact ⟨.pan v,env',hp',H',μ',q1,q2,q3,q4⟩
  ·cases hc
 | cond c x y ihx ihy =>
  intro cd hc env hp Q h H μ a w hS
  simp only [cp0] at hc
  split at hc
  ·rename_i cx cy hx hy
   simp only [Option.some.injEq] at hc; subst hc
   obtain ⟨b,h1,h2,h3⟩:=h
   have hv:=(ch0 hS h1).bS0
   exact wp_cond_split hv (fun hb=>ihx hx (h2 hb) H μ a w hS) (fun hb=>ihy hy (h3 hb) H μ a w hS)
  ·cases hc
 | block id b ih =>
  intro cd hc env hp Q h H μ a w hS
  simp only [cp0,Option.map_eq_some_iff] at hc
  obtain ⟨cb,hb,rfl⟩:=hc
  refine wp_block (wp_mono (ih hb h H μ a w hS) fun e a' w' hp=>?_)
  obtain ⟨ex,env',hp',H',μ',q1,q2,q3,q4⟩:=hp
  cases ex with
  | normal=>cases e <;> simp only [Ex.ok] at q2; exact ⟨.normal,env',hp',H',μ',q1,trivial,q3,q4⟩
  | exit i =>
   cases e <;> simp only [Ex.ok] at q2
   subst q2
   simp only [blkQ] at q1
   simp only [Exit.inBlock]
   split at q1
   ·rename_i e; rw [if_pos e]; exact ⟨.normal,env',hp',H',μ',q1,trivial,q3,q4⟩
   ·rename_i e; rw [if_neg e]; exact ⟨.exit i,env',hp',H',μ',q1,rfl,q3,q4⟩
  | ret=>cases e <;> simp only [Ex.ok] at q2; exact ⟨.ret,env',hp',H',μ',q1,trivial,q3,q4⟩
  | pan v=>cases e <;> simp only [Ex.ok] at q2; exact ⟨.pan v,env',hp',H',μ',q1,q2,q3,q4⟩
 | loop b ih =>
  intro cd hc env hp Q h H μ a w hS
  simp only [cp0,Option.map_eq_some_iff] at hc
  obtain ⟨cb,hb,rfl⟩:=hc
  obtain ⟨I,⟨m0,E0,h0,i0,k0⟩,hstep⟩:=h
  let Inv:Nat->Act->World->Prop:=fun m a' w'=>∃ E hE H' μ',I m E hE/\Sat n H' μ' E hE a' w'/\Nx H μ hp w H' μ' hE w'
  refine wp_loop (fun a' w'=>∃ m,Inv m a' w') (fun a' w'=>leastOf fun m=>Inv m a' w') ?_ fun a' w' hI=>?_
  ·obtain ⟨H1,μ1,s1,x1⟩:=k0 n H μ a w hS
   exact ⟨m0,E0,h0,H1,μ1,i0,s1,x1⟩
  ·obtain ⟨m,hm⟩:=hI
   obtain ⟨⟨E,hE,H',μ',j1,j2,j3⟩,_⟩:=leastOf_spec (p:=fun m=>Inv m a' w') hm
   refine wp_mono (ih hb (hstep _ E hE j1) H' μ' a' w' j2) fun e a'' w'' hpo=>?_
   obtain ⟨ex,env',hp',H'',μ'',q1,q2,q3,q4⟩:=hpo
   cases ex with
   | normal =>
    have:e=.normal:=(hL0 q2).2 rfl
    subst this
    obtain ⟨m',E',h'',r1,r2,r3⟩:=q1
    obtain ⟨H1,μ1,s1,x1⟩:=r3 n H'' μ'' a'' w'' q4
    have hinv:Inv m' a'' w'':=⟨E',h'',H1,μ1,r2,s1,(j3.trans q3).trans x1⟩
    exact ⟨⟨m',hinv⟩,Nat.lt_of_le_of_lt (leastOf_spec (p:=fun m=>Inv m a'' w'') hinv).2 r1⟩
   | exit i=>cases e <;> simp only [Ex.ok] at q2; exact ⟨.exit i,env',hp',H'',μ'',q1,q2,j3.trans q3,q4⟩
   | ret=>cases e <;> simp only [Ex.ok] at q2; exact ⟨.ret,env',hp',H'',μ'',q1,trivial,j3.trans q3,q4⟩
   | pan v=>cases e <;> simp only [Ex.ok] at q2; exact ⟨.pan v,env',hp',H'',μ'',q1,q2,j3.trans q3,q4⟩
 | _=>intro cd hc; simp [cp0] at hc
theorem vc_alt_ok:∀ {c:Code} {cd:Cd},cp0 P n c=some cd->∀ {env:Env} {hp:Hp} {Q:Qs},vc P cd.alt env hp Q->Tri P n c env hp Q:=by
 intro c
 induction c with
 | skip =>
  intro cd hc env hp Q h H μ a w hS
  simp only [cp0,Option.some.injEq] at hc; subst hc
  exact wp_skip ⟨.normal,env,hp,H,μ,h,trivial,Nx.refl H μ hp w,hS⟩
 | ret =>
  intro cd hc env hp Q h H μ a w hS
  simp only [cp0,Option.some.injEq] at hc; subst hc
  exact wp_ret ⟨.ret,env,hp,H,μ,h,trivial,Nx.refl H μ hp w,hS⟩
 | exit id =>
  intro cd hc env hp Q h H μ a w hS
  simp only [cp0,Option.some.injEq] at hc; subst hc
  exact wp_exit ⟨.exit id,env,hp,H,μ,h,rfl,Nx.refl H μ hp w,hS⟩
 | region id ops draw =>
  intro cd hc env hp Q h
  simp only [cp0] at hc
  split at hc
  ·cases hc
  ·rename_i is his
   cases draw with
   | true =>
    simp only [if_true] at hc
    split at hc
    ·rename_i hok
     simp only [Option.some.injEq] at hc; subst hc
     simp only [Bool.and_eq_true] at hok
     refine areg_tri hok.2 ⟨hok.1,?_,rfl⟩ h
     rw [his]
     congr 1
     have:(sl0 ops (is.take (oa0 ops ops.size))).map (·.1)=is.take (oa0 ops ops.size):=by
      simp only [sl0,List.map_map]
      have:((fun x:I × List Nat=>x.1) ∘ fun p:I × Nat=>(p.1,(List.range p.2).filter fun j=>ahead ops j p.2))=Prod.fst:=rfl
      rw [this,List.zipIdx_map_fst]
     simp only [this,List.take_append_drop]
    ·cases hc
   | false =>
    simp only [Bool.false_eq_true,if_false,Option.some.injEq] at hc; subst hc
    exact reg_tri his h
 | seq x y ihx ihy =>
  intro cd hc env hp Q h H μ a w hS
  simp only [cp0] at hc
  split at hc
  ·rename_i cx cy hx hy
   simp only [Option.some.injEq] at hc; subst hc
   refine wp_seq (wp_mono (ihx hx h H μ a w hS) fun e a' w' hp=>?_)
   obtain ⟨ex,env',hp',H',μ',q1,q2,q3,q4⟩:=hp
   cases ex with
   | normal =>
    have:e=.normal:=(hL0 q2).2 rfl
    subst this
    exact wp_mono (ihy hy q1 H' μ' a' w' q4) fun e a'' w'' hh=>hh.trans q3
   | exit i=>cases e <;> simp only [Ex.ok] at q2; exact ⟨.exit i,env',hp',H',μ',q1,q2,q3,q4⟩
   | ret=>cases e <;> simp only [Ex.ok] at q2; exact ⟨.ret,env',hp',H',μ',q1,trivial,q3,q4⟩
   | pan v=>cases e <;> simp only [Ex.ok] at q2; exact ⟨.pan v,env',hp',H',μ',q1,q2,q3,q4⟩
  ·cases hc
 | cond c x y ihx ihy =>
  intro cd hc env hp Q h H μ a w hS
  simp only [cp0] at hc
  split at hc
  ·rename_i cx cy hx hy
   simp only [Option.some.injEq] at hc; subst hc
   obtain ⟨b,h1,h2,h3⟩:=h
   have hv:=(ch0 hS h1).bS0
   exact wp_cond_split hv (fun hb=>ihx hx (h2 hb) H μ a w hS) (fun hb=>ihy hy (h3 hb) H μ a w hS)
  ·cases hc
 | block id b ih =>
  intro cd hc env hp Q h H μ a w hS
  simp only [cp0,Option.map_eq_some_iff] at hc
  obtain ⟨cb,hb,rfl⟩:=hc
  refine wp_block (wp_mono (ih hb h H μ a w hS) fun e a' w' hp=>?_)
  obtain ⟨ex,env',hp',H',μ',q1,q2,q3,q4⟩:=hp
  cases ex with
  | normal=>cases e <;> simp only [Ex.ok] at q2; exact ⟨.normal,env',hp',H',μ',q1,trivial,q3,q4⟩
  | exit i =>
   cases e <;> simp only [Ex.ok] at q2
   subst q2
   simp only [blkQ] at q1
   simp only [Exit.inBlock]
   split at q1
   ·rename_i e; rw [if_pos e]; exact ⟨.normal,env',hp',H',μ',q1,trivial,q3,q4⟩
   ·rename_i e; rw [if_neg e]; exact ⟨.exit i,env',hp',H',μ',q1,rfl,q3,q4⟩
  | ret=>cases e <;> simp only [Ex.ok] at q2; exact ⟨.ret,env',hp',H',μ',q1,trivial,q3,q4⟩
  | pan v=>cases e <;> simp only [Ex.ok] at q2; exact ⟨.pan v,env',hp',H',μ',q1,q2,q3,q4⟩
 | loop b ih =>
  intro cd hc env hp Q h H μ a w hS
  simp only [cp0,Option.map_eq_some_iff] at hc
  obtain ⟨cb,hb,rfl⟩:=hc
  obtain ⟨I,⟨m0,E0,h0,i0,k0⟩,hstep⟩:=h
  let Inv:Nat->Act->World->Prop:=fun m a' w'=>∃ E hE H' μ',I m E hE/\Sat n H' μ' E hE a' w'/\Nx H μ hp w H' μ' hE w'
  refine wp_loop (fun a' w'=>∃ m,Inv m a' w') (fun a' w'=>leastOf fun m=>Inv m a' w') ?_ fun a' w' hI=>?_
  ·obtain ⟨H1,μ1,s1,x1⟩:=k0 n H μ a w hS
   exact ⟨m0,E0,h0,H1,μ1,i0,s1,x1⟩
  ·obtain ⟨m,hm⟩:=hI
   obtain ⟨⟨E,hE,H',μ',j1,j2,j3⟩,_⟩:=leastOf_spec (p:=fun m=>Inv m a' w') hm
   refine wp_mono (ih hb (hstep _ E hE j1) H' μ' a' w' j2) fun e a'' w'' hpo=>?_
   obtain ⟨ex,env',hp',H'',μ'',q1,q2,q3,q4⟩:=hpo
   cases ex with
   | normal =>
    have:e=.normal:=(hL0 q2).2 rfl
    subst this
    obtain ⟨m',E',h'',r1,r2,r3⟩:=q1
    obtain ⟨H1,μ1,s1,x1⟩:=r3 n H'' μ'' a'' w'' q4
    have hinv:Inv m' a'' w'':=⟨E',h'',H1,μ1,r2,s1,(j3.trans q3).trans x1⟩
    exact ⟨⟨m',hinv⟩,Nat.lt_of_le_of_lt (leastOf_spec (p:=fun m=>Inv m a'' w'') hinv).2 r1⟩
   | exit i=>cases e <;> simp only [Ex.ok] at q2; exact ⟨.exit i,env',hp',H'',μ'',q1,q2,j3.trans q3,q4⟩
   | ret=>cases e <;> simp only [Ex.ok] at q2; exact ⟨.ret,env',hp',H'',μ'',q1,trivial,j3.trans q3,q4⟩
   | pan v=>cases e <;> simp only [Ex.ok] at q2; exact ⟨.pan v,env',hp',H'',μ'',q1,q2,j3.trans q3,q4⟩
 | _=>intro cd hc; simp [cp0] at hc
theorem Cd.j90:∀ (c:Cd),c.alt.alt=c.alt
 | .dreg r=>rfl
 | .seq a b=>by simp only [Cd.alt,Cd.j90 a,Cd.j90 b]
 | .cond c t e=>by simp only [Cd.alt,Cd.j90 t,Cd.j90 e]
 | .blk id b=>by simp only [Cd.alt,Cd.j90 b]
 | .loop b=>by simp only [Cd.alt,Cd.j90 b]
 | .skip=>rfl
 | .reg is=>rfl
 | .areg t rest ds=>rfl
 | .exit id=>rfl
 | .ret=>rfl
def pe0 (P:Program) (n:Nat) (c:Code) (cd:Cd):Prop:=∃ cd0,cp0 P n c=some cd0/\(cd=cd0\/cd=cd0.alt)
theorem pe0.of {n:Nat} {c:Code} {cd:Cd} (h:cp0 P n c=some cd):pe0 P n c cd:=⟨cd,h,.inl rfl⟩
theorem pe0.alt {n:Nat} {c:Code} {cd:Cd} (h:pe0 P n c cd):pe0 P n c cd.alt:=by
 obtain ⟨cd0,h1,rfl | rfl⟩:=h
 ·exact ⟨cd,h1,.inr rfl⟩
 ·exact ⟨cd0,h1,.inr (Cd.j90 cd0)⟩
theorem vc_okA {c:Code} {cd:Cd} (h:pe0 P n c cd) {env:Env} {hp:Hp} {Q:Qs} (hv:vc P cd env hp Q):Tri P n c env hp Q:=by
 obtain ⟨cd0,h1,rfl | rfl⟩:=h
 ·exact vc_ok h1 hv
 ·exact vc_alt_ok h1 hv
end Go.Am
end

section
namespace Go.Am
variable {P:Program} {n:Nat} {H:Imm} {μ:Mu} {env:Env} {hp:Hp} {a:Act} {w:World}
def ldOf (P:Program) (t:TypeId) (x:Operand):Option IOp :=
 match P.underlying t with
 | some d=>some (if iM0 d then .lda (P.cellsOf t) x else .ld x)
 | none=>none
def rcomp (P:Program):ResultVar->Option IOp
 | .tmp t=>some (.mv (.tmp t))
 | .cell a t=>ldOf P t (.tmp a)
def gv0 (P:Program):List ResultVar->Option (List IOp)
 | []=>some []
 | r :: rs=>match rcomp P r,gv0 P rs with
  | some x,some xs=>some (x :: xs)
  | _,_=>none
def m70 (tmps:Array Value):ResultVar->Sem Value
 | .tmp t=>pure (tmps.getD t undef)
 | .cell a t=>do loadVar t (<- asAddr (tmps.getD a undef))
theorem sn0 (fn:Func) (tmps:Array Value):results fn tmps=(fn.results.mapM (m70 tmps) >>= fun vs=>pure (if h:vs.size=1 then vs[0] else .tuple vs)):=rfl
theorem resVar_ok {m:Sz} {r:ResultVar} {io:IOp} {K:V->Prop} (hc:rcomp P r=some io) (hS:Sat m H μ env hp a w) (hk:pv hp (Env.ev env) io K) :
  ∃ v x,K v/\R H μ v x/\(m70 a.tmps r).run P w=.ok x w:=by
 cases r with
 | tmp t =>
  simp only [rcomp,Option.some.injEq] at hc; subst hc
  obtain ⟨v,h1,h2⟩:=hk
  exact ⟨v,_,h2,hS.env t v h1,by simp [m70]⟩
 | cell ad t =>
  simp only [rcomp,ldOf] at hc
  split at hc
  ·rename_i d hd
   simp only [Option.some.injEq] at hc; subst hc
   cases hb:iM0 d with
   | true =>
    simp only [hb,if_true,pv] at hk
    obtain ⟨v,h1,h2⟩:=hk
    obtain ⟨u,vals,ad',k1,k2,k3,k4⟩:=ldaV_ok (P:=P) hS.wd (ch0 hS h1) h2
    have k3:a.tmps.getD ad undef=.pointer (some ad'):=k3
    exact ⟨u,.agg vals,k1,k2,by simp [m70,k3,asAddr,loadVar,hM0 hd,hb,run_sizeOf hd,k4]⟩
   | false =>
    simp only [hb,Bool.false_eq_true,if_false,pv] at hk
    obtain ⟨v,h1,h2⟩:=hk
    obtain ⟨u,y,ad',k1,k2,k3,k4⟩:=ldV_ok hS.wd (ch0 hS h1) h2
    have k3:a.tmps.getD ad undef=.pointer (some ad'):=k3
    exact ⟨u,y,k1,k2,by simp [m70,k3,asAddr,loadVar,hM0 hd,hb,k4]⟩
  ·cases hc
def resV (hp:Hp) (ρ:Operand->Option V):List IOp->(List V->Prop)->Prop
 | [],K=>K []
 | r :: rs,K=>pv hp ρ r fun v=>resV hp ρ rs fun vs=>K (v :: vs)
theorem resL_ok {m:Sz} (hS:Sat m H μ env hp a w):∀ {rs:List ResultVar} {ios:List IOp} {K:List V->Prop},gv0 P rs=some ios->resV hp (Env.ev env) ios K ->
  ∃ vs xs,K vs/\(rs.mapM (m70 a.tmps)).run P w=.ok xs w/\xs.length=vs.length/\vs.length=rs.length/\∀ (j:Nat) (v:V),vs[j]?=some v->R H μ v (xs.toArray.getD j undef)
 | [],ios,K,hc,h=>by
  simp only [gv0,Option.some.injEq] at hc; subst hc
  exact ⟨[],[],h,by simp,rfl,rfl,fun j v hj=>by simp at hj⟩
 | r :: rs,ios,K,hc,h=>by
  simp only [gv0] at hc
  split at hc
  ·rename_i x xs h1 h2
   simp only [Option.some.injEq] at hc; subst hc
   obtain ⟨v,y,k1,k2,k3⟩:=resVar_ok h1 hS h
   obtain ⟨vs,ys,m1,m2,m3,m4,m5⟩:=resL_ok hS h2 k1
   refine ⟨v :: vs,y :: ys,m1,by simp [List.mapM_cons,k3,m2],by simp [m3],by simp [m4],fun j u hj=>?_⟩
   cases j with
   | zero=>simp at hj; subst hj; simpa using k2
   | succ j =>
    simp at hj
    have:=m5 j u hj
    simpa [Array.getD_eq_getD_getElem?] using this
  ·cases hc
def lx0:List V->V
 | [v]=>v
 | vs=>.tup vs
theorem lw0 {m:Sz} {fn:Func} {ios:List IOp} {K:V->Prop} (hc:gv0 P fn.results.toList=some ios) (hS:Sat m H μ env hp a w) (h:resV hp (Env.ev env) ios fun vs=>K (lx0 vs)) :
  ∃ v x,K v/\R H μ v x/\(results fn a.tmps).run P w=.ok x w:=by
 obtain ⟨vs,xs,h1,h2,h3,h4,h5⟩:=resL_ok hS hc h
 have hrun:(fn.results.mapM (m70 a.tmps)).run P w=.ok xs.toArray w:=by
  rw [Array.mapM_eq_mapM_toList]; simp [h2]
 rw [sn0]
 match vs,xs,h3,h1,h5 with
 | [v],[x],_,h1,h5=>exact ⟨v,x,h1,by simpa using h5 0 v rfl,by simp [hrun]⟩
 | [],[],_,h1,h5=>exact ⟨.tup [],.tuple #[],h1,.tup [] #[] rfl (fun j v hj=>by simp at hj),by simp [hrun]⟩
 | v :: u :: vs,x :: y :: xs,h3,h1,h5 =>
  exact ⟨.tup (v :: u :: vs),.tuple (x :: y :: xs).toArray,h1,.tup _ _ (by simpa using h3) h5,by simp [hrun]⟩
structure FnIs (P:Program) (f:FuncId) (n:Nat) (cd:Cd) (rs:List IOp):Prop where
 ex:∃ fn c,P.funcs[f]?=some fn/\(fn.name == "runtime.NumGoroutine")=false/\fn.body=some c/\fn.ntmps=n/\pe0 P n c cd/\gv0 P fn.results.toList=some rs
theorem FnIs.alt {f:FuncId} {cd:Cd} {rs:List IOp} (h:FnIs P f n cd rs):FnIs P f n cd.alt rs:=by
 obtain ⟨fn,c,h1,h2,h3,h4,h5,h6⟩:=h.ex
 exact ⟨fn,c,h1,h2,h3,h4,h5.alt,h6⟩
def bF0:Nat->List V->Env
 | _,[]=>[]
 | k,v :: vs=>(k,v) :: bF0 (k + 1) vs
theorem fe0:∀ {vs:List V} {k s:Nat} {v:V},(bF0 k vs).lookup s=some v->∃ j,s=k + j/\vs[j]?=some v
 | [],k,s,v,h=>by simp [bF0] at h
 | u :: us,k,s,v,h=>by
  simp only [bF0,List.lookup_cons] at h
  cases e:(s == k) with
  | true=>rw [e] at h; simp only [Option.some.injEq] at h; subst h; exact ⟨0,by simpa using eq_of_beq e,rfl⟩
  | false =>
   rw [e] at h
   obtain ⟨j,h1,h2⟩:=fe0 h
   exact ⟨j + 1,by omega,by simpa using h2⟩
theorem pl0 {f:FuncId} {cd:Cd} {rs:List IOp} (hf:FnIs P f n cd rs) {args:List V} {obs:List Ob} (hlen:args.length<=n) {Q:Qs}
  (h:vc P cd (bF0 0 args) (hpE 0 obs) Q) {vs:Array Value} {Rr:Ending->World->Prop} (hargs:RL H μ args vs) (hW:Wd H μ (hpE 0 obs) w)
  (hret:∀ ex env' hp' H' μ' a' w',Q ex env' hp'->ex=.normal\/ex=.ret->Sat ⟨n,[]⟩ H' μ' env' hp' a' w'->Nx H μ (hpE 0 obs) w H' μ' hp' w'->∃ fn,P.funcs[f]?=some fn/\∃ v,(results fn a'.tmps).run P w'=.ok v w'/\Rr (.returned v) w')
  (hpan:∀ v x env' hp' H' μ' a' w',Q (.pan v) env' hp'->R H' μ' v x->Sat ⟨n,[]⟩ H' μ' env' hp' a' w'->Nx H μ (hpE 0 obs) w H' μ' hp' w'->Rr (.panicked [{ v:=x,recovered:=false }]) w')
  (hex:∀ i env' hp',¬ Q (.exit i) env' hp'):dG0 P f vs w Rr:=by
 obtain ⟨fn,c,k1,k2,k3,k4,k5,k6⟩:=hf.ex
 have hrun:(callFunc f vs).run P w=.ok (.enter f vs) w:=by
  have k2':¬ fn.name = "runtime.NumGoroutine":=by simpa using k2
  simp [callFunc,k1,k2',k3]
 unfold dG0
 rw [hrun]
 refine calls_of_wp k1 k3 ?_
 have hsz:vs.size=args.length:=hargs.1
 have h0:Sat ⟨n,[]⟩ H μ (bF0 0 args) (hpE 0 obs) { tmps:=vs++Array.replicate (fn.ntmps - vs.size) undef,defers:=[] } w:=by
  refine ⟨rfl,by simp [k4,hsz]; omega,fun s v hs=>?_,hW⟩
  obtain ⟨j,e,hj⟩:=fe0 hs
  rw [Nat.zero_add] at e; subst e
  have hlt:s < vs.size:=by rw [hsz]; exact (List.getElem?_eq_some_iff.1 hj).1
  have:=hargs.2 s v hj
  rw [Array.getD_eq_getD_getElem?] at this ⊢
  rw [Array.getElem?_append_left hlt]; exact this
 refine wp_mono (vc_okA k5 h H μ _ w h0) fun e a' w' hpo=>?_
 obtain ⟨ex,env',hp',H',μ',q1,q2,q3,q4⟩:=hpo
 cases ex with
 | normal =>
  cases e <;> simp only [Ex.ok] at q2
  obtain ⟨fn',e1,v,e2,e3⟩:=hret _ env' hp' H' μ' a' w' q1 (.inl rfl) q4 q3
  rw [k1] at e1; injection e1 with e1; subst e1
  exact ⟨q4.defers,v,e2,e3⟩
 | ret =>
  cases e <;> simp only [Ex.ok] at q2
  obtain ⟨fn',e1,v,e2,e3⟩:=hret _ env' hp' H' μ' a' w' q1 (.inr rfl) q4 q3
  rw [k1] at e1; injection e1 with e1; subst e1
  exact ⟨q4.defers,v,e2,e3⟩
 | exit i=>exact absurd q1 (hex i env' hp')
 | pan v =>
  cases e <;> simp only [Ex.ok] at q2
  obtain ⟨x,rfl,hx⟩:=q2
  exact ⟨q4.defers,hpan v x env' hp' H' μ' a' w' q1 hx q4 q3⟩
def retP (rs:List IOp) (Q:Res->Prop):Qs
 | .normal,env,hp | .ret,env,hp=>resV hp (Env.ev env) rs fun vs=>V.view (Hp.frz (lx0 vs) hp) (lx0 vs) fun u=>u.pure=true/\Q (.ret u [])
 | .pan v,_,hp=>V.view (Hp.frz v hp) v fun u=>u.pure=true/\Q (.pan u [])
 | .exit _,_,_=>False
theorem cZ0 {f:FuncId} {cd:Cd} {rs:List IOp} {args:List V} {Q:Res->Prop} (hf:FnIs P f n cd rs) (hlen:args.length<=n) (h:vc P cd (bF0 0 args) [] (retP rs Q)):J P f args [] Q:=by
 intro H μ vs w h1 h2
 refine pl0 hf hlen (obs:=[]) h h1 h2 (fun ex env' hp' H' μ' a' w' q1 q2 q3 q4=>?_) (fun v x env' hp' H' μ' a' w' q1 q2 q3 q4=>?_) (fun i env' hp' hq=>hq)
 ·obtain ⟨fn,c,k1,k2,k3,k4,k5,k6⟩:=hf.ex
  have q1:resV hp' (Env.ev env') rs fun vs=>V.view (Hp.frz (lx0 vs) hp') (lx0 vs) fun u=>u.pure=true/\Q (.ret u []):=by rcases q2 with rfl | rfl <;> exact q1
  obtain ⟨v,x,e1,e2,e3⟩:=lw0 (K:=fun v=>V.view (Hp.frz v hp') v fun u=>u.pure=true/\Q (.ret u [])) k6 q3 q1
  refine ⟨fn,k1,x,e3,?_⟩
  obtain ⟨H1,l1,l2,l3⟩:=q3.wd.frz v
  obtain ⟨u,⟨m1,m2⟩,m3⟩:=o90 l2 (e2.le l1) e1
  have hx:=(q4.trans l3).sub (hp':=[]) (fun i o hl=>by simp at hl)
  exact ⟨_,H1,μ',m2,⟨x,rfl,m3⟩,hx.toNj,l2.only rfl,Nat.le_refl _,fun j o hj=>by simp at hj⟩
 ·obtain ⟨H1,l1,l2,l3⟩:=q3.wd.frz v
  obtain ⟨u,⟨m1,m2⟩,m3⟩:=o90 l2 (q2.le l1) q1
  have hx:=(q4.trans l3).sub (hp':=[]) (fun i o hl=>by simp at hl)
  exact ⟨_,H1,μ',m2,⟨x,rfl,m3⟩,hx.toNj,l2.only rfl,rfl,fun j o hj=>by simp at hj⟩
def wkQ (Q:Qs):Qs
 | .normal,env,hp=>∃ E h,Wk E h env hp/\Q .normal E h
 | .ret,env,hp=>∃ E h,Wk E h env hp/\Q .ret E h
 | .exit i,env,hp=>Q (.exit i) env hp
 | .pan v,env,hp=>Q (.pan v) env hp
def esL:Nat->Nat->List Id
 | _,0=>[]
 | k,m + 1=>.e k :: esL (k + 1) m
theorem lc0 (k m:Nat):(esL k m).length=m:=by
 induction m generalizing k with
 | zero=>rfl
 | succ m ih=>simp [esL,ih]
theorem ov0 {k m j:Nat} (h:j < m):(esL k m)[j]?=some (.e (k + j)):=by
 induction m generalizing k j with
 | zero=>omega
 | succ m ih =>
  cases j with
  | zero=>rfl
  | succ j=>simp only [esL,List.getElem?_cons_succ]; rw [ih (by omega)]; congr 2; omega
def outV (hp:Hp) (ids:List Id) (v:V) (K:V->List Ob->Prop):Prop :=
 let hp1:=Hp.frz (.tup (V.bq0 ids (v :: boxes hp ids))) hp
 V.see false ids hp1 v fun u=>∃ u',u.aQ0 (toE ids 0)=some u'/\eZ0 ids hp1 ids fun obs=>K u' obs
def retX (k:Nat) (rs:List IOp) (Q:Res->Prop):Qs
 | .normal,env,hp | .ret,env,hp=>∃ outs:List Id,(esL 0 k++outs).Nodup/\resV hp (Env.ev env) rs fun vs=>outV hp (esL 0 k++outs) (lx0 vs) fun u obs=>Q (.ret u obs)
 | .pan v,_,hp=>outV hp (esL 0 k) v fun u obs=>Q (.pan u obs)
 | .exit _,_,_=>False
theorem pp0 (k m:Nat):(esL k m).Nodup:=by
 have hm:∀ m k i,i ∈ esL k m->∃ j,i=.e j/\k<=j:=by
  intro m
  induction m with
  | zero=>intro k i h; simp [esL] at h
  | succ m ih =>
   intro k i h
   simp only [esL,List.mem_cons] at h
   rcases h with rfl | h
   ·exact ⟨k,rfl,Nat.le_refl _⟩
   ·obtain ⟨j,h1,h2⟩:=ih (k + 1) i h; exact ⟨j,h1,by omega⟩
 induction m generalizing k with
 | zero=>simp [esL]
 | succ m ih =>
  simp only [esL,List.nodup_cons]
  refine ⟨fun h=>?_,ih (k + 1)⟩
  obtain ⟨j,h1,h2⟩:=hm m (k + 1) _ h
  injection h1 with h1; omega
theorem oL0 {ids:List Id} {v:V} {x:Value} {K:V->List Ob->Prop} (hW:Wd H μ hp w) (hr:R H μ v x) (hnd:ids.Nodup) (h:outV hp ids v K) :
  ∃ u obs H',K u obs/\R H' (muE ids μ) u x/\Imm.le H H'/\Wd H' (muE ids μ) (hpE 0 obs) w/\Nj H μ hp w H' (muE ids μ) (hpE 0 obs) w/\obs.length=ids.length:=by
 obtain ⟨H1,l1,l2,l3⟩:=hW.frz (.tup (V.bq0 ids (v :: boxes hp ids)))
 obtain ⟨u,⟨u',k1,k2⟩,k3⟩:=see_ok l2 (hr.le l1) h
 obtain ⟨obs,m1,m2,m3⟩:=mf0 l2 k2
 obtain ⟨p1,p2⟩:=Handed.wd (ids:=ids) (obs:=obs) ⟨by omega,m3⟩ l2 hnd
 refine ⟨u',obs,H1,m1,R.aQ0 (fun i i' h=>oJ0 h) k3 k1,l1,p1,?_,m2⟩
 exact ⟨l3.imm,l3.os,l3.tape,l3.output,l3.size,l3.keep,fun b hO hb=>l3.own b (by obtain ⟨i,_,r⟩:=p2 b hO; exact ⟨i,r⟩) hb,l3.fresh⟩
theorem at0 {f:FuncId} {cd:Cd} {rs:List IOp} {args:List V} {obs:List Ob} {Q:Res->Prop} (hf:FnIs P f n cd rs) (hlen:args.length<=n)
  (h:vc P cd (bF0 0 args) (hpE 0 obs) (wkQ (retX obs.length rs Q))):J P f args obs Q:=by
 intro H μ vs w h1 h2
 refine pl0 hf hlen h h1 h2 (fun ex env' hp' H' μ' a' w' q1 q2 q3 q4=>?_) (fun v x env' hp' H' μ' a' w' q1 q2 q3 q4=>?_) (fun i env' hp' hq=>hq)
 ·obtain ⟨fn,c,k1,k2,k3,k4,k5,k6⟩:=hf.ex
  have q1':∃ E h,Wk E h env' hp'/\(retX obs.length rs Q .ret E h):=by
   rcases q2 with rfl | rfl
   ·obtain ⟨E,h,r1,r2⟩:=q1; exact ⟨E,h,r1,r2⟩
   ·exact q1
  clear q1
  obtain ⟨E,hE,hwk,q1⟩:=q1'
  obtain ⟨H2,μ2,r1,r2⟩:=hwk ⟨n,[]⟩ H' μ' a' w' q3
  replace q4:=q4.trans r2
  clear q3 r2 hwk
  have q3:=r1
  clear r1
  obtain ⟨outs,e0,q1⟩:=q1
  obtain ⟨v,x,e1,e2,e3⟩:=lw0 (K:=fun v=>outV hE (esL 0 obs.length++outs) v fun u obs=>Q (.ret u obs)) k6 q3 q1
  refine ⟨fn,k1,x,e3,?_⟩
  obtain ⟨u,obs',H1,m1,m2,m3,m4,m5,m6⟩:=oL0 q3.wd e2 e0 e1
  refine ⟨_,H1,_,m1,⟨x,rfl,m2⟩,q4.toNj.trans m5,m4,by rw [m6]; simp [lc0],fun j o hj ho hg=>?_⟩
  simp only [muE]
  rw [List.getElem?_append_left (by rw [lc0]; exact hj),ov0 hj,Nat.zero_add]
  exact q4.ext j
 ·obtain ⟨u,obs',H1,m1,m2,m3,m4,m5,m6⟩:=oL0 q3.wd q2 (pp0 0 _) q1
  refine ⟨_,H1,_,m1,⟨x,rfl,m2⟩,q4.toNj.trans m5,m4,by rw [m6,lc0],fun j o hj ho hg=>?_⟩
  simp only [muE]
  rw [ov0 hj,Nat.zero_add]
  exact q4.ext j
end Go.Am
end

section
namespace Go.Am
variable {P:Program} {n:Nat}
def fchk (P:Program) (fn:Func) (n:Nat):Option (Cd × List IOp) :=
 if fn.name == "runtime.NumGoroutine" then none else if fn.ntmps=n then
  match fn.body with
  | none=>none
  | some c=>match cp0 P n c,gv0 P fn.results.toList with
   | some cd,some rs=>some (cd,rs)
   | _,_=>none
 else none
theorem FnIs.of {f:FuncId} {fn:Func} {cd:Cd} {rs:List IOp} (hf:P.funcs[f]?=some fn) (h:fchk P fn n=some (cd,rs)):FnIs P f n cd rs:=by
 unfold fchk at h
 split at h
 ·cases h
 ·rename_i hn
  split at h
  ·rename_i hnt
   split at h
   ·cases h
   ·rename_i c hb
    split at h
    ·rename_i cd' rs' h1 h2
     simp only [Option.some.injEq,Prod.mk.injEq] at h
     obtain ⟨rfl,rfl⟩:=h
     exact ⟨fn,c,hf,by simpa using hn,hb,hnt,.of h1,h2⟩
    ·cases h
  ·cases h
end Go.Am
end

section
namespace Go.Am
variable {P:Program} {n:Nat}
structure FnR (P:Program) (f:FuncId) (n s:Nat) (cd:Cd) (rs:List IOp):Prop where
 ex:∃ fn c id o cal ops,P.funcs[f]?=some fn/\(fn.name == "runtime.NumGoroutine")=false/\fn.body=some (.seq (.region id ops false) c)/\o.op=.call cal/\cal.callee=.builtin .recover/\cal.args=#[]/\o.dst=some s/\o.guard=none/\s < n /\
  fn.ntmps=n/\((ops=#[o]/\cp0 P n c=some cd)\/∃ o2 s2 cd0,ops=#[o,o2]/\o2.op=.assign (.tmp s)/\o2.dst=some s2/\o2.guard=none/\s2 < n/\cp0 P n c=some cd0/\cd=.seq (.reg [⟨some s2,none,.mv (.tmp s)⟩]) cd0) /\
  gv0 P fn.results.toList=some rs
def frchk (P:Program) (fn:Func) (n:Nat):Option (Nat × Cd × List IOp) :=
 if fn.name == "runtime.NumGoroutine" then none else if fn.ntmps=n then
  match fn.body with
  | some (.seq (.region _ ⟨[o]⟩ false) c)=>match o.op,o.dst,o.guard with
   | .call ⟨.builtin .recover,⟨[]⟩,_⟩,some s,none=>if s < n then match cp0 P n c,gv0 P fn.results.toList with
    | some cd,some rs=>some (s,cd,rs)
    | _,_=>none else none
   | _,_,_=>none
  | some (.seq (.region _ ⟨[o,o2]⟩ false) c)=>match o.op,o.dst,o.guard,o2.op,o2.dst,o2.guard with
   | .call ⟨.builtin .recover,⟨[]⟩,_⟩,some s,none,.assign (.tmp s'),some s2,none=>if s < n/\s'=s/\s2 < n then match cp0 P n c,gv0 P fn.results.toList with
    | some cd,some rs=>some (s,.seq (.reg [⟨some s2,none,.mv (.tmp s)⟩]) cd,rs)
    | _,_=>none else none
   | _,_,_,_,_,_=>none
  | _=>none
 else none
theorem FnR.of {f:FuncId} {fn:Func} {s:Nat} {cd:Cd} {rs:List IOp} (hf:P.funcs[f]?=some fn) (h:frchk P fn n=some (s,cd,rs)):FnR P f n s cd rs:=by
 unfold frchk at h
 split at h
 ·cases h
 ·rename_i hn
  split at h
  ·rename_i hnt
   split at h
   ·rename_i id o c hb
    split at h
    ·rename_i at1 s' h1 h2 h3
     split at h
     ·rename_i hlt
      split at h
      ·rename_i cd' rs' h4 h5
       simp only [Option.some.injEq,Prod.mk.injEq] at h
       obtain ⟨rfl,rfl,rfl⟩:=h
       exact ⟨fn,c,id,o,_,_,hf,by simpa using hn,hb,h1,rfl,rfl,h2,h3,hlt,hnt,.inl ⟨rfl,h4⟩,h5⟩
      ·cases h
     ·cases h
    ·cases h
   ·rename_i id o o2 c hb
    split at h
    ·rename_i at1 s' s'' s2' h1 h2 h3 h6 h7 h8
     split at h
     ·rename_i hlt
      obtain ⟨hlt,rfl,hlt2⟩:=hlt
      split at h
      ·rename_i cd' rs' h4 h5
       simp only [Option.some.injEq,Prod.mk.injEq] at h
       obtain ⟨rfl,rfl,rfl⟩:=h
       exact ⟨fn,c,id,o,_,_,hf,by simpa using hn,hb,h1,rfl,rfl,h2,h3,hlt,hnt,.inr ⟨o2,_,_,rfl,h6,h7,h8,hlt2,h4,rfl⟩,h5⟩
      ·cases h
     ·cases h
    ·cases h
   ·cases h
  ·cases h
inductive FCd where
 | seq (c:Cd) (f:FCd)
 | dfr (is:List I) (t:Operand) (args:List Operand) (c:Cd)
 | ite (v:Operand) (f g:FCd)
 | plain (c:Cd)
def oD0 (ops:Array Oper):Option (Operand × List Operand) :=
 match ops.toList.getLast? with
 | some o=>match o.op,o.dst,o.guard with
  | .defer ⟨.value t,args,_⟩,none,none=>some (t,args.toList)
  | _,_,_=>none
 | none=>none
def seqO:Option Cd->Option Cd->Option Cd
 | some a,some b=>some (.seq a b)
 | _,_=>none
def kL0 (P:Program) (n:Nat):Code->Option Cd->Option FCd->Option FCd
 | .seq a b,y,f=>kL0 P n a (seqO (cp0 P n b) y) (kL0 P n b y f)
 | .region id ops false,y,f=>match oD0 ops with
  | some (t,args)=>match nq0 P n ops ops.toList.dropLast,y with
   | some is,some c=>some (.dfr is t args c)
   | _,_=>none
  | none=>match cp0 P n (.region id ops false),f with
   | some c,some f=>some (.seq c f)
   | _,_=>none
 | .cond v a b,y,f=>match cp0 P n (.cond v a b),f with
  | some c,some f=>some (.seq c f)
  | _,_=>match kL0 P n a y f,kL0 P n b y f with
   | some g,some h=>some (.ite v g h)
   | _,_=>none
 | .region id ops true,_,f=>match cp0 P n (.region id ops true),f with
  | some c,some f=>some (.seq c f)
  | _,_=>none
 | .block id x,_,f=>match cp0 P n (.block id x),f with
  | some c,some f=>some (.seq c f)
  | _,_=>none
 | .loop x,_,f=>match cp0 P n (.loop x),f with
  | some c,some f=>some (.seq c f)
  | _,_=>none
 | .skip,_,f=>f
 | .ret,_,f=>match f with
  | some f=>some (.seq .ret f)
  | none=>none
 | _,_,_=>none
def fcomp (P:Program) (n:Nat) (c:Code):Option FCd:=kL0 P n c (some .skip) (some (.plain .skip))
structure FnD (P:Program) (f:FuncId) (n:Nat) (fc:FCd) (rs:List IOp):Prop where
 ex:∃ fn c,P.funcs[f]?=some fn/\(fn.name == "runtime.NumGoroutine")=false/\fn.body=some c/\fn.ntmps=n/\fcomp P n c=some fc/\gv0 P fn.results.toList=some rs
def fdchk (P:Program) (fn:Func) (n:Nat):Option (FCd × List IOp) :=
 if fn.name == "runtime.NumGoroutine" then none else if fn.ntmps=n then
  match fn.body with
  | none=>none
  | some c=>match fcomp P n c,gv0 P fn.results.toList with
   | some cd,some rs=>some (cd,rs)
   | _,_=>none
 else none
theorem FnD.of {f:FuncId} {fn:Func} {fc:FCd} {rs:List IOp} (hf:P.funcs[f]?=some fn) (h:fdchk P fn n=some (fc,rs)):FnD P f n fc rs:=by
 unfold fdchk at h
 split at h
 ·cases h
 ·rename_i hn
  split at h
  ·rename_i hnt
   split at h
   ·cases h
   ·rename_i c hb
    split at h
    ·rename_i cd' rs' h1 h2
     simp only [Option.some.injEq,Prod.mk.injEq] at h
     obtain ⟨rfl,rfl⟩:=h
     exact ⟨fn,c,hf,by simpa using hn,hb,hnt,h1,h2⟩
    ·cases h
  ·cases h
end Go.Am
end

section
namespace Go.Am
open Go
open Go.Proofs.YtnlggapedakocaaGreatDoor (Rows.uptoBulk Rows.uptoBulkAll)
section
variable {H:Type} {enc:TypeId × Value->H} {W:World} {sp:Nat->Bool} {held:Bool}
def imW (W:World):Imm:=fun b=>match W.heap[b]? with | some (.cells cs _ _)=>some cs | _=>none
end
end Go.Am
end
