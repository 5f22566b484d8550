/- ShowBack of the given program, part 6 of 6 of the proof: for all arguments within the bound the law answers true, and each argument reads behind the call as before. Conditions: those of the given card. -/
import Derived.Test.YtnlggapedakocaaGreatDoorZ5
import Derived.Test.YtnlggapedakocaaGreatDoorCards
set_option maxHeartbeats 1600000
set_option linter.all false
set_option linter.unusedVariables false
set_option linter.unusedSimpArgs false
set_option linter.unnecessarySimpa false
section
namespace Go.Am
def tTy:Nat->Bs->List TD
 | 0,s=>[aG0 s]
 | r+1,s =>
  if c50 s then [aG0 s]
  else if [91].isPrefixOf s.dropLast then [ap0 [91]]++tTy r (s.dropLast.drop 1)++[ap0 [93]]
  else if cl0.isPrefixOf s.dropLast then [ap0 [123]]++[aG0 eu0]++[ap0 [58]]++tTy r (s.dropLast.drop 5)++[ap0 [125]]
  else [ap0 [123]]++[aG0 ck0]++[ap0 [58]]++tTy r (s.dropLast.drop 6)++[ap0 [125]]
theorem s50 {s:Bs} (h:c50 s=true) (r:Nat):tTy r s=[aG0 s]:=by
 cases r with
 | zero=>rfl
 | succ r=>rw[tTy,if_pos h]
theorem s60 (r:Nat) (s:Bs):tTy (r+1) ([91]++s++[93])=[ap0 [91]]++tTy r s++[ap0 [93]]:=by
 rw[tTy]
 have h0:c50 ([91]++s++[93])=false:=by rw[List.append_assoc];exact ol0 _
 have h1:([91]++s++[93]:Bs).dropLast=[91]++s:=List.dropLast_concat
 rw[h0,h1]
 simp
theorem s70 (r:Nat) (s:Bs):tTy (r+1) (cl0++s++[125])=[ap0 [123]]++[aG0 eu0]++[ap0 [58]]++tTy r s++[ap0 [125]]:=by
 rw[tTy]
 have h0:c50 (cl0++s++[125])=false:=kj0 _
 have h1:(cl0++s++[125]:Bs).dropLast=cl0++s:=List.dropLast_concat
 rw[h0,h1]
 simp[cl0]
theorem s80 (r:Nat) (s:Bs):tTy (r+1) (bz0++s++[125])=[ap0 [123]]++[aG0 ck0]++[ap0 [58]]++tTy r s++[ap0 [125]]:=by
 rw[tTy]
 have h0:c50 (bz0++s++[125])=false:=kj0 _
 have h1:(bz0++s++[125]:Bs).dropLast=bz0++s:=List.dropLast_concat
 rw[h0,h1]
 simp[bz0,cl0]
theorem lex_ty {d:Nat} {s:Bs} (h:IsTy d s):∀ r,d<=r+1->LxT s (tTy r s) a50:=by
 have nw:∀ {c:UInt8},(an0++aj0).contains c=false->∀ r:Bs,Any r->a50 ([c]++r):=λhc r _=>a50.cons hc
 have map:∀ {w:Bs} {s:Bs} {T:List TD},mQ0.contains w=true->LxT s T a50->LxT ([123]++w++[58]++s++[125]) ([ap0 [123]]++[aG0 w]++[ap0 [58]]++T++[ap0 [125]]) a50:=λhw hs =>
  (((((lex1 (c:=123)).append (gf0 hw) λ_ _=>trivial).append (lex1 (c:=58)) (nw (by decide))).append hs λ_ _=>trivial).append (lex1 (c:=125)) (nw (by decide))).weak λ_ _=>trivial
 induction h with
 | base h =>
  intro r _
  rw[s50 h]
  rcases fD0 h with rfl|rfl|rfl<;>exact gf0 (by decide)
 | list h ih =>
  intro r hr
  obtain⟨k,rfl⟩:∃ k,r=k+1:=⟨r-1,by have:=pf0 h;omega⟩
  rw[s60]
  exact (((lex1 (c:=91)).append (ih k (by omega)) λ_ _=>trivial).append (lex1 (c:=93)) (nw (by decide))).weak λ_ _=>trivial
 | mapI h ih =>
  intro r hr
  obtain⟨k,rfl⟩:∃ k,r=k+1:=⟨r-1,by have:=pf0 h;omega⟩
  rw[s70]
  exact map (w:=eu0) (by decide) (ih k (by omega))
 | mapT h ih =>
  intro r hr
  obtain⟨k,rfl⟩:∃ k,r=k+1:=⟨r-1,by have:=pf0 h;omega⟩
  rw[s80]
  exact map (w:=ck0) (by decide) (ih k (by omega))
theorem pKey_k {ts:List Tok} {n:Nat} {a:Bs × Nat} (h:pKey ts n=.ok a):(a=(eu0,n+1)\/a=(ck0,n+1)):=by
 unfold pKey at h
 split at h
 ·injection h with h;exact .inl h.symm
 ·split at h
  ·injection h with h;exact .inr h.symm
  ·cases h
theorem sT0 {ts:List Tok} {n:Nat} (h:(tk ts n).td=aG0 eu0):pKey ts n=.ok (eu0,n+1):=by unfold pKey;rw[isW h,if_pos (by decide)]
theorem rb0 {ts:List Tok} {n:Nat} (h:(tk ts n).td=aG0 ck0):pKey ts n=.ok (ck0,n+1):=by unfold pKey;rw[isW h,isW h,if_neg (by decide),if_pos (by decide)]
theorem p30 (ts:List Tok):∀ (r n:Nat) (a:Bs) (m:Nat),cV0 ts (r+1) n=.ok (a,m)->n+(tTy r a).length<=m/\∀ ts' n',Has ts' n' (tTy r a)->cV0 ts' (r+1) n'=.ok (a,n'+(tTy r a).length)
 | r,n,a,m,h=>by
  have key:∀ w:Bs,c50 w=true->m=n+1->a=w->n+(tTy r a).length<=m/\∀ ts' n',Has ts' n' (tTy r a)->cV0 ts' (r+1) n'=.ok (a,n'+(tTy r a).length):=by
   rintro w hw rfl rfl
   rw[s50 hw]
   refine⟨Nat.le_refl _,λts' n' hT=>?_⟩
   obtain⟨h0,-⟩:=hT.cons
   rw[cV0]
   rcases fD0 hw with rfl|rfl|rfl
   ·rw[isW h0,aL0 h0,aL0 h0,if_neg (by decide),if_neg (by simp),if_neg (by simp),sT0 h0];rfl
   ·rw[isW h0,if_pos (by decide)];rfl
   ·rw[isW h0,aL0 h0,aL0 h0,if_neg (by decide),if_neg (by simp),if_neg (by simp),rb0 h0];rfl
  rw[cV0] at h
  split at h
  ·injection h with h;injection h with e1 e2
   exact key ek0 (by decide) e2.symm e1.symm
  split at h
  ·obtain⟨⟨b,k⟩,h1,h⟩:=bd0 h
   obtain⟨k2,h2,h⟩:=bd0 h
   obtain⟨rfl,-⟩:=b10 h2
   injection h with h;injection h with e1 e2;subst e1 e2
   cases r with
   | zero=>rw[cV0] at h1;cases h1
   | succ r =>
    obtain⟨c1,c2⟩:=p30 ts r (n+1) b k h1
    dsimp only
    rw[s60]
    have el:∀ n',n'+([ap0 [91]]++tTy r b++[ap0 [93]]).length=n'+1+(tTy r b).length+1:=λn'=>by simp only[List.length_append,List.length_cons,List.length_nil];omega
    refine⟨by rw[el];omega,λts' n' hT=>?_⟩
    rw[el]
    simp only[List.append_assoc,List.cons_append,List.nil_append] at hT
    obtain⟨h0,hT⟩:=hT.cons
    obtain⟨hT,hc⟩:=hT.append
    obtain⟨hc,-⟩:=hc.cons
    rw[cV0,aL0 h0,aL0 h0,if_neg (by simp),if_pos (by simp),c2 ts' (n'+1) hT,LxR.bind,bf0 hc]
    rfl
  split at h
  ·obtain⟨⟨w,k0⟩,h0,h⟩:=bd0 h
   obtain⟨k1,h1,h⟩:=bd0 h
   obtain⟨rfl,-⟩:=b10 h1
   obtain⟨⟨b,k⟩,h2,h⟩:=bd0 h
   obtain⟨k2,h3,h⟩:=bd0 h
   obtain⟨rfl,-⟩:=b10 h3
   injection h with h;injection h with e1 e2;subst e1 e2
   cases r with
   | zero=>rw[cV0] at h2;cases h2
   | succ r =>
    obtain⟨c1,c2⟩:=p30 ts r (k0+1) b k h2
    dsimp only
    have el:∀ (w:Bs) n',n'+([ap0 [123]]++[aG0 w]++[ap0 [58]]++tTy r b++[ap0 [125]]).length=n'+1+1+1+(tTy r b).length+1:=λw n'=>by simp only[List.length_append,List.length_cons,List.length_nil];omega
    rcases pKey_k h0 with e|e<;>(injection e with e1 e2;subst e1 e2)
    ·rw[show [123]++eu0++[58]++b++[125]=cl0++b++[125] from rfl,s70]
     refine⟨by rw[el];omega,λts' n' hT=>?_⟩
     rw[el]
     simp only[List.append_assoc,List.cons_append,List.nil_append] at hT
     obtain⟨g0,hT⟩:=hT.cons
     obtain⟨g1,hT⟩:=hT.cons
     obtain⟨g2,hT⟩:=hT.cons
     obtain⟨hT,hc⟩:=hT.append
     obtain⟨hc,-⟩:=hc.cons
     rw[cV0,aL0 g0,aL0 g0,aL0 g0,if_neg (by simp),if_neg (by simp),if_pos (by simp),sT0 g1,LxR.bind]
     dsimp only
     rw[bf0 g2,LxR.bind,c2 ts' _ hT,LxR.bind,bf0 hc]
     rfl
    ·rw[show [123]++ck0++[58]++b++[125]=bz0++b++[125] from rfl,s80]
     refine⟨by rw[el];omega,λts' n' hT=>?_⟩
     rw[el]
     simp only[List.append_assoc,List.cons_append,List.nil_append] at hT
     obtain⟨g0,hT⟩:=hT.cons
     obtain⟨g1,hT⟩:=hT.cons
     obtain⟨g2,hT⟩:=hT.cons
     obtain⟨hT,hc⟩:=hT.append
     obtain⟨hc,-⟩:=hc.cons
     rw[cV0,aL0 g0,aL0 g0,aL0 g0,if_neg (by simp),if_neg (by simp),if_pos (by simp),rb0 g1,LxR.bind]
     dsimp only
     rw[bf0 g2,LxR.bind,c2 ts' _ hT,LxR.bind,bf0 hc]
     rfl
  ·rcases pKey_k h with e|e<;>(injection e with e1 e2)
   ·exact key eu0 (by decide) e2 e1
   ·exact key ck0 (by decide) e2 e1
def eSl (s:Slo):Slo:=⟨s.name,s.type,0⟩
def cX0 (s:Slo):List TD:=[aG0 (sB s.name)]++[ap0 [58]]++tTy 3 (sB s.type)
def nh0 (s:Slo):Prop:=∀ ts n,Has ts n (cX0 s)->∃ s',eSl s'=eSl s/\iv0 ts n=.ok (s',n+(cX0 s).length)
theorem rf0 {ts:List Tok} {n m:Nat} {s:Slo} (h:iv0 ts n=.ok (s,m)):n+(cX0 s).length<=m/\nh0 s:=by
 unfold iv0 at h
 obtain⟨t,h1,h⟩:=bd0 h
 obtain⟨rfl,-,hr⟩:=la0 h1
 obtain⟨k1,h2,h⟩:=bd0 h
 obtain⟨rfl,-⟩:=b10 h2
 obtain⟨⟨a,k⟩,h3,h⟩:=bd0 h
 injection h with h;injection h with e1 e2;subst e1 e2
 obtain⟨c1,c2⟩:=p30 ts 3 _ a k h3
 have el:∀ n',n'+(cX0 ⟨(tk ts n).text,bS a,(tk ts n).at_⟩).length=n'+1+1+(tTy 3 a).length:=λn'=>by
  unfold cX0;simp only[List.length_append,List.length_cons,List.length_nil];show n'+(0+1+(0+1)+(tTy 3 a).length)=_;omega
 refine⟨by dsimp only at *;rw[el];omega,λts' n' hT=>?_⟩
 unfold cX0 at hT
 simp only[List.append_assoc,List.cons_append,List.nil_append] at hT
 obtain⟨g0,hT⟩:=hT.cons
 obtain⟨g1,hT⟩:=hT.cons
 obtain⟨n1,n2⟩:=hP0 hr g0
 refine⟨⟨(tk ts n).text,bS a,(tk ts' n').at_⟩,rfl,?_⟩
 dsimp only
 rw[el]
 unfold iv0
 rw[n1,LxR.bind]
 dsimp only
 rw[bf0 g1,LxR.bind,c2 ts' (n'+1+1) hT,LxR.bind,n2]
def parT (l:List Slo):List TD:=(l.map λa=>ap0 [44]::cX0 a).flatten
theorem rr0 (a:Slo) (l:List Slo):sepT ((a::l).map cX0)=cX0 a++parT l:=by
 rw[List.map_cons,sepT]
 unfold parT
 rw[List.map_map];rfl
theorem parT_len (l:List Slo):(parT l).length=(l.map λa=>(cX0 a).length+1).sum:=by
 induction l with
 | nil=>rfl
 | cons b l ih =>
  have e:parT (b::l)=ap0 [44]::(cX0 b++parT l):=by unfold parT;simp
  rw[e,List.map_cons,List.sum_cons]
  simp only[List.length_cons,List.length_append,ih];omega
theorem o20:∀ (l:List Slo) (a:Slo),(∀ x∈a::l,nh0 x)->∀ ts n out,Has ts n (cX0 a++parT l++[ap0 [41]]) ->
  ∃ l',l'.map eSl=(a::l).map eSl/\Ev (λf=>bI0 ts f out n) (.ok (out++l',n+(cX0 a++parT l).length+1))
 | [],a,h,ts,n,out,hT=>by
  have e:parT []=[]:=rfl
  rw[e,List.append_nil] at hT ⊢
  obtain⟨hT,hc⟩:=hT.append
  obtain⟨hc,-⟩:=hc.cons
  obtain⟨x,h1,h2⟩:=h a (by simp) ts n hT
  refine⟨[x],by simp[h1],?_⟩
  exact (Ev.same (g:=λ_=>(.ok (out++[x],n+(cX0 a).length+1):PR (List Slo))) λ_=>rfl).succ λf=>by
   rw[bI0,h2,LxR.bind]
   dsimp only
   rw[aL0 hc,if_pos (by simp)]
 | b::l,a,h,ts,n,out,hT=>by
  have e:parT (b::l)=ap0 [44]::(cX0 b++parT l):=by unfold parT;simp
  rw[e,List.append_assoc] at hT
  obtain⟨hT,hc⟩:=hT.append
  rw[List.cons_append] at hc
  obtain⟨hc,hr⟩:=hc.cons
  obtain⟨x,h1,h2⟩:=h a (by simp) ts n hT
  obtain⟨l',g1,g2⟩:=o20 l b (λy hy=>h y (by simp[hy])) ts (n+(cX0 a).length+1) (out++[x]) hr
  refine⟨x::l',by rw[List.map_cons,List.map_cons,g1,h1],?_⟩
  have el:n+(cX0 a++parT (b::l)).length+1=n+(cX0 a).length+1+(cX0 b++parT l).length+1:=by rw[e];simp only[List.length_append,List.length_cons];omega
  rw[el,show out++x::l'=out++[x]++l' by simp]
  exact g2.succ λf=>by
   rw[bI0,h2,LxR.bind]
   dsimp only
   rw[aL0 hc,if_neg (by simp),bf0 hc]
   rfl
theorem nZ0 (ts:List Tok):∀ (f:Nat) (out:List Slo) (n:Nat) (r:List Slo) (m:Nat),bI0 ts f out n=.ok (r,m)->∃ l,r=out++l/\l≠[]/\(∀ a∈l,nh0 a)/\n+(l.map λa=>(cX0 a).length+1).sum<=m
 | 0,out,n,r,m,h=>by rw[bI0] at h;cases h
 | f+1,out,n,r,m,h=>by
  rw[bI0] at h
  obtain⟨⟨s,k⟩,h1,h⟩:=bd0 h
  obtain⟨c1,c2⟩:=rf0 h1
  dsimp only at h
  split at h
  ·injection h with h;injection h with e1 e2;subst e1 e2
   exact⟨[s],rfl,by simp,by simpa using c2,by simp;omega⟩
  ·obtain⟨k2,h2,h⟩:=bd0 h
   obtain⟨rfl,-⟩:=b10 h2
   obtain⟨l,e,hne,a2,a3⟩:=nZ0 ts f (out++[s]) (k+1) r m h
   refine⟨s::l,by rw[e];simp,by simp,λa ha=>?_,by rw[List.map_cons,List.sum_cons];omega⟩
   rcases List.mem_cons.1 ha with rfl|ha
   ·exact c2
   ·exact a2 a ha
def eF (f:Fun):Fun:=⟨f.name,f.on,f.params.map eSl,f.result,f.locals,eT f.body,0⟩
def tFn (f:Fun):List TD:=[aG0 (sB f.name)]++[ap0 [40]]++sepT (f.params.map cX0)++[ap0 [41]]++[ap0 [58]]++tTy 3 (sB f.result)++tB f.body
def FnAt (x:Fun):Prop:=∀ ts n,Has ts n (tFn x)->∃ x',eF x'=eF x/\Ev (λf=>pFun ts f x.on n) (.ok (x',n+(tFn x).length))
theorem sepS_len (l:List Slo):(sepT (l.map cX0)).length+1<=(l.map λa=>(cX0 a).length+1).sum+(if l=[] then 1 else 0):=by
 cases l with
 | nil=>simp[sepT]
 | cons a l =>
  rw[rr0,List.length_append,parT_len,List.map_cons,List.sum_cons,if_neg (by simp)];omega
theorem read_fn {ts:List Tok} {f n m:Nat} {on:Bool} {x:Fun} (h:pFun ts f on n=.ok (x,m)):n+(tFn x).length<=m/\FnAt x/\x.on=on:=by
 unfold pFun at h
 obtain⟨t,h1,h⟩:=bd0 h
 obtain⟨rfl,-,hr⟩:=la0 h1
 obtain⟨k1,h2,h⟩:=bd0 h
 obtain⟨rfl,-⟩:=b10 h2
 obtain⟨⟨ps,k2⟩,h3,h⟩:=bd0 h
 obtain⟨k3,h4,h⟩:=bd0 h
 obtain⟨rfl,-⟩:=b10 h4
 obtain⟨⟨a,k4⟩,h5,h⟩:=bd0 h
 obtain⟨⟨b,k5⟩,h6,h⟩:=bd0 h
 injection h with h;injection h with e1 e2;subst e1 e2
 obtain⟨c1,c2⟩:=p30 ts 3 _ a k4 h5
 obtain⟨b1,b2⟩:=(srcS ts f).block 1 k4 b k5 h6
 dsimp only at *
 have hps:n+1+1+(sepT (ps.map cX0)).length+1<=k2/\∀ s∈ps,nh0 s:=by
  split at h3
  ·injection h3 with h3;injection h3 with e1 e2;subst e1 e2
   exact⟨by simp[sepT],λs hs=>by cases hs⟩
  ·obtain⟨l,e,hne,a2,a3⟩:=nZ0 ts f [] _ ps k2 h3
   rw[List.nil_append] at e;subst e
   have:=sepS_len ps
   rw[if_neg hne] at this
   exact⟨by omega,a2⟩
 have el:∀ n',n'+(tFn ⟨(tk ts n).text,on,ps,bS a,[],b,(tk ts n).at_⟩).length=n'+1+1+(sepT (ps.map cX0)).length+1+1+(tTy 3 a).length+(tB b).length:=λn'=>by
  unfold tFn
  simp only[List.length_append,List.length_cons,List.length_nil]
  show n'+(0+1+(0+1)+(sepT (ps.map cX0)).length+(0+1)+(0+1)+(tTy 3 a).length+(tB b).length)=_
  omega
 refine⟨by rw[el];omega,λts' n' hT=>?_,rfl⟩
 rw[el]
 unfold tFn at hT
 simp only[List.append_assoc,List.cons_append,List.nil_append] at hT
 obtain⟨g0,hT⟩:=hT.cons
 obtain⟨g1,hT⟩:=hT.cons
 obtain⟨n1,n2⟩:=hP0 hr g0
 have tail:∀ (ps':List Slo) (k:Nat),Has ts' k (ap0 [58]::(tTy 3 a++tB b))->∃ b',eT b'=eT b/\Ev (λf=>(aX0 ts' k [58]).bind λn2=>(cV0 ts' 4 n2).bind λr=>(bc0 ts' f 1 r.2).bind λb=>(.ok (⟨(tk ts n).text,on,ps',bS r.1,[],b.1,(tk ts' n').at_⟩,b.2):PR Fun)) (.ok (⟨(tk ts n).text,on,ps',bS a,[],b',(tk ts' n').at_⟩,k+1+(tTy 3 a).length+(tB b).length)):=by
  intro ps' k hk
  obtain⟨g2,hk⟩:=hk.cons
  obtain⟨hty,hb⟩:=hk.append
  obtain⟨b',g3,g4⟩:=b2 1 (Nat.le_refl 1) ts' _ hb
  refine⟨b',g3,?_⟩
  have:=Ev.bind (k:=λf q=>(.ok (⟨(tk ts n).text,on,ps',bS a,[],q.1,(tk ts' n').at_⟩,q.2):PR Fun)) g4 (Ev.same λf=>rfl)
  exact this.of λf=>by rw[bf0 g2,LxR.bind,c2 ts' (k+1) hty];rfl
 cases ps with
 | nil =>
  have e2:sepT (([]:List Slo).map cX0)=[]:=rfl
  rw[e2,List.nil_append] at hT
  obtain⟨g2,hT⟩:=hT.cons
  obtain⟨b',g3,g4⟩:=tail [] (n'+1+1+1) hT
  refine⟨⟨(tk ts n).text,on,[],bS a,[],b',(tk ts' n').at_⟩,by unfold eF;rw[g3],?_⟩
  rw[e2,show n'+1+1+([]:List TD).length+1+1+(tTy 3 a).length+(tB b).length=n'+1+1+1+1+(tTy 3 a).length+(tB b).length by simp]
  exact g4.of λf=>by
   unfold pFun
   rw[n1,LxR.bind]
   dsimp only
   rw[bf0 g1,LxR.bind,aL0 g2,if_pos (by simp),LxR.bind,n2]
 | cons s l =>
  rw[rr0] at hT ⊢
  have hh:isT ts' (n'+1+1) 4 [41]=false:=by
   have hT':=hT
   unfold cX0 at hT'
   simp only[List.append_assoc,List.cons_append,List.nil_append] at hT'
   obtain⟨g,-⟩:=hT'.cons
   rw[aL0 g];simp
  have hT1:Has ts' (n'+1+1) (cX0 s++parT l++[ap0 [41]]):=by
   obtain⟨L,hL⟩:=hT
   exact⟨ap0 [58]::(tTy 3 (sB (bS a))++tB b)++L,by rw[hL];simp⟩
  have hT2:Has ts' (n'+1+1+(cX0 s++parT l).length+1) (ap0 [58]::(tTy 3 a++tB b)):=by
   have:=hT.append.2
   obtain⟨_,this⟩:=this.cons
   exact this
  obtain⟨l',g5,g6⟩:=o20 l s hps.2 ts' (n'+1+1) [] hT1
  obtain⟨b',g3,g4⟩:=tail l' _ hT2
  refine⟨⟨(tk ts n).text,on,l',bS a,[],b',(tk ts' n').at_⟩,by unfold eF;dsimp only;rw[g3,g5],?_⟩
  have:=Ev.bind (k:=λf q=>(aX0 ts' q.2 [58]).bind λn2=>(cV0 ts' 4 n2).bind λr=>(bc0 ts' f 1 r.2).bind λb=>(.ok (⟨(tk ts n).text,on,q.1,bS r.1,[],b.1,(tk ts' n').at_⟩,b.2):PR Fun)) g6 g4
  exact this.of λf=>by
   unfold pFun
   rw[n1,LxR.bind]
   dsimp only
   rw[bf0 g1,LxR.bind,if_neg (by rw[hh];simp),n2]
end Go.Am
end

section
namespace Go.Am
def dw0 (l:List Slo):List TD:=(l.map λs=>[aG0 dO0]++cX0 s++[ap0 [59]]).flatten
def tFns (l:List Fun):List TD:=(l.map λf=>[aG0 (if f.on then kwOn else kwFn)]++tFn f).flatten
def tP (p:Prg):List TD:=[aG0 cv0]++[(2,numB p.version,p.version)]++[ap0 [59]]++dw0 p.states++tFns p.fns
abbrev endT:TD:=(5,[],0)
def eP (p:Prg):Prg:=⟨p.version,p.states.map eSl,p.fns.map eF⟩
theorem n00 (ts:List Tok):∀ (f:Nat) (p:Prg) (n:Nat) (q:Prg) (m:Nat),fd0 ts f p n=.ok (q,m) ->
  ∃ S F,q=⟨p.version,p.states++S,p.fns++F⟩/\(∀ s∈S,nh0 s)/\(∀ x∈F,FnAt x)/\n+(dw0 S).length+(tFns F).length<=m/\(tk ts m).kind=5
 | 0,p,n,q,m,h=>by rw[fd0] at h;cases h
 | f+1,p,n,q,m,h=>by
  rw[fd0] at h
  split at h
  ·rename_i hk
   injection h with h;injection h with e1 e2;subst e1 e2
   exact⟨[],[],by simp,(λs hs=>by cases hs),(λs hs=>by cases hs),by simp[dw0,tFns],hk⟩
  split at h
  ·obtain⟨⟨s,k⟩,h1,h⟩:=bd0 h
   obtain⟨k2,h2,h⟩:=bd0 h
   obtain⟨rfl,-⟩:=b10 h2
   obtain⟨c1,c2⟩:=rf0 h1
   obtain⟨S,F,e,a1,a2,a3,a4⟩:=n00 ts f _ _ q m h
   refine⟨s::S,F,by rw[e];simp,λx hx=>?_,a2,?_,a4⟩
   ·rcases List.mem_cons.1 hx with rfl|hx
    ·exact c2
    ·exact a1 x hx
   ·unfold dw0 at *
    rw[List.map_cons,List.flatten_cons]
    simp only[List.length_append,List.length_cons,List.length_nil]
    dsimp only at *
    omega
  have fn:∀ on:Bool,(∀ h:(pFun ts f on (n+1)).bind (λq=>fd0 ts f { p with fns:=p.fns++[q.1] } q.2)=.ok (q,m),∃ S F,q=⟨p.version,p.states++S,p.fns++F⟩/\(∀ s∈S,nh0 s)/\(∀ x∈F,FnAt x)/\n+(dw0 S).length+(tFns F).length<=m/\(tk ts m).kind=5):=by
   intro on h
   obtain⟨⟨x,k⟩,h1,h⟩:=bd0 h
   obtain⟨c1,c2,c3⟩:=read_fn h1
   obtain⟨S,F,e,a1,a2,a3,a4⟩:=n00 ts f _ _ q m h
   refine⟨S,x::F,by rw[e];simp,a1,λy hy=>?_,?_,a4⟩
   ·rcases List.mem_cons.1 hy with rfl|hy
    ·exact c2
    ·exact a2 y hy
   ·unfold tFns at *
    rw[List.map_cons,List.flatten_cons]
    simp only[List.length_append,List.length_cons,List.length_nil]
    dsimp only at *
    omega
  split at h
  ·exact fn false h
  split at h
  ·exact fn true h
  ·cases h
theorem tc0 {ts:List Tok}:∀ (F:List Fun),(∀ x∈F,FnAt x)->∀ (p:Prg) (n:Nat),Has ts n (tFns F++[endT]) ->
  ∃ F',F'.map eF=F.map eF/\Ev (λf=>fd0 ts f p n) (.ok (⟨p.version,p.states,p.fns++F'⟩,n+(tFns F).length))
 | [],h,p,n,hT=>by
  obtain⟨h0,-⟩:=(show Has ts n (endT::[]) from hT).cons
  refine⟨[],rfl,?_⟩
  have hk:(tk ts n).kind=5:=congrArg Prod.fst h0
  rw[List.append_nil]
  exact (Ev.same (g:=λ_=>(.ok (p,n):PR Prg)) λ_=>rfl).succ λf=>by rw[fd0,if_pos hk]
 | x::F,h,p,n,hT=>by
  have e:tFns (x::F)=[aG0 (if x.on then kwOn else kwFn)]++tFn x++tFns F:=by unfold tFns;rw[List.map_cons,List.flatten_cons]
  rw[e] at hT
  simp only[List.append_assoc,List.cons_append,List.nil_append] at hT
  obtain⟨h0,hT⟩:=hT.cons
  obtain⟨hX,hr⟩:=hT.append
  obtain⟨x',g1,g2⟩:=h x (by simp) ts (n+1) hX
  obtain⟨F',g3,g4⟩:=tc0 F (λy hy=>h y (by simp[hy])) { p with fns:=p.fns++[x'] } _ hr
  refine⟨x'::F',by rw[List.map_cons,List.map_cons,g1,g3],?_⟩
  have el:n+(tFns (x::F)).length=n+1+(tFn x).length+(tFns F).length:=by rw[e];simp only[List.length_append,List.length_cons,List.length_nil];omega
  rw[el,show p.fns++x'::F'=p.fns++[x']++F' by simp]
  have hk:(tk ts n).kind=1:=congrArg Prod.fst h0
  cases hon:x.on with
  | true =>
   rw[hon] at h0 g2
   have:=Ev.bind (k:=λf q=>fd0 ts f { p with fns:=p.fns++[q.1] } q.2) g2 g4
   exact this.succ λf=>by
    rw[fd0,if_neg (by rw[hk];decide),isW h0,isW h0,isW h0,if_neg (by decide),if_neg (by decide),if_pos (by decide)]
  | false =>
   rw[hon] at h0 g2
   have:=Ev.bind (k:=λf q=>fd0 ts f { p with fns:=p.fns++[q.1] } q.2) g2 g4
   exact this.succ λf=>by
    rw[fd0,if_neg (by rw[hk];decide),isW h0,isW h0,if_neg (by decide),if_pos (by decide)]
theorem tops_at {ts:List Tok} {F:List Fun} (hF:∀ x∈F,FnAt x):∀ (S:List Slo),(∀ s∈S,nh0 s)->∀ (p:Prg) (n:Nat),Has ts n (dw0 S++tFns F++[endT]) ->
  ∃ S' F',S'.map eSl=S.map eSl/\F'.map eF=F.map eF/\Ev (λf=>fd0 ts f p n) (.ok (⟨p.version,p.states++S',p.fns++F'⟩,n+(dw0 S).length+(tFns F).length))
 | [],h,p,n,hT=>by
  obtain⟨F',g1,g2⟩:=tc0 F hF p n hT
  exact⟨[],F',rfl,g1,by rw[List.append_nil];exact g2⟩
 | s::S,h,p,n,hT=>by
  have e:dw0 (s::S)=[aG0 dO0]++cX0 s++[ap0 [59]]++dw0 S:=by unfold dw0;rw[List.map_cons,List.flatten_cons]
  rw[e] at hT
  simp only[List.append_assoc,List.cons_append,List.nil_append] at hT
  obtain⟨h0,hT⟩:=hT.cons
  obtain⟨hX,hr⟩:=hT.append
  obtain⟨h1,hr⟩:=hr.cons
  obtain⟨s',g1,g2⟩:=h s (by simp) ts (n+1) hX
  obtain⟨S',F',g3,g5,g4⟩:=tops_at hF S (λy hy=>h y (by simp[hy])) { p with states:=p.states++[s'] } _ (by rw[List.append_assoc];exact hr)
  refine⟨s'::S',F',by rw[List.map_cons,List.map_cons,g1,g3],g5,?_⟩
  have el:n+(dw0 (s::S)).length+(tFns F).length=n+1+(cX0 s).length+1+(dw0 S).length+(tFns F).length:=by rw[e];simp only[List.length_append,List.length_cons,List.length_nil];omega
  rw[el,show p.states++s'::S'=p.states++[s']++S' by simp]
  have hk:(tk ts n).kind=1:=congrArg Prod.fst h0
  exact g4.succ λf=>by
   rw[fd0,if_neg (by rw[hk];decide),isW h0,if_pos (by decide),g2,LxR.bind]
   dsimp only
   rw[bf0 h1]
   rfl
theorem read_prog {ts:List Tok} {f m:Nat} {p:Prg} (h:h60 ts f=.ok (p,m)) :
  (tP p).length+1<=ts.length/\∀ ts',Has ts' 0 (tP p++[endT])->∃ p',eP p'=eP p/\Ev (λf=>h60 ts' f) (.ok (p',(tP p).length)):=by
 unfold h60 at h
 obtain⟨k,h1,h⟩:=bd0 h
 obtain rfl:=pWord_k h1
 obtain⟨⟨v,k1⟩,h2,h⟩:=bd0 h
 obtain⟨k2,h3,h⟩:=bd0 h
 obtain⟨rfl,-⟩:=b10 h3
 have hv:(tk ts 1).kind=2/\v=tk ts 1/\k1=2:=by
  unfold pInt at h2
  split at h2
  ·rename_i hk;injection h2 with h2;injection h2 with e1 e2;exact⟨hk,e1.symm,e2.symm⟩
  ·cases h2
 obtain⟨hvk,rfl,rfl⟩:=hv
 obtain⟨S,F,e,a1,a2,a3,a4⟩:=n00 ts f _ _ p m h
 dsimp only[List.nil_append] at e
 subst e
 have hm:m<ts.length:=by
  rcases Nat.lt_or_ge m ts.length with h|h
  ·exact h
  ·unfold tk at a4
   rw[List.getD_eq_getElem?_getD,List.getElem?_eq_none h] at a4
   cases a4
 have el:(tP ⟨(tk ts 1).num,S,F⟩).length=3+(dw0 S).length+(tFns F).length:=by
  unfold tP
  simp only[List.length_append,List.length_cons,List.length_nil]
 refine⟨by dsimp only at *;rw[el];omega,λts' hT=>?_⟩
 rw[el]
 unfold tP at hT
 simp only[List.append_assoc,List.cons_append,List.nil_append] at hT
 obtain⟨g0,hT⟩:=hT.cons
 obtain⟨g1,hT⟩:=hT.cons
 obtain⟨g2,hT⟩:=hT.cons
 obtain⟨S',F',g3,g4,g5⟩:=tops_at a2 S a1 ⟨(tk ts 1).num,[],[]⟩ (0+1+1+1) (by rw[List.append_assoc];exact hT)
 refine⟨⟨(tk ts 1).num,[]++S',[]++F'⟩,by unfold eP;simp only[List.nil_append,g3,g4],?_⟩
 have hk1:(tk ts' (0+1)).kind=2:=congrArg Prod.fst g1
 have hn1:(tk ts' (0+1)).num=(tk ts 1).num:=congrArg (λx=>x.2.2) g1
 refine g5.of λf=>?_
 unfold h60 kA0
 rw[isW g0,if_pos (by decide),LxR.bind]
 unfold pInt
 rw[if_pos hk1,LxR.bind]
 dsimp only
 rw[bf0 g2,LxR.bind,hn1]
theorem sF0 {s:Slo} {t:Bs} (h:fB0 s=some t):LxT t (cX0 s) a50:=by
 unfold fB0 at h
 split at h
 ·rename_i hc
  rw[Bool.and_eq_true] at hc
  injection h with h;subst h
  obtain⟨d,hd,hd2⟩:=tyB_is (r:=3) (show tyB 3 (sB s.type)=true from hc.1)
  have:=(((gp0 hc.2).append (lex1 (c:=58)) λr _=>a50.cons (by decide)).append (iq0 (b:=[32]) (by decide) (lex_ty hd 3 hd2)) λ_ _=>trivial)
  unfold cX0
  simpa[List.append_assoc] using this
 ·cases h
theorem oX0:∀ {l:List Slo} {t:Bs},bC0 l=some t->LxT t (dw0 l) Any
 | [],t,h=>by rw[bC0.eq_def] at h;injection h with h;subst h;exact .nil _
 | s::l,t,h=>by
  rw[bC0.eq_def] at h
  dsimp only at h
  split at h
  ·rename_i a b ha hb
   injection h with h;subst h
   have e:dw0 (s::l)=[aG0 dO0]++cX0 s++[ap0 [59]]++dw0 l:=by unfold dw0;rw[List.map_cons,List.flatten_cons]
   have:=((((gf0 (w:=dO0) (by decide)).sp.append (sF0 ha) λ_ _=>trivial).append (lex1 (c:=59)) λr _=>a50.cons (by decide)).then (b:=[10]) (by decide) λ_=>trivial).append (oX0 hb) λ_ _=>trivial
   rw[e]
   simpa[List.append_assoc] using this
  ·cases h
theorem od0:∀ {l:List Slo} {ts:List Bs},bA0 l=some ts->ts.length=(l.map cX0).length/\∀ i (h1:i<ts.length) (h2:i<(l.map cX0).length),LxT ts[i] (l.map cX0)[i] a50
 | [],ts,h=>by rw[bA0.eq_def] at h;injection h with h;subst h;exact⟨rfl,λi h1=>by simp at h1⟩
 | s::l,ts,h=>by
  rw[bA0.eq_def] at h
  dsimp only at h
  split at h
  ·rename_i a b ha hb
   injection h with h;subst h
   obtain⟨g1,g2⟩:=od0 hb
   refine⟨by simpa using g1,λi h1 h2=>?_⟩
   cases i with
   | zero=>exact sF0 ha
   | succ i=>exact g2 i (by simpa using h1) (by simpa using h2)
  ·cases h
theorem lex_fn {f:Fun} {t:Bs} (hp:plB f.body=true) (h:ml0 f=some t):LxT t ([aG0 (if f.on then kwOn else kwFn)]++tFn f) Any:=by
 unfold ml0 at h
 split at h
 ·rename_i ps b h1 h2
  split at h
  ·rename_i hc
   rw[Bool.and_eq_true] at hc
   injection h with h;subst h
   obtain⟨g1,g2⟩:=od0 h1
   obtain⟨d,hd,hd2⟩:=tyB_is (r:=3) (show tyB 3 (sB f.result)=true from hc.1)
   have hb:=lexB 0 f.body (λx hx s hs=>lexS _ 1 x (Nat.lt_succ_self _) (pZ0 hp x hx) hs) h2
   have nw:∀ {c:UInt8},(an0++aj0).contains c=false->∀ r:Bs,Any r->a50 ([c]++r):=λhc r _=>a50.cons hc
   have hk:LxT (if f.on then kwOn else kwFn) [aG0 (if f.on then kwOn else kwFn)] a50:=by split<;>exact gf0 (by decide)
   have:=((((((((hk.sp.append (gp0 hc.2) λ_ _=>trivial).append (lex1 (c:=40)) (nw (by decide))).append (lex_sep g1 g2) λ_ _=>trivial).append (lex1 (c:=41)) (nw (by decide))).append (lex1 (c:=58)) λ_ _=>trivial).append (iq0 (b:=[32]) (by decide) (lex_ty hd 3 hd2).sp) λ_ _=>trivial).append hb λ_ _=>trivial).then (b:=[10]) (by decide) λ_=>trivial)
   unfold tFn tB
   simpa[List.append_assoc] using this
  ·cases h
 ·cases h
theorem lex_fns:∀ {l:List Fun} {t:Bs},(∀ f∈l,plB f.body=true)->dX0 l=some t->LxT t (tFns l) Any
 | [],t,_,h=>by rw[dX0.eq_def] at h;injection h with h;subst h;exact .nil _
 | x::l,t,hp,h=>by
  rw[dX0.eq_def] at h
  dsimp only at h
  split at h
  ·rename_i a b ha hb
   injection h with h;subst h
   have e:tFns (x::l)=([aG0 (if x.on then kwOn else kwFn)]++tFn x)++tFns l:=by unfold tFns;rw[List.map_cons,List.flatten_cons]
   rw[e]
   exact (lex_fn (hp x (by simp)) ha).append (lex_fns (λf hf=>hp f (by simp[hf])) hb) λ_ _=>trivial
  ·cases h
theorem lex_prog {p:Prg} {t:Bs} (hv:p.version<9223372036854775808) (hp:∀ f∈p.fns,plB f.body=true) (h:shP p=some t):LxT t (tP p) Any:=by
 unfold shP at h
 split at h
 ·rename_i h0
  split at h
  ·rename_i a b ha hb
   injection h with h;subst h
   have:=(((((gf0 (w:=cv0) (by decide)).sp.append (lex_num h0 hv) λ_ _=>trivial).append (lex1 (c:=59)) λr _=>a50.cons (by decide)).then (b:=[10]) (by decide) λ_=>trivial).append (oX0 ha) λ_ _=>trivial).append (lex_fns hp hb) λ_ _=>trivial
   unfold tP
   simpa[List.append_assoc] using this
  ·cases h
 ·cases h
theorem LxT.whole {t:Bs} {T:List TD} (h:LxT t T Any) (hT:T.length<=4095) (ht:t.length<=16384):∃ ts,em0 t=.ok ts/\ts.map Tok.td=T++[endT]:=by
 have hl:=h.len
 obtain⟨toks,e1,e2⟩:=h.go t 0 [] (t.length-T.length) [] (by simp) trivial (by simp;omega)
 have l1:toks.length=T.length:=by rw[<- e1,List.length_map]
 rw[show t.length-T.length+1+T.length=t.length+1 by omega,Nat.zero_add,List.nil_append] at e2
 have hb:aI0 t (t.length+1) t.length=t.length:=by
  rw[aI0,n60 (Nat.le_refl _),if_neg (by rw[List.getElem?_eq_none (Nat.le_refl _)];simp)]
 refine⟨toks++[⟨5,bS [],0,t.length⟩],?_,by rw[List.map_append,e1];rfl⟩
 unfold em0
 rw[if_neg (by omega),e2,hr0,hb,if_pos (Nat.le_refl _),if_neg (by omega)]
theorem oL0 {ts:List Tok} {f m:Nat} {p:Prg} {t:Bs} (hr:h60 ts f=.ok (p,m)) (hts:ts.length<=4096) (hv:p.version<9223372036854775808) (hp:∀ f∈p.fns,plB f.body=true) (h:shP p=some t) (ht:t.length<=16384) :
  (∃ ts',em0 t=.ok ts'/\ts'.length<=ts.length)/\∃ q F,gh0 t F=.ok q/\eP q=eP p:=by
 obtain⟨h1,h2⟩:=read_prog hr
 obtain⟨ts',e1,e2⟩:=(lex_prog hv hp h).whole (by omega) ht
 have hl:ts'.length=(tP p).length+1:=by rw[<- List.length_map (f:=Tok.td),e2,List.length_append];rfl
 refine⟨⟨ts',e1,by omega⟩,?_⟩
 obtain⟨q,g1,F,g2⟩:=h2 ts' ⟨[],by rw[List.drop_zero,e2,List.append_nil]⟩
 refine⟨q,F,?_,g1⟩
 unfold gh0
 rw[e1]
 dsimp only
 have:=g2 F (Nat.le_refl F)
 dsimp only at this
 rw[this]
end Go.Am
end

section
namespace Go.Am
theorem mz0 {x:Exq} {l m:List Exq} (h:eL (x::l)=eL m):∃ y k,m=y::k/\eE x=eE y/\eL l=eL k:=by
 cases m with
 | nil=>rw[aU0,eL_nil] at h;cases h
 | cons y k=>rw[aU0,aU0] at h;injection h with a b;exact⟨y,k,rfl,a,b⟩
theorem ii0 {m:List Exq} (h:eL []=eL m):m=[]:=by
 cases m with
 | nil=>rfl
 | cons y k=>rw[aU0,eL_nil] at h;cases h
theorem eT_inv {x:Stm} {l m:List Stm} (h:eT (x::l)=eT m):∃ y k,m=y::k/\eS x=eS y/\eT l=eT k:=by
 cases m with
 | nil=>rw[kY0,eT_nil] at h;cases h
 | cons y k=>rw[kY0,kY0] at h;injection h with a b;exact⟨y,k,rfl,a,b⟩
theorem oP0 {m:List Stm} (h:eT []=eT m):m=[]:=by
 cases m with
 | nil=>rfl
 | cons y k=>rw[kY0,eT_nil] at h;cases h
theorem qz0 {x y:Exq} (h:eE x=eE y):(x.kind=y.kind/\x.op=y.op/\x.num=y.num/\x.text=y.text/\x.slot=y.slot/\x.type=y.type)/\eL x.args=eL y.args:=by
 obtain⟨k,op,num,text,slot,type,args,at_⟩:=x
 obtain⟨k',op',num',text',slot',type',args',at'⟩:=y
 rw[gk0,gk0] at h
 injection h with a b c d e f g _
 exact⟨⟨a,b,c,d,e,f⟩,g⟩
theorem eS_inv {x y:Stm} (h:eS x=eS y):(x.kind=y.kind/\x.name=y.name/\x.slot=y.slot/\x.state=y.state/\x.num=y.num)/\eL x.e=eL y.e/\eT x.body=eT y.body/\eT x.els=eT y.els:=by
 obtain⟨k,name,slot,state,num,e,body,els,at_⟩:=x
 obtain⟨k',name',slot',state',num',e',body',els',at'⟩:=y
 rw[eS.eq_def,eS.eq_def] at h
 injection h with a b c d e f g i _
 exact⟨⟨a,b,c,d,e⟩,f,g,i⟩
theorem su0:∀ {l m:List Exq},eL l=eL m->l.length=m.length
 | [],m,h=>by rw[ii0 h]
 | x::l,m,h=>by
  obtain⟨y,k,rfl,_,h2⟩:=mz0 h
  simp[su0 h2]
theorem sv0:∀ {l m:List Stm},eT l=eT m->l.length=m.length
 | [],m,h=>by rw[oP0 h]
 | x::l,m,h=>by
  obtain⟨y,k,rfl,_,h2⟩:=eT_inv h
  simp[sv0 h2]
structure Alk (x y:Exq):Prop where
 sh:shE x=shE y
 pl:plE x=plE y
 sam:samE false x y=true
theorem pn0:∀ {l m:List Exq},(∀ x∈l,∀ y,eE x=eE y->Alk x y)->eL l=eL m->shL l=shL m/\plL l=plL m/\samL false l m=true
 | [],m,_,h=>by
  rw[ii0 h]
  exact⟨rfl,rfl,by rw[samL.eq_def];rfl⟩
 | x::l,m,hx,h=>by
  obtain⟨y,k,rfl,h1,h2⟩:=mz0 h
  have a:=hx x (by simp) y h1
  obtain⟨b1,b2,b3⟩:=pn0 (λz hz=>hx z (by simp[hz])) h2
  refine⟨by rw[shL.eq_def,shL.eq_def];dsimp only;rw[a.sh,b1],by rw[plL,plL,a.pl,b2],by rw[samL.eq_def];dsimp only;rw[a.sam,b3];rfl⟩
theorem isOp_e {x y:Exq} (h:eE x=eE y):kz0 x=kz0 y:=by unfold kz0;rw[(qz0 h).1.1]
theorem binds_e {x y:Exq} (h:eE x=eE y) (n:Int):cj0 x n=cj0 y n:=by unfold cj0;rw[(qz0 h).1.1,(qz0 h).1.2.1]
theorem alk:∀ (m:Nat) (x:Exq),SizeOf.sizeOf x<m->∀ y,eE x=eE y->Alk x y:=by
 intro m
 induction m with
 | zero=>intro x h;omega
 | succ m ih =>
  intro x hm y h
  have hi:=qz0 h
  obtain⟨k,op,num,text,slot,type,args,at_⟩:=x
  obtain⟨k',op',num',text',slot',type',args',at'⟩:=y
  obtain⟨⟨rfl,rfl,rfl,rfl,rfl,rfl⟩,e7⟩:(k=k'/\op=op'/\num=num'/\text=text'/\slot=slot'/\type=type')/\eL args=eL args':=hi
  have hsz:∀ z∈args,SizeOf.sizeOf z<m:=λz hz=>by
   have:=List.sizeOf_lt_of_mem hz
   simp only[Exq.mk.sizeOf_spec] at hm;omega
  obtain⟨b1,b2,b3⟩:=pn0 (λz hz y hy=>ih z (hsz z hz) y hy) e7
  have hl:=su0 e7
  refine⟨?_,by rw[plE,plE,b2,hl],?_⟩
  ·rw[shE.eq_def,shE.eq_def]
   dsimp only
   rw[b1]
   match args,args',e7 with
   | [],m,e=>rw[ii0 e]
   | [x],m,e =>
    obtain⟨y,k2,rfl,h1,h2⟩:=mz0 e
    rw[ii0 h2]
    have hk:x.kind=y.kind:=(qz0 h1).1.1
    generalize shL [y]=L
    rcases L with _|⟨_|⟨a,_|⟨b,_|⟨c,l⟩⟩⟩⟩<;>simp[hk]
   | [x,x2],m,e =>
    obtain⟨y,k2,rfl,h1,h2⟩:=mz0 e
    obtain⟨y2,k3,rfl,h3,h4⟩:=mz0 h2
    rw[ii0 h4]
    generalize shL [y,y2]=L
    rcases L with _|⟨_|⟨a,_|⟨b,_|⟨c,l⟩⟩⟩⟩<;>simp[isOp_e h1,binds_e h1,binds_e h3]
   | x::x2::x3::l,m,e =>
    obtain⟨y,k2,rfl,h1,h2⟩:=mz0 e
    obtain⟨y2,k3,rfl,h3,h4⟩:=mz0 h2
    obtain⟨y3,k4,rfl,h5,h6⟩:=mz0 h4
    generalize shL (y::y2::y3::k4)=L
    rcases L with _|⟨_|⟨a,_|⟨b,_|⟨c,l⟩⟩⟩⟩<;>simp
  ·rw[samE.eq_def]
   dsimp only
   simp only[Exq.kind,Exq.op,Exq.num,Exq.text,Exq.slot,Exq.type,Exq.args,Exq.at_,and_true,true_and,hl,decide_true,Bool.true_and,b3]
   rfl
theorem alkE {x y:Exq} (h:eE x=eE y):Alk x y:=alk _ x (Nat.lt_succ_self _) y h
theorem alkL {l m:List Exq} (h:eL l=eL m):shL l=shL m/\plL l=plL m/\samL false l m=true:=pn0 (λx _ y hy=>alkE hy) h
structure AlkS (x y:Stm):Prop where
 sh:∀ n,shS n x=shS n y
 pl:plS x=plS y
 sam:samS false x y=true
theorem lm0:∀ {l m:List Stm},(∀ x∈l,∀ y,eS x=eS y->AlkS x y)->eT l=eT m->(∀ n,shT n l=shT n m/\shB n l=shB n m)/\plB l=plB m/\samB false l m=true
 | [],m,_,h=>by
  rw[oP0 h]
  exact⟨λn=>⟨rfl,rfl⟩,rfl,by rw[samB.eq_def];rfl⟩
 | x::l,m,hx,h=>by
  obtain⟨y,k,rfl,h1,h2⟩:=eT_inv h
  have a:=hx x (by simp) y h1
  obtain⟨b1,b2,b3⟩:=lm0 (λz hz=>hx z (by simp[hz])) h2
  have ht:∀ n,shT n (x::l)=shT n (y::k):=λn=>by rw[shT.eq_def,shT.eq_def];dsimp only;rw[a.sh,(b1 n).1]
  refine⟨λn=>⟨ht n,by rw[lS0,lS0,ht n]⟩,by rw[plB,plB,a.pl,b2],by rw[samB.eq_def];dsimp only;rw[a.sam,b3];rfl⟩
theorem alks:∀ (m:Nat) (x:Stm),SizeOf.sizeOf x<m->∀ y,eS x=eS y->AlkS x y:=by
 intro m
 induction m with
 | zero=>intro x h;omega
 | succ m ih =>
  intro x hm y h
  have hi:=eS_inv h
  obtain⟨k,name,slot,state,num,e,body,els,at_⟩:=x
  obtain⟨k',name',slot',state',num',e',body',els',at'⟩:=y
  obtain⟨⟨rfl,rfl,rfl,rfl,rfl⟩,e6,e7,e8⟩:(k=k'/\name=name'/\slot=slot'/\state=state'/\num=num')/\eL e=eL e'/\eT body=eT body'/\eT els=eT els':=hi
  simp only[Stm.mk.sizeOf_spec] at hm
  obtain⟨a1,a2,a3⟩:=alkL e6
  obtain⟨b1,b2,b3⟩:=lm0 (λz hz y hy=>ih z (by have:=List.sizeOf_lt_of_mem hz;omega) y hy) e7
  obtain⟨c1,c2,c3⟩:=lm0 (λz hz y hy=>ih z (by have:=List.sizeOf_lt_of_mem hz;omega) y hy) e8
  have hE:(els=[])=(els'=[]):=by rw[<- eT_one,e8,eT_one]
  refine⟨λn=>?_,by rw[plS,plS,a2,b2,c2,sv0 e7,sv0 e8,su0 e6],?_⟩
  ·rw[shS.eq_def,shS.eq_def]
   dsimp only
   simp only[a1,(b1 n).2,(c1 n).2,hE]
  ·rw[samS.eq_def]
   dsimp only
   simp only[Stm.kind,Stm.name,Stm.slot,Stm.state,Stm.num,Stm.e,Stm.body,Stm.els,Stm.at_,and_true,true_and,su0 e6,decide_true,Bool.true_and,a3,b3,c3]
   rfl
theorem alkT {l m:List Stm} (h:eT l=eT m):(∀ n,shT n l=shT n m/\shB n l=shB n m)/\plB l=plB m/\samB false l m=true:=lm0 (λx _ y hy=>alks _ x (Nat.lt_succ_self _) y hy) h
theorem nl0:∀ {l m:List Slo},l.map eSl=m.map eSl->bA0 l=bA0 m/\bC0 l=bC0 m/\dF0 false l m=true
 | [],[],_=>⟨rfl,rfl,by rw[dF0.eq_def];rfl⟩
 | [],_::_,h=>by simp at h
 | _::_,[],h=>by simp at h
 | x::l,y::m,h=>by
  rw[List.map_cons,List.map_cons] at h
  injection h with h1 h2
  obtain⟨b1,b2,b3⟩:=nl0 h2
  unfold eSl at h1
  injection h1 with c1 c2 _
  have hs:fB0 x=fB0 y:=by unfold fB0;rw[c1,c2]
  refine⟨by rw[bA0.eq_def,bA0.eq_def];dsimp only;rw[hs,b1],by rw[bC0.eq_def,bC0.eq_def];dsimp only;rw[hs,b2],?_⟩
  rw[dF0.eq_def]
  dsimp only
  rw[b3]
  unfold mj0 rn0
  simp[c1,c2]
structure AlkF (x y:Fun):Prop where
 sh:ml0 x=ml0 y
 sam:samF false x y=true
 pl:plB x.body=plB y.body
 len:x.params.length=y.params.length/\x.body.length=y.body.length
 sl:bA0 x.params=bA0 y.params
theorem alkF {x y:Fun} (h:eF x=eF y):AlkF x y:=by
 unfold eF at h
 injection h with c1 c2 c3 c4 c5 c6 _
 obtain⟨b1,b2,b3⟩:=nl0 c3
 obtain⟨d1,d2,d3⟩:=alkT c6
 refine⟨by unfold ml0;rw[b1,(d1 0).2,c1,c2,c4],?_,d2,⟨by have:=congrArg List.length c3;simpa using this,sv0 c6⟩,b1⟩
 unfold samF rn0
 rw[b3,d3]
 simp[c1,c2,c4,c5]
theorem alk_fns:∀ {l m:List Fun},l.map eF=m.map eF->dX0 l=dX0 m/\oI0 false l m=true
 | [],[],_=>⟨rfl,by rw[oI0.eq_def];rfl⟩
 | [],_::_,h=>by simp at h
 | _::_,[],h=>by simp at h
 | x::l,y::m,h=>by
  rw[List.map_cons,List.map_cons] at h
  injection h with h1 h2
  obtain⟨b1,b2⟩:=alk_fns h2
  have a:=alkF h1
  exact⟨by rw[dX0.eq_def,dX0.eq_def];dsimp only;rw[a.sh,b1],by rw[oI0.eq_def];dsimp only;rw[b2,a.sam];rfl⟩
theorem alkP {p q:Prg} (h:eP p=eP q):shP p=shP q/\samP false p q=true/\p.version=q.version/\p.states.length=q.states.length/\p.fns.length=q.fns.length/\∀ f∈q.fns,∃ g∈p.fns,AlkF g f:=by
 unfold eP at h
 injection h with c1 c2 c3
 obtain⟨_,b2,b3⟩:=nl0 c2
 obtain⟨d1,d2⟩:=alk_fns c3
 refine⟨by unfold shP;rw[c1,b2,d1],by unfold samP;rw[b3,d2,c1];simp,c1,by have:=congrArg List.length c2;simpa using this,by have:=congrArg List.length c3;simpa using this,λf hf=>?_⟩
 have:eF f∈p.fns.map eF:=by rw[c3];exact List.mem_map_of_mem hf
 obtain⟨g,hg,e⟩:=List.mem_map.1 this
 exact⟨g,hg,alkF e⟩
end Go.Am
end

section
namespace Go.Am
def Nz {α:Type} (r:LxR α):Prop:=∀ a e,r=.bad a e->e≠0
theorem Nz.ok {α:Type} (a:α):Nz (.ok a:LxR α):=λ_ _ h=>by cases h
theorem Nz.bad {α:Type} {n e:Int} (h:e≠0):Nz (.bad n e:LxR α):=λ_ _ k=>by injection k with _ k;subst k;exact h
theorem Nz.bind {α β:Type} {r:LxR α} {f:α->LxR β} (h:Nz r) (k:∀ a,Nz (f a)):Nz (r.bind f):=λa e hb=>by
 cases r with
 | ok x=>exact k x a e hb
 | bad n c=>injection hb with h1 h2;subst h2;exact h n c rfl
theorem Nz.ite {α:Type} {c:Prop} [Decidable c] {x y:LxR α} (h:Nz x) (k:Nz y):Nz (if c then x else y):=by split<;>assumption
theorem h50 {α:Type} (ts:List Tok) (n:Nat) {e:Int} (h:e≠0):Nz (eS0 ts n e:LxR α):=.bad h
section
variable {ts:List Tok}
theorem b00 (n:Nat) (s:Bs):Nz (aX0 ts n s):=.ite (.ok _) (h50 _ _ (by decide))
theorem nz_word (n:Nat) (s:Bs):Nz (kA0 ts n s):=.ite (.ok _) (h50 _ _ (by decide))
theorem k70 (n:Nat):Nz (df0 ts n):=.ite (.ok _) (h50 _ _ (by decide))
theorem nz_int (n:Nat):Nz (pInt ts n):=.ite (.ok _) (h50 _ _ (by decide))
theorem nz_key (n:Nat):Nz (pKey ts n):=.ite (.ok _) (.ite (.ok _) (h50 _ _ (by decide)))
theorem pQ0 (n d:Nat):Nz (hs0 ts n d):=.ite (h50 _ _ (by decide)) (.ok _)
theorem pR0:∀ r n,Nz (cV0 ts r n)
 | 0,n=>by rw[cV0];exact h50 _ _ (by decide)
 | r+1,n=>by
  rw[cV0]
  exact .ite (.ok _) (.ite ((pR0 r _).bind λ_=>(b00 _ _).bind λ_=>.ok _) (.ite ((nz_key _).bind λ_=>(b00 _ _).bind λ_=>(pR0 r _).bind λ_=>(b00 _ _).bind λ_=>.ok _) (nz_key _)))
theorem nz_slot (n:Nat):Nz (iv0 ts n):=(k70 _).bind λ_=>(b00 _ _).bind λ_=>(pR0 _ _).bind λ_=>.ok _
structure NzA (ts:List Tok) (f:Nat):Prop where
 expr:∀ d n,Nz (by0 ts f d n)
 bin:∀ l d n,Nz (pBin ts f l d n)
 loop:∀ l d o n,Nz (ex0 ts f l d o n)
 un:∀ d n,Nz (pUn ts f d n)
 post:∀ d o n,Nz (fc0 ts f d o n)
 prim:∀ d n,Nz (ec0 ts f d n)
 args:∀ d o n,Nz (eP0 ts f d o n)
theorem nzA (ts:List Tok):∀ f,NzA ts f
 | 0=>by
  constructor<;>intros
  ·rw[by0];exact .bad (by decide)
  ·rw[pBin];exact .bad (by decide)
  ·rw[ex0];exact .bad (by decide)
  ·rw[pUn];exact .bad (by decide)
  ·rw[fc0];exact .bad (by decide)
  ·rw[ec0];exact .bad (by decide)
  ·rw[eP0];exact .bad (by decide)
 | f+1=>by
  have ih:=nzA ts f
  constructor<;>intros
  ·rw[by0];exact (pQ0 _ _).bind λ_=>ih.bin _ _ _
  ·rw[pBin];exact .ite (ih.un _ _) ((ih.bin _ _ _).bind λ_=>ih.loop _ _ _ _)
  ·rw[ex0];exact .ite ((ih.bin _ _ _).bind λ_=>.ite (.ite (h50 _ _ (by decide)) (.ok _)) (ih.loop _ _ _ _)) (.ok _)
  ·rw[pUn];exact .ite ((pQ0 _ _).bind λ_=>(ih.un _ _).bind λ_=>.ok _) (.ite ((pQ0 _ _).bind λ_=>(ih.un _ _).bind λ_=>.ok _) ((ih.prim _ _).bind λ_=>ih.post _ _ _))
  ·rw[fc0];exact .ite ((ih.expr _ _).bind λ_=>(b00 _ _).bind λ_=>ih.post _ _ _) (.ok _)
  ·rw[ec0];exact .ite (.ok _) (.ite (.ok _) (.ite (.ok _) (.ite (.ok _) (.ite ((ih.expr _ _).bind λ_=>(b00 _ _).bind λ_=>.ok _) ((k70 _).bind λ_=>.ite (.ite (.ok _) ((ih.args _ _ _).bind λ_=>.ok _)) (.ok _))))))
  ·rw[eP0];exact (ih.expr _ _).bind λ_=>.ite (.ok _) ((b00 _ _).bind λ_=>ih.args _ _ _)
structure NzS (ts:List Tok) (f:Nat):Prop where
 block:∀ d n,Nz (bc0 ts f d n)
 stms:∀ d o n,Nz (g40 ts f d o n)
 stm:∀ d n,Nz (pStm ts f d n)
theorem nzS (ts:List Tok):∀ f,NzS ts f
 | 0=>by
  constructor<;>intros
  ·rw[bc0];exact .bad (by decide)
  ·rw[g40];exact .bad (by decide)
  ·rw[pStm];exact .bad (by decide)
 | f+1=>by
  have ih:=nzS ts f
  have iE:=(nzA ts f).expr
  constructor<;>intros
  ·rw[bc0];exact (pQ0 _ _).bind λ_=>(b00 _ _).bind λ_=>ih.stms _ _ _
  ·rw[g40];exact .ite (.ok _) ((ih.stm _ _).bind λ_=>ih.stms _ _ _)
  ·rw[pStm]
   exact .ite ((k70 _).bind λ_=>(b00 _ _).bind λ_=>(iE _ _).bind λ_=>(b00 _ _).bind λ_=>.ok _)
    (.ite ((k70 _).bind λ_=>.ite ((iE _ _).bind λ_=>(b00 _ _).bind λ_=>(b00 _ _).bind λ_=>(iE _ _).bind λ_=>(b00 _ _).bind λ_=>.ok _) ((b00 _ _).bind λ_=>(iE _ _).bind λ_=>(b00 _ _).bind λ_=>.ok _))
    (.ite ((k70 _).bind λ_=>(b00 _ _).bind λ_=>(iE _ _).bind λ_=>(b00 _ _).bind λ_=>(b00 _ _).bind λ_=>.ok _)
    (.ite ((iE _ _).bind λ_=>(ih.block _ _).bind λ_=>.ite ((ih.block _ _).bind λ_=>.ok _) (.ok _))
    (.ite ((k70 _).bind λ_=>(nz_word _ _).bind λ_=>(iE _ _).bind λ_=>(ih.block _ _).bind λ_=>.ok _)
    (.ite ((iE _ _).bind λ_=>(b00 _ _).bind λ_=>.ok _) (h50 _ _ (by decide)))))))
theorem q80:∀ f o n,Nz (bI0 ts f o n)
 | 0,o,n=>by rw[bI0];exact .bad (by decide)
 | f+1,o,n=>by rw[bI0];exact (nz_slot _).bind λ_=>.ite (.ok _) ((b00 _ _).bind λ_=>q80 f _ _)
theorem nz_fun (f:Nat) (on:Bool) (n:Nat):Nz (pFun ts f on n) :=
 (k70 _).bind λ_=>(b00 _ _).bind λ_=>(Nz.ite (.ok _) (q80 _ _ _)).bind λ_=>(b00 _ _).bind λ_=>(pR0 _ _).bind λ_=>((nzS ts f).block _ _).bind λ_=>.ok _
theorem pS0:∀ f p n,Nz (fd0 ts f p n)
 | 0,p,n=>by rw[fd0];exact .bad (by decide)
 | f+1,p,n=>by
  rw[fd0]
  exact .ite (.ok _) (.ite ((nz_slot _).bind λ_=>(b00 _ _).bind λ_=>pS0 f _ _) (.ite ((nz_fun _ _ _).bind λ_=>pS0 f _ _) (.ite ((nz_fun _ _ _).bind λ_=>pS0 f _ _) (h50 _ _ (by decide)))))
theorem nz_prog (f:Nat):Nz (h60 ts f):=(nz_word _ _).bind λ_=>(nz_int _).bind λ_=>(b00 _ _).bind λ_=>pS0 _ _ _
end
end Go.Am
end

section
namespace Go.Am
set_option maxRecDepth 100000
theorem read_back {s:Bs} {p:Prg} (h:sd0 s=.ok p) {t:Bs} (ht:shP p=some t) (hl:t.length<=16384) :
  (∃ ts ts',em0 s=.ok ts/\em0 t=.ok ts'/\ts'.length<=ts.length/\ts.length<=4096)/\∃ q F,gh0 t F=.ok q/\eP q=eP p:=by
 have ho:=read_ok h
 have hg:=gY0 s
 rw[m60] at h
 unfold gh0 at h
 cases hx:em0 s with
 | bad a e=>rw[hx] at h;cases h
 | ok ts =>
  rw[hx] at h hg
  obtain⟨o,b,rfl,ho2⟩:=hg
  dsimp only at h
  cases hp:h60 (o++[⟨5,bS [],0,b⟩]) mP0 with
  | bad n e=>rw[hp] at h;cases h
  | ok q =>
   obtain⟨p',m⟩:=q
   rw[hp] at h
   injection h with h;subst h
   have hl4:(o++[(⟨5,bS [],0,b⟩:Tok)]).length<=4096:=by simp;omega
   obtain⟨⟨ts',e1,e2⟩,hq⟩:=oL0 hp hl4 ho.v1 (λf hf=>by obtain⟨j,g1,_⟩:=ho.fs f hf;exact g1.sz) ht hl
   exact⟨⟨_,ts',rfl,e1,e2,hl4⟩,hq⟩
theorem read_bad {s:Bs} {a e:Int} (h:sd0 s=.bad a e):e≠0:=by
 have hg:=gY0 s
 rw[m60] at h
 unfold gh0 at h
 cases hx:em0 s with
 | bad n c=>rw[hx] at h hg;injection h with h1 h2;subst h2;exact hg.1
 | ok ts =>
  rw[hx] at h
  dsimp only at h
  cases hp:h60 ts mP0 with
  | bad n c=>rw[hp] at h;injection h with h1 h2;subst h2;exact nz_prog mP0 n c hp
  | ok q=>rw[hp] at h;cases h
theorem show_alk {p q:Prg} (h:OkP p 4097) (he:eP p=eP q) {t:Bs} (ht:shP p=some t) (hl:t.length<2 ^ 30):Ret prog iH0 [q.V] (ob0 t):=by
 obtain⟨a1,a2,a3,a4,a5,a6⟩:=alkP he
 have hp:=h.uf0 (by omega)
 refine jS0 q ⟨by rw[<- a3];exact hp.v,by rw[<- a4];exact hp.s,by rw[<- a5];exact hp.f,λf hf=>?_,λf hf=>?_,λf hf=>?_⟩ (λf hf ps hps=>?_) (by rw[<- a1];exact ht) (by omega)
 ·obtain⟨g,hg,b⟩:=a6 f hf;rw[<- b.len.1];exact hp.ps g hg
 ·obtain⟨g,hg,b⟩:=a6 f hf;rw[<- b.len.2];exact hp.b g hg
 ·obtain⟨g,hg,b⟩:=a6 f hf;rw[<- b.pl];exact hp.pl g hg
 ·obtain⟨g,hg,b⟩:=a6 f hf
  rw[<- b.sl] at hps
  obtain⟨j,g1,g2⟩:=h.fs g hg
  obtain⟨t,g3,g4⟩:=g1.sh
  have q:=rt0 g3 hps
  have q2:=g1.ps
  obtain⟨q3,-⟩:=fC0 hps
  exact sp0 ps (by omega) (by omega)
attribute [local irreducible] vc vcIs vcI vcOp vcD vcDp vcDR vcT vcAR cf0 bb0 panD neG ne pv J bY0 b50 ci0 bo0 evK evsK nthK objK boxK rowK bQ0 intK strK aggK fnK ifcK az0 aA0 ldK ldaK iaK srcK stK appK appD cn0 pvK bT0 a30 b40 bJ0 slAV bX0
set_option maxHeartbeats 3200000 in
theorem pm0 (s:ByteArray) (hs:s.size<2 ^ 39):Ret prog fl0 [vS s] (vB true):=by
 have hP:=tk0 s hs
 cases hr:sd0 (sB s) with
 | bad a e =>
  have hne:=read_bad hr
  have hP:Ret prog dB0 [vS s] (.tup [.agg [vI 0,.lst [],.lst []],vI a,vI e]):=by rw[hr] at hP;exact hP
  refine av0 de0 (by simp) ?_
  refine rS1 @db0.eq_1 ?_
  refine ak0 ?_;simp;refine ah0 (pg0) (by simp) ?_
  refine rS0 ?_
  refine ak0 ?_;simp;refine ah0 (hP) (by simp) ?_
  refine rS1 hne ?_
  refine ay0 [] ?_
  exact rT0
 | ok p =>
  have hP:Ret prog dB0 [vS s] (.tup [p.V,vI 0,vI 0]):=by rw[hr] at hP;exact hP
  have ho:=read_ok hr
  obtain⟨t,h1,h2,hS⟩:=show_ok ho
  refine av0 de0 (by simp) ?_
  refine rS1 @db0.eq_1 ?_
  refine ak0 ?_;simp;refine ah0 (pg0) (by simp) ?_
  refine rS0 ?_
  refine ak0 ?_;simp;refine ah0 (hP) (by simp) ?_
  refine rS0 ?_
  by_cases ht:t.length<=16384
  ·have hA:ob0 t=.tup [vS (bS t),vI 0]:=by unfold ob0;rw[if_pos ht]
   obtain⟨-,q,F,e1,e2⟩:=read_back hr h1 ht
   have hS2:=show_alk ho e2.symm h1 h2
   rw[hA] at hS hS2
   have hP2:Ret prog dB0 [vS (bS t)] (.tup [q.V,vI 0,vI 0]):=by
    have h:=fK0 (bS t) (by show t.length<_;omega) F (by rw[show sB (bS t)=t from rfl,e1];trivial)
    rw[show sB (bS t)=t from rfl,e1] at h
    exact h
   have hM:=Same_ok false p q (by have:=ho.sl;omega) (by have:=ho.fl;omega) (λf hf=>by
    obtain⟨j,g1,g2⟩:=ho.fs f hf
    have:=g1.b;have:=g1.ps
    exact⟨g1.sz,by omega,by omega,by rw[g1.lo];simp⟩) (alkP e2.symm).2.1
   refine ak0 ?_;simp;refine ah0 (hS) (by simp) ?_
   refine rS0 ?_
   refine ak0 ?_;simp;refine ah0 (hP2) (by simp) ?_
   refine rS0 ?_
   refine ak0 ?_;simp;refine ah0 (hM) (by simp) ?_
   refine rS0 ?_
   refine ak0 ?_;simp;refine ah0 (hS2) (by simp) ?_
   refine rS0 ?_
   refine ay0 [] ?_
   exact rT0
  ·have hA:ob0 t=.tup [vS (bS []),vI 3]:=by unfold ob0;rw[if_neg ht]
   rw[hA] at hS
   refine ak0 ?_;simp;refine ah0 (hS) (by simp) ?_
   refine rS0 ?_
   refine ay0 [] ?_
   exact rT0
end Go.Am
end

section
namespace Go.Proofs.YtnlggapedakocaaGreatDoor.showBack
open Go.ChangeShapes Go.WideShapes Go.ChangeAt Go.RowKit
open Go.Am (imW vI vB vS qP0)
set_option maxRecDepth 100000
def T8 (t:TypeId):Prop:=t=9
theorem flat8:∀ t,T8 t->Go.Am.ti0 Tryz.prog T8 t:=by
 intro t h
 obtain rfl:t=9:=h
 unfold Go.Am.ti0
 rw[Tryz.underlying9];trivial
theorem args8:∀ t∈Tryz.f4.params.toList,T8 t:=by
 rw[Tryz.params4];intro t ht;simp at ht;subst ht;rfl
theorem contract (H:Type) (enc:TypeId × Value->H) (W:World) (base:Nat) (args:Array Value) (ds gs:List (DataW H)) (before:List MemPlace)
  (hval:∀ (j:Nat) t v,Tryz.f4.params[j]?=some t->args[j]?=some v->Value.okWide Tryz.prog W .any base t v)
  (hW:DataW.Whole enc Tryz.prog Tryz.f4.params.toList Rows.showBackSpec.vars false W args.toList ds gs before) (hL:laidMetH Tryz.prog Rows.showBackRow.laid W) (hk:Rows.uptoSmall H (ds++gs)=true) :
  Calls Tryz.prog 4 args W λe W'=>∃ v,e=.returned v/\Rows.showBackSpec.post enc Tryz.prog Tryz.f4 false true false false W args v W':=by
 have hW':=hW
 obtain⟨p,q,hA0,hV,rfl,hfz,hnd⟩:=hW
 have hA:DataW.TrodAll enc Tryz.prog W 0 (λ_=>true) true Tryz.f4.params.toList args.toList ds p:=hA0
 rw[Tryz.params4] at hA hval
 obtain⟨a0,vs0,d0,ds0,p0,q0,hargs,rfl,rfl,h0,r0⟩:=trodAll_cons hA
 obtain⟨rfl,rfl,rfl⟩:=trodAll_nil r0
 obtain rfl:args=#[a0]:=by cases args;simp_all
 obtain⟨rfl,rfl⟩:=trodVars_none hV
 have hbk:Rows.uptoBulkAll ([d0]++[])<=1048576:=of_decide_eq_true hk
 simp only[List.append_nil,Rows.uptoBulkAll] at hbk
 obtain⟨s,rfl⟩:=okWide_string Tryz.underlying9 (hval 0 9 a0 rfl rfl)
 obtain⟨n1,t1⟩:=h0
 obtain⟨s',e1,e2,_⟩:=DataW.trod_string Tryz.underlying9 t1
 have e1':s'=s:=by simpa[Value.cells] using e1.symm
 subst e1'
 obtain rfl:d0=.lit (.string s'.data.toList):=by injection e2
 have hsz:s'.size<2 ^ 39:=by
  have:s'.data.toList.length=s'.size:=rfl
  simp only[Rows.uptoBulk] at hbk
  omega
 have hret:=Go.Am.pm0 s' hsz
 have hcalled:=hret (imW W) Go.Am.Mu.bot #[.string s'] W
  ⟨rfl,λj u hj=>by
   match j,hj with
   | 0,hj=>injection hj with hj;subst hj;exact .c _
   | j+1,hj=>simp at hj⟩ (Go.Am.wd_imW (table hL))
 obtain⟨fn,c,k1,k2,k3,_⟩:=Go.Am.de0.ex
 have hrun:(callFunc 4 #[.string s']).run Tryz.prog W=.ok (.enter 4 #[.string s']) W:=by
  have k2':¬ fn.name = "runtime.NumGoroutine":=by simpa using k2
  simp[callFunc,k1,k2',k3]
 unfold Go.Am.ed0 at hcalled
 rw[hrun] at hcalled
 refine Calls.mono hcalled ?_
 rintro e W' ⟨r,H',μ',rfl,⟨x,rfl,hx⟩,hNj,hWd,_,_⟩
 obtain rfl:=hx.b80
 have hkeep:∀ b,b<W.heap.size->W'.heap[b]?=W.heap[b]?:=λb hb=>hNj.keep b hb (by simp[Go.Am.Owns,Go.Am.hpE])
 refine⟨_,rfl,_,_,_,[],p0++[],[],hW',?_,?_,rfl,?_,λh=>by cases h⟩
 ·exact trodAll_cons_mk (shut_bool Tryz.underlying4 _) trodAll_mk0
 ·exact Go.Am.mK0 flat8 hkeep args8 hA0 λp hp=>by
   have:=hW'.lt p (by simpa using hp)
   simpa using this
 ·refine⟨hNj.os,hNj.output,λi hi=>?_⟩
  rw[hkeep i hi]
  split
  ·rename_i e1 e2
   rw[e1] at e2
   injection e2 with e2
   injection e2 with e3 e4 e5
   subst e3 e4 e5
   exact⟨rfl,rfl,rfl,λ_ _=>rfl⟩
  ·rename_i e1 e2
   rw[e1] at e2
   injection e2 with e2
   injection e2 with e3 e4
   exact .inr ⟨e3.symm,e4.symm⟩
  ·rfl
end Go.Proofs.YtnlggapedakocaaGreatDoor.showBack
end

section
namespace Go.Proofs.YtnlggapedakocaaGreatDoor.showBack
open Go.ChangeShapes Go.WideShapes Go.ChangeAt Go.RowKit
set_option maxRecDepth 100000
def cellsP (d:DataW Unit):List Value:=match d with|.lit (.int k n)=>[Value.int k n]|.agg ps=>ps.map λd=>(match d with|.lit (.int k n)=>Value.int k n|_=>Value.bool false)|_=>[]
def cellsD:DataW Unit->Array Value
 | .agg ps=>(ps.flatMap cellsP).toArray
 | _=>#[]
def lay (o:Obj) (d:DataW Unit):Obj:=match o with|.cells _ t frozen=>.cells (cellsD d) t frozen|o=>o
noncomputable def nJ0 (os:Os):World :=
 { World.holding Tryz.prog os ⟨#[],#[],[]⟩ with heap:=(((((World.holding Tryz.prog os ⟨#[],#[],[]⟩).heap.modify 0 λo=>lay o Rows.laid_internal_strconv_uint64pow10).modify 2 λo=>lay o Rows.laid_math_bits_deBruijn32tab).modify 3 λo=>lay o Rows.laid_math_bits_deBruijn64tab).modify 4 λo=>lay o Rows.laid_unicode_utf8_first).modify 5 λo=>lay o Rows.laid_unicode_utf8_acceptRanges }
abbrev wargs:Array Value:=#[.string ⟨#[]⟩]
theorem laid_met (os:Os):laidMet Tryz.prog Rows.showBackRow.laid ((nJ0 os).forCall (λ_ _=>0) ⟨#[],wargs,[]⟩).memory :=
 laidMet_of_run' 8 (by kernel_rfl) (by kernel_rfl)
theorem reads (os:Os) {H:Type} (enc:TypeId × Value->H):∃ places,DataW.whole enc Tryz.prog ((nJ0 os).forCall (λ_ _=>0) ⟨#[],wargs,[]⟩).memory Tryz.f4.params.toList Rows.showBackSpec.vars false wargs.toList 8 =
  some ([.lit (.string [])],[],places) :=
 ⟨[],by kernel_rfl⟩
theorem tP0 (os:Os) (started:os.Started) (H:Type) (enc:TypeId × Value->H) (F:Stop.Interp) :
  ReturnsInHanded {} Tryz.checked os 4 .any ((Rows.OpenSpec.upto Rows.showBackSpec).preRow enc Tryz.prog Tryz.f4 Rows.showBackUptoRow.domain false Rows.showBackUptoRow.laid) (((Rows.OpenSpec.upto Rows.showBackSpec).at F).post enc Tryz.prog Tryz.f4 false true false false):=by
 obtain⟨places,hx⟩:=reads os enc
 refine returnsInHanded_of_row (C:=Tryz.checked) (s:=Rows.OpenSpec.upto Rows.showBackSpec) own started (by kernel_rfl) Tryz.func4
  (witness_row_at (enc:=enc) (C:=Tryz.checked) false (nJ0 os) wargs rfl (by kernel_rfl) (by kernel_rfl) (by kernel_rfl)
   (OpenSpec.preRow_of_cond 8 hx (by kernel_rfl) (λk hk=>by cases hk;kernel_rfl) (by kernel_rfl) (laid_met os))) ?_
 intro W base args ds gs before hval hW _ hcond _ hL _ _
 exact contract H enc W base args ds gs before hval hW hL (hcond _ rfl)
theorem saidUpto:Rows.ShowBackUptoSaid :=
 OpenClaim.holds_of_cond 4 Tryz.f4 rfl rfl rfl rfl rfl rfl rfl ⟨rfl,rfl,rfl,rfl,rfl⟩ rfl rfl rfl rfl rfl (by kernel_rfl) Tryz.func4 (by kernel_rfl)
  (of_decide_eq_true (by kernel_rfl)) (by unfold Func.isWrapper;first|(rw[if_pos (by decide +kernel)];kernel_rfl)|(rw[if_neg (by decide +kernel)];exact⟨rfl,rfl⟩))
  (λos started H enc _ F=>by rw[OpenClaim.pre_eq_preRow];exact tP0 os started H enc F)
theorem plain (f:FuncId) (fn:Func) (hf:Tryz.pinned.checked.prog.funcNamed "quern/quernlaw08.ShowBack"=some f) (hfn:Tryz.pinned.checked.prog.funcs[f]?=some fn) :
  true=Tryz.pinned.checked.prog.looks []/\∀ (j:Nat) t,fn.params[j]?=some t->Tryz.pinned.checked.prog.wantsStandIn t=false:=by
 obtain rfl:f=4:=Option.some.inj ((show Tryz.prog.funcNamed "quern/quernlaw08.ShowBack"=some 4 by kernel_rfl).symm.trans hf) |>.symm
 obtain rfl:fn=Tryz.f4:=(Option.some.inj (Tryz.func4.symm.trans hfn)).symm
 refine⟨by kernel_rfl,λj t ht=>?_⟩
 rw[Tryz.params4] at ht
 have hm:=Array.mem_of_getElem? ht
 simp at hm
 subst hm
 exact (show Tryz.prog.wantsStandIn 9=false by kernel_rfl)
theorem cardUpto:Rows.ShowBackUptoCardSaid :=
 Claim7.holds_tied_plain_at .later [] _ _ _ _ saidUpto (λ_ h=>by cases h) (by kernel_rfl) (λ_ h=>by cases h) showBackUpto_row_tie rfl ⟨rfl,rfl⟩ (by kernel_rfl) rfl plain (by kernel_rfl)
end Go.Proofs.YtnlggapedakocaaGreatDoor.showBack
end
