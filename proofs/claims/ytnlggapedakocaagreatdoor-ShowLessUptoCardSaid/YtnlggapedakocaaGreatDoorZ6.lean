/- ShowLess of the given program, part 6 of 6 of the proof: for all arguments within the bound the law answers true, and each argument reads behind the call as before. Conditions: those of the given card. -/
import Derived.Test.YtnlggapedakocaaGreatDoorZ5
import Derived.Test.YtnlggapedakocaaGreatDoorCards
set_option maxHeartbeats 1600000
set_option linter.all false
set_option linter.unusedVariables false
set_option linter.unusedSimpArgs false
set_option linter.unnecessarySimpa false
section
namespace Go.Am
def tTy:Nat->Bs->List TD
 | 0,s=>[aG0 s]
 | r + 1,s =>
  if c40 s then [aG0 s]
  else if [91].isPrefixOf s.dropLast then [ap0 [91]]++tTy r (s.dropLast.drop 1)++[ap0 [93]]
  else if ci0.isPrefixOf s.dropLast then [ap0 [123]]++[aG0 eq0]++[ap0 [58]]++tTy r (s.dropLast.drop 5)++[ap0 [125]]
  else [ap0 [123]]++[aG0 ch0]++[ap0 [58]]++tTy r (s.dropLast.drop 6)++[ap0 [125]]
theorem su0 {s:Bs} (h:c40 s=true) (r:Nat):tTy r s=[aG0 s]:=by
 cases r with
 | zero=>rfl
 | succ r=>rw [tTy,if_pos h]
theorem sv0 (r:Nat) (s:Bs):tTy (r + 1) ([91]++s++[93])=[ap0 [91]]++tTy r s++[ap0 [93]]:=by
 rw [tTy]
 have h0:c40 ([91]++s++[93])=false:=by rw [List.append_assoc]; exact nS0 _
 have h1:([91]++s++[93]:Bs).dropLast=[91]++s:=List.dropLast_concat
 rw [h0,h1]
 simp
theorem sw0 (r:Nat) (s:Bs):tTy (r + 1) (ci0++s++[125])=[ap0 [123]]++[aG0 eq0]++[ap0 [58]]++tTy r s++[ap0 [125]]:=by
 rw [tTy]
 have h0:c40 (ci0++s++[125])=false:=j50 _
 have h1:(ci0++s++[125]:Bs).dropLast=ci0++s:=List.dropLast_concat
 rw [h0,h1]
 simp [ci0]
theorem sx0 (r:Nat) (s:Bs):tTy (r + 1) (bz0++s++[125])=[ap0 [123]]++[aG0 ch0]++[ap0 [58]]++tTy r s++[ap0 [125]]:=by
 rw [tTy]
 have h0:c40 (bz0++s++[125])=false:=j50 _
 have h1:(bz0++s++[125]:Bs).dropLast=bz0++s:=List.dropLast_concat
 rw [h0,h1]
 simp [bz0,ci0]
theorem lex_ty {d:Nat} {s:Bs} (h:IsTy d s):∀ r,d<=r + 1->LxT s (tTy r s) a30:=by
 have nw:∀ {c:UInt8},(am0++ai0).contains c=false->∀ r:Bs,Any r->a30 ([c]++r):=fun hc r _=>a30.cons hc
 have map:∀ {w:Bs} {s:Bs} {T:List TD},mv0.contains w=true->LxT s T a30->LxT ([123]++w++[58]++s++[125]) ([ap0 [123]]++[aG0 w]++[ap0 [58]]++T++[ap0 [125]]) a30:=fun hw hs =>
  (((((lex1 (c:=123)).append (fW0 hw) fun _ _=>trivial).append (lex1 (c:=58)) (nw (by decide))).append hs fun _ _=>trivial).append (lex1 (c:=125)) (nw (by decide))).weak fun _ _=>trivial
 induction h with
 | base h =>
  intro r _
  rw [su0 h]
  rcases fu0 h with rfl | rfl | rfl <;> exact fW0 (by decide)
 | list h ih =>
  intro r hr
  obtain ⟨k,rfl⟩:∃ k,r=k + 1:=⟨r - 1,by have:=oP0 h; omega⟩
  rw [sv0]
  exact (((lex1 (c:=91)).append (ih k (by omega)) fun _ _=>trivial).append (lex1 (c:=93)) (nw (by decide))).weak fun _ _=>trivial
 | mapI h ih =>
  intro r hr
  obtain ⟨k,rfl⟩:∃ k,r=k + 1:=⟨r - 1,by have:=oP0 h; omega⟩
  rw [sw0]
  exact map (w:=eq0) (by decide) (ih k (by omega))
 | mapT h ih =>
  intro r hr
  obtain ⟨k,rfl⟩:∃ k,r=k + 1:=⟨r - 1,by have:=oP0 h; omega⟩
  rw [sx0]
  exact map (w:=ch0) (by decide) (ih k (by omega))
theorem pKey_k {ts:List Tok} {n:Nat} {a:Bs × Nat} (h:pKey ts n=.ok a):(a=(eq0,n + 1)\/a=(ch0,n + 1)):=by
 unfold pKey at h
 split at h
 ·injection h with h; exact .inl h.symm
 ·split at h
  ·injection h with h; exact .inr h.symm
  ·cases h
theorem sj0 {ts:List Tok} {n:Nat} (h:(tk ts n).td=aG0 eq0):pKey ts n=.ok (eq0,n + 1):=by unfold pKey; rw [isW h,if_pos (by decide)]
theorem qF0 {ts:List Tok} {n:Nat} (h:(tk ts n).td=aG0 ch0):pKey ts n=.ok (ch0,n + 1):=by unfold pKey; rw [isW h,isW h,if_neg (by decide),if_pos (by decide)]
theorem pA0 (ts:List Tok):∀ (r n:Nat) (a:Bs) (m:Nat),cU0 ts (r + 1) n=.ok (a,m)->n + (tTy r a).length<=m/\∀ ts' n',Has ts' n' (tTy r a)->cU0 ts' (r + 1) n'=.ok (a,n' + (tTy r a).length)
 | r,n,a,m,h=>by
  have key:∀ w:Bs,c40 w=true->m=n + 1->a=w->n + (tTy r a).length<=m/\∀ ts' n',Has ts' n' (tTy r a)->cU0 ts' (r + 1) n'=.ok (a,n' + (tTy r a).length):=by
   rintro w hw rfl rfl
   rw [su0 hw]
   refine ⟨Nat.le_refl _,fun ts' n' hT=>?_⟩
   obtain ⟨h0,-⟩:=hT.cons
   rw [cU0]
   rcases fu0 hw with rfl | rfl | rfl
   ·rw [isW h0,aL0 h0,aL0 h0,if_neg (by decide),if_neg (by simp),if_neg (by simp),sj0 h0]; rfl
   ·rw [isW h0,if_pos (by decide)]; rfl
   ·rw [isW h0,aL0 h0,aL0 h0,if_neg (by decide),if_neg (by simp),if_neg (by simp),qF0 h0]; rfl
  rw [cU0] at h
  split at h
  ·injection h with h; injection h with e1 e2
   exact key eg0 (by decide) e2.symm e1.symm
  split at h
  ·obtain ⟨⟨b,k⟩,h1,h⟩:=bc0 h
   obtain ⟨k2,h2,h⟩:=bc0 h
   obtain ⟨rfl,-⟩:=bZ0 h2
   injection h with h; injection h with e1 e2; subst e1 e2
   cases r with
   | zero=>rw [cU0] at h1; cases h1
   | succ r =>
    obtain ⟨c1,c2⟩:=pA0 ts r (n + 1) b k h1
    dsimp only
    rw [sv0]
    have el:∀ n',n' + ([ap0 [91]]++tTy r b++[ap0 [93]]).length=n' + 1 + (tTy r b).length + 1:=fun n'=>by simp only [List.length_append,List.length_cons,List.length_nil]; omega
    refine ⟨by rw [el]; omega,fun ts' n' hT=>?_⟩
    rw [el]
    simp only [List.append_assoc,List.cons_append,List.nil_append] at hT
    obtain ⟨h0,hT⟩:=hT.cons
    obtain ⟨hT,hc⟩:=hT.append
    obtain ⟨hc,-⟩:=hc.cons
    rw [cU0,aL0 h0,aL0 h0,if_neg (by simp),if_pos (by simp),c2 ts' (n' + 1) hT,LxR.bind,be0 hc]
    rfl
  split at h
  ·obtain ⟨⟨w,k0⟩,h0,h⟩:=bc0 h
   obtain ⟨k1,h1,h⟩:=bc0 h
   obtain ⟨rfl,-⟩:=bZ0 h1
   obtain ⟨⟨b,k⟩,h2,h⟩:=bc0 h
   obtain ⟨k2,h3,h⟩:=bc0 h
   obtain ⟨rfl,-⟩:=bZ0 h3
   injection h with h; injection h with e1 e2; subst e1 e2
   cases r with
   | zero=>rw [cU0] at h2; cases h2
   | succ r =>
    obtain ⟨c1,c2⟩:=pA0 ts r (k0 + 1) b k h2
    dsimp only
    have el:∀ (w:Bs) n',n' + ([ap0 [123]]++[aG0 w]++[ap0 [58]]++tTy r b++[ap0 [125]]).length=n' + 1 + 1 + 1 + (tTy r b).length + 1:=fun w n'=>by simp only [List.length_append,List.length_cons,List.length_nil]; omega
    rcases pKey_k h0 with e | e <;> (injection e with e1 e2; subst e1 e2)
    ·rw [show [123]++eq0++[58]++b++[125]=ci0++b++[125] from rfl,sw0]
     refine ⟨by rw [el]; omega,fun ts' n' hT=>?_⟩
     rw [el]
     simp only [List.append_assoc,List.cons_append,List.nil_append] at hT
     obtain ⟨g0,hT⟩:=hT.cons
     obtain ⟨g1,hT⟩:=hT.cons
     obtain ⟨g2,hT⟩:=hT.cons
     obtain ⟨hT,hc⟩:=hT.append
     obtain ⟨hc,-⟩:=hc.cons
     rw [cU0,aL0 g0,aL0 g0,aL0 g0,if_neg (by simp),if_neg (by simp),if_pos (by simp),sj0 g1,LxR.bind]
     dsimp only
     rw [be0 g2,LxR.bind,c2 ts' _ hT,LxR.bind,be0 hc]
     rfl
    ·rw [show [123]++ch0++[58]++b++[125]=bz0++b++[125] from rfl,sx0]
     refine ⟨by rw [el]; omega,fun ts' n' hT=>?_⟩
     rw [el]
     simp only [List.append_assoc,List.cons_append,List.nil_append] at hT
     obtain ⟨g0,hT⟩:=hT.cons
     obtain ⟨g1,hT⟩:=hT.cons
     obtain ⟨g2,hT⟩:=hT.cons
     obtain ⟨hT,hc⟩:=hT.append
     obtain ⟨hc,-⟩:=hc.cons
     rw [cU0,aL0 g0,aL0 g0,aL0 g0,if_neg (by simp),if_neg (by simp),if_pos (by simp),qF0 g1,LxR.bind]
     dsimp only
     rw [be0 g2,LxR.bind,c2 ts' _ hT,LxR.bind,be0 hc]
     rfl
  ·rcases pKey_k h with e | e <;> (injection e with e1 e2)
   ·exact key eq0 (by decide) e2 e1
   ·exact key ch0 (by decide) e2 e1
def eSl (s:Slo):Slo:=⟨s.name,s.type,0⟩
def cW0 (s:Slo):List TD:=[aG0 (sB s.name)]++[ap0 [58]]++tTy 3 (sB s.type)
def mS0 (s:Slo):Prop:=∀ ts n,Has ts n (cW0 s)->∃ s',eSl s'=eSl s/\ik0 ts n=.ok (s',n + (cW0 s).length)
theorem qI0 {ts:List Tok} {n m:Nat} {s:Slo} (h:ik0 ts n=.ok (s,m)):n + (cW0 s).length<=m/\mS0 s:=by
 unfold ik0 at h
 obtain ⟨t,h1,h⟩:=bc0 h
 obtain ⟨rfl,-,hr⟩:=kV0 h1
 obtain ⟨k1,h2,h⟩:=bc0 h
 obtain ⟨rfl,-⟩:=bZ0 h2
 obtain ⟨⟨a,k⟩,h3,h⟩:=bc0 h
 injection h with h; injection h with e1 e2; subst e1 e2
 obtain ⟨c1,c2⟩:=pA0 ts 3 _ a k h3
 have el:∀ n',n' + (cW0 ⟨(tk ts n).text,bS a,(tk ts n).at_⟩).length=n' + 1 + 1 + (tTy 3 a).length:=fun n'=>by
  unfold cW0; simp only [List.length_append,List.length_cons,List.length_nil]; show n' + (0 + 1 + (0 + 1) + (tTy 3 a).length)=_; omega
 refine ⟨by dsimp only at *; rw [el]; omega,fun ts' n' hT=>?_⟩
 unfold cW0 at hT
 simp only [List.append_assoc,List.cons_append,List.nil_append] at hT
 obtain ⟨g0,hT⟩:=hT.cons
 obtain ⟨g1,hT⟩:=hT.cons
 obtain ⟨n1,n2⟩:=hE0 hr g0
 refine ⟨⟨(tk ts n).text,bS a,(tk ts' n').at_⟩,rfl,?_⟩
 dsimp only
 rw [el]
 unfold ik0
 rw [n1,LxR.bind]
 dsimp only
 rw [be0 g1,LxR.bind,c2 ts' (n' + 1 + 1) hT,LxR.bind,n2]
def parT (l:List Slo):List TD:=(l.map fun a=>ap0 [44] :: cW0 a).flatten
theorem qS0 (a:Slo) (l:List Slo):sepT ((a :: l).map cW0)=cW0 a++parT l:=by
 rw [List.map_cons,sepT]
 unfold parT
 rw [List.map_map]; rfl
theorem parT_len (l:List Slo):(parT l).length=(l.map fun a=>(cW0 a).length + 1).sum:=by
 induction l with
 | nil=>rfl
 | cons b l ih =>
  have e:parT (b :: l)=ap0 [44] :: (cW0 b++parT l):=by unfold parT; simp
  rw [e,List.map_cons,List.sum_cons]
  simp only [List.length_cons,List.length_append,ih]; omega
theorem oC0:∀ (l:List Slo) (a:Slo),(∀ x ∈ a :: l,mS0 x)->∀ ts n out,Has ts n (cW0 a++parT l++[ap0 [41]]) ->
  ∃ l',l'.map eSl=(a :: l).map eSl/\Ev (fun f=>bF0 ts f out n) (.ok (out++l',n + (cW0 a++parT l).length + 1))
 | [],a,h,ts,n,out,hT=>by
  have e:parT []=[]:=rfl
  rw [e,List.append_nil] at hT ⊢
  obtain ⟨hT,hc⟩:=hT.append
  obtain ⟨hc,-⟩:=hc.cons
  obtain ⟨x,h1,h2⟩:=h a (by simp) ts n hT
  refine ⟨[x],by simp [h1],?_⟩
  exact (Ev.same (g:=fun _=>(.ok (out++[x],n + (cW0 a).length + 1):PR (List Slo))) fun _=>rfl).succ fun f=>by
   rw [bF0,h2,LxR.bind]
   dsimp only
   rw [aL0 hc,if_pos (by simp)]
 | b :: l,a,h,ts,n,out,hT=>by
  have e:parT (b :: l)=ap0 [44] :: (cW0 b++parT l):=by unfold parT; simp
  rw [e,List.append_assoc] at hT
  obtain ⟨hT,hc⟩:=hT.append
  rw [List.cons_append] at hc
  obtain ⟨hc,hr⟩:=hc.cons
  obtain ⟨x,h1,h2⟩:=h a (by simp) ts n hT
  obtain ⟨l',g1,g2⟩:=oC0 l b (fun y hy=>h y (by simp [hy])) ts (n + (cW0 a).length + 1) (out++[x]) hr
  refine ⟨x :: l',by rw [List.map_cons,List.map_cons,g1,h1],?_⟩
  have el:n + (cW0 a++parT (b :: l)).length + 1=n + (cW0 a).length + 1 + (cW0 b++parT l).length + 1:=by rw [e]; simp only [List.length_append,List.length_cons]; omega
  rw [el,show out++x :: l'=out++[x]++l' by simp]
  exact g2.succ fun f=>by
   rw [bF0,h2,LxR.bind]
   dsimp only
   rw [aL0 hc,if_neg (by simp),be0 hc]
   rfl
theorem nB0 (ts:List Tok):∀ (f:Nat) (out:List Slo) (n:Nat) (r:List Slo) (m:Nat),bF0 ts f out n=.ok (r,m)->∃ l,r=out++l/\l ≠ []/\(∀ a ∈ l,mS0 a)/\n + (l.map fun a=>(cW0 a).length + 1).sum<=m
 | 0,out,n,r,m,h=>by rw [bF0] at h; cases h
 | f + 1,out,n,r,m,h=>by
  rw [bF0] at h
  obtain ⟨⟨s,k⟩,h1,h⟩:=bc0 h
  obtain ⟨c1,c2⟩:=qI0 h1
  dsimp only at h
  split at h
  ·injection h with h; injection h with e1 e2; subst e1 e2
   exact ⟨[s],rfl,by simp,by simpa using c2,by simp; omega⟩
  ·obtain ⟨k2,h2,h⟩:=bc0 h
   obtain ⟨rfl,-⟩:=bZ0 h2
   obtain ⟨l,e,hne,a2,a3⟩:=nB0 ts f (out++[s]) (k + 1) r m h
   refine ⟨s :: l,by rw [e]; simp,by simp,fun a ha=>?_,by rw [List.map_cons,List.sum_cons]; omega⟩
   rcases List.mem_cons.1 ha with rfl | ha
   ·exact c2
   ·exact a2 a ha
def eF (f:Fun):Fun:=⟨f.name,f.on,f.params.map eSl,f.result,f.locals,eT f.body,0⟩
def tFn (f:Fun):List TD:=[aG0 (sB f.name)]++[ap0 [40]]++sepT (f.params.map cW0)++[ap0 [41]]++[ap0 [58]]++tTy 3 (sB f.result)++tB f.body
def FnAt (x:Fun):Prop:=∀ ts n,Has ts n (tFn x)->∃ x',eF x'=eF x/\Ev (fun f=>pFun ts f x.on n) (.ok (x',n + (tFn x).length))
theorem sepS_len (l:List Slo):(sepT (l.map cW0)).length + 1<=(l.map fun a=>(cW0 a).length + 1).sum + (if l=[] then 1 else 0):=by
 cases l with
 | nil=>simp [sepT]
 | cons a l =>
  rw [qS0,List.length_append,parT_len,List.map_cons,List.sum_cons,if_neg (by simp)]; omega
theorem read_fn {ts:List Tok} {f n m:Nat} {on:Bool} {x:Fun} (h:pFun ts f on n=.ok (x,m)):n + (tFn x).length<=m/\FnAt x/\x.on=on:=by
 unfold pFun at h
 obtain ⟨t,h1,h⟩:=bc0 h
 obtain ⟨rfl,-,hr⟩:=kV0 h1
 obtain ⟨k1,h2,h⟩:=bc0 h
 obtain ⟨rfl,-⟩:=bZ0 h2
 obtain ⟨⟨ps,k2⟩,h3,h⟩:=bc0 h
 obtain ⟨k3,h4,h⟩:=bc0 h
 obtain ⟨rfl,-⟩:=bZ0 h4
 obtain ⟨⟨a,k4⟩,h5,h⟩:=bc0 h
 obtain ⟨⟨b,k5⟩,h6,h⟩:=bc0 h
 injection h with h; injection h with e1 e2; subst e1 e2
 obtain ⟨c1,c2⟩:=pA0 ts 3 _ a k4 h5
 obtain ⟨b1,b2⟩:=(srcS ts f).block 1 k4 b k5 h6
 dsimp only at *
 have hps:n + 1 + 1 + (sepT (ps.map cW0)).length + 1<=k2/\∀ s ∈ ps,mS0 s:=by
  split at h3
  ·injection h3 with h3; injection h3 with e1 e2; subst e1 e2
   exact ⟨by simp [sepT],fun s hs=>by cases hs⟩
  ·obtain ⟨l,e,hne,a2,a3⟩:=nB0 ts f [] _ ps k2 h3
   rw [List.nil_append] at e; subst e
   have:=sepS_len ps
   rw [if_neg hne] at this
   exact ⟨by omega,a2⟩
 have el:∀ n',n' + (tFn ⟨(tk ts n).text,on,ps,bS a,[],b,(tk ts n).at_⟩).length=n' + 1 + 1 + (sepT (ps.map cW0)).length + 1 + 1 + (tTy 3 a).length + (tB b).length:=fun n'=>by
  unfold tFn
  simp only [List.length_append,List.length_cons,List.length_nil]
  show n' + (0 + 1 + (0 + 1) + (sepT (ps.map cW0)).length + (0 + 1) + (0 + 1) + (tTy 3 a).length + (tB b).length)=_
  omega
 refine ⟨by rw [el]; omega,fun ts' n' hT=>?_,rfl⟩
 rw [el]
 unfold tFn at hT
 simp only [List.append_assoc,List.cons_append,List.nil_append] at hT
 obtain ⟨g0,hT⟩:=hT.cons
 obtain ⟨g1,hT⟩:=hT.cons
 obtain ⟨n1,n2⟩:=hE0 hr g0
 have tail:∀ (ps':List Slo) (k:Nat),Has ts' k (ap0 [58] :: (tTy 3 a++tB b))->∃ b',eT b'=eT b/\Ev (fun f=>(aV0 ts' k [58]).bind fun n2=>(cU0 ts' 4 n2).bind fun r=>(bb0 ts' f 1 r.2).bind fun b=>(.ok (⟨(tk ts n).text,on,ps',bS r.1,[],b.1,(tk ts' n').at_⟩,b.2):PR Fun)) (.ok (⟨(tk ts n).text,on,ps',bS a,[],b',(tk ts' n').at_⟩,k + 1 + (tTy 3 a).length + (tB b).length)):=by
  intro ps' k hk
  obtain ⟨g2,hk⟩:=hk.cons
  obtain ⟨hty,hb⟩:=hk.append
  obtain ⟨b',g3,g4⟩:=b2 1 (Nat.le_refl 1) ts' _ hb
  refine ⟨b',g3,?_⟩
  have:=Ev.bind (k:=fun f q=>(.ok (⟨(tk ts n).text,on,ps',bS a,[],q.1,(tk ts' n').at_⟩,q.2):PR Fun)) g4 (Ev.same fun f=>rfl)
  exact this.of fun f=>by rw [be0 g2,LxR.bind,c2 ts' (k + 1) hty]; rfl
 cases ps with
 | nil =>
  have e2:sepT (([]:List Slo).map cW0)=[]:=rfl
  rw [e2,List.nil_append] at hT
  obtain ⟨g2,hT⟩:=hT.cons
  obtain ⟨b',g3,g4⟩:=tail [] (n' + 1 + 1 + 1) hT
  refine ⟨⟨(tk ts n).text,on,[],bS a,[],b',(tk ts' n').at_⟩,by unfold eF; rw [g3],?_⟩
  rw [e2,show n' + 1 + 1 + ([]:List TD).length + 1 + 1 + (tTy 3 a).length + (tB b).length=n' + 1 + 1 + 1 + 1 + (tTy 3 a).length + (tB b).length by simp]
  exact g4.of fun f=>by
   unfold pFun
   rw [n1,LxR.bind]
   dsimp only
   rw [be0 g1,LxR.bind,aL0 g2,if_pos (by simp),LxR.bind,n2]
 | cons s l =>
  rw [qS0] at hT ⊢
  have hh:isT ts' (n' + 1 + 1) 4 [41]=false:=by
   have hT':=hT
   unfold cW0 at hT'
   simp only [List.append_assoc,List.cons_append,List.nil_append] at hT'
   obtain ⟨g,-⟩:=hT'.cons
   rw [aL0 g]; simp
  have hT1:Has ts' (n' + 1 + 1) (cW0 s++parT l++[ap0 [41]]):=by
   obtain ⟨L,hL⟩:=hT
   exact ⟨ap0 [58] :: (tTy 3 (sB (bS a))++tB b)++L,by rw [hL]; simp⟩
  have hT2:Has ts' (n' + 1 + 1 + (cW0 s++parT l).length + 1) (ap0 [58] :: (tTy 3 a++tB b)):=by
   have:=hT.append.2
   obtain ⟨_,this⟩:=this.cons
   exact this
  obtain ⟨l',g5,g6⟩:=oC0 l s hps.2 ts' (n' + 1 + 1) [] hT1
  obtain ⟨b',g3,g4⟩:=tail l' _ hT2
  refine ⟨⟨(tk ts n).text,on,l',bS a,[],b',(tk ts' n').at_⟩,by unfold eF; dsimp only; rw [g3,g5],?_⟩
  have:=Ev.bind (k:=fun f q=>(aV0 ts' q.2 [58]).bind fun n2=>(cU0 ts' 4 n2).bind fun r=>(bb0 ts' f 1 r.2).bind fun b=>(.ok (⟨(tk ts n).text,on,q.1,bS r.1,[],b.1,(tk ts' n').at_⟩,b.2):PR Fun)) g6 g4
  exact this.of fun f=>by
   unfold pFun
   rw [n1,LxR.bind]
   dsimp only
   rw [be0 g1,LxR.bind,if_neg (by rw [hh]; simp),n2]
end Go.Am
end

section
namespace Go.Am
def dv0 (l:List Slo):List TD:=(l.map fun s=>[aG0 dL0]++cW0 s++[ap0 [59]]).flatten
def tFns (l:List Fun):List TD:=(l.map fun f=>[aG0 (if f.on then kwOn else kwFn)]++tFn f).flatten
def tP (p:Prg):List TD:=[aG0 cs0]++[(2,numB p.version,p.version)]++[ap0 [59]]++dv0 p.states++tFns p.fns
abbrev endT:TD:=(5,[],0)
def eP (p:Prg):Prg:=⟨p.version,p.states.map eSl,p.fns.map eF⟩
theorem nC0 (ts:List Tok):∀ (f:Nat) (p:Prg) (n:Nat) (q:Prg) (m:Nat),e60 ts f p n=.ok (q,m) ->
  ∃ S F,q=⟨p.version,p.states++S,p.fns++F⟩/\(∀ s ∈ S,mS0 s)/\(∀ x ∈ F,FnAt x)/\n + (dv0 S).length + (tFns F).length<=m/\(tk ts m).kind=5
 | 0,p,n,q,m,h=>by rw [e60] at h; cases h
 | f + 1,p,n,q,m,h=>by
  rw [e60] at h
  split at h
  ·rename_i hk
   injection h with h; injection h with e1 e2; subst e1 e2
   exact ⟨[],[],by simp,(fun s hs=>by cases hs),(fun s hs=>by cases hs),by simp [dv0,tFns],hk⟩
  split at h
  ·obtain ⟨⟨s,k⟩,h1,h⟩:=bc0 h
   obtain ⟨k2,h2,h⟩:=bc0 h
   obtain ⟨rfl,-⟩:=bZ0 h2
   obtain ⟨c1,c2⟩:=qI0 h1
   obtain ⟨S,F,e,a1,a2,a3,a4⟩:=nC0 ts f _ _ q m h
   refine ⟨s :: S,F,by rw [e]; simp,fun x hx=>?_,a2,?_,a4⟩
   ·rcases List.mem_cons.1 hx with rfl | hx
    ·exact c2
    ·exact a1 x hx
   ·unfold dv0 at *
    rw [List.map_cons,List.flatten_cons]
    simp only [List.length_append,List.length_cons,List.length_nil]
    dsimp only at *
    omega
  have fn:∀ on:Bool,(∀ h:(pFun ts f on (n + 1)).bind (fun q=>e60 ts f { p with fns:=p.fns++[q.1] } q.2)=.ok (q,m),∃ S F,q=⟨p.version,p.states++S,p.fns++F⟩/\(∀ s ∈ S,mS0 s)/\(∀ x ∈ F,FnAt x)/\n + (dv0 S).length + (tFns F).length<=m/\(tk ts m).kind=5):=by
   intro on h
   obtain ⟨⟨x,k⟩,h1,h⟩:=bc0 h
   obtain ⟨c1,c2,c3⟩:=read_fn h1
   obtain ⟨S,F,e,a1,a2,a3,a4⟩:=nC0 ts f _ _ q m h
   refine ⟨S,x :: F,by rw [e]; simp,a1,fun y hy=>?_,?_,a4⟩
   ·rcases List.mem_cons.1 hy with rfl | hy
    ·exact c2
    ·exact a2 y hy
   ·unfold tFns at *
    rw [List.map_cons,List.flatten_cons]
    simp only [List.length_append,List.length_cons,List.length_nil]
    dsimp only at *
    omega
  split at h
  ·exact fn false h
  split at h
  ·exact fn true h
  ·cases h
theorem sB0 {ts:List Tok}:∀ (F:List Fun),(∀ x ∈ F,FnAt x)->∀ (p:Prg) (n:Nat),Has ts n (tFns F++[endT]) ->
  ∃ F',F'.map eF=F.map eF/\Ev (fun f=>e60 ts f p n) (.ok (⟨p.version,p.states,p.fns++F'⟩,n + (tFns F).length))
 | [],h,p,n,hT=>by
  obtain ⟨h0,-⟩:=(show Has ts n (endT :: []) from hT).cons
  refine ⟨[],rfl,?_⟩
  have hk:(tk ts n).kind=5:=congrArg Prod.fst h0
  rw [List.append_nil]
  exact (Ev.same (g:=fun _=>(.ok (p,n):PR Prg)) fun _=>rfl).succ fun f=>by rw [e60,if_pos hk]
 | x :: F,h,p,n,hT=>by
  have e:tFns (x :: F)=[aG0 (if x.on then kwOn else kwFn)]++tFn x++tFns F:=by unfold tFns; rw [List.map_cons,List.flatten_cons]
  rw [e] at hT
  simp only [List.append_assoc,List.cons_append,List.nil_append] at hT
  obtain ⟨h0,hT⟩:=hT.cons
  obtain ⟨hX,hr⟩:=hT.append
  obtain ⟨x',g1,g2⟩:=h x (by simp) ts (n + 1) hX
  obtain ⟨F',g3,g4⟩:=sB0 F (fun y hy=>h y (by simp [hy])) { p with fns:=p.fns++[x'] } _ hr
  refine ⟨x' :: F',by rw [List.map_cons,List.map_cons,g1,g3],?_⟩
  have el:n + (tFns (x :: F)).length=n + 1 + (tFn x).length + (tFns F).length:=by rw [e]; simp only [List.length_append,List.length_cons,List.length_nil]; omega
  rw [el,show p.fns++x' :: F'=p.fns++[x']++F' by simp]
  have hk:(tk ts n).kind=1:=congrArg Prod.fst h0
  cases hon:x.on with
  | true =>
   rw [hon] at h0 g2
   have:=Ev.bind (k:=fun f q=>e60 ts f { p with fns:=p.fns++[q.1] } q.2) g2 g4
   exact this.succ fun f=>by
    rw [e60,if_neg (by rw [hk]; decide),isW h0,isW h0,isW h0,if_neg (by decide),if_neg (by decide),if_pos (by decide)]
  | false =>
   rw [hon] at h0 g2
   have:=Ev.bind (k:=fun f q=>e60 ts f { p with fns:=p.fns++[q.1] } q.2) g2 g4
   exact this.succ fun f=>by
    rw [e60,if_neg (by rw [hk]; decide),isW h0,isW h0,if_neg (by decide),if_pos (by decide)]
theorem tops_at {ts:List Tok} {F:List Fun} (hF:∀ x ∈ F,FnAt x):∀ (S:List Slo),(∀ s ∈ S,mS0 s)->∀ (p:Prg) (n:Nat),Has ts n (dv0 S++tFns F++[endT]) ->
  ∃ S' F',S'.map eSl=S.map eSl/\F'.map eF=F.map eF/\Ev (fun f=>e60 ts f p n) (.ok (⟨p.version,p.states++S',p.fns++F'⟩,n + (dv0 S).length + (tFns F).length))
 | [],h,p,n,hT=>by
  obtain ⟨F',g1,g2⟩:=sB0 F hF p n hT
  exact ⟨[],F',rfl,g1,by rw [List.append_nil]; exact g2⟩
 | s :: S,h,p,n,hT=>by
  have e:dv0 (s :: S)=[aG0 dL0]++cW0 s++[ap0 [59]]++dv0 S:=by unfold dv0; rw [List.map_cons,List.flatten_cons]
  rw [e] at hT
  simp only [List.append_assoc,List.cons_append,List.nil_append] at hT
  obtain ⟨h0,hT⟩:=hT.cons
  obtain ⟨hX,hr⟩:=hT.append
  obtain ⟨h1,hr⟩:=hr.cons
  obtain ⟨s',g1,g2⟩:=h s (by simp) ts (n + 1) hX
  obtain ⟨S',F',g3,g5,g4⟩:=tops_at hF S (fun y hy=>h y (by simp [hy])) { p with states:=p.states++[s'] } _ (by rw [List.append_assoc]; exact hr)
  refine ⟨s' :: S',F',by rw [List.map_cons,List.map_cons,g1,g3],g5,?_⟩
  have el:n + (dv0 (s :: S)).length + (tFns F).length=n + 1 + (cW0 s).length + 1 + (dv0 S).length + (tFns F).length:=by rw [e]; simp only [List.length_append,List.length_cons,List.length_nil]; omega
  rw [el,show p.states++s' :: S'=p.states++[s']++S' by simp]
  have hk:(tk ts n).kind=1:=congrArg Prod.fst h0
  exact g4.succ fun f=>by
   rw [e60,if_neg (by rw [hk]; decide),isW h0,if_pos (by decide),g2,LxR.bind]
   dsimp only
   rw [be0 h1]
   rfl
theorem read_prog {ts:List Tok} {f m:Nat} {p:Prg} (h:hU0 ts f=.ok (p,m)) :
  (tP p).length + 1<=ts.length/\∀ ts',Has ts' 0 (tP p++[endT])->∃ p',eP p'=eP p/\Ev (fun f=>hU0 ts' f) (.ok (p',(tP p).length)):=by
 unfold hU0 at h
 obtain ⟨k,h1,h⟩:=bc0 h
 obtain rfl:=pWord_k h1
 obtain ⟨⟨v,k1⟩,h2,h⟩:=bc0 h
 obtain ⟨k2,h3,h⟩:=bc0 h
 obtain ⟨rfl,-⟩:=bZ0 h3
 have hv:(tk ts 1).kind=2/\v=tk ts 1/\k1=2:=by
  unfold pInt at h2
  split at h2
  ·rename_i hk; injection h2 with h2; injection h2 with e1 e2; exact ⟨hk,e1.symm,e2.symm⟩
  ·cases h2
 obtain ⟨hvk,rfl,rfl⟩:=hv
 obtain ⟨S,F,e,a1,a2,a3,a4⟩:=nC0 ts f _ _ p m h
 dsimp only [List.nil_append] at e
 subst e
 have hm:m < ts.length:=by
  rcases Nat.lt_or_ge m ts.length with h | h
  ·exact h
  ·unfold tk at a4
   rw [List.getD_eq_getElem?_getD,List.getElem?_eq_none h] at a4
   cases a4
 have el:(tP ⟨(tk ts 1).num,S,F⟩).length=3 + (dv0 S).length + (tFns F).length:=by
  unfold tP
  simp only [List.length_append,List.length_cons,List.length_nil]
 refine ⟨by dsimp only at *; rw [el]; omega,fun ts' hT=>?_⟩
 rw [el]
 unfold tP at hT
 simp only [List.append_assoc,List.cons_append,List.nil_append] at hT
 obtain ⟨g0,hT⟩:=hT.cons
 obtain ⟨g1,hT⟩:=hT.cons
 obtain ⟨g2,hT⟩:=hT.cons
 obtain ⟨S',F',g3,g4,g5⟩:=tops_at a2 S a1 ⟨(tk ts 1).num,[],[]⟩ (0 + 1 + 1 + 1) (by rw [List.append_assoc]; exact hT)
 refine ⟨⟨(tk ts 1).num,[]++S',[]++F'⟩,by unfold eP; simp only [List.nil_append,g3,g4],?_⟩
 have hk1:(tk ts' (0 + 1)).kind=2:=congrArg Prod.fst g1
 have hn1:(tk ts' (0 + 1)).num=(tk ts 1).num:=congrArg (fun x=>x.2.2) g1
 refine g5.of fun f=>?_
 unfold hU0 kl0
 rw [isW g0,if_pos (by decide),LxR.bind]
 unfold pInt
 rw [if_pos hk1,LxR.bind]
 dsimp only
 rw [be0 g2,LxR.bind,hn1]
theorem r50 {s:Slo} {t:Bs} (h:hG0 s=some t):LxT t (cW0 s) a30:=by
 unfold hG0 at h
 split at h
 ·rename_i hc
  rw [Bool.and_eq_true] at hc
  injection h with h; subst h
  obtain ⟨d,hd,hd2⟩:=tyB_is (r:=3) (show tyB 3 (sB s.type)=true from hc.1)
  have:=(((ge0 hc.2).append (lex1 (c:=58)) fun r _=>a30.cons (by decide)).append (if0 (b:=[32]) (by decide) (lex_ty hd 3 hd2)) fun _ _=>trivial)
  unfold cW0
  simpa [List.append_assoc] using this
 ·cases h
theorem ox0:∀ {l:List Slo} {t:Bs},cv0 l=some t->LxT t (dv0 l) Any
 | [],t,h=>by rw [cv0.eq_def] at h; injection h with h; subst h; exact .nil _
 | s :: l,t,h=>by
  rw [cv0.eq_def] at h
  dsimp only at h
  split at h
  ·rename_i a b ha hb
   injection h with h; subst h
   have e:dv0 (s :: l)=[aG0 dL0]++cW0 s++[ap0 [59]]++dv0 l:=by unfold dv0; rw [List.map_cons,List.flatten_cons]
   have:=((((fW0 (w:=dL0) (by decide)).sp.append (r50 ha) fun _ _=>trivial).append (lex1 (c:=59)) fun r _=>a30.cons (by decide)).then (b:=[10]) (by decide) fun _=>trivial).append (ox0 hb) fun _ _=>trivial
   rw [e]
   simpa [List.append_assoc] using this
  ·cases h
theorem nK0:∀ {l:List Slo} {ts:List Bs},cy0 l=some ts->ts.length=(l.map cW0).length/\∀ i (h1:i < ts.length) (h2:i < (l.map cW0).length),LxT ts[i] (l.map cW0)[i] a30
 | [],ts,h=>by rw [cy0.eq_def] at h; injection h with h; subst h; exact ⟨rfl,fun i h1=>by simp at h1⟩
 | s :: l,ts,h=>by
  rw [cy0.eq_def] at h
  dsimp only at h
  split at h
  ·rename_i a b ha hb
   injection h with h; subst h
   obtain ⟨g1,g2⟩:=nK0 hb
   refine ⟨by simpa using g1,fun i h1 h2=>?_⟩
   cases i with
   | zero=>exact r50 ha
   | succ i=>exact g2 i (by simpa using h1) (by simpa using h2)
  ·cases h
theorem lex_fn {f:Fun} {t:Bs} (hp:plB f.body=true) (h:oj0 f=some t):LxT t ([aG0 (if f.on then kwOn else kwFn)]++tFn f) Any:=by
 unfold oj0 at h
 split at h
 ·rename_i ps b h1 h2
  split at h
  ·rename_i hc
   rw [Bool.and_eq_true] at hc
   injection h with h; subst h
   obtain ⟨g1,g2⟩:=nK0 h1
   obtain ⟨d,hd,hd2⟩:=tyB_is (r:=3) (show tyB 3 (sB f.result)=true from hc.1)
   have hb:=lexB 0 f.body (fun x hx s hs=>lexS _ 1 x (Nat.lt_succ_self _) (rx0 hp x hx) hs) h2
   have nw:∀ {c:UInt8},(am0++ai0).contains c=false->∀ r:Bs,Any r->a30 ([c]++r):=fun hc r _=>a30.cons hc
   have hk:LxT (if f.on then kwOn else kwFn) [aG0 (if f.on then kwOn else kwFn)] a30:=by split <;> exact fW0 (by decide)
   have:=((((((((hk.sp.append (ge0 hc.2) fun _ _=>trivial).append (lex1 (c:=40)) (nw (by decide))).append (lex_sep g1 g2) fun _ _=>trivial).append (lex1 (c:=41)) (nw (by decide))).append (lex1 (c:=58)) fun _ _=>trivial).append (if0 (b:=[32]) (by decide) (lex_ty hd 3 hd2).sp) fun _ _=>trivial).append hb fun _ _=>trivial).then (b:=[10]) (by decide) fun _=>trivial)
   unfold tFn tB
   simpa [List.append_assoc] using this
  ·cases h
 ·cases h
theorem lex_fns:∀ {l:List Fun} {t:Bs},(∀ f ∈ l,plB f.body=true)->ft0 l=some t->LxT t (tFns l) Any
 | [],t,_,h=>by rw [ft0.eq_def] at h; injection h with h; subst h; exact .nil _
 | x :: l,t,hp,h=>by
  rw [ft0.eq_def] at h
  dsimp only at h
  split at h
  ·rename_i a b ha hb
   injection h with h; subst h
   have e:tFns (x :: l)=([aG0 (if x.on then kwOn else kwFn)]++tFn x)++tFns l:=by unfold tFns; rw [List.map_cons,List.flatten_cons]
   rw [e]
   exact (lex_fn (hp x (by simp)) ha).append (lex_fns (fun f hf=>hp f (by simp [hf])) hb) fun _ _=>trivial
  ·cases h
theorem lex_prog {p:Prg} {t:Bs} (hv:p.version < 9223372036854775808) (hp:∀ f ∈ p.fns,plB f.body=true) (h:shP p=some t):LxT t (tP p) Any:=by
 unfold shP at h
 split at h
 ·rename_i h0
  split at h
  ·rename_i a b ha hb
   injection h with h; subst h
   have:=(((((fW0 (w:=cs0) (by decide)).sp.append (lex_num h0 hv) fun _ _=>trivial).append (lex1 (c:=59)) fun r _=>a30.cons (by decide)).then (b:=[10]) (by decide) fun _=>trivial).append (ox0 ha) fun _ _=>trivial).append (lex_fns hp hb) fun _ _=>trivial
   unfold tP
   simpa [List.append_assoc] using this
  ·cases h
 ·cases h
theorem LxT.whole {t:Bs} {T:List TD} (h:LxT t T Any) (hT:T.length<=4095) (ht:t.length<=16384):∃ ts,ei0 t=.ok ts/\ts.map Tok.td=T++[endT]:=by
 have hl:=h.len
 obtain ⟨toks,e1,e2⟩:=h.go t 0 [] (t.length - T.length) [] (by simp) trivial (by simp; omega)
 have l1:toks.length=T.length:=by rw [<- e1,List.length_map]
 rw [show t.length - T.length + 1 + T.length=t.length + 1 by omega,Nat.zero_add,List.nil_append] at e2
 have hb:aI0 t (t.length + 1) t.length=t.length:=by
  rw [aI0,nF0 (Nat.le_refl _),if_neg (by rw [List.getElem?_eq_none (Nat.le_refl _)]; simp)]
 refine ⟨toks++[⟨5,bS [],0,t.length⟩],?_,by rw [List.map_append,e1]; rfl⟩
 unfold ei0
 rw [if_neg (by omega),e2,g50,hb,if_pos (Nat.le_refl _),if_neg (by omega)]
theorem om0 {ts:List Tok} {f m:Nat} {p:Prg} {t:Bs} (hr:hU0 ts f=.ok (p,m)) (hts:ts.length<=4096) (hv:p.version < 9223372036854775808) (hp:∀ f ∈ p.fns,plB f.body=true) (h:shP p=some t) (ht:t.length<=16384) :
  (∃ ts',ei0 t=.ok ts'/\ts'.length<=ts.length)/\∃ q F,fY0 t F=.ok q/\eP q=eP p:=by
 obtain ⟨h1,h2⟩:=read_prog hr
 obtain ⟨ts',e1,e2⟩:=(lex_prog hv hp h).whole (by omega) ht
 have hl:ts'.length=(tP p).length + 1:=by rw [<- List.length_map (f:=Tok.td),e2,List.length_append]; rfl
 refine ⟨⟨ts',e1,by omega⟩,?_⟩
 obtain ⟨q,g1,F,g2⟩:=h2 ts' ⟨[],by rw [List.drop_zero,e2,List.append_nil]⟩
 refine ⟨q,F,?_,g1⟩
 unfold fY0
 rw [e1]
 dsimp only
 have:=g2 F (Nat.le_refl F)
 dsimp only at this
 rw [this]
end Go.Am
end

section
namespace Go.Am
end Go.Am
end

section
namespace Go.Am
def Nz {α:Type} (r:LxR α):Prop:=∀ a e,r=.bad a e->e ≠ 0
theorem Nz.ok {α:Type} (a:α):Nz (.ok a:LxR α):=fun _ _ h=>by cases h
theorem Nz.bad {α:Type} {n e:Int} (h:e ≠ 0):Nz (.bad n e:LxR α):=fun _ _ k=>by injection k with _ k; subst k; exact h
theorem Nz.bind {α β:Type} {r:LxR α} {f:α->LxR β} (h:Nz r) (k:∀ a,Nz (f a)):Nz (r.bind f):=fun a e hb=>by
 cases r with
 | ok x=>exact k x a e hb
 | bad n c=>injection hb with h1 h2; subst h2; exact h n c rfl
theorem Nz.ite {α:Type} {c:Prop} [Decidable c] {x y:LxR α} (h:Nz x) (k:Nz y):Nz (if c then x else y):=by split <;> assumption
theorem hT0 {α:Type} (ts:List Tok) (n:Nat) {e:Int} (h:e ≠ 0):Nz (eN0 ts n e:LxR α):=.bad h
section
variable {ts:List Tok}
theorem bY0 (n:Nat) (s:Bs):Nz (aV0 ts n s):=.ite (.ok _) (hT0 _ _ (by decide))
theorem nz_word (n:Nat) (s:Bs):Nz (kl0 ts n s):=.ite (.ok _) (hT0 _ _ (by decide))
theorem kS0 (n:Nat):Nz (dd0 ts n):=.ite (.ok _) (hT0 _ _ (by decide))
theorem nz_int (n:Nat):Nz (pInt ts n):=.ite (.ok _) (hT0 _ _ (by decide))
theorem nz_key (n:Nat):Nz (pKey ts n):=.ite (.ok _) (.ite (.ok _) (hT0 _ _ (by decide)))
theorem po0 (n d:Nat):Nz (g60 ts n d):=.ite (hT0 _ _ (by decide)) (.ok _)
theorem pp0:∀ r n,Nz (cU0 ts r n)
 | 0,n=>by rw [cU0]; exact hT0 _ _ (by decide)
 | r + 1,n=>by
  rw [cU0]
  exact .ite (.ok _) (.ite ((pp0 r _).bind fun _=>(bY0 _ _).bind fun _=>.ok _) (.ite ((nz_key _).bind fun _=>(bY0 _ _).bind fun _=>(pp0 r _).bind fun _=>(bY0 _ _).bind fun _=>.ok _) (nz_key _)))
theorem nz_slot (n:Nat):Nz (ik0 ts n):=(kS0 _).bind fun _=>(bY0 _ _).bind fun _=>(pp0 _ _).bind fun _=>.ok _
structure NzA (ts:List Tok) (f:Nat):Prop where
 expr:∀ d n,Nz (by0 ts f d n)
 bin:∀ l d n,Nz (pBin ts f l d n)
 loop:∀ l d o n,Nz (et0 ts f l d o n)
 un:∀ d n,Nz (pUn ts f d n)
 post:∀ d o n,Nz (e50 ts f d o n)
 prim:∀ d n,Nz (dZ0 ts f d n)
 args:∀ d o n,Nz (eK0 ts f d o n)
theorem nzA (ts:List Tok):∀ f,NzA ts f
 | 0=>by
  constructor <;> intros
  ·rw [by0]; exact .bad (by decide)
  ·rw [pBin]; exact .bad (by decide)
  ·rw [et0]; exact .bad (by decide)
  ·rw [pUn]; exact .bad (by decide)
  ·rw [e50]; exact .bad (by decide)
  ·rw [dZ0]; exact .bad (by decide)
  ·rw [eK0]; exact .bad (by decide)
 | f + 1=>by
  have ih:=nzA ts f
  constructor <;> intros
  ·rw [by0]; exact (po0 _ _).bind fun _=>ih.bin _ _ _
  ·rw [pBin]; exact .ite (ih.un _ _) ((ih.bin _ _ _).bind fun _=>ih.loop _ _ _ _)
  ·rw [et0]; exact .ite ((ih.bin _ _ _).bind fun _=>.ite (.ite (hT0 _ _ (by decide)) (.ok _)) (ih.loop _ _ _ _)) (.ok _)
  ·rw [pUn]; exact .ite ((po0 _ _).bind fun _=>(ih.un _ _).bind fun _=>.ok _) (.ite ((po0 _ _).bind fun _=>(ih.un _ _).bind fun _=>.ok _) ((ih.prim _ _).bind fun _=>ih.post _ _ _))
  ·rw [e50]; exact .ite ((ih.expr _ _).bind fun _=>(bY0 _ _).bind fun _=>ih.post _ _ _) (.ok _)
  ·rw [dZ0]; exact .ite (.ok _) (.ite (.ok _) (.ite (.ok _) (.ite (.ok _) (.ite ((ih.expr _ _).bind fun _=>(bY0 _ _).bind fun _=>.ok _) ((kS0 _).bind fun _=>.ite (.ite (.ok _) ((ih.args _ _ _).bind fun _=>.ok _)) (.ok _))))))
  ·rw [eK0]; exact (ih.expr _ _).bind fun _=>.ite (.ok _) ((bY0 _ _).bind fun _=>ih.args _ _ _)
structure NzS (ts:List Tok) (f:Nat):Prop where
 block:∀ d n,Nz (bb0 ts f d n)
 stms:∀ d o n,Nz (gR0 ts f d o n)
 stm:∀ d n,Nz (pStm ts f d n)
theorem nzS (ts:List Tok):∀ f,NzS ts f
 | 0=>by
  constructor <;> intros
  ·rw [bb0]; exact .bad (by decide)
  ·rw [gR0]; exact .bad (by decide)
  ·rw [pStm]; exact .bad (by decide)
 | f + 1=>by
  have ih:=nzS ts f
  have iE:=(nzA ts f).expr
  constructor <;> intros
  ·rw [bb0]; exact (po0 _ _).bind fun _=>(bY0 _ _).bind fun _=>ih.stms _ _ _
  ·rw [gR0]; exact .ite (.ok _) ((ih.stm _ _).bind fun _=>ih.stms _ _ _)
  ·rw [pStm]
   exact .ite ((kS0 _).bind fun _=>(bY0 _ _).bind fun _=>(iE _ _).bind fun _=>(bY0 _ _).bind fun _=>.ok _)
    (.ite ((kS0 _).bind fun _=>.ite ((iE _ _).bind fun _=>(bY0 _ _).bind fun _=>(bY0 _ _).bind fun _=>(iE _ _).bind fun _=>(bY0 _ _).bind fun _=>.ok _) ((bY0 _ _).bind fun _=>(iE _ _).bind fun _=>(bY0 _ _).bind fun _=>.ok _))
    (.ite ((kS0 _).bind fun _=>(bY0 _ _).bind fun _=>(iE _ _).bind fun _=>(bY0 _ _).bind fun _=>(bY0 _ _).bind fun _=>.ok _)
    (.ite ((iE _ _).bind fun _=>(ih.block _ _).bind fun _=>.ite ((ih.block _ _).bind fun _=>.ok _) (.ok _))
    (.ite ((kS0 _).bind fun _=>(nz_word _ _).bind fun _=>(iE _ _).bind fun _=>(ih.block _ _).bind fun _=>.ok _)
    (.ite ((iE _ _).bind fun _=>(bY0 _ _).bind fun _=>.ok _) (hT0 _ _ (by decide)))))))
theorem qC0:∀ f o n,Nz (bF0 ts f o n)
 | 0,o,n=>by rw [bF0]; exact .bad (by decide)
 | f + 1,o,n=>by rw [bF0]; exact (nz_slot _).bind fun _=>.ite (.ok _) ((bY0 _ _).bind fun _=>qC0 f _ _)
theorem nz_fun (f:Nat) (on:Bool) (n:Nat):Nz (pFun ts f on n) :=
 (kS0 _).bind fun _=>(bY0 _ _).bind fun _=>(Nz.ite (.ok _) (qC0 _ _ _)).bind fun _=>(bY0 _ _).bind fun _=>(pp0 _ _).bind fun _=>((nzS ts f).block _ _).bind fun _=>.ok _
theorem pq0:∀ f p n,Nz (e60 ts f p n)
 | 0,p,n=>by rw [e60]; exact .bad (by decide)
 | f + 1,p,n=>by
  rw [e60]
  exact .ite (.ok _) (.ite ((nz_slot _).bind fun _=>(bY0 _ _).bind fun _=>pq0 f _ _) (.ite ((nz_fun _ _ _).bind fun _=>pq0 f _ _) (.ite ((nz_fun _ _ _).bind fun _=>pq0 f _ _) (hT0 _ _ (by decide)))))
theorem nz_prog (f:Nat):Nz (hU0 ts f):=(nz_word _ _).bind fun _=>(nz_int _).bind fun _=>(bY0 _ _).bind fun _=>pq0 _ _ _
end
end Go.Am
end

section
namespace Go.Am
set_option maxRecDepth 100000
theorem read_back {s:Bs} {p:Prg} (h:rE0 s=.ok p) {t:Bs} (ht:shP p=some t) (hl:t.length<=16384) :
  (∃ ts ts',ei0 s=.ok ts/\ei0 t=.ok ts'/\ts'.length<=ts.length/\ts.length<=4096)/\∃ q F,fY0 t F=.ok q/\eP q=eP p:=by
 have ho:=read_ok h
 have hg:=gN0 s
 rw [mJ0] at h
 unfold fY0 at h
 cases hx:ei0 s with
 | bad a e=>rw [hx] at h; cases h
 | ok ts =>
  rw [hx] at h hg
  obtain ⟨o,b,rfl,ho2⟩:=hg
  dsimp only at h
  cases hp:hU0 (o++[⟨5,bS [],0,b⟩]) mu0 with
  | bad n e=>rw [hp] at h; cases h
  | ok q =>
   obtain ⟨p',m⟩:=q
   rw [hp] at h
   injection h with h; subst h
   have hl4:(o++[(⟨5,bS [],0,b⟩:Tok)]).length<=4096:=by simp; omega
   obtain ⟨⟨ts',e1,e2⟩,hq⟩:=om0 hp hl4 ho.v1 (fun f hf=>by obtain ⟨j,g1,_⟩:=ho.fs f hf; exact g1.sz) ht hl
   exact ⟨⟨_,ts',rfl,e1,e2,hl4⟩,hq⟩
theorem read_bad {s:Bs} {a e:Int} (h:rE0 s=.bad a e):e ≠ 0:=by
 have hg:=gN0 s
 rw [mJ0] at h
 unfold fY0 at h
 cases hx:ei0 s with
 | bad n c=>rw [hx] at h hg; injection h with h1 h2; subst h2; exact hg.1
 | ok ts =>
  rw [hx] at h
  dsimp only at h
  cases hp:hU0 ts mu0 with
  | bad n c=>rw [hp] at h; injection h with h1 h2; subst h2; exact nz_prog mu0 n c hp
  | ok q=>rw [hp] at h; cases h
attribute [local irreducible] vc vcIs vcI vcOp vcD vcDp vcDR vcT vcAR cc0 ba0 panD neG ne pv J bW0 b30 cg0 bn0 evK evsK nthK objK boxK rowK bQ0 intK strK aggK fnK ifcK az0 aA0 ldK ldaK iaK srcK stK appK appD ck0 pvK bR0 a10 b20 bG0 slAV bV0
set_option maxHeartbeats 3200000 in
theorem oW0 (s:ByteArray) (hs:s.size < 2 ^ 39):Ret prog fe0 [vS s] (vB true):=by
 have hP:=sJ0 s hs
 cases hr:rE0 (sB s) with
 | bad a e =>
  have hne:=read_bad hr
  have hP:Ret prog eA0 [vS s] (.tup [.agg [vI 0,.lst [],.lst []],vI a,vI e]):=by rw [hr] at hP; exact hP
  refine av0 dc0 (by simp) ?_
  refine rS1 @da0.eq_1 ?_
  refine an0 ?_; simp; refine ak0 (oQ0) (by simp) ?_
  refine rS0 ?_
  refine an0 ?_; simp; refine ak0 (hP) (by simp) ?_
  refine rS1 hne ?_
  refine ay0 [] ?_
  exact rT0
 | ok p =>
  have hP:Ret prog eA0 [vS s] (.tup [p.V,vI 0,vI 0]):=by rw [hr] at hP; exact hP
  obtain ⟨t,h1,h2,hS⟩:=show_ok (read_ok hr)
  refine av0 dc0 (by simp) ?_
  refine rS1 @da0.eq_1 ?_
  refine an0 ?_; simp; refine ak0 (oQ0) (by simp) ?_
  refine rS0 ?_
  refine an0 ?_; simp; refine ak0 (hP) (by simp) ?_
  refine rS0 ?_
  by_cases ht:t.length<=16384
  ·have hA:oi0 t=.tup [vS (bS t),vI 0]:=by unfold oi0; rw [if_pos ht]
   rw [hA] at hS
   obtain ⟨⟨ts,ts',e1,e2,e3,e4⟩,-⟩:=read_back hr h1 ht
   have hL1:=js0 s hs
   have hL2:=js0 (bS t) (by show t.length < _; omega)
   rw [e1] at hL1
   rw [show sB (bS t)=t from rfl,e2] at hL2
   unfold lexV at hL1 hL2
   have e5:(ts'.length:Int)<=ts.length:=by omega
   refine an0 ?_; simp; refine ak0 (hS) (by simp) ?_
   refine rS0 ?_
   refine an0 ?_; simp; refine ak0 (hL1) (by simp) ?_
   refine rS0 ?_
   refine an0 ?_; simp; refine ak0 (hL2) (by simp) ?_
   refine rS1 e5 ?_
   refine ay0 [] ?_
   exact rT0
  ·have hA:oi0 t=.tup [vS (bS []),vI 3]:=by unfold oi0; rw [if_neg ht]
   rw [hA] at hS
   refine an0 ?_; simp; refine ak0 (hS) (by simp) ?_
   refine rS0 ?_
   refine ay0 [] ?_
   exact rT0
end Go.Am
end

section
namespace Go.Proofs.YtnlggapedakocaaGreatDoor.showLess
open Go.ChangeShapes Go.WideShapes Go.ChangeAt Go.RowKit
open Go.Am (imW vI vB vS qj0)
set_option maxRecDepth 100000
def T8 (t:TypeId):Prop:=t=9
theorem flat8:∀ t,T8 t->Go.Am.sH0 Tryz.prog T8 t:=by
 intro t h
 obtain rfl:t=9:=h
 unfold Go.Am.sH0
 rw [Tryz.underlying9]; trivial
theorem args8:∀ t ∈ Tryz.f5.params.toList,T8 t:=by
 rw [Tryz.params5]; intro t ht; simp at ht; subst ht; rfl
theorem contract (H:Type) (enc:TypeId × Value->H) (W:World) (base:Nat) (args:Array Value) (ds gs:List (DataW H)) (before:List MemPlace)
  (hval:∀ (j:Nat) t v,Tryz.f5.params[j]?=some t->args[j]?=some v->Value.okWide Tryz.prog W .any base t v)
  (hW:DataW.Whole enc Tryz.prog Tryz.f5.params.toList Rows.showLessSpec.vars false W args.toList ds gs before) (hL:laidMetH Tryz.prog Rows.showLessRow.laid W) (hk:Rows.uptoSmall H (ds++gs)=true) :
  Calls Tryz.prog 5 args W fun e W'=>∃ v,e=.returned v/\Rows.showLessSpec.post enc Tryz.prog Tryz.f5 false true false false W args v W':=by
 have hW':=hW
 obtain ⟨p,q,hA0,hV,rfl,hfz,hnd⟩:=hW
 have hA:DataW.TrodAll enc Tryz.prog W 0 (fun _=>true) true Tryz.f5.params.toList args.toList ds p:=hA0
 rw [Tryz.params5] at hA hval
 obtain ⟨a0,vs0,d0,ds0,p0,q0,hargs,rfl,rfl,h0,r0⟩:=trodAll_cons hA
 obtain ⟨rfl,rfl,rfl⟩:=trodAll_nil r0
 obtain rfl:args=#[a0]:=by cases args; simp_all
 obtain ⟨rfl,rfl⟩:=trodVars_none hV
 have hbk:Rows.uptoBulkAll ([d0]++[])<=1048576:=of_decide_eq_true hk
 simp only [List.append_nil,Rows.uptoBulkAll] at hbk
 obtain ⟨s,rfl⟩:=okWide_string Tryz.underlying9 (hval 0 9 a0 rfl rfl)
 obtain ⟨n1,t1⟩:=h0
 obtain ⟨s',e1,e2,_⟩:=DataW.trod_string Tryz.underlying9 t1
 have e1':s'=s:=by simpa [Value.cells] using e1.symm
 subst e1'
 obtain rfl:d0=.lit (.string s'.data.toList):=by injection e2
 have hsz:s'.size < 2 ^ 39:=by
  have:s'.data.toList.length=s'.size:=rfl
  simp only [Rows.uptoBulk] at hbk
  omega
 have hret:=Go.Am.oW0 s' hsz
 have hcalled:=hret (imW W) Go.Am.Mu.bot #[.string s'] W
  ⟨rfl,fun j u hj=>by
   match j,hj with
   | 0,hj=>injection hj with hj; subst hj; exact .c _
   | j + 1,hj=>simp at hj⟩ (Go.Am.wd_imW (table hL))
 obtain ⟨fn,c,k1,k2,k3,_⟩:=Go.Am.dc0.ex
 have hrun:(callFunc 5 #[.string s']).run Tryz.prog W=.ok (.enter 5 #[.string s']) W:=by
  have k2':¬ fn.name = "runtime.NumGoroutine":=by simpa using k2
  simp [callFunc,k1,k2',k3]
 unfold Go.Am.d00 at hcalled
 rw [hrun] at hcalled
 refine Calls.mono hcalled ?_
 rintro e W' ⟨r,H',μ',rfl,⟨x,rfl,hx⟩,hNj,hWd,_,_⟩
 obtain rfl:=hx.b60
 have hkeep:∀ b,b < W.heap.size->W'.heap[b]?=W.heap[b]?:=fun b hb=>hNj.keep b hb (by simp [Go.Am.Owns,Go.Am.hpE])
 refine ⟨_,rfl,_,_,_,[],p0++[],[],hW',?_,?_,rfl,?_,fun h=>by cases h⟩
 ·exact trodAll_cons_mk (shut_bool Tryz.underlying4 _) trodAll_mk0
 ·exact Go.Am.mp0 flat8 hkeep args8 hA0 fun p hp=>by
   have:=hW'.lt p (by simpa using hp)
   simpa using this
 ·refine ⟨hNj.os,hNj.output,fun i hi=>?_⟩
  rw [hkeep i hi]
  split
  ·rename_i e1 e2
   rw [e1] at e2
   injection e2 with e2
   injection e2 with e3 e4 e5
   subst e3 e4 e5
   exact ⟨rfl,rfl,rfl,fun _ _=>rfl⟩
  ·rename_i e1 e2
   rw [e1] at e2
   injection e2 with e2
   injection e2 with e3 e4
   exact .inr ⟨e3.symm,e4.symm⟩
  ·rfl
end Go.Proofs.YtnlggapedakocaaGreatDoor.showLess
end

section
namespace Go.Proofs.YtnlggapedakocaaGreatDoor.showLess
open Go.ChangeShapes Go.WideShapes Go.ChangeAt Go.RowKit
set_option maxRecDepth 100000
def cellsP (d:DataW Unit):List Value:=match d with | .lit (.int k n)=>[Value.int k n] | .agg ps=>ps.map fun d=>(match d with | .lit (.int k n)=>Value.int k n | _=>Value.bool false) | _=>[]
def cellsD:DataW Unit->Array Value
 | .agg ps=>(ps.flatMap cellsP).toArray
 | _=>#[]
def lay (o:Obj) (d:DataW Unit):Obj:=match o with | .cells _ t frozen=>.cells (cellsD d) t frozen | o=>o
noncomputable def nl0 (os:Os):World :=
 { World.holding Tryz.prog os ⟨#[],#[],[]⟩ with heap:=(((((World.holding Tryz.prog os ⟨#[],#[],[]⟩).heap.modify 0 fun o=>lay o Rows.laid_internal_strconv_uint64pow10).modify 2 fun o=>lay o Rows.laid_math_bits_deBruijn32tab).modify 3 fun o=>lay o Rows.laid_math_bits_deBruijn64tab).modify 4 fun o=>lay o Rows.laid_unicode_utf8_first).modify 5 fun o=>lay o Rows.laid_unicode_utf8_acceptRanges }
abbrev wargs:Array Value:=#[.string ⟨#[]⟩]
theorem laid_met (os:Os):laidMet Tryz.prog Rows.showLessRow.laid ((nl0 os).forCall (fun _ _=>0) ⟨#[],wargs,[]⟩).memory :=
 laidMet_of_run' 8 (by kernel_rfl) (by kernel_rfl)
theorem reads (os:Os) {H:Type} (enc:TypeId × Value->H):∃ places,DataW.whole enc Tryz.prog ((nl0 os).forCall (fun _ _=>0) ⟨#[],wargs,[]⟩).memory Tryz.f5.params.toList Rows.showLessSpec.vars false wargs.toList 8 =
  some ([.lit (.string [])],[],places) :=
 ⟨[],by kernel_rfl⟩
theorem td0 (os:Os) (started:os.Started) (H:Type) (enc:TypeId × Value->H) (F:Stop.Interp) :
  ReturnsInHanded {} Tryz.checked os 5 .any ((Rows.OpenSpec.upto Rows.showLessSpec).preRow enc Tryz.prog Tryz.f5 Rows.showLessUptoRow.domain false Rows.showLessUptoRow.laid) (((Rows.OpenSpec.upto Rows.showLessSpec).at F).post enc Tryz.prog Tryz.f5 false true false false):=by
 obtain ⟨places,hx⟩:=reads os enc
 refine returnsInHanded_of_row (C:=Tryz.checked) (s:=Rows.OpenSpec.upto Rows.showLessSpec) own started (by kernel_rfl) Tryz.func5
  (witness_row_at (enc:=enc) (C:=Tryz.checked) false (nl0 os) wargs rfl (by kernel_rfl) (by kernel_rfl) (by kernel_rfl)
   (OpenSpec.preRow_of_cond 8 hx (by kernel_rfl) (fun k hk=>by cases hk; kernel_rfl) (by kernel_rfl) (laid_met os))) ?_
 intro W base args ds gs before hval hW _ hcond _ hL _ _
 exact contract H enc W base args ds gs before hval hW hL (hcond _ rfl)
theorem saidUpto:Rows.ShowLessUptoSaid :=
 OpenClaim.holds_of_cond 5 Tryz.f5 rfl rfl rfl rfl rfl rfl rfl ⟨rfl,rfl,rfl,rfl,rfl⟩ rfl rfl rfl rfl rfl (by kernel_rfl) Tryz.func5 (by kernel_rfl)
  (of_decide_eq_true (by kernel_rfl)) (by unfold Func.isWrapper; first | (rw [if_pos (by decide +kernel)]; kernel_rfl) | (rw [if_neg (by decide +kernel)]; exact ⟨rfl,rfl⟩))
  (fun os started H enc _ F=>by rw [OpenClaim.pre_eq_preRow]; exact td0 os started H enc F)
theorem plain (f:FuncId) (fn:Func) (hf:Tryz.pinned.checked.prog.funcNamed "quern/quernlaw08.ShowLess"=some f) (hfn:Tryz.pinned.checked.prog.funcs[f]?=some fn) :
  true=Tryz.pinned.checked.prog.looks []/\∀ (j:Nat) t,fn.params[j]?=some t->Tryz.pinned.checked.prog.wantsStandIn t=false:=by
 obtain rfl:f=5:=Option.some.inj ((show Tryz.prog.funcNamed "quern/quernlaw08.ShowLess"=some 5 by kernel_rfl).symm.trans hf) |>.symm
 obtain rfl:fn=Tryz.f5:=(Option.some.inj (Tryz.func5.symm.trans hfn)).symm
 refine ⟨by kernel_rfl,fun j t ht=>?_⟩
 rw [Tryz.params5] at ht
 have hm:=Array.mem_of_getElem? ht
 simp at hm
 subst hm
 exact (show Tryz.prog.wantsStandIn 9=false by kernel_rfl)
theorem cardUpto:Rows.ShowLessUptoCardSaid :=
 Claim7.holds_tied_plain_at .later [] _ _ _ _ saidUpto (fun _ h=>by cases h) (by kernel_rfl) (fun _ h=>by cases h) showLessUpto_row_tie rfl ⟨rfl,rfl⟩ (by kernel_rfl) rfl plain (by kernel_rfl)
end Go.Proofs.YtnlggapedakocaaGreatDoor.showLess
end
