/- Part of the proof of a law: no condition. -/
import Derived.Test.YtinknfobdleeeaaGreatRa
import Derived.RangeFuncRecord
import Derived.Laws.Strings
import Derived.Deep.Upon
set_option linter.all false
open Option.some renaming injEq→aG,inj→bB
open List renaming getElem?_eq_getElem→aZ,mem_cons_of_mem→aS,mem_cons_self→aU,mem_cons→aO,mem_of_getElem?→bE,getElem?_eq_some_iff→cj,not_mem_nil→dv,mem_iff_getElem?→jV,mem_or_eq_of_mem_set→mO,replicate→fF,map_congr_left→kF,getElem?_append_left→dw,take_append_of_le_length→ie,range'→bX,getElem?_toArray→js,forIn_cons→DT,length_take→bD,length_append→cL,getElem?_map→dg,length_drop→dZ,map_cons→eJ,length_map→fR,mem_map→cA,getElem?_append_right→eh,mem_append→dx,mem_of_mem_drop→jX,mem_of_mem_take→iZ,mem_singleton→aR,mem_map_of_mem→pj,all_eq_true→cm,mem_append_right→i6,getElem?_take→eT,drop_zero→fH,getElem_mem→dt
open Nat renaming le_of_ble_eq_true→bz,mul_le_mul_right→cV,add_mul→df,le_trans→dU,one_mul→fG,lt_of_lt_of_le→jU,lt_or_ge→eu,eq_of_beq_eq_true→an,beq→ae,ble→aF,ne_of_beq_eq_false→fQ,ble_eq_true_of_le→fe,le_refl→ba,zero_le→dy,zero_add→ew,min_eq_left→ju
open Option renaming map_eq_some_iff→bZ,isSome_iff_exists→fu
open Array renaming getElem?_eq_some_iff→ef
open Int renaming ofNat→cq,natCast_nonneg→bO,le_refl→ft,mul_le_mul_of_nonneg_left→NS,ediv_nonneg→Ad,le_trans→pb,toNat_natCast→ei
open Bool renaming false_eq_true→kG,and_eq_true→ay,or_eq_true→bW
open Go renaming Value→aa,TypeId→ag,World→aj,Program→aw,IntKind→bu,MapEntry→bQ,Operand→fh
namespace Go.Proofs.YtinknfobdleeeaaGreat
set_option maxRecDepth 100000
open Option renaming some→O,none→G
open Bool renaming true→I,false→Z
section
open RowKit
structure eG(ν:Nm)(T:Tr AV)(N:Nat)(tmps:Array aa):Prop where
 size:tmps.size=N
 jb:∀i v,T.get i=O v->∃V,den ν v=O V/\tmps[i]? =O V
theorem eG.mono{ν a:Nm}{T:Tr AV}{N:Nat}{tmps:Array aa}(h:eG ν T N tmps)(b:Nm.le ν a):eG a T N tmps:=
 ⟨h.size,λi v c=>by
  have⟨V,e,d⟩:=h.jb i v c
  exact⟨V,cY b v V e,d⟩⟩
theorem eG.put{ν:Nm}{T:Tr AV}{N:Nat}{tmps:Array aa}(h:eG ν T N tmps){d:Nat}{v:AV}{V:aa}(f:d<N)(b:den ν v=O V):eG ν (T.put d (O v)) N (tmps.setIfInBounds d V):=
 ⟨by simp[h.size],λi u a=>by
  rw[Tr.bJ]at a
  split at a
  ·rename_i e
   subst e
   simp at a
   subst a
   exact⟨V,b,by simp[h.size,f]⟩
  ·rename_i c
   have⟨U,j,g⟩:=h.jb i u a
   grind⟩
theorem eG.qd{ν:Nm}{T:Tr AV}{N:Nat}{a:Act}(h:eG ν T N a.tmps){d:Option Nat}{v:AV}{V:aa}(c:KM N d=I)(b:den ν v=O V):eG ν (qd T d v) N (a.put d V).tmps:=by cases d with|none=>exact h|some d=>exact h.put (bz c) b
theorem eG.evA{ν:Nm}{T:Tr AV}{N:Nat}{a:Act}(h:eG ν T N a.tmps){x:fh}{v:AV}(b:evA T x=O v):den ν v=O (a.eval x):=by cases x with|tmp t=>have⟨V,e,d⟩:=h.jb t v b;rw[e];simp[Act.eval,d]|const c=>exact WM b|func f=>simp only[YtinknfobdleeeaaGreat.evA,aG]at b;subst b;rfl|global g=>simp only[YtinknfobdleeeaaGreat.evA,aG]at b;subst b;rfl
def oD(ν:Nm)(e:AV×AV×Nat)(m:bQ):Prop:=den ν e.1=O m.key/\den ν e.2.1=O m.val/\e.2.2=m.born
def ajC(ν:Nm):Option Nat->Option Nat->Prop|G,r=>r=G|O i,r=>∃g,ν i=O g/\r=O g
def gK(size:Nat)(d:ah):Prop:=(∀j,(dQ d j).isSome↔j<size)/\(size=1->dQ d 0=O d)
inductive cU(P:aw)(z:Nat->Option Obj):ag->aa->ah->Prop where
 |bool {t:ag} {b:Bool}:P.underlying t=O .bool->cU P z t (.bool b) (.n (if b then 1 else 0))
 |int {t:ag} {k:bu} {n:Int}:P.underlying t=O (.int k)->cU P z t (.int k n) (.n n)
 |str {t:ag} {l:List UInt8}:P.underlying t=O .string->cU P z t (.string ⟨l.toArray⟩) (.s l)
 |nil {t e:ag}:P.underlying t=O (.slice e)->cU P z t (.slice G 0 0) (.r e (.slice G 0 0) [])
 |empty {t e:ag} {a:Addr} {cap:Nat}:P.underlying t=O (.slice e)->cU P z t (.slice (O a) 0 cap) (.r e (.slice (O a) 0 cap) [])
 |row {t e tb:ag} {g off cap size:Nat} {arr:Array aa} {fz:Nat×Nat} {ts:List ag} {xs:List ah}:P.underlying t=O (.slice e)->dG P 8 e=O ts->(P.info? e).map (·.size)=O size->ts.length=size->
  z g=O (.cells arr tb fz)->off+xs.length*size<=arr.size->xs.length<=cap->
  (∀(i:Nat)(d:ah),xs[i]? =O d->gK size d)->
  (∀(i j:Nat)(d c:ah)(tc:ag)(v:aa),xs[i]? =O d->dQ d j=O c->ts[j]? =O tc->arr[off+i*size+j]? =O v->cU P z tc v c)->
  cU P z t (.slice (O ⟨g,off,G⟩) xs.length cap) (.r e (.slice (O ⟨g,off,G⟩) xs.length cap) xs)
theorem cU.mono{P:aw}{z a:Nat->Option Obj}(c:∀g o,z g=O o->a g=O o){t:ag}{v:aa}{d:ah}(h:cU P z t v d):cU P a t v d:=by induction h with|bool h=>exact .bool h|int h=>exact .int h|str h=>exact .str h|nil h=>exact .nil h|empty h=>exact .empty h|row n m l k j i f e _ b=>exact .row n m l k (c _ _ j) i f e b
def S5(P:aw)(z:Nat->Option Obj)(e:ag)(v:aa)(xs:List ah):Prop:=∃(g off cap size:Nat)(arr:Array aa)(fz:Nat×Nat)(ts:List ag)(tb:ag),v=.slice (O ⟨g,off,G⟩) xs.length cap/\dG P 8 e=O ts/\(P.info? e).map (·.size)=O size/\ts.length=size/\z g=O (.cells arr tb fz)/\off+xs.length*size<=arr.size/\xs.length<=cap/\(∀(i:Nat)(d:ah),xs[i]? =O d->gK size d)/\(∀(i j:Nat)(d c:ah)(tc:ag)(v:aa),xs[i]? =O d->dQ d j=O c->ts[j]? =O tc->arr[off+i*size+j]? =O v->cU P z tc v c)
theorem S5.mono{P:aw}{z k:Nat->Option Obj}(l:∀g o,z g=O o->k g=O o){e:ag}{v:aa}{xs:List ah}(h:S5 P z e v xs):S5 P k e v xs:=by have⟨g,off,cap,size,arr,fz,ts,n,y,x,w,u,t,s,r,q,p⟩:=h;exact⟨g,off,cap,size,arr,fz,ts,n,y,x,w,u,l _ _ t,s,r,q,λi j d c m v a b e f=>(p i j d c m v a b e f).mono l⟩
theorem S5.deep{P:aw}{z:Nat->Option Obj}{t e:ag}{v:aa}{xs:List ah}(h:S5 P z e v xs)(a:P.underlying t=O (.slice e)):cU P z t v (.r e v xs):=by obtain⟨g,off,cap,size,arr,fz,ts,m,rfl,l,k,j,i,f,d,c,b⟩:=h;exact .row a l k j i f d c b
mutual
def ch(P:aw)(z:Nat->Option Obj):ah->Prop|.r e v xs=>((v=.slice G 0 0∨∃a cap,v=.slice (O a) 0 cap)/\xs=[])∨S5 P z e v xs|.l xs=>nB P z xs|_=>True
def nB(P:aw)(z:Nat->Option Obj):List ah->Prop|[]=>True|d::l=>ch P z d/\nB P z l
end
theorem acj{P:aw}{z:Nat->Option Obj}:∀{l:List ah},nB P z l↔∀x∈l,ch P z x|[]=>⟨(λ_ x a=>(dv a).elim),λ_=>by simp[nB]⟩|d::l=>by simp[nB,acj]
mutual
theorem ch.mono{P:aw}{z z':Nat->Option Obj}(hz:∀g o,z g=O o->z' g=O o):∀{d:ah},ch P z d->ch P z' d|.n _,_=>by simp[ch]|.s _,_=>by simp[ch]|.v _,_=>by simp[ch]|.r e v xs,h=>(by simp[ch]at h⊢;rcases h with h|h;exact .inl h;exact .inr (h.mono hz))|.l xs,h=>by exact nB.mono hz h
theorem nB.mono{P:aw}{z z':Nat->Option Obj}(hz:∀g o,z g=O o->z' g=O o):∀{l:List ah},nB P z l->nB P z' l|[],_=>by simp[nB]|d::l,h=>by exact⟨ch.mono hz h.1,nB.mono hz h.2⟩
end
theorem qZ{P:aw}{z:Nat->Option Obj}{n:Int}:ch P z (.n n):=by simp[ch]
theorem NN{P:aw}{z:Nat->Option Obj}{l:List UInt8}:ch P z (.s l):=by simp[ch]
theorem kE{P:aw}{z:Nat->Option Obj}{e:ag}{v:aa}{xs:List ah}:ch P z (.r e v xs)↔(((v=.slice G 0 0∨∃a cap,v=.slice (O a) 0 cap)/\xs=[])∨S5 P z e v xs):=by rfl
theorem ff{P:aw}{z:Nat->Option Obj}{xs:List ah}:ch P z (.l xs)↔∀x∈xs,ch P z x:=by simp[ch,acj]
theorem cU.ok{P:aw}{z:Nat->Option Obj}{t:ag}{v:aa}{d:ah}(h:cU P z t v d):ch P z d:=by cases h with|bool h=>exact qZ|int h=>exact qZ|str h=>exact NN|nil h=>grind[kE]|empty h=>grind[kE]|row k j i g f e c b a=>exact kE.2 (.inr ⟨_,_,_,_,_,_,_,_,rfl,j,i,g,f,e,c,b,a⟩)
def bM:ah->Option Nat|.s l=>O l.length|.l l=>O l.length|.r _ _ l=>O l.length|_=>G
def bT(P:aw)(z:Nat->Option Obj)(e:ag)(d:ah)(L:List aa):Prop:=match d with|.s l=>P.underlying e=O (.int .u8)/\(P.info? e).map (·.size)=O 1/\L=l.map λb=>.int .u8 b.toNat|.l xs=>P.underlying e≠O (.int .u8)/\∃ts size,dG P 8 e=O ts/\(P.info? e).map (·.size)=O size/\ts.length=size/\L.length=xs.length*size/\(∀(i:Nat)(d:ah),xs[i]? =O d->gK size d)/\∀(i j:Nat)(d c:ah)(tc:ag)(v:aa),xs[i]? =O d->dQ d j=O c->ts[j]? =O tc->L[i*size+j]? =O v->cU P z tc v c|_=>False
theorem bT.mono{P:aw}{z f:Nat->Option Obj}(l:∀g o,z g=O o->f g=O o){e:ag}{d:ah}{L:List aa}(h:bT P z e d L):bT P f e d L:=by (cases d<;>simp only[bT]at h⊢<;>try exact h);have⟨t,ts,size,s,r,q,p,n,m⟩:=h;exact⟨t,ts,size,s,r,q,p,n,λi j d c k v a b c' d'=>(m i j d c k v a b c' d').mono l⟩
def fA(P:aw)(z:Nat->Option Obj)(t:ag)(d:ah)(V:aa):Prop:=∃ts L,dG P 8 t=O ts/\L.length=ts.length/\((fD P t=O I/\V=.agg L.toArray)∨(fD P t=O Z/\L=[V]/\V.oneCell'=I))/\gK ts.length d/\∀(j:Nat)(c:ah)(tc:ag)(v:aa),dQ d j=O c->ts[j]? =O tc->L[j]? =O v->cU P z tc v c
theorem fA.mono{P:aw}{z f:Nat->Option Obj}(k:∀g o,z g=O o->f g=O o){t:ag}{d:ah}{V:aa}(h:fA P z t d V):fA P f t d V:=by have⟨ts,L,q,p,n,m,l⟩:=h;exact⟨ts,L,q,p,n,m,λj c i v a b e=>(l j c i v a b e).mono k⟩
def MP(P:aw)(z:Nat->Option Obj)(kt vt:ag)(d:ah)(m:bQ):Prop:=∃k v,d=.l [k,v]/\fA P z kt k m.key/\fA P z vt v m.val
theorem MP.mono{P:aw}{z a:Nat->Option Obj}(e:∀g o,z g=O o->a g=O o){c b:ag}{d:ah}{m:bQ}(h:MP P z c b d m):MP P a c b d m:=by have⟨k,v,j,i,f⟩:=h;exact⟨k,v,j,i.mono e,f.mono e⟩
structure oN(P:aw)(z:Nat->Option Obj)(kt vt:ag)(xs:List ah)(ms:List bQ)(clock:Nat):Prop where
 all:∃ys,ys.Perm xs/\cJ (MP P z kt vt) ys ms
 keys:(xs.map qQ).Nodup
 born:∀m∈ms,m.born<clock
 once:(ms.map (·.born)).Nodup
theorem oN.mono{P:aw}{z a:Nat->Option Obj}(e:∀g o,z g=O o->a g=O o){d b:ag}{xs:List ah}{c:List bQ}{clock:Nat}(h:oN P z d b xs c clock):oN P a d b xs c clock:=⟨let⟨ys,j,i⟩:=h.all;⟨ys,j,cJ.imp (λ_ _ f=>f.mono e) i⟩,h.keys,h.born,h.once⟩
def bN(P:aw)(ν:Nm):bF->Obj->Prop|.cells l t c,.cells arr t' fz=>t'=t/\MO fz arr.size/\∃L R,bw ν l=O L/\arr.toList=L++R/\(match c with|G=>R=[]/\fz=(0,0)|O c=>∃cap i,ν c=O cap/\P.info? t=O i/\arr.size=cap*i.size)|.map es clock,.map arr akb=>akb=clock/\cJ (oD ν) es arr.toList|.iter m since seen qX,.mapIter m' akc alP acM=>ajC ν m m'/\akc=since/\alP.toList=seen/\acM=qX|.loop st aeU T N ps d key,.loop r=>r.state=st/\r.pending=aeU/\eG ν T N r.tmps/\r.params.toList=ps/\(∃f qs,oG P key.1 key.2=O (.rangeFunc f qs r.assign r.body))/\ν d=O r.defers|.oR,.deferred d=>d=O []|.row t e c,.cells arr t' fz=>t'=e/\MO fz arr.size/\∃d L R,ai ν t=O d/\bT P ν.z e d L/\arr.toList=L++R/\(match c with|G=>R=[]|O c=>∃cap i,ν c=O cap/\P.info? e=O i/\arr.size=cap*i.size)|.dmap kt vt t p,.map arr clock=>∃xs,ai ν t=O (.l xs)/\oN P ν.z kt vt xs arr.toList clock/\(gk P kt=I)/\(match p with|G=>True|O (k,a)=>∃kd b m,ai ν k=O kd/\ν.x (bm+a)=O (.n b)/\m∈arr.toList/\fA P ν.z kt kd m.key/\(m.born:Int)=b)|.g_ kt vt t c B S last,.map arr clock=>∃xs zs bs ys,ai ν t=O (.l xs)/\oN P ν.z kt vt xs arr.toList clock/\(gk P kt=I)/\ai ν c=O (.n (cq clock))/\ai ν B=O (.l (bs.map λb:Nat=>.n (cq b)))/\ai ν S=O (.l ys)/\zs.Perm xs/\cJ (MP P ν.z kt vt) zs arr.toList/\bs.Nodup/\cJ (λy b=>∃(i:Nat)(m:bQ),zs[i]? =O y/\arr.toList[i]? =O m/\m.born=b) ys bs/\(match last with|G=>True|O (b,k,v)=>∃m,ai ν b=O (.n (cq m.born))/\m∈arr.toList/\den ν k=O m.key/\den ν v=O m.val)|.jk m c B,.mapIter m' since seen qX=>∃g,ν m=O g/\m'=O g/\ai ν c=O (.n (cq since))/\qX=since/\ai ν B=O (.l (seen.toList.map λb:Nat=>.n (cq b)))|.lh t e c it cs,.cells arr t' fz=>t'=e/\MO fz arr.size/\∃xs L R k vs,ai ν t=O (.l xs)/\bT P ν.z e (.l xs) L/\ai ν it=O (.n (cq k))/\k<xs.length/\bw ν cs=O vs/\di P e=O vs.length/\arr.toList=bx L (k*vs.length) vs++R/\(match c with|G=>R=[]|O c=>∃cap i,ν c=O cap/\P.info? e=O i/\arr.size=cap*i.size)|_,_=>False
def iU(P:aw)(ν:Nm):bF->Prop|.row t e c=>∃d,ai ν t=O d/\bT P ν.z e d []/\bM d=O 0/\∃c' m,c=O c'/\ν c'=O m|_=>False
def x6:bF->Bool|.row ..=>Z|_=>I
theorem iU.mono{P:aw}{ν b:Nm}(a:Nm.le ν b){o:bF}(h:iU P ν o):iU P b o:=by (cases o<;>simp only[iU]at h⊢<;>try exact h);obtain⟨d,g,f,e,c',m,rfl,c⟩:=h;exact⟨d,aX a _ d g,f.mono a.z,e,c',m,rfl,a _ _ c⟩
theorem bN.mono{P:aw}{ν C:Nm}(f:Nm.le ν C){o:bF}{obj:Obj}(h:bN P ν o obj):bN P C o obj:=by (cases o<;>cases obj<;>simp only[bN]at h⊢<;>try exact h);(case cells.cells l t c arr M fz=>have⟨n,j,L,R,r,q,s⟩:=h;refine⟨n,j,L,R,fo f l L r,q,?_⟩;cases c with|none=>exact s|some c=>have⟨cap,i,u,w,v⟩:=s;exact⟨cap,i,f _ _ u,w,v⟩);(case row.cells t e c arr M fz=>have⟨n,j,d,L,R,r,q,s,u⟩:=h;refine⟨n,j,d,L,R,aX f t d r,q.mono f.z,s,?_⟩;cases c with|none=>exact u|some c=>have⟨cap,i,w,v,H⟩:=u;exact⟨cap,i,f _ _ w,v,H⟩);(case dmap.map T Oz t p arr clock=>have⟨xs,n,j,r,q⟩:=h;refine⟨xs,aX f t _ n,j.mono f.z,r,?_⟩;cases p with|none=>trivial|some p=>have⟨kd,b,m,Y,X,W,V,U⟩:=q;exact⟨kd,b,m,aX f _ _ Y,f.x _ _ X,W,V.mono f.z,U⟩);(case g_.map T Oz t c B S last arr clock=>have⟨xs,N,bs,ys,n,j,r,q,s,u,w,v,H,A,y⟩:=h;refine⟨xs,N,bs,ys,aX f t _ n,j.mono f.z,r,aX f _ _ q,aX f _ _ s,aX f _ _ u,w,cJ.imp (λ_ _ Zz=>Zz.mono f.z) v,H,A,?_⟩;grind[aX,cY]);(case jk.mapIter m c B Q F seen D=>have⟨g,n,j,r,q,s⟩:=h;exact⟨g,f _ _ n,j,aX f _ _ r,q,aX f _ _ s⟩);(case lh.cells t e c it cs arr M fz=>have⟨n,j,xs,L,R,k,vs,r,q,s,u,w,v,A,y⟩:=h;refine⟨n,j,xs,L,R,k,vs,aX f t _ r,q.mono f.z,aX f _ _ s,u,fo f cs vs w,v,A,?_⟩;cases c with|none=>exact y|some c=>have⟨cap,i,K,J,Iz⟩:=y;exact⟨cap,i,f _ _ K,J,Iz⟩);(case map.map es clock arr E=>exact⟨h.1,cJ.imp (λe m Gz=>⟨cY f _ _ Gz.1,cY f _ _ Gz.2.1,Gz.2.2⟩) h.2⟩);(case iter.mapIter m a b c Q a' b' c'=>refine⟨?_,h.2⟩;cases m with|none=>exact h.1|some i=>have⟨g,n,j⟩:=h.1;exact⟨g,f _ _ n,j⟩);case loop.loop=>exact⟨h.1,h.2.1,h.2.2.1.mono f,h.2.2.2.1,h.2.2.2.2.1,f _ _ h.2.2.2.2.2⟩
def nC(ν:Nm)(gl:List (Nat×List AV))(w:aj):Prop:=∀g l,(g,l)∈gl->∀i v,l[i]? =O v->∃V,den ν v=O V/\w.cell? ⟨g,i,G⟩=O V
def bh(ν:Nm)(t:Tm)(b:Bool):Prop:=∃n,ai ν t=O (.n n)/\decide (n≠0)=b
structure zS(ν:Nm)(x:Ctx)(w0:aj):Prop where
 gl:nC ν x.gl w0
 pc:∀t b,(t,b)∈x.pc->bh ν t b
theorem zS.mono{ν a:Nm}{x:Ctx}{w0:aj}(h:zS ν x w0)(c:Nm.le ν a):zS a x w0:=
 ⟨λg l k i v f=>by
  have⟨V,e,d⟩:=h.gl g l k i v f
  exact⟨V,cY c v V e,d⟩,λt b j=>by
  have⟨n,e,d⟩:=h.pc t b j
  exact⟨n,aX c t _ e,d⟩⟩
structure en where
 h:Tr bF
 ν:Nm
 w:aj
structure aL(P:aw)(w0:aj)(A:en)(ν:Nm)(s:St)(w:aj):Prop where
 pos:0<w0.heap.size
 dz:rF [] w0 w
 top:∀i,s.n<=i->ν i=G
 fX:∀i o,s.h.get i=O o->∃g,ν i=O g/\((g=0/\iU P ν o)∨∃obj,w0.heap.size<=g/\w.heap[g]? =O obj/\bN P ν o obj)
 inj:∀i j o o',s.h.get i=O o->s.h.get j=O o'->ν i≠O 0->ν i=ν j->i=j
 ext:Nm.le A.ν ν
 xb:∀i o,A.h.get i=O o->∃g,A.ν i=O g
 same:∀i o,A.h.get i=O o->i∉s.log->(∃o,s.h.get i=O o)/\∀g,A.ν i=O g->w.heap[g]? =A.w.heap[g]?
 sT:∀g,g<A.w.heap.size->(∀i o,A.h.get i=O o->g≠0->A.ν i≠O g)->w.heap[g]? =A.w.heap[g]?
 nv:A.w.heap.size<=w.heap.size
 own:∀i o,s.h.get i=O o->∀g,ν i=O g->g≠0->A.w.heap.size<=g∨∃j o,A.h.get j=O o/\A.ν j=O g
 ctx:zS ν s.x w0
 mu:∀g o,ν.z g=O o->w.heap[g]? =O o/\∀i ob,s.h.get i=O ob->g≠0->ν i≠O g
 lq:∀g o,ν.z g=O o->g≠0->A.ν.z g=O o∨A.w.heap.size<=g∨∃j o,A.h.get j=O o/\A.ν j=O g
 nU:∀i d,ν.x i=O d->ch P ν.z d
 kR:∀i,s.n<=i->ν.x (bm+i)=G
 kS:∀i,s.n<=i->ν.q i=G
structure Dd(w:aj)(g:Nat)(obj:Obj)(w':aj):Prop where
 os:w'.os=w.os
 tape:w'.tape=w.tape
 output:w'.output=w.output
 size:w'.heap.size=w.heap.size
 here:w'.heap[g]? =O obj
 rest:∀k,k≠g->w'.heap[k]? =w.heap[k]?
def Nm.set(ν:Nm)(k v:Nat):Nm:=⟨λi=>if i=k then O v else ν i,ν.x,ν.u,ν.z,ν.q⟩
theorem Nm.fP{ν:Nm}{k:Nat}(h:ν k=G)(v:Nat):Nm.le ν (ν.set k v):=⟨λi g a=>by grind[Nm.set],λ_ _ h=>h,rfl,λ_ _=>rfl,λ_ _ h=>h,λ_ _ h=>h⟩
theorem Nm.cx(ν:Nm)(k v:Nat):(ν.set k v) k=O v:=by simp[Nm.set]
section
variable{P:aw}{w0 w w':aj}{A:en}{ν:Nm}{s:St}
theorem aL.X4(h:aL P w0 A ν s w):0<w.heap.size:=jU h.pos h.dz.size
theorem aL.real(h:aL P w0 A ν s w){i:Nat}{o:bF}(c:s.h.get i=O o)(b:x6 o=I:=by rfl):∃g obj,ν i=O g/\w0.heap.size<=g/\w.heap[g]? =O obj/\bN P ν o obj:=by obtain⟨g,f,⟨_,a⟩|⟨obj,a,e,d⟩⟩:=h.fX i o c;cases o<;>simp only[iU]at a;cases b;simp_all
theorem aL.Cx(h:aL P w0 A ν s w){i g:Nat}{o:bF}(a:s.h.get i=O o)(b:ν i=O g)(e:g≠0):∃obj,w0.heap.size<=g/\w.heap[g]? =O obj/\bN P ν o obj:=by have⟨f,c,d⟩:=h.fX i o a;rw[b]at c;simp_all
theorem aL.nz(h:aL P w0 A ν s w){i g:Nat}{o:bF}(c:s.h.get i=O o)(d:ν i=O g)(b:x6 o=I:=by rfl):g≠0:=by have⟨f,obj,a,e,_⟩:=h.real c b;rw[d]at a;simp at a;have:=h.pos;omega
theorem aL.Ey(h:aL P w0 A ν s w){i:Nat}{o:bF}(c:s.h.get i=O o)(d:ν i=O 0):iU P ν o:=by obtain⟨e,a,⟨_,b⟩|⟨obj,b,_⟩⟩:=h.fX i o c;exact b;rw[d]at a;simp at a;have:=h.pos;omega
theorem aL.lt(h:aL P w0 A ν s w){i g:Nat}{o:bF}(b:s.h.get i=O o)(c:ν i=O g):g<w.heap.size:=by by_cases a:g=0;subst a;exact h.X4;have⟨obj,_,d,_⟩:=h.Cx b c a;grind
theorem aL.VH(h:aL P w0 A ν s w){i g:Nat}{o:bF}(a:s.h.get i=O o)(b:ν i=O g)(c:g≠0):∃obj,w.heap[g]? =O obj/\bN P ν o obj:=by have⟨obj,_,e,d⟩:=h.Cx a b c;simp_all
theorem aL.at_(h:aL P w0 A ν s w){i g:Nat}{o:bF}(a:s.h.get i=O o)(b:ν i=O g)(c:x6 o=I:=by rfl):∃obj,w.heap[g]? =O obj/\bN P ν o obj:=h.VH a b (h.nz a b c)
theorem aL.named(h:aL P w0 A ν s w){k:Nat}(b:ν k=G)(o:bF):s.h.get k≠O o:=λe=>by have⟨g,a,_⟩:=h.fX k o e;rw[b]at a;cases a
theorem aL.drew(h:aL P w0 A ν s w):aL P w0 A ν s w.drew:=⟨h.pos,h.dz.trans (rF.drew _ _),h.top,h.fX,h.inj,h.ext,h.xb,h.same,h.sT,h.nv,h.own,h.ctx,h.mu,h.lq,h.nU,h.kR,h.kS⟩
theorem aL.write(h:aL P w0 A ν s w){i g:Nat}{o0 o:bF}{obj:Obj}(B:s.h.get i=O o0)(r:ν i=O g)(Oz:bN P ν o obj)(f:Dd w g obj w'){lg:List Nat}(M:∀x∈s.log,x∈lg)(Gz:∀o,A.h.get i=O o->i∈lg)(Iz:g≠0):aL P w0 A ν ⟨s.h.put i (O o),s.n,lg,s.x⟩ w':=by (have H:w0.heap.size<=g:=by have⟨obj,p,_⟩:=h.Cx B r Iz;exact p);(have J:ν i≠O 0:=by rw[r];simp_all);(have old:∀j d,(s.h.put i (O o)).get j=O d->j≠i->s.h.get j=O d:=λj d c l=>by rw[Tr.bJ,if_neg l]at c;exact c);(have alive:∀j d,(s.h.put i (O o)).get j=O d->∃E,s.h.get j=O E:=λj d c=>by grind);refine⟨h.pos,⟨f.os.trans h.dz.os,f.tape.trans h.dz.tape,f.output.trans h.dz.output,by rw[f.size];exact h.dz.size,λk m u=> ?_⟩,h.top,λj d c=> ?_,λj k K D c m S e=> ?_,h.ext,h.xb,λj d c u=> ?_,λk m u=> ?_,by rw[f.size];exact h.nv,λj d c v q=> ?_,h.ctx,λk ob m=>⟨(f.rest k λe=>(h.mu k ob m).2 i o0 B (e▸Iz) (by rw[r,e])).trans (h.mu k ob m).1,λj d c=> ?_⟩,h.lq,h.nU,h.kR,h.kS⟩;rw[f.rest k (by omega)];exact h.dz.block k m u;by_cases e:j=i;subst e;rw[Tr.bJ,if_pos rfl]at c;simp at c;subst c;exact⟨g,r,.inr ⟨obj,H,f.here,Oz⟩⟩;have z:=old j d c e;have⟨v,t,p⟩:=h.fX j d z;rcases p with p|⟨y,p,R,Q⟩;simp_all;refine⟨v,t,.inr ⟨y,p,?_,Q⟩⟩;rw[f.rest v λT=>e (h.inj i j o0 d B z J (by rw[t,r,T])).symm];exact R;have⟨a,C⟩:=alive j K c;have⟨b,N⟩:=alive k D m;exact h.inj j k a b C N S e;have F:j∉s.log:=λL=>u (M j L);have⟨⟨D,t⟩,p⟩:=h.same j d c F;have l:j≠i:=λe=>u (by subst e;exact Gz _ c);refine⟨⟨D,by rw[Tr.bJ,if_neg l];exact t⟩,λv q=> ?_⟩;rw[f.rest v λe=>l (h.inj i j o0 D B t J (by rw[h.ext _ _ q,r,e])).symm];grind;rw[f.rest k ?_];exact h.sT k m u;rintro rfl;rcases h.own i o0 B k r Iz with t|⟨j,d,t,p⟩;omega;simp_all;have⟨a,C⟩:=alive j d c;exact h.own j a C v q;have⟨a,C⟩:=alive j d c;exact(h.mu k ob m).2 j a C
theorem aL.alloc(h:aL P w0 A ν s w){k n':Nat}{o:bF}{obj:Obj}(H:ν k=G)(E:s.n<=n')(K:k<n')(L:bN P (ν.set k w.heap.size) o obj):aL P w0 A (ν.set k w.heap.size) ⟨s.h.put k (O o),n',s.log,s.x⟩ (w.alloc obj):=by have l:=Nm.fP H w.heap.size;(have old:∀j f,(s.h.put k (O o)).get j=O f->j≠k->s.h.get j=O f:=λj f c t=>by rw[Tr.bJ,if_neg t]at c;exact c);have t:∀j f,s.h.get j=O f->j≠k:=λj f c e=>h.named H f (e▸c);(have a:∀j,j≠k->(ν.set k w.heap.size) j=ν j:=λj c=>by simp[Nm.set,c]);have b:∀g,g<w.heap.size->(w.alloc obj).heap[g]? =w.heap[g]?:=λg d=>Below.heap_alloc _ _ _ d;have wp:=h.X4;refine⟨h.pos,h.dz.trans (rF.alloc _ _ _),λi q=> ?_,λj f c=> ?_,λi j B r q c J e=> ?_,h.ext.trans l,h.xb,λj f c D=> ?_,λg d Iz=> ?_,by simp;have:=h.nv;omega,λj f c g d N=> ?_,h.ctx.mono l,λg ob d=> ?_,h.lq,h.nU,λi q=>h.kR i (dU E q),λi q=>h.kS i (dU E q)⟩;(have:i≠k:=by grind);rw[a i this];exact h.top i (dU E q);by_cases e:j=k;subst e;rw[Tr.bJ,if_pos rfl]at c;simp at c;subst c;exact⟨w.heap.size,Nm.cx _ _ _,.inr ⟨obj,h.dz.size,World.alloc_heap_new _ _,L⟩⟩;have m:=old j f c e;obtain⟨y,p,⟨v,Gz⟩|⟨u,v,Gz,M⟩⟩:=h.fX j f m;exact⟨y,l _ _ p,.inl ⟨v,Gz.mono l⟩⟩;exact⟨y,l _ _ p,.inr ⟨u,v,(b y (h.lt m p)).trans Gz,M.mono l⟩⟩;by_cases z:i=k<;>by_cases C:j=k;rw[z,C];exfalso;have m:=old j r c C;have⟨y,p,_⟩:=h.fX j r m;simp_all[Nm.cx];exfalso;have F:=old i B q z;have⟨y,p,_⟩:=h.fX i B F;simp_all[Nm.cx];rw[a i z,a j C]at e;rw[a i z]at J;exact h.inj i j B r (old i B q z) (old j r c C) J e;have⟨⟨r,p⟩,v⟩:=h.same j f c D;refine⟨⟨r,by rw[Tr.bJ,if_neg (t j r p)];exact p⟩,λg d=> ?_⟩;rw[b g (h.lt p (h.ext _ _ d))];exact v g d;rw[b g (jU d h.nv)];exact h.sT g d Iz;by_cases e:j=k;subst e;rw[Nm.cx]at d;simp at d;subst d;exact .inl h.nv;rw[a j e]at d;exact h.own j f (old j f c e) g d N;have Iz:=h.mu g ob d;grind[Nm.cx]
theorem aL.name(h:aL P w0 A ν s w){k n':Nat}(y:ν k=G)(u:s.n<=n')(D:k<n')(v:Nat):aL P w0 A (ν.set k v) ⟨s.h,n',s.log,s.x⟩ w:=by have c:=Nm.fP y v;(have a:∀j,j≠k->(ν.set k v) j=ν j:=λj b=>by simp[Nm.set,b]);have f:∀j d,s.h.get j=O d->j≠k:=λj d b e=>h.named y d (e▸b);refine⟨h.pos,h.dz,λi l=> ?_,λj d b=> ?_,λi j p t l b C e=> ?_,h.ext.trans c,h.xb,h.same,h.sT,h.nv,λj d b g o=> ?_,h.ctx.mono c,λg ob o=>⟨(h.mu g ob o).1,λj d b=> ?_⟩,h.lq,h.nU,λi l=>h.kR i (dU u l),λi l=>h.kS i (dU u l)⟩;simp only at l;rw[a i (by omega)];exact h.top i (by omega);obtain⟨B,z,⟨r,q⟩|⟨m,r,q,E⟩⟩:=h.fX j d b;exact⟨B,c _ _ z,.inl ⟨r,q.mono c⟩⟩;exact⟨B,c _ _ z,.inr ⟨m,r,q,E.mono c⟩⟩;rw[a i (f i p l),a j (f j t b)]at e;rw[a i (f i p l)]at C;exact h.inj i j p t l b C e;rw[a j (f j d b)]at o;exact h.own j d b g o;rw[a j (f j d b)];exact(h.mu g ob o).2 j d b
theorem aL.amC(h:aL P w0 A ν s w):ν.z w.heap.size=G:=by cases a:ν.z w.heap.size with|none=>rfl|some ob=>cases (Nat.lt_irrefl _) (ef.1 (h.mu _ ob a).1).1
theorem aL.zT(h:aL P w0 A ν s w){i g:Nat}{o:bF}(b:s.h.get i=O o)(c:ν i=O g)(d:g≠0):ν.z g=G:=by cases a:ν.z g with|none=>rfl|some ob=>cases ((h.mu g ob a).2 i o b d) c
theorem aL.kill(h:aL P w0 A ν s w)(i:Nat):aL P w0 A ν (cw s i) w:=by (have old:∀j c,(s.h.put i G).get j=O c->j≠i/\s.h.get j=O c:=λj c d=>by rw[Tr.bJ]at d;split at d;cases d;exact⟨‹_›,d⟩);refine⟨h.pos,h.dz,h.top,λj c d=>h.fX j c (old j c d).2,λa b f e n m=>h.inj a b f e (old a f n).2 (old b e m).2,h.ext,h.xb,λj c d k=> ?_,h.sT,h.nv,λj c d=>h.own j c (old j c d).2,h.ctx,λg ob l=>⟨(h.mu g ob l).1,λj c d=>(h.mu g ob l).2 j c (old j c d).2⟩,h.lq,h.nU,h.kR,h.kS⟩;simp[cw]at k;have⟨⟨e,p⟩,o⟩:=h.same j c d k.2;simp_all[cw,Tr.bJ]
theorem aL.La(h:aL P w0 A ν s w){k n' g:Nat}{o:bF}{obj:Obj}(H:ν k=G)(u:s.n<=n')(K:k<n')(M:w.heap[g]? =O obj)(Oz:w0.heap.size<=g)(J:∀i o,s.h.get i=O o->ν i≠O g)(B:ν.z g=G)(Q:g≠0)(Gz:A.w.heap.size<=g∨∃j o,A.h.get j=O o/\A.ν j=O g)(N:bN P (ν.set k g) o obj):aL P w0 A (ν.set k g) ⟨s.h.put k (O o),n',s.log,s.x⟩ w:=by have f:=Nm.fP H g;(have a:∀j,j≠k->(ν.set k g) j=ν j:=λj d=>by simp[Nm.set,d]);(have old:∀j c,(s.h.put k (O o)).get j=O c->j≠k->s.h.get j=O c:=λj c d r=>by rw[Tr.bJ,if_neg r]at d;exact d);have r:∀j c,s.h.get j=O c->j≠k:=λj c d e=>h.named H c (e▸d);refine⟨h.pos,h.dz,λi l=> ?_,λj c d=> ?_,λi j F y l d Iz e=> ?_,h.ext.trans f,h.xb,λj c d u=> ?_,h.sT,h.nv,λj c d m b E=> ?_,h.ctx.mono f,λm ob b=>⟨(h.mu m ob b).1,λj c d=> ?_⟩,h.lq,h.nU,λi l=>h.kR i (dU u l),λi l=>h.kS i (dU u l)⟩;simp only at l;rw[a i (by omega)];exact h.top i (by omega);by_cases e:j=k;subst e;rw[Tr.bJ,if_pos rfl]at d;grind[Nm.cx];obtain⟨m,D,⟨v,C⟩|⟨q,v,C,L⟩⟩:=h.fX j c (old j c d e);exact⟨m,f _ _ D,.inl ⟨v,C.mono f⟩⟩;exact⟨m,f _ _ D,.inr ⟨q,v,C,L.mono f⟩⟩;by_cases p:i=k<;>by_cases t:j=k;rw[p,t];rw[p,Nm.cx,a j t]at e;grind;rw[t,Nm.cx,a i p]at e;simp_all;rw[a i p,a j t]at e;rw[a i p]at Iz;exact h.inj i j F y (old i F l p) (old j y d t) Iz e;have⟨⟨y,D⟩,v⟩:=h.same j c d u;simp_all[Tr.bJ];by_cases e:j=k;simp_all[Nm.cx];rw[a j e]at b;exact h.own j c (old j c d e) m b E;by_cases e:j=k;subst e;rw[Nm.cx];intro _ e;injection e with e;subst e;have b:ν.z g=O ob:=b;rw[B]at b;cases b;rw[a j e];exact(h.mu m ob b).2 j c (old j c d e)
theorem aL.Sv(h:aL P w0 A ν s w){i g:Nat}{l:List AV}{t:ag}{c:Option Nat}(j:s.h.get i=O (.cells l t c))(k:ν i=O g):∃L R,bw ν l=O L/\nq w g t (L++R).toArray/\(match c with|G=>R=[]/\w.heap[g]? =O (.cells (L++R).toArray t (0,0))|O c=>∃cap i,ν c=O cap/\P.info? t=O i/\(L++R).length=cap*i.size):=by have⟨obj,f,d⟩:=h.at_ j k;(cases obj<;>simp only[bN]at d<;>try exact d.elim);rename_i arr n fz;obtain⟨rfl,a,L,R,m,b,e⟩:=d;refine⟨L,R,m,?_,?_⟩;exact⟨fz,by rw[f,<-b],by rw[<-b];exact a⟩;cases c with|none=>exact⟨e.1,by rw[f,<-b,e.2]⟩|some c=>grind
theorem CE{g:Nat}{t:ag}{fz:Nat×Nat}:∀(vs:List aa)(w:aj)(off:Nat){arr:Array aa},w.heap[g]? =O (.cells arr t fz)->∃uK,(putCells w g off vs).heap[g]? =O (.cells uK t fz)|[],_,_,arr,h=>⟨arr,h⟩|v::vs,w,off,arr,h=>CE vs _ (off+1) (arr:=arr.setIfInBounds off v) (by simp[World.setCell,Array.getElem?_modify,h])
theorem Dd.put{w:aj}{g:Nat}{t:ag}{b:List aa}(f:g<w.heap.size)(off:Nat)(vs:List aa)(c:nq (putCells w g off vs) g t b.toArray):∃fz,MO fz b.toArray.size/\Dd w g (.cells b.toArray t fz) (putCells w g off vs)/\∀e d a,w.heap[g]? =O (.cells e d a)->fz=a:=by have⟨m,l,j,i⟩:=og (g:=g) vs w off;have⟨fz,c,k⟩:=c;refine⟨fz,k,⟨l,j,i,m,c,λk h=>jK h vs w off⟩,λe d a n=> ?_⟩;have⟨a1,o⟩:=CE vs w off n;rw[o]at c;simp_all
theorem Dd.obj{w:aj}{g:Nat}(obj:Obj)(a:g<w.heap.size):Dd w g obj (w.putObj g obj):=⟨rfl,rfl,rfl,by simp,World.putObj_heap_same a,λk b=>World.putObj_heap_other b⟩
end
theorem DS{P:aw}{z:Nat->Option Obj}{e:ag}{v:aa}{xs:List ah}{i j:Nat}{d c:ah}(h:ch P z (.r e v xs))(b:xs[i]? =O d)(o:dQ d j=O c):ch P z c:=by rw[kE]at h;obtain⟨_,rfl⟩|⟨g,off,cap,size,arr,fz,ts,q,B,A,y,x,w,u,t,n,m⟩:=h;simp at b;by_cases l:j<size;have k:i<xs.length:=(cj.1 b).1;have f:ts[j]? =O (ts[j]'(by omega)):=aZ _;have s:(i+1)*size<=xs.length*size:=cV _ k;(have p:(i+1)*size=i*size+size:=by rw[df,fG]);(have a:off+i*size+j<arr.size:=by omega);exact(m i j d c _ _ b o f (Array.getElem?_eq_getElem a)).ok;exact absurd (((n i d b).1 j).1 (by rw[o];rfl)) l
theorem eL{g:ah->Option ah}{ds:List ah}{d:ah}(h:eI g ds=O d):∃a,ds=[a]/\g a=O d:=by unfold eI at h;grind
theorem bC{g:ah->ah->Option ah}{ds:List ah}{d:ah}(h:cn g ds=O d):∃a b,ds=[a,b]/\g a b=O d:=by unfold cn at h;grind
theorem cZ{g:ah->ah->ah->Option ah}{ds:List ah}{d:ah}(h:bt g ds=O d):∃a b c,ds=[a,b,c]/\g a b c=O d:=by unfold bt at h;grind
theorem BE{a d:ah}(h:jo a=O d):∃n:Nat,d=.n n:=by unfold jo at h;split at h<;>first|grind|grind
theorem wH{a b d:ah}(h:mq a b=O d):(∃x y,a=.s x/\b=.s y/\d=.s (x++y))∨∃x y,a=.l x/\b=.l y/\d=.l (x++y):=by unfold mq at h;split at h;grind;grind;cases h
theorem FH{a b d:ah}(h:eqF a b=O d):∃x y,a=.s x/\b=.s y/\d=jC (x==y):=by unfold eqF at h;grind
theorem ep{g:Int->Int->ah}{a b d:ah}(h:rD g a b=O d):∃x y,a=.n x/\b=.n y/\d=g x y:=by unfold rD at h;grind
theorem Gv{a i j d:ah}(h:xv a i j=O d):∃(x:List UInt8)(m n:Int),a=.s x/\i=.n m/\j=.n n/\0<=m/\m<=n/\n<=x.length/\d=.s ((x.drop m.toNat).take (n.toNat - m.toNat)):=by unfold xv at h;split at h;split at h;split at h;simp_all;cases h;cases h;cases h
theorem T_{a i j d:ah}(h:PD a i j=O d):∃(e:ag)(v:aa)(xs:List ah)(m n:Int)(x:ah),a=.r e v xs/\i=.n m/\j=.n n/\0<=m/\0<=n/\xs[m.toNat]? =O x/\dQ x n.toNat=O d:=by unfold PD at h;grind
theorem yg{a i d:ah}(h:ER a i=O d):∃(x:List UInt8)(m:Int)(b:UInt8),a=.s x/\i=.n m/\0<=m/\x[m.toNat]? =O b/\d=.n b.toNat:=by unfold ER at h;grind
theorem BF{a d:ah}(h:O4 a=O d):∃m,a=.n m/\d=jC (m==0):=by unfold O4 at h;grind
theorem CF{a d:ah}(h:M_ a=O d):∃m:Int,a=.n m/\d=.r m.toNat (.slice G 0 0) []:=by unfold M_ at h;grind
theorem Lk{a d:ah}(h:aeV a=O d):∃e v xs,a=.r e v xs/\d=.l xs:=by unfold aeV at h;grind
theorem Ll{t k d:ah}(h:Dm t k=O d):∃xs,t=.l xs/\db xs=I/\d=.n (if(gy k xs).isSome then 1 else 0):=by unfold Dm at h;split at h;split at h;simp at h;exact⟨_,rfl,‹_›,h.symm⟩;cases h;cases h
theorem wI{t k z d:ah}(h:sV t k z=O d):∃xs,t=.l xs/\db xs=I/\d=(gy k xs).getD z:=by unfold sV at h;grind
theorem BG{t k v d:ah}(h:uI t k v=O d):∃xs,t=.l xs/\db xs=I/\d=.l (gf k v (e_ k xs)):=by unfold uI at h;grind
theorem BH{t k d:ah}(h:Kr t k=O d):∃xs,t=.l xs/\db xs=I/\d=.l (e_ k xs):=by unfold Kr at h;grind
theorem wJ{a j d:ah}(h:zF a j=O d):∃m:Int,j=.n m/\0<=m/\fO a m.toNat=O d:=by unfold zF at h;grind
theorem Ua{d k v:ah}(h:jD d=O (k,v)):d=.l [k,v]:=by unfold jD at h;grind
theorem NO{k v:ah}:∀{xs:List ah},gy k xs=O v->∃a,.l [a,v]∈xs|[],h=>by cases h|d::xs,h=>by simp[gy]at h;split at h;rename_i a f c;split at h;simp at h;subst h;exact⟨a,by rw[Ua c];simp_all⟩;have⟨b,e⟩:=NO h;grind;have⟨b,e⟩:=NO h;grind
theorem vo{k x:ah}:∀{xs:List ah},x∈e_ k xs->x∈xs|[],h=>h|d::xs,h=>by simp[e_]at h;split at h;split at h;exact aS _ (vo h);rcases aO.1 h with rfl|h;simp_all;exact aS _ (vo h);rcases aO.1 h with rfl|h;simp_all;exact aS _ (vo h)
theorem FI{k v x:ah}:∀{xs:List ah},x∈gf k v xs->x=.l [strip k,v]∨x∈xs|[],h=>by simp_all[gf]|d::xs,h=>by simp[gf]at h;split at h;split at h;simp_all;rcases aO.1 h with rfl|h;simp_all;exact(FI h).imp id (aS _);rcases aO.1 h with rfl|h;simp_all;exact(FI h).imp id (aS _)
mutual
theorem Ar{P:aw}{z:Nat->Option Obj}:∀d:ah,ch P z (strip d)|.n _=>by simp[strip,ch]|.s _=>by simp[strip,ch]|.v _=>by simp[strip,ch]|.l xs=>by exact BI xs|.r _ _ xs=>by exact BI xs
theorem BI{P:aw}{z:Nat->Option Obj}:∀l:List ah,nB P z (j_ l)|[]=>by simp[j_,nB]|d::l=>by exact⟨Ar d,BI l⟩
end
theorem akd{P:aw}{z:Nat->Option Obj}{k d:ah}{xs:List ah}(h:∀x∈xs,ch P z x)(a:ch P z d):ch P z ((gy k xs).getD d):=by cases b:gy k xs with|none=>exact a|some v=>grind[NO,ff]
theorem afV{P:aw}{z:Nat->Option Obj}{k v:ah}{xs:List ah}(h:∀x∈xs,ch P z x)(b:ch P z v):∀x∈gf k v (e_ k xs),ch P z x:=λx a=>by rcases FI a with rfl|a;grind[ff,Ar];exact h x (vo a)
theorem P5{P:aw}{z:Nat->Option Obj}{d c:ah}{j:Nat}(h:ch P z d)(a:fO d j=O c):ch P z c:=by unfold fO at a;grind[ff]
theorem Yf{P:aw}{z:Nat->Option Obj}{e:ag}{v:aa}{xs:List ah}(h:ch P z (.r e v xs)):∀x∈xs,ch P z x:=λx b=>by have⟨i,a⟩:=jV.1 b;cases x with|l ds=>refine ff.2 λc f=> ?_;have⟨j,d⟩:=jV.1 f;exact DS h a d|n _=>exact qZ|s _=>exact NN|v _=>exact DS h a (j:=0) rfl|r _ _ _=>exact DS h a (j:=0) rfl
theorem kg{a i j d:ah}(h:lX a i j=O d):∃(xs:List ah)(m n:Int)(x:ah),a=.l xs/\i=.n m/\j=.n n/\0<=m/\0<=n/\xs[m.toNat]? =O x/\fO x n.toNat=O d:=by unfold lX at h;grind
theorem nI{a i d:ah}(h:xw a i=O d):∃(xs:List ah)(m:Int),a=.l xs/\i=.n m/\0<=m/\xs[m.toNat]? =O d:=by unfold xw at h;grind
theorem BJ{d d':ah}{off:Nat}{cs:List ah}(h:uq d off cs=O d'):∃ds,d=.l ds/\off+cs.length<=ds.length/\d'=.l (ds.take off++cs++ds.drop (off+cs.length)):=by unfold uq at h;split at h;simp_all;cases h
theorem wK{ds:List ah}{d:ah}(h:om ds=O d):∃(xs cs:List ah)(i off:Int)(x x':ah),ds=.l xs::.n i::.n off::cs/\0<=i/\0<=off/\xs[i.toNat]? =O x/\uq x off.toNat cs=O x'/\d=.l (xs.set i.toNat x'):=by unfold om at h;grind
theorem pO{t i x d:ah}(h:Bg t i x=O d):∃(xs:List ah)(m:Int),t=.l xs/\i=.n m/\0<=m/\m<xs.length/\d=.l (xs.set m.toNat x):=by unfold Bg at h;grind
theorem lV{t n d:ah}(h:qU t n=O d):∃(xs:List ah)(m:Int),t=.l xs/\n=.n m/\0<=m/\m<=xs.length/\d=.l (xs.take m.toNat):=by unfold qU at h;grind
theorem sG{t i j d:ah}(h:r_ t i j=O d):∃(xs:List ah)(m n:Int),t=.l xs/\i=.n m/\j=.n n/\0<=m/\m<=n/\n<=xs.length/\d=.l ((xs.drop m.toNat).take (n.toNat - m.toNat)):=by unfold r_ at h;split at h;split at h;split at h;simp_all;cases h;cases h;cases h
theorem kh{t i z d:ah}(h:qV t i z=O d):∃(xs:List ah)(m:Int),t=.l xs/\i=.n m/\0<=m/\m<=xs.length/\d=.l (xs.take m.toNat++fF (xs.length - m.toNat) z):=by unfold qV at h;split at h;split at h;simp_all;cases h;cases h
theorem pP{n z d:ah}(h:Ep n z=O d):∃m:Int,n=.n m/\0<=m/\d=.l (fF m.toNat z):=by unfold Ep at h;grind
theorem pQ{t i u d:ah}(h:Ks t i u=O d):∃(xs ys:List ah)(m:Int),t=.l xs/\i=.n m/\u=.l ys/\0<=m/\m<=xs.length/\d=.l (xs.take m.toNat++ys.take (xs.length - m.toNat)++xs.drop (m.toNat+ys.length)):=by unfold Ks at h;split at h;split at h;split at h;simp_all;cases h;cases h;cases h
theorem Gw{a c d:ah}(h:Cv a c=O d):strip a=c/\d=a:=by grind[Cv,eD]
theorem Gx{ds:List ah}{d:ah}(h:PF ds=O d):∃(i:Int)(l:List ah),ds=.n i::l/\0<=i/\l[i.toNat]? =O d:=by unfold PF at h;grind
theorem Gy{a d:ah}(h:PE a=O d):∃e A n c xs,a=.r e (.slice A n c) xs/\d=jC (n==c):=by unfold PE at h;grind
theorem u6{P:aw}{z:Nat->Option Obj}{b:Bool}:ch P z (jC b):=by exact qZ
theorem rf{t d:ah}(h:xX t=O d):∃xs,t=.l xs/\d=.l (iS (eA xs)):=by unfold xX at h;grind
theorem Uc{a b d:ah}(h:Cr a b=O d):∃c,d=jC c:=by unfold Cr at h;grind
theorem Ue{a b d:ah}(h:Ct a b=O d):∃c,d=jC c:=by unfold Ct at h;grind
theorem nJ:∀{xs:List ah}{y:ah},y∈eA xs->∃a b z,y=.l [a,b,.n z]/\.l [.l [a,b],.n z]∈xs/\0<z|[],_,h=>by cases h|x::xs,y,h=>by unfold eA at h;split at h;rename_i a b z;split at h;rename_i j;rcases aO.1 h with rfl|h;grind;have⟨i,g,c,f,e,d⟩:=nJ h;grind;have⟨i,g,c,f,e,d⟩:=nJ h;grind;have⟨i,g,c,f,e,d⟩:=nJ h;grind
theorem Lm(x:ah):∀l:List ah,(rE x l).Perm (x::l)|[]=>List.Perm.refl _|y::l=>by unfold rE;split;rfl;exact((Lm x l).cons y).trans (List.Perm.swap ..)
theorem ki:∀l:List ah,(iS l).Perm l|[]=>List.Perm.refl _|x::l=>(Lm x (iS l)).trans ((ki l).cons x)
theorem yh{xs:List ah}{y:ah}(h:y∈iS (eA xs)):∃a b z,y=.l [a,b,.n z]/\.l [.l [a,b],.n z]∈xs/\0<z:=nJ ((ki _).mem_iff.1 h)
theorem Uf{a b d:ah}(h:Cu a b=O d):∃c,d=jC c:=by unfold Cu at h;grind
theorem Rn{a b d:ah}(h:uY a b=O d):∃c,d=jC c:=by unfold uY at h;grind
theorem Ro{a b c d:ah}(h:uZ a b c=O d):∃c,d=jC c:=by unfold uZ at h;grind
theorem CG{g:ah->ah}{a d:ah}(h:oH g a=O d):∃c,d=jC c:=by unfold oH at h;grind
theorem yi{t d:ah}(h:V7 t=O d):∃xs,t=.l xs/\d=.l (iS (xs.map strip)):=by unfold V7 at h;grind[dR]
theorem Rq(xs:List ah):(iS (xs.map strip)).map strip=iS (xs.map strip):=by (have:∀y∈iS (xs.map strip),strip y=y:=λy a=>by grind[ki,dP]);exact(kF this).trans (List.map_id _)
theorem wL(l:List ah):(iS l).length=l.length:=(ki l).length_eq
theorem acN{P:aw}{z:Nat->Option Obj}{o:Nat}{ds:List ah}{d:ah}(h:dD o ds=O d)(hd:∀x∈ds,ch P z x):ch P z d:=by unfold dD at h;split at h;obtain⟨a,rfl,h⟩:=eL h;obtain⟨n,rfl⟩:=BE h;trivial;grind[cZ,T_,DS];grind[bC,wH,NN,ff,aU];rw[bZ]at h;obtain⟨x,_,rfl⟩:=h;trivial;obtain⟨a,b,rfl,h⟩:=bC h;obtain⟨x,y,_,_,rfl⟩:=FH h;trivial;obtain⟨a,b,rfl,h⟩:=bC h;obtain⟨x,y,_,_,rfl⟩:=ep h;trivial;obtain⟨a,b,rfl,h⟩:=bC h;obtain⟨x,y,_,_,rfl⟩:=ep h;trivial;obtain⟨a,b,rfl,h⟩:=bC h;obtain⟨x,y,_,_,rfl⟩:=ep h;trivial;obtain⟨a,b,c,rfl,h⟩:=cZ h;obtain⟨x,m,n,rfl,rfl,rfl,_,_,_,rfl⟩:=Gv h;trivial;obtain⟨a,b,rfl,h⟩:=bC h;obtain⟨x,m,n,rfl,rfl,_,_,rfl⟩:=yg h;trivial;obtain⟨a,rfl,h⟩:=eL h;obtain⟨n,_,rfl⟩:=BF h;trivial;grind[ff];obtain⟨a,b,rfl,h⟩:=bC h;obtain⟨x,y,_,_,rfl⟩:=ep h;trivial;grind[ff];obtain⟨a,rfl,h⟩:=eL h;obtain⟨n,_,rfl⟩:=CF h;exact .inl ⟨.inl rfl,rfl⟩;grind[eL,Lk,ff,Yf];grind[bC,Ll,qZ];grind[cZ,wI,akd,ff,aU];grind[cZ,BG,ff,afV,aU];grind[bC,BH,ff,aU,vo];grind[bC,wJ,P5,aU];obtain⟨a,b,rfl,h⟩:=bC h;injection h with h;subst h;trivial;obtain⟨a,b,rfl,h⟩:=bC h;obtain⟨_,rfl⟩:=Gw h;simp_all;grind[eL,Ar];obtain⟨xs,cs,i,off,x,x',rfl,_,_,hx,hx',rfl⟩:=wK h;obtain⟨es,rfl,_,rfl⟩:=BJ hx';have hl:=ff.1 (hd _ (aU ..));refine ff.2 λy hy=> ?_;rcases mO hy with hy|rfl;exact hl y hy;have he:=ff.1 (hl _ (bE hx));grind[ff];grind[bC,lV,ff,aU];grind[cZ,sG,ff,aU];grind[cZ,kh,ff,aU];grind[bC,pP,ff];grind[cZ,pQ,ff,aU];obtain⟨a,b,c,rfl,h⟩:=cZ h;obtain⟨xs,m,n,x,rfl,rfl,rfl,_,_,hx,hc⟩:=kg h;exact P5 (ff.1 (hd _ (aU ..)) x (bE hx)) hc;grind[bC,ep];grind[bC,ep];grind[Gx];grind[bC,nI,ff,aU];grind[cZ,pO,ff,aU];grind[eL,Gy,u6];grind[eL,rf,ff,yh,aU];grind[bC,Uc,u6];grind[bC,Ue,u6];grind[bC,Uf,u6];grind[eL,yi,ff,ki,Ar];grind[bC,Rn,u6];grind[eL,CG,u6];grind[cZ,Ro,u6];grind[eL,CG,u6];cases h
section
variable{P:aw}{z:Nat->Option Obj}
theorem afW{o:Nat}{ds:List ah}{d:ah}(h:uJ o ds=O d)(c:∀x∈ds,ch P z x):ch P z d:=by unfold uJ at h;rcases eu o 1000 with a|a;grind[FF,afU,acN];have⟨n,b⟩:=DR (R:=aI defs) a ds;rw[b]at h;grind[qZ]
end
mutual
theorem mP{P:aw}{ν:Nm}(hν:∀i d,ν.x i=O d->ch P ν.z d):∀{t:Tm}{d:ah},ai ν t=O d->ch P ν.z d|.c n,d,h=>by simp[ai]at h;subst h;trivial|.x i,d,h=>hν i d h|.bin o k a b,d,h=>by simp[ai]at h;split at h;unfold gH at h;split at h;simp at h;subst h;trivial;simp at h;subst h;trivial;cases h;cases h|.conv k a,d,h=>by simp[ai]at h;split at h;simp at h;subst h;trivial;cases h|.f o l,d,h=>by simp[ai]at h;split at h;rename_i ds kQ;split at h;split at h;simp at h;subst h;trivial;cases h;exact afW h (P6 hν kQ);cases h
theorem P6{P:aw}{ν:Nm}(hν:∀i d,ν.x i=O d->ch P ν.z d):∀{l:List Tm}{ds:List ah},bA ν l=O ds->∀x∈ds,ch P ν.z x|[],ds,h=>by simp_all[bA]|t::l,ds,h=>by simp[bA]at h;split at h;rename_i d qP h1 h2;simp at h;subst h;intro x hx;rcases aO.1 hx with rfl|hx;exact mP hν h1;exact P6 hν h2 x hx;cases h
end
end
section
open RowKit
variable{v:AV}{op:BinOp}{t:ag}
theorem iM(a b:Int):gj a b=(a==b):=by cases a<;>cases b<;>simp only[gj];(·rename_i m n;cases h:ae m n with|true=>rw[an h];simp|false=>have:=fQ h;symm;simp only[beq_eq_false_iff_ne,ne_eq];intro e;injection e with e;exact this e);(·rfl);(·rfl);·rename_i m n;cases h:ae m n with|true=>rw[an h];simp|false=>have:=fQ h;symm;simp only[beq_eq_false_iff_ne,ne_eq];intro e;simp at e;exact this e
theorem eV{a b:bu}(h:fy a b=I):a=b:=by cases a<;>cases b<;>first|rfl|cases h
theorem gi:∀(a b:List UInt8),iW a b=(a==b)|[],[]=>rfl|[],_::_=>rfl|_::_,[]=>rfl|a::x,b::y=>by simp only[iW];rw[List.cons_beq_cons];cases h:ae a.toNat b.toNat with|true=>have:a=b:=UInt8.toNat_inj.1 (an h);subst this;simp[gi x y]|false=>have:a≠b:=λe=>fQ h (by rw[e]);(have c:(a==b)=Z:=by simpa using this);simp[c]
theorem AO:∀(a b:List UInt8),qY a b=Op.bytesLess a b|_,[]=>by unfold qY Op.bytesLess;rfl|[],_::_=>rfl|a::x,b::y=>by simp[qY,Op.bytesLess];cases h:aF (a.toNat+1) b.toNat with|true=>have:a<b:=UInt8.lt_iff_toNat_lt.2 (bz h);simp[this]|false=>(have g:¬a.toNat+1<=b.toNat:=λd=>by rw[fe d]at h;cases h);have:¬a<b:=λc=>g (UInt8.lt_iff_toNat_lt.1 c);cases f:ae a.toNat b.toNat with|true=>have e:a=b:=UInt8.toNat_inj.1 (an f);subst e;simp[AO x y]|false=>have e:a≠b:=λe=>fQ f (by rw[e]);simp[this,e]
theorem Yg(l:List UInt8):(ByteArray.mk l.toArray).toList=l:=by rw[ByteArray.toList_eq]
theorem Yh(l m:List UInt8):(ByteArray.mk l.toArray)++(ByteArray.mk m.toArray)=ByteArray.mk (l++m).toArray:=by apply ByteArray.ext;simp
section
variable{P:aw}{ν:Nm}{w:aj}
theorem Ln{b:Bool}(h:fD P t=O b):(isAgg t).run P w=.ok b w:=by unfold fD at h;show(Sem.bind _ _).run P w=_;rw[run_bind];cases a:P.underlying t with|none=>rw[a]at h;cases h|some d=>rw[run_underlying a];rw[a]at h;cases d<;>simp only[aG]at h<;>subst h<;>rfl
theorem ee{n:Nat}(h:di P t=O n):∃i,P.info? t=O i/\i.size=n:=by unfold di at h;cases a:P.info? t with|none=>rw[a]at h;cases h|some i=>rw[a]at h;simp at h;exact⟨i,rfl,h⟩
theorem d_{n:Nat}(h:di P t=O n):(sizeOf t).run P w=.ok n w:=by obtain⟨i,a,rfl⟩:=ee h;exact run_sizeOf a
theorem yj{b:Bool}(h:fD P t=O b):∃d,P.underlying t=O d/\(b=I->(∃a,d=.struct a)∨∃n e,d=.array n e)/\(b=Z->(∀a,d≠.struct a)/\∀n e,d≠.array n e):=by unfold fD at h;cases c:P.underlying t with|none=>rw[c]at h;cases h|some d=>rw[c]at h;refine⟨d,rfl,?_,?_⟩<;>cases d<;>simp_all
theorem jE{cs:List AV}{CS:List aa}{off:Nat}(c:bw ν cs=O CS)(h:ir P t cs off=O v):∃V,den ν v=O V/\(part t CS.toArray off).run P w=.ok V w:=by unfold ir at h;split at h;rename_i a;split at h;rename_i n f;rw[bZ]at h;obtain⟨r,e,rfl⟩:=h;have⟨b,d⟩:=sq c e;refine⟨.agg ((CS.drop off).take n).toArray,by simp[den,b],?_⟩;show(Sem.bind _ _).run P w=_;rw[run_bind,Ln a];show(Sem.bind _ _).run P w=_;rw[run_bind,d_ f];simp[List.extract_eq_take_drop];cases h;rename_i a;have⟨V,b,d⟩:=Aq c h;refine⟨V,d,?_⟩;show(Sem.bind _ _).run P w=_;rw[run_bind,Ln a];simp only[kG,if_false,js,b];rfl;cases h
theorem GA{l:List AV}{L R:List aa}{off:Nat}(k:bw ν l=O L)(h:ir P t l off=O v):∃V,den ν v=O V/\oJ P t (L++R) off=O V:=by unfold ir at h;split at h;rename_i j;split at h;rename_i n p;rw[bZ]at h;obtain⟨r,o,rfl⟩:=h;have⟨c,b⟩:=sq k o;obtain⟨i,q,rfl⟩:=ee p;have⟨d,f,g,_⟩:=yj j;(have e:((L++R).drop off).take i.size=(L.drop off).take i.size:=by rcases Nat.eq_zero_or_pos i.size with m|m;simp[m];(have:off+i.size<=L.length:=by simp at b;omega);rw[List.drop_append_of_le_length (by omega),ie (by simp;omega)]);refine⟨.agg ((L.drop off).take i.size).toArray,by simp[den,c],?_⟩;unfold oJ;rw[f];rcases g rfl with⟨s,rfl⟩|⟨n,u,rfl⟩<;>simp only[q,e,b,if_true];cases h;(rename_i j;have⟨V,c,b⟩:=Aq k h;have⟨d,f,_,a⟩:=yj j;refine⟨V,b,?_⟩;unfold oJ;rw[f];have:(L++R)[off]? =O V:=dw (cj.1 c).1▸c;cases d<;>first|exact this|(exact absurd rfl ((a rfl).1 _))|(cases ((a rfl).2 _ _) rfl));cases h
theorem GB(h:ud P t=O v):∃i z,P.info? t=O i/\i.zero=O z/\den ν v=O z:=by unfold ud at h;cases b:P.info? t with|none=>rw[b]at h;cases h|some i=>rw[b]at h;simp only at h;cases a:i.zero with|none=>rw[a]at h;cases h|some z=>rw[a]at h;exact⟨i,z,rfl,a,WM h⟩
theorem BK(h:ud P t=O v):∃z,den ν v=O z/\(zeroValue t).run P w=.ok z w:=by have⟨i,z,b,a,c⟩:=GB (ν:=ν) h;refine⟨z,c,?_⟩;show(Sem.bind _ _).run P w=_;rw[run_bind,vk b];simp only[a];rfl
theorem Ug{k:bu}{x y:Int}(h:dX op k x y=O v)(ty:ag):∃V,den ν v=O V/\(binOp op ty (.int k x) (.int k y)).run P w=.ok V w:=by cases op<;>simp only[dX]at h<;>(try(cases h;done));(case quo=>split at h;cases h;rename_i a;rw[iM]at a;simp at h;subst h;refine⟨_,rfl,?_⟩;simp only[binOp,ne_eq,not_true,if_false,Op.intDiv];rw[if_neg (by simpa using a)];rfl);(case rem=>split at h;cases h;rename_i a;rw[iM]at a;simp at h;subst h;refine⟨_,rfl,?_⟩;simp only[binOp,ne_eq,not_true,if_false,Op.intDiv];rw[if_neg (by simpa using a)];rfl);all_goals (injection h with h;subst h;refine⟨_,rfl,?_⟩;simp only[binOp,ne_eq,not_true,if_false,Op.intArith,Op.intBits,Op.intCmp,iM];rfl)
theorem Lo{k c:bu}{x y:Int}(h:MY op k x y=O v)(b:op=.shl∨op=.shr)(ty:ag):∃V,den ν v=O V/\(binOp op ty (.int k x) (.int c y)).run P w=.ok V w:=by unfold MY at h;split at h;cases h;rename_i a;(have a:¬y<0:=by simpa using a);rcases b with rfl|rfl<;>simp only[aG]at h<;>subst h<;>refine⟨_,rfl,?_⟩<;>simp only[binOp,Op.shift,if_neg a]<;>rfl
theorem Uh{x y:List UInt8}(h:DE op x y=O v)(ty:ag):∃V,den ν v=O V/\(binOp op ty (.string ⟨x.toArray⟩) (.string ⟨y.toArray⟩)).run P w=.ok V w:=by cases op<;>simp only[DE]at h<;>(try(cases h;done));(case add=>split at h;cases h;rename_i a;(have a:¬((x.length+y.length:Nat))>IntKind.i64.max:=by simpa using a);simp at h;subst h;refine⟨_,rfl,?_⟩;have e:((ByteArray.mk x.toArray).size+(ByteArray.mk y.toArray).size:Nat)=x.length+y.length:=rfl;simp only[binOp,Op.stringOp,e,if_neg a,Yh];rfl);all_goals (injection h with h;subst h;refine⟨_,rfl,?_⟩;simp only[binOp,Op.stringOp,Yg,gi,AO];rfl)
theorem oM {D:Nat} {E:ag->AV->AV->Option Bool} (d:∀t x y b X Y,E t x y=O b->den ν x=O X->den ν y=O Y->(Op.equalIn D t X Y).run P w= .ok b w) {xs ys:List AV} {XS YS:List aa} (g:bw ν xs=O XS) (e:bw ν ys=O YS):∀(c:List Field) {b:Bool},jH P E xs ys c=O b->(forIn c ((G:Option Bool),()) λf __s=>if f.name≠"_" then(part f.type XS.toArray f.offset).bind λx=>(part f.type YS.toArray f.offset).bind λy=>(Op.equalIn D f.type x y).bind λb=>if(!b)=I then(pure (ForInStep.done (O Z,())):Sem _)else pure (ForInStep.yield (G,()))else pure (ForInStep.yield (G,()))).run P w= .ok (if b then(G,())else(O Z,())) w|[],b,h=>by simp only[jH,aG]at h;subst h;rfl|f::c,b,h=>by unfold jH at h;rw[DT];show(Sem.bind _ _).run P w=_;rw[run_bind];split at h;rename_i a;(have a:¬(f.name≠"_"):=by simpa using a);rw[if_neg a];exact oM d g e c h;rename_i a;(have a:f.name≠"_":=by simpa using a);rw[if_pos a];split at h;rename_i x y o n;have⟨X,k,m⟩:=jE (P:=P) (w:=w) g o;have⟨Y,j,l⟩:=jE (P:=P) (w:=w) e n;rw[run_bind,m];simp only;rw[run_bind,l];simp only;split at h;rename_i i;rw[run_bind,d _ _ _ _ _ _ i k j];exact oM d g e c h;rename_i i;rw[run_bind,d _ _ _ _ _ _ i k j];injection h with h;subst h;rfl;cases h;cases h
theorem vQ{D:Nat}{e:ag}{size:Nat}{E:AV->AV->Option Bool}(c:∀x y b X Y,E x y=O b->den ν x=O X->den ν y=O Y->(Op.equalIn D e X Y).run P w=.ok b w){xs ys:List AV}{XS YS:List aa}(f:bw ν xs=O XS)(d:bw ν ys=O YS):∀(n i:Nat){b:Bool},mX P E e size xs ys n i=O b->(forIn (bX i n) ((G:Option Bool),()) λi __s=>(part e XS.toArray (i*size)).bind λx=>(part e YS.toArray (i*size)).bind λy=>(Op.equalIn D e x y).bind λb=>if(!b)=I then(pure (ForInStep.done (O Z,())):Sem _)else pure (ForInStep.yield (G,()))).run P w=.ok (if b then(G,())else(O Z,())) w|0,i,b,h=>by simp only[mX,aG]at h;subst h;rfl|n+1,i,b,h=>by unfold mX at h;rw[List.range'_succ,DT];show(Sem.bind _ _).run P w=_;rw[run_bind];split at h;rename_i x y o m;have⟨X,j,l⟩:=jE (P:=P) (w:=w) f o;have⟨Y,g,k⟩:=jE (P:=P) (w:=w) d m;rw[run_bind,l];simp only;rw[run_bind,k];simp only;split at h;rename_i a;rw[run_bind,c _ _ _ _ _ a j g];exact vQ c f d n _ h;rename_i a;rw[run_bind,c _ _ _ _ _ a j g];injection h with h;subst h;rfl;cases h;cases h
theorem sH:∀(d D:Nat)(t:ag)(x y:AV)(b:Bool)(X Y:aa),d<=D->KL P d t x y=O b->den ν x=O X->den ν y=O Y->(Op.equalIn D t X Y).run P w=.ok b w|0,_,_,_,_,_,_,_,_,h,_,_=>by cases h|d+1,0,_,_,_,_,_,_,z,_,_,_=>by omega|d+1,D+1,t,x,y,b,X,Y,z,h,i,f=>by have r:=λ(t:ag)(x y:AV)(b:Bool)(X Y:aa)=>sH d D t x y b X Y (by omega);(have go:∀{ds:TypeDesc}{s:TypeDesc->Sem Bool},P.underlying t=O ds->(s ds).run P w=.ok b w->(Sem.bind (underlying t) s).run P w=.ok b w:=λj q=>by rw[run_bind,run_underlying j];exact q);unfold KL at h;split at h;rename_i j;split at h;rename_i a c;simp at h;simp[den]at i f;subst i f h;exact go j rfl;cases h;rename_i k j;split at h;rename_i k a A c;split at h;rename_i v;have:=eV v;simp at h;simp[den]at i f;subst i f h this;refine go j ?_;simp only[if_true,iM];rfl;cases h;cases h;rename_i j;split at h;rename_i a c;simp at h;simp[den]at i f;subst i f h;refine go j ?_;(have e:((ByteArray.mk a.toArray)==(ByteArray.mk c.toArray))=(a==c):=by show(a.toArray==c.toArray)=_;simp);simp only[gi,e];rfl;cases h;rename_i p j;split at h;injection h with h;simp[den]at i f;subst i f h;exact go j rfl;injection h with h;obtain⟨g,_,rfl⟩:=jT f;simp[den]at i;subst i h;exact go j rfl;injection h with h;obtain⟨g,_,rfl⟩:=jT i;simp[den]at f;subst f h;exact go j rfl;cases h;rename_i p j;split at h;injection h with h;simp[den]at i f;subst i f h;exact go j rfl;injection h with h;obtain⟨g,n,_,_,_,rfl⟩:=gX f;simp[den]at i;subst i h;exact go j rfl;injection h with h;obtain⟨g,n,_,_,_,rfl⟩:=gX i;simp[den]at f;subst f h;exact go j rfl;cases h;rename_i p j;split at h;injection h with h;simp[den]at i f;subst i f h;exact go j rfl;injection h with h;obtain⟨g,_,rfl⟩:=jr f;simp[den]at i;subst i h;exact go j rfl;injection h with h;obtain⟨g,_,rfl⟩:=jr i;simp[den]at f;subst f h;exact go j rfl;cases h;rename_i j;split at h;injection h with h;simp[den]at i f;subst i f h;exact go j rfl;injection h with h;obtain⟨g,_,_,_,_,_,rfl⟩:=qt f;simp[den]at i;subst i h;exact go j rfl;injection h with h;obtain⟨g,_,_,_,_,_,rfl⟩:=qt i;simp[den]at f;subst f h;exact go j rfl;cases h;rename_i l j;split at h;rename_i xs ys;obtain⟨XS,o,rfl⟩:=gB i;obtain⟨YS,m,rfl⟩:=gB f;split at h;cases h;rename_i q;rw[Op.equalIn];show(Sem.bind _ _).run P w=_;rw[run_bind,run_underlying j];simp only[program,bind,Sem.bind,Sem.run,q];have:=oM (P:=P) (w:=w) (D:=D) (λt x y b X Y=>r t x y b X Y) o m l.toList h;rw[if_neg (by simp),run_bind];rw[<-Array.forIn_toList,this];cases b<;>rfl;cases h;rename_i len p j;split at h;rename_i xs ys;obtain⟨XS,o,rfl⟩:=gB i;obtain⟨YS,m,rfl⟩:=gB f;split at h;rename_i n u;rw[Op.equalIn];show(Sem.bind _ _).run P w=_;rw[run_bind,run_underlying j];simp only[bind];rw[run_bind,d_ u];simp only;have:=vQ (P:=P) (w:=w) (D:=D) (e:=p) (size:=n) (λx y b X Y=>r p x y b X Y) o m len 0 h;rw[run_bind,Std.Legacy.Range.forIn_eq_forIn_range'];simp only[Std.Legacy.Range.size,Nat.sub_zero,Nat.add_sub_cancel,Nat.div_one];rw[this];cases b<;>rfl;cases h;cases h;cases h
end
end
section
open RowKit
variable{v:AV}{c:zj}{C len n:Nat}{hi lo mx:Option AV}{m:Option Nat}{HI LO MX:Option aa}{α:Type}
section
variable{P:aw}{ν:Nm}{w:aj}
theorem iP(h:se v=O n):∃k,v=.int k (.ofNat n):=by (cases v<;>simp only[se]at h<;>try(cases h;done));rename_i k m;cases m with|ofNat m=>simp_all|negSucc m=>grind
theorem run_sliceBound{k:bu}{y:Nat}(h:n<=y)(code:BoundsCode):(Instr.sliceBound (.int k (.ofNat n)) y code).run P w=.ok n w:=by show(Sem.bind _ _).run P w=_;rw[run_bind];show(if(0)<=cq n/\(cq n)<=y then _ else _:Sem Nat).run P w=_;rw[if_pos ⟨bO n,Int.ofNat_le.2 h⟩];rfl
def lu(ν:Nm):Option AV->Option aa->Prop|G,r=>r=G|O v,r=>∃V,den ν v=O V/\r=O V
theorem Ui(h:ag6 n c=I)(a:cX ν c=O C):n<=C:=by cases c with|k m=>simp[cX]at a;subst a;exact bz h|u c m=>cases h
theorem Lp(d:cX ν c=O C)(b:len<=C)(a:ME len c n=I):n<=C:=by simp only[ME,bW]at a;rcases a with a|a;exact dU (bz a) b;exact Ui a d
theorem P7(e:cX ν c=O C)(d:len<=C)(b:lu ν mx MX)(h:XF len c mx=O m)(a:Bool)(f:Nat->Sem α):
 (match MX with
  |O v=>Sem.bind (Instr.sliceBound v C (if a then .slice3Acap else .slice3Alen)) f
  |G=>Sem.bind (pure C) f).run P w=(f (m.getD C)).run P w/\m.getD C<=C/\(MX=G↔m=G):=by
 cases mx with
 |none=>
  simp[lu]at b
  simp[XF]at h
  subst b h
  simp_all[run_bind]
 |some v=>
  obtain⟨V,g,rfl⟩:=b
  grind[XF,den,run_bind,run_sliceBound,iP,Lp]
theorem WN (i:cX ν c=O C) (e:len<=C) (b:lu ν hi HI) (g:m.getD C<=C) (k:MX=G↔m=G) {d:Nat} (h:hiB len c m hi=O d) (a:Bool) (f:Nat->Sem α):
 (match HI,MX with
  |O v,O _=>Sem.bind (Instr.sliceBound v (m.getD C) .slice3B) f
  |O v,G=>Sem.bind (Instr.sliceBound v (m.getD C) (if a then .sliceAcap else .sliceAlen)) f
  |G,G=>Sem.bind (pure len) f
  |G,O _=>Sem.bind (stuck "Slice: max without high") f).run P w=(f d).run P w/\d<=m.getD C:=by
 cases hi with
 |none=>
  subst b
  cases m with
  |some m=>cases h
  |none=>
   simp_all[hiB,run_bind]
 |some v=>
  obtain⟨V,j,rfl⟩:=b
  simp[hiB]at h
  split at h
  ·grind[den,run_bind,run_sliceBound,iP,bz,Lp]
  ·cases h
theorem WO{b:Nat}(a:lu ν lo LO){l:Nat}(h:loB b lo=O l)(code:BoundsCode)(f:Nat->Sem α):
 (match LO with
  |O v=>Sem.bind (Instr.sliceBound v b code) f
  |G=>Sem.bind (pure 0) f).run P w=(f l).run P w/\l<=b:=by
 cases lo with
 |none=>
  simp[lu]at a
  simp[loB]at h
  subst a h
  simp_all[run_bind]
 |some v=>
  obtain⟨V,c,rfl⟩:=a
  grind[loB,den,run_bind,run_sliceBound,iP,bz]
theorem qy(e:cX ν c=O C)(a:len<=C)(i:lu ν lo LO)(g:lu ν hi HI)(f:lu ν mx MX){l h:Nat}(d:mK len c lo hi mx=O (l,h,m))(b:Bool):(Instr.sliceBounds b len C LO HI MX).run P w=.ok (l,h,m.getD C) w/\l<=h/\h<=m.getD C/\m.getD C<=C:=by unfold mK at d;split at d;cases d;rename_i q n;split at d;cases d;rename_i s k;split at d;cases d;rename_i r j;simp at d;obtain⟨rfl,rfl,rfl⟩:=d;have⟨_,a2,a3⟩:=P7 (P:=P) (w:=w) e a f n b (λ_=>(pure ():Sem Unit));have⟨_,p⟩:=WN (P:=P) (w:=w) e a g a2 a3 k b (λ_=>(pure ():Sem Unit));have⟨_,o⟩:=WO (P:=P) (w:=w) i j .sliceB (λ_=>(pure ():Sem Unit));refine⟨?_,o,p,a2⟩;refine((P7 e a f n b _).1).trans ?_;refine((WN e a g a2 a3 k b _).1).trans ?_;exact(WO i j _ _).1
theorem FJ{a b:Nat}(x y:Nat):XG (ae a b) x y=if a=b then x else y:=by cases h:ae a b with|true=>rw[if_pos (an h)];rfl|false=>rw[if_neg (fQ h)];rfl
theorem ack(g off m l n:Nat):(if m=l then(⟨g,off,G⟩:Addr)else(⟨g,off,G⟩:Addr).add (l*n))=⟨g,if m=l then off else off+l*n,G⟩:=by split;rfl;rw[gO]
theorem Yi{t:ag}{x:AV}{X:aa}(p:den ν x=O X)(F:lu ν lo LO)(d:lu ν hi HI)(A:lu ν mx MX)(h:Ti P t x lo hi mx=O v):
 ∃V,den ν v=O V/\(Instr.sliceAt t X LO HI MX).run P w=.ok V w:=by
 unfold Ti at h
 split at h
 ·
  rename_i s b
  simp[den]at p
  subst p
  cases mx with
  |some m=>cases h
  |none=>
   simp only at h
   split at h
   ·rename_i l hh m a
    simp at h
    subst h
    have⟨r,_,_,_⟩:=qy (P:=P) (w:=w) (ν:=ν) (C:=s.length) (c:=.k s.length) rfl (ba _) F d A a Z
    refine⟨.string ((ByteArray.mk s.toArray).extract l hh),?_,?_⟩
    ·simp[den]
     apply ByteArray.ext
     simp_all
    ·subst A
     show(Sem.bind _ _).run P w=_
     rw[run_bind,run_underlying b]
     show(Sem.bind _ _).run P w=_
     rw[run_bind,run_underlying b]
     simp only[Option.isSome_none,kG,if_false]
     show(Sem.bind _ _).run P w=_
     rw[run_bind]
     have e:(ByteArray.mk s.toArray).size=s.length:=rfl
     rw[e,r]
     rfl
   ·cases h
 ·
  rename_i e b
  simp[den]at p
  subst p
  split at h
  ·rename_i q z a j
   have⟨l,hh,m⟩:=q
   simp at h
   subst h
   have⟨r,B,f,o⟩:=qy (P:=P) (w:=w) (ν:=ν) (C:=0) (c:=.k 0) rfl (ba _) F d A a I
   refine⟨.slice G 0 0,rfl,?_⟩
   simp_all[Instr.sliceAt,run_underlying,Instr.slice,d_]
  ·cases h
 ·
  rename_i e i off len c b
  obtain⟨g,C,y,hC,D,rfl⟩:=gX p
  have go:∀{l hh:Nat}{m:Option Nat}{z:Nat},mK len c lo hi mx=O (l,hh,m)->di P e=O z->
   (Instr.sliceAt t (.slice (O ⟨g,off,G⟩) len C) LO HI MX).run P w=.ok (.slice (O ⟨g,if m.getD C=l then off else off+l*z,G⟩) (hh - l) (m.getD C - l)) w/\l<=hh/\hh<=m.getD C/\m.getD C<=C:=λ{l hh m z} a j=>by
   have⟨r,B,f,o⟩:=qy (P:=P) (w:=w) (ν:=ν) hC D F d A a I
   refine⟨?_,B,f,o⟩
   show(Sem.bind _ _).run P w=_
   rw[run_bind,run_underlying b]
   show(Sem.bind _ _).run P w=_
   rw[run_bind,run_underlying b]
   show(Sem.bind _ _).run P w=_
   rw[run_bind,r]
   show(Sem.bind _ _).run P w=_
   rw[run_bind,d_ j]
   show Result.ok _ w=_
   simp only[Option.map_some]
   rw[<-ack]
   split<;>rfl
  split at h
  ·rename_i l hh z a j
   have⟨r,B,f,o⟩:=go a j
   simp at r f
   cases c with
   |k n=>
    simp[cX]at hC
    subst hC
    simp[FJ]at h
    subst h
    refine⟨_,?_,r⟩
    simp only[den,y,cX]
    rw[if_pos (by omega)]
   |u c m=>
    simp[cX]at hC
    split at hC
    ·rename_i n Iz
     split at hC
     ·rename_i H
      simp at hC
      simp only at h
      split at h
      ·rename_i Gz
       have Gz:=an Gz
       subst Gz
       simp at h
       subst h
       simp_all[den,cX]
      ·rename_i Gz E
       have E:=bz E
       simp at h
       subst h
       refine⟨_,?_,r⟩
       simp only[den,y,cX,Iz]
       rw[if_pos (show m+l<=n by omega)]
       grind
      ·split at h
       ·rename_i d
        have d:=an d
        simp at h
        subst h
        refine⟨_,?_,r⟩
        simp[den,y,cX,Iz,if_pos H,hC,d]
        grind
       ·cases h
     ·cases hC
    ·cases hC
  ·rename_i l hh m z a j
   have⟨r,B,f,o⟩:=go a j
   simp at r f o
   simp[FJ]at h
   subst h
   refine⟨_,?_,r⟩
   simp only[den,y,cX]
   rw[if_pos (by omega)]
  ·cases h
 ·
  rename_i n e i off b
  obtain⟨g,y,rfl⟩:=jT p
  split at h
  ·rename_i l hh m z a j
   have⟨r,B,f,o⟩:=qy (P:=P) (w:=w) (ν:=ν) (C:=n) (c:=.k n) rfl (ba _) F d A a Z
   simp[FJ]at h
   subst h
   refine⟨.slice (O ⟨g,if m.getD n=l then off else off+l*z,G⟩) (hh - l) (m.getD n - l),?_,?_⟩
   ·simp only[den,y,cX]
    rw[if_pos (by omega)]
   ·show(Sem.bind _ _).run P w=_
    rw[run_bind,run_underlying b]
    show(Sem.bind _ _).run P w=_
    rw[run_bind]
    show(Sem.bind _ _).run P w=_
    rw[run_bind,r]
    simp_all[d_,ack]
  ·cases h
 ·cases h
def ajD(ν:Nm)(p:Nat×AV)(q:Nat×aa):Prop:=p.1=q.1/\den ν p.2=O q.2
theorem CH(off:Nat):∀(vs:List aa)(k:Nat)(arr:Array aa),((vs.zipIdx k).foldl (λcs p=>cs.setIfInBounds (off+p.2) p.1) arr).toList=bx arr.toList (off+k) vs|[],_,_=>rfl|v::vs,k,arr=>by rw[List.zipIdx_cons,List.foldl_cons,CH off vs (k+1)];simp[bx,Nat.add_assoc]
theorem Au{pl:Nat->Option (Nat×Nat)}:∀{ps:List (Nat×AV)}{f:List (Nat×aa)}{l r:List AV}{arr:Array aa},cJ (ajD ν) ps f->bw ν l=O arr.toList->EH pl l ps=O r->∃uK,Instr.fill pl arr f=O uK/\bw ν r=O uK.toList|[],[],l,r,arr,_,k,h=>by simp[EH]at h;subst h;exact⟨arr,rfl,k⟩|(i,v)::ps,(j,V)::f,l,r,arr,b,k,h=>(by obtain⟨⟨e,m⟩,b⟩:=b;simp only at e m;subst e;unfold EH at h;unfold Instr.fill;cases c:pl i with|none=>rw[c]at h;cases h|some os=>obtain⟨off,size⟩:=os;rw[c]at h;simp only at h⊢;split at h;rename_i n;simp only[ay]at n;obtain⟨⟨q,o⟩,t⟩:=n;have q:=an q;have o:=bz o;have a:=lY m t;(have d:V.cells.size=size:=by have:=fK a;simp at this;omega);(have s:arr.size=l.length:=by have:=fK k;simpa using this);(have cond:(decide (V.cells.size≠size)||decide (off+V.cells.size>arr.size))=Z:=by rw[Bool.or_eq_false_iff,decide_eq_false_iff_not,decide_eq_false_iff_not];exact⟨λg=>g d,by omega⟩);rw[cond];refine Au b ?_ h;(have:(V.cells.zipIdx.foldl (λcs p=>cs.setIfInBounds (off+p.2) p.1) arr).toList=bx arr.toList off V.cells.toList:=by rw[<-Array.foldl_toList];have:=CH off V.cells.toList 0 arr;simpa using this);grind[wG];cases h)|[],_::_,_,_,_,b,_,_=>b.elim|_::_,[],_,_,_,b,_,_=>b.elim
theorem P8{a:Type}{f:α->Option a}{g:α->Sem a}(b:∀x y,f x=O y->(g x).run P w=.ok y w):∀{l:List α}{m:List a},ji f l=O m->(l.mapM g).run P w=.ok m w|[],m,h=>by simp_all[ji]|x::l,m,h=>by simp[ji]at h;split at h;cases h;rename_i y c;split at h;cases h;rename_i r d;simp at h;subst h;rw[List.mapM_cons];show(Sem.bind _ _).run P w=_;rw[run_bind,b x y c];show(Sem.bind _ _).run P w=_;rw[run_bind,P8 b d];rfl
theorem run_build{t:ag}{ps:List (Nat×AV)}{qs:Array (Nat×aa)}(hp:cJ (ajD ν) ps qs.toList)(h:Tg P t ps=O v)(hz1:True):∃V,den ν v=O V/\(Instr.build t qs).run P w=.ok V w:=by unfold Tg at h;split at h;cases h;(·rename_i z hz;have⟨Zz,hZ,rz⟩:=BK (P:=P) (ν:=ν) (w:=w) hz;(have hzc:bw ν (da z)=O Zz.cells.toList:=by cases z;(case agg l=>grind[da,Value.cells,gB]);(case il l=>grind[da,bw,Value.cells,wq]);all_goals (rw[show da _=[_]from rfl,(one_den rfl hZ).2.2];simp[bw,hZ]));unfold Instr.build;split at h;rename_i fields hu;split at h;rename_i pl hpl;rw[bZ]at h;obtain⟨r,hr,rfl⟩:=h;show∃V,_/\(Sem.bind _ _).run P w=_;rw[run_bind,rz];show∃V,_/\(Sem.bind _ _).run P w=_;rw[run_bind,run_underlying hu];show∃V,_/\(Sem.bind _ _).run P w=_;(have hm:(fields.mapM λf=>(do pure (f.offset,<-sizeOf f.type):Sem (Nat×Nat))).run P w=.ok pl.toArray w:=by rw[Array.mapM_eq_mapM_toList,<-bind_pure_comp];show(Sem.bind _ _).run P w=_;rw[run_bind,P8 (f:=λf:Field=>(di P f.type).map λn=>(f.offset,n)) (λf y hy=>by rw[bZ]at hy;obtain⟨n,hn,rfl⟩:=hy;show(Sem.bind _ _).run P w=_;rw[run_bind,d_ hn];rfl) hpl];rfl);rw[run_bind,hm];simp only;have⟨uK,h1,h2⟩:=Au (ν:=ν) (pl:=λ(i:Nat)=>pl[i]?) (arr:=Zz.cells) hp hzc hr;simp_all[den];cases h;rename_i n e hu;split at h;rename_i size hs;rw[bZ]at h;obtain⟨r,hr,rfl⟩:=h;show∃V,_/\(Sem.bind _ _).run P w=_;rw[run_bind,rz];show∃V,_/\(Sem.bind _ _).run P w=_;rw[run_bind,run_underlying hu];show∃V,_/\(Sem.bind _ _).run P w=_;rw[run_bind,d_ hs];simp;have⟨uK,h1,h2⟩:=Au (ν:=ν) (pl:=λi=>O (i*size,size)) (arr:=Zz.cells) hp hzc hr;simp_all[den];cases h;cases h)
end
end
section
open RowKit
variable{d:ah}{g:ah->ah->ah->Option ah}{n x y z:Int}{k:bu}{pc:List (Tm×Bool)}{ds xs:List ah}{l:List Tm}{o:Nat}{p q:Option Int×Option Int}{a b c i j t u:Tm}{E:Tm->Option Int×Option Int}
theorem h_{a b:Int}(h:gj a b=I):a=b:=by rw[iM]at h;simpa using h
theorem iw{a b:bu}(h:fy a b=I):a=b:=eV h
theorem afX{a b:BinOp}(h:akJ a b=I):a=b:=by cases a<;>cases b<;>first|rfl|cases h
mutual
theorem bj:∀{a b:Tm},dF a b=I->a=b|.c x,b,h=>(by cases b<;>simp only[dF]at h<;>first|(cases h;done)|rw[h_ h])|.x i,b,h=>(by cases b<;>simp only[dF]at h<;>first|(cases h;done)|rw[an h])|.bin o k x y,b,h=>by (cases b<;>simp only[dF]at h<;>try(cases h;done));simp at h;rw[afX h.1.1.1,iw h.1.1.2,bj h.1.2,bj h.2]|.conv k x,b,h=>by (cases b<;>simp only[dF]at h<;>try(cases h;done));simp at h;rw[iw h.1,bj h.2]|.f o l,b,h=>by (cases b<;>simp only[dF]at h<;>try(cases h;done));simp only[ay]at h;rw[an h.1,Av h.2]
theorem Av:∀{a b:List Tm},KS a b=I->a=b|[],b,h=>(by cases b<;>first|rfl|cases h)|x::l,b,h=>by cases b with|nil=>cases h|cons y m=>unfold KS at h;split at h;rename_i hxy;rw[bj hxy,Av h];cases h
end
theorem tn(h:un o t=O a):t=.f o [a]:=by unfold un at h;grind[an]
theorem fq{p:Tm×Tm}(h:bi o t=O p):t=.f o [p.1,p.2]:=by unfold bi at h;grind[an]
theorem q_(h:li o t=O l):t=.f o l:=by unfold li at h;grind[an]
section
variable{ν:Nm}
theorem lR(a:oU o=Z):ai ν (.f o l)=O d↔∃ds,bA ν l=O ds/\uJ o ds=O d:=by grind[ai]
theorem Bt(h:o<100)(ds:List ah):uJ o ds=dD o ds:=FF h ds
theorem ake(h:100<=o):oU o=Z:=by grind[oU,an]
theorem dn(a:oU o=Z)(b:o<100):ai ν (.f o l)=O d↔∃ds,bA ν l=O ds/\dD o ds=O d:=by rw[lR a];simp[Bt b]
theorem gF:bA ν [a]=O ds↔∃x,ai ν a=O x/\ds=[x]:=by simp[bA];grind
theorem gY:bA ν [a,b]=O ds↔∃x y,ai ν a=O x/\ai ν b=O y/\ds=[x,y]:=by simp only[bA];grind
theorem mb:bA ν [a,b,c]=O ds↔∃x y z,ai ν a=O x/\ai ν b=O y/\ai ν c=O z/\ds=[x,y,z]:=by simp only[bA];grind
theorem lZ:∀{l:List Tm}{ds:List ah},bA ν l=O ds->ds.length=l.length|[],ds,h=>by simp_all[bA]|a::l,ds,h=>by simp[bA]at h;split at h;rename_i d qP c b;simp at h;subst h;simp[lZ b];cases h
theorem yk:∀{ds:List ah}{l:List UInt8},kX ds=O l->l.length=ds.length|[],l,h=>by simp_all[kX]|.n n::ds,l,h=>by simp[kX]at h;split at h;rename_i m _ a;simp at h;subst h;simp[yk a];cases h|.s _::_,_,h=>by cases h|.l _::_,_,h=>by cases h|.v _::_,_,h=>by cases h|.r _ _ _::_,_,h=>by cases h
theorem jO:ai ν (.f 0 [a])=O d↔∃x n,ai ν a=O x/\bM x=O n/\d=.n n:=by rw[dn rfl (by decide)];constructor;(rintro⟨ds,c,b⟩;obtain⟨x,e,rfl⟩:=gF.1 c;refine⟨x,?_⟩;cases x<;>simp only[dD]at b<;>first|(cases b;done)|(injection b with b;subst b;exact⟨_,e,rfl,rfl⟩));rintro⟨x,n,c,b,rfl⟩;refine⟨_,gF.2 ⟨x,c,rfl⟩,?_⟩;cases x<;>simp only[bM]at b<;>first|(cases b;done)|(simp at b;subst b;rfl)
theorem Aa:ai ν (.f 10 [a])=O d↔∃m,ai ν a=O (.n m)/\d=jC (m==0):=by rw[dn rfl (by decide)];constructor;(rintro⟨ds,h1,h2⟩;obtain⟨x,h3,rfl⟩:=gF.1 h1;cases x<;>simp only[dD]at h2<;>first|(cases h2;done)|(injection h2 with h2;simp_all));rintro⟨m,h1,rfl⟩;exact⟨_,gF.2 ⟨_,h1,rfl⟩,rfl⟩
theorem TR:ai ν (.f 5 [a,b])=O d↔∃m n,ai ν a=O (.n m)/\ai ν b=O (.n n)/\d=jC (m !=0&&n !=0):=by rw[dn rfl (by decide)];constructor;(rintro⟨ds,h1,h2⟩;obtain⟨x,y,h3,h4,rfl⟩:=gY.1 h1;cases x<;>cases y<;>simp only[dD]at h2<;>first|(cases h2;done)|(injection h2 with h2;exact⟨_,_,h3,h4,h2.symm⟩));rintro⟨m,n,h1,h2,rfl⟩;exact⟨_,gY.2 ⟨_,_,h1,h2,rfl⟩,rfl⟩
theorem ql:ai ν (.f 2 [a,b])=O d↔(∃x y,ai ν a=O (.s x)/\ai ν b=O (.s y)/\d=.s (x++y))∨(∃x y,ai ν a=O (.l x)/\ai ν b=O (.l y)/\d=.l (x++y)):=by rw[dn rfl (by decide)];constructor;(rintro⟨ds,e,c⟩;obtain⟨x,y,h,g,rfl⟩:=gY.1 e;cases x<;>cases y<;>simp only[dD]at c<;>first|(cases c;done)|(injection c with c;simp_all)|(injection c with c;simp_all));rintro(⟨m,n,e,c,rfl⟩|⟨m,n,e,c,rfl⟩);exact⟨_,gY.2 ⟨_,_,e,c,rfl⟩,rfl⟩;exact⟨_,gY.2 ⟨_,_,e,c,rfl⟩,rfl⟩
theorem Ft:ai ν (.f 3 l)=O d↔∃ds b,bA ν l=O ds/\kX ds=O b/\d=.s b:=by rw[dn rfl (by decide)];constructor;rintro⟨ds,c,a⟩;have a:(kX ds).map ah.s=O d:=a;rw[bZ]at a;grind;rintro⟨ds,b,c,a,rfl⟩;exact⟨ds,c,show(kX ds).map ah.s=_ by rw[a];rfl⟩
theorem acm:ai ν (.f 8 [a,i,j])=O d↔∃(x:List UInt8)(m n:Int),ai ν a=O (.s x)/\ai ν i=O (.n m)/\ai ν j=O (.n n)/\0<=m/\m<=n/\n<=x.length/\d=.s ((x.drop m.toNat).take (n.toNat - m.toNat)):=by rw[dn rfl (by decide)];constructor;rintro⟨ds,c,b⟩;obtain⟨x,y,z,h,g,e,rfl⟩:=mb.1 c;have b:xv x y z=O d:=b;(cases x<;>try(cases b;done));(cases y<;>try(cases b;done));(cases z<;>try(cases b;done));simp_all[xv];rintro⟨x,m,n,c,b,h,g,e,k,rfl⟩;refine⟨_,mb.2 ⟨_,_,_,c,b,h,rfl⟩,?_⟩;show(if 0<=m/\m<=n/\n<=x.length then _ else _)=_;rw[if_pos ⟨g,e,k⟩]
theorem NP:ai ν (.f 12 [a,b])=O d↔∃m n,ai ν a=O (.n m)/\ai ν b=O (.n n)/\d=.n (n - m):=by rw[dn rfl (by decide)];constructor;(rintro⟨ds,e,c⟩;obtain⟨x,y,h,g,rfl⟩:=gY.1 e;cases x<;>cases y<;>simp only[dD]at c<;>first|(cases c;done)|(injection c with c;exact⟨_,_,h,g,c.symm⟩));rintro⟨m,n,e,c,rfl⟩;exact⟨_,gY.2 ⟨_,_,e,c,rfl⟩,rfl⟩
theorem acn:ai ν (.f 6 [a,b])=O d↔∃m n:Int,ai ν a=O (.n m)/\ai ν b=O (.n n)/\d=.n (m.fdiv (2^n.toNat)):=by rw[dn rfl (by decide)];constructor;(rintro⟨ds,e,c⟩;obtain⟨x,y,h,g,rfl⟩:=gY.1 e;cases x<;>cases y<;>simp only[dD]at c<;>first|(cases c;done)|(injection c with c;exact⟨_,_,h,g,c.symm⟩));rintro⟨m,n,e,c,rfl⟩;exact⟨_,gY.2 ⟨_,_,e,c,rfl⟩,rfl⟩
theorem aco:ai ν (.f 4 [a,b])=O d↔∃x y,ai ν a=O (.s x)/\ai ν b=O (.s y)/\d=jC (x==y):=by rw[dn rfl (by decide)];constructor;(rintro⟨ds,h1,h2⟩;obtain⟨x,y,h3,h4,rfl⟩:=gY.1 h1;cases x<;>cases y<;>simp only[dD]at h2<;>first|(cases h2;done)|(injection h2 with h2;simp_all));rintro⟨m,n,h1,h2,rfl⟩;exact⟨_,gY.2 ⟨_,_,h1,h2,rfl⟩,rfl⟩
theorem akf:ai ν (.f 1 [a,i,j])=O d↔∃(e:ag)(v:aa)(xs:List ah)(m n:Int)(x:ah),ai ν a=O (.r e v xs)/\ai ν i=O (.n m)/\ai ν j=O (.n n)/\0<=m/\0<=n/\xs[m.toNat]? =O x/\dQ x n.toNat=O d:=by rw[dn rfl (by decide)];constructor;rintro⟨ds,c,b⟩;obtain⟨x,y,z,k,h,g,rfl⟩:=mb.1 c;have b:PD x y z=O d:=b;(cases x<;>try(cases b;done));(cases y<;>try(cases b;done));(cases z<;>try(cases b;done));grind[PD];rintro⟨e,v,xs,m,n,x,c,b,k,h,g,o,l⟩;refine⟨_,mb.2 ⟨_,_,_,c,b,k,rfl⟩,?_⟩;show(if 0<=m/\0<=n then _ else _)=_;rw[if_pos ⟨h,g⟩,o];exact l
theorem NQ:ai ν (.f 15 [a])=O d↔∃e v xs,ai ν a=O (.r e v xs)/\d=.l xs:=by rw[dn rfl (by decide)];constructor;(rintro⟨ds,c,b⟩;obtain⟨x,g,rfl⟩:=gF.1 c;cases x<;>simp only[dD]at b<;>first|(cases b;done)|(injection b with b;grind));rintro⟨e,v,xs,c,rfl⟩;exact⟨_,gF.2 ⟨_,c,rfl⟩,rfl⟩
theorem jd(h:o=11∨o=13):ai ν (.f o l)=O d↔∃ds,bA ν l=O ds/\d=.l ds:=by rcases h with rfl|rfl<;>rw[dn rfl (by decide)]<;>exact⟨λ⟨ds,b,a⟩=>⟨ds,b,(bB a).symm⟩,λ⟨ds,b,a⟩=>⟨ds,b,congrArg O a.symm⟩⟩
theorem DU{e:Nat}:ai ν (.f 14 [.c (.ofNat e)])=O d↔d=.r e (.slice G 0 0) []:=by rw[dn rfl (by decide)];constructor;rintro⟨ds,b,a⟩;simp only[bA,ai,aG]at b;subst b;have a:O (ah.r (cq e).toNat (.slice G 0 0) [])=O d:=a;simp_all;rintro rfl;exact⟨_,rfl,rfl⟩
theorem dq{o:BinOp}:ai ν (.bin o k a b)=O d↔∃x y,ai ν a=O (.n x)/\ai ν b=O (.n y)/\gH o k x y=O d:=by grind[ai]
theorem ov:ai ν (.conv k a)=O d↔∃x,ai ν a=O (.n x)/\d=.n (k.wrap x):=by grind[ai]
theorem lB{g:ah->Option ah}(e:oU o=Z)(i:o<100)(h:∀ds,dD o ds=eI g ds):ai ν (.f o [a])=O d↔∃x,ai ν a=O x/\g x=O d:=by rw[dn e i];simp[h];constructor;rintro⟨ds,c,b⟩;obtain⟨x,j,rfl⟩:=gF.1 c;exact⟨x,j,b⟩;rintro⟨x,c,b⟩;exact⟨_,gF.2 ⟨x,c,rfl⟩,b⟩
theorem eR{g:ah->ah->Option ah}(i:oU o=Z)(k:o<100)(j:∀ds,dD o ds=cn g ds):ai ν (.f o [a,b])=O d↔∃x y,ai ν a=O x/\ai ν b=O y/\g x y=O d:=by rw[dn i k];simp only[j];constructor;rintro⟨ds,h,e⟩;obtain⟨x,y,c,l,rfl⟩:=gY.1 h;exact⟨x,y,c,l,e⟩;rintro⟨x,y,h,e,c⟩;exact⟨_,gY.2 ⟨x,y,h,e,rfl⟩,c⟩
theorem et(k:oU o=Z)(m:o<100)(l:∀ds,dD o ds=bt g ds):ai ν (.f o [a,b,c])=O d↔∃x y z,ai ν a=O x/\ai ν b=O y/\ai ν c=O z/\g x y z=O d:=by rw[dn k m];simp only[l];constructor;rintro⟨ds,j,i⟩;obtain⟨x,y,z,h,e,n,rfl⟩:=mb.1 j;exact⟨x,y,z,h,e,n,i⟩;rintro⟨x,y,z,j,i,h,e⟩;exact⟨_,mb.2 ⟨x,y,z,j,i,h,rfl⟩,e⟩
theorem dr:ai ν (.f 22 [a,c])=O d↔ai ν a=O d/\ai ν c=O (strip d):=by rw[eR rfl (by decide) λ_=>rfl];constructor;rintro⟨x,y,e,b,g⟩;obtain⟨h,rfl⟩:=Gw g;simp_all;rintro⟨e,b⟩;refine⟨_,_,e,b,?_⟩;unfold Cv;rw[eD.2 rfl]
theorem nX:ai ν (.f 23 [a])=O d↔∃x,ai ν a=O x/\d=strip x:=by rw[lB rfl (by decide) λ_=>rfl];grind
theorem Yj(d:ah):bM (strip d)=bM d:=by cases d<;>simp only[strip,bM,dR,fR]
theorem aP:bA ν (t::l)=O ds↔∃x xs,ai ν t=O x/\bA ν l=O xs/\ds=x::xs:=by simp only[bA];grind
theorem eX:bA ν []=O ds↔ds=[]:=by simp_all[bA]
theorem bd:strip (.l xs)=.l (xs.map strip):=by simp[strip,dR]
theorem mQ{e:ag}{v:aa}:strip (.r e v xs)=.l (xs.map strip):=by simp[strip,dR]
theorem Ab:strip (.n n)=.n n:=by rfl
theorem Ac{l:List UInt8}:strip (.s l)=.s l:=by rfl
theorem ym{c:ah}{j:Nat}(h:fO d j=O c):fO (strip d) j=O (strip c):=by unfold fO at h;split at h;rw[bd];show(List.map strip _)[j]? =_;rw[dg,h];rfl;cases h
theorem sI(k:ah):∀{xs:List ah},db xs=I->gy k (xs.map strip)=(gy k xs).map strip|[],_=>rfl|d::xs,h=>by unfold db at h;split at h;rename_i a b;have c:=sI k h;simp[bd,gy,jD,c,dP];split<;>rfl;cases h
theorem qz(k:ah):∀{xs:List ah},db xs=I->e_ k (xs.map strip)=(e_ k xs).map strip|[],_=>rfl|d::xs,h=>by unfold db at h;split at h;rename_i a b;have c:=qz k h;simp[bd,e_,jD,c,dP];split;rfl;rfl;cases h
theorem tF(k v:ah):∀{xs:List ah},db xs=I->gf k (strip v) (xs.map strip)=(gf k v xs).map strip|[],_=>by simp[gf,bd,dP]|d::xs,h=>by unfold db at h;split at h;rename_i a b;have c:=tF k v h;simp[bd,gf,jD,c,dP];split<;>simp only[eJ,bd,List.map_nil,dP];cases h
theorem nK(k:ah):∀{xs:List ah},db xs=I->db (e_ k xs)=I|[],_=>rfl|d::xs,h=>by unfold db at h;split at h;rename_i a b;simp[e_,jD];split;exact nK k h;exact nK k h;cases h
theorem iH:∀{xs:List ah},db xs=I->db (xs.map strip)=I|[],_=>rfl|d::xs,h=>by unfold db at h;split at h;simp only[eJ,bd,List.map_nil];exact iH h;cases h
theorem Uj{d':ah}{off:Nat}{cs:List ah}(h:uq d off cs=O d'):uq (strip d) off (cs.map strip)=O (strip d'):=by obtain⟨ds,rfl,a,rfl⟩:=BJ h;rw[bd,bd];simp_all[uq]
theorem GC(hf:Cn o=I)(h:dD o ds=O d):strip d=d:=by (have fn:∀n,d=.n n->strip d=d:=λn e=>by rw[e,Ab]);(have fb:∀b,d=jC b->strip d=d:=λb e=>by rw[e];rfl);simp only[Cn,bW]at hf;rcases hf with(((((((((((((hf|hf)|hf)|hf)|hf)|hf)|hf)|hf)|hf)|hf)|hf)|hf)|hf)|hf)|hf<;>have hf:=an hf<;>subst hf;obtain⟨a,rfl,h⟩:=eL h;grind[BE];have h:(kX ds).map ah.s=O d:=h;rw[bZ]at h;grind[Ac];obtain⟨a,b,rfl,h⟩:=bC h;grind[FH];obtain⟨a,b,rfl,h⟩:=bC h;have⟨_,_,_,_,h⟩:=ep h;exact fb _ h;obtain⟨a,b,rfl,h⟩:=bC h;have⟨_,_,_,_,h⟩:=ep h;exact fn _ h;obtain⟨a,b,rfl,h⟩:=bC h;have⟨_,_,_,_,h⟩:=ep h;exact fn _ h;obtain⟨a,b,c,rfl,h⟩:=cZ h;grind[Gv,Ac];obtain⟨a,b,rfl,h⟩:=bC h;grind[yg];obtain⟨a,rfl,h⟩:=eL h;grind[BF];obtain⟨a,b,rfl,h⟩:=bC h;have⟨_,_,_,_,h⟩:=ep h;exact fn _ h;obtain⟨a,b,rfl,h⟩:=bC h;grind[Ll];obtain⟨a,b,rfl,h⟩:=bC h;grind;obtain⟨a,b,rfl,h⟩:=bC h;grind[ep];obtain⟨a,b,rfl,h⟩:=bC h;grind[ep];obtain⟨a,rfl,h⟩:=eL h;grind[bd,Rq,yi]
theorem afY(h:Cn o=I):o<100/\oU o=Z:=by simp only[Cn,bW]at h;rcases h with(((((((((((((a|a)|a)|a)|a)|a)|a)|a)|a)|a)|a)|a)|a)|a)|a<;>have a:=an a<;>subst a<;>exact⟨by decide,rfl⟩
theorem tG{g:ah->ah->Option ah}{n:Tm}(b:oU o=Z)(e:o<100)(c:∀ds,dD o ds=cn g ds)(j:∀x y d,g x y=O d->g (strip x) y=O (strip d))(i:∀d,ai ν a=O d->ai ν (cK a)=O (strip d))(h:ai ν (.f o [a,n])=O d):ai ν (.f o [cK a,n])=O (strip d):=by have⟨x,y,m,l,k⟩:=(eR b e c).1 h;exact(eR b e c).2 ⟨_,_,i _ m,l,j _ _ _ k⟩
theorem AP(b:oU o=Z)(e:o<100)(c:∀ds,dD o ds=bt g ds)(l:∀x y z d,g x y z=O d->g (strip x) y z=O (strip d))(k:∀d,ai ν a=O d->ai ν (cK a)=O (strip d))(h:ai ν (.f o [a,i,j])=O d):ai ν (.f o [cK a,i,j])=O (strip d):=by have⟨x,y,z,q,p,n,m⟩:=(et b e c).1 h;exact(et b e c).2 ⟨_,_,_,k _ q,p,n,l _ _ _ _ m⟩
theorem oz(c:oU o=Z)(k:o<100)(e:∀ds,dD o ds=bt g ds)(m:∀x y z d,g x y z=O d->g (strip x) y (strip z)=O (strip d))(l:∀d,ai ν a=O d->ai ν (cK a)=O (strip d))(b:∀d,ai ν j=O d->ai ν (cK j)=O (strip d))(h:ai ν (.f o [a,i,j])=O d):ai ν (.f o [cK a,i,cK j])=O (strip d):=by have⟨x,y,z,r,q,p,n⟩:=(et c k e).1 h;exact(et c k e).2 ⟨_,_,_,l _ r,q,b _ p,m _ _ _ _ n⟩
theorem Lq{n:Nat}(h:xs[n]? =O d):(xs.map strip)[n]? =O (strip d):=by rw[dg,h];rfl
theorem Rr(h:ai ν (.f o l)=O d):ai ν (.f 23 [.f o l])=O (strip d):=nX.2 ⟨d,h,rfl⟩
theorem nM(b:∀t∈l,∀d,ai ν t=O d->ai ν (cK t)=O (strip d)):∀{ds:List ah},bA ν l=O ds->bA ν (kV l)=O (ds.map strip):=by induction l with|nil=>intro ds h;rw[eX.1 h];rfl|cons t l a=>intro ds h;obtain⟨x,xs,f,e,rfl⟩:=aP.1 h;exact aP.2 ⟨_,_,b t (aU ..) _ f,a (λu c=>b u (aS _ c)) e,rfl⟩
theorem Uk(b:∀t∈l,∀d,ai ν t=O d->ai ν (cK t)=O (strip d))(h:ai ν (.f o l)=O d)(a:Tq o l=O u):ai ν u=O (strip d):=by unfold Tq at a;grind[an,dr]
theorem Ul(e:∀t∈l,∀d,ai ν t=O d->ai ν (cK t)=O (strip d))(h:ai ν (.f o l)=O d)(a:Tt o l=O u):ai ν u=O (strip d):=by unfold Tt at a;split at a;split at a;rename_i b;have b:=an b;subst b;simp at a;subst a;have⟨x,i,c⟩:=(lB (g:=M_) rfl (by decide) λ_=>rfl).1 h;obtain⟨m,_,rfl⟩:=CF c;rw[mQ];rfl;cases a;cases a
theorem Um(i:∀t∈l,∀d,ai ν t=O d->ai ν (cK t)=O (strip d))(h:ai ν (.f o l)=O d)(b:Tu o (kV l)=O u):ai ν u=O (strip d):=by unfold Tu at b;split at b;rename_i a j;split at b;rename_i c;have c:=an c;subst c;simp at b;subst b;have⟨ds,n,g⟩:=(dn rfl (by decide)).1 h;have g:eI aeV ds=O d:=g;obtain⟨x,rfl,m⟩:=eL g;obtain⟨e,v,xs,rfl,rfl⟩:=Lk m;have k:=nM i n;rw[j]at k;grind[mQ,bd,gF];cases b;cases b
theorem Yk(c:∀t∈l,∀d,ai ν t=O d->ai ν (cK t)=O (strip d))(h:ai ν (.f o l)=O d)(a:aao o l (kV l)=O u):ai ν u=O (strip d):=by unfold aao at a;split at a;rename_i t n;simp[kV]at a;split at a;rename_i b;simp at a;subst a;simp only[bW]at b;have c:=c t (aU ..);rcases b with((b|b)|b)|b<;>have b:=an b<;>subst b;refine tG rfl (by simp) (λ_=>rfl) (λx y d h=> ?_) c h;obtain⟨xs,m,rfl,rfl,i,e,rfl⟩:=lV h;rw[bd,bd];simp_all[qU];refine tG rfl (by simp) (λ_=>rfl) (λx y d h=> ?_) c h;obtain⟨xs,m,rfl,rfl,i,e⟩:=nI h;rw[bd];simp_all[xw];refine tG rfl (by simp) (λ_=>rfl) (λx y d h=> ?_) c h;grind[bd,Kr,iH,qz,BH];refine tG rfl (by simp) (λ_=>rfl) (λx y d h=> ?_) c h;obtain⟨m,rfl,i,e⟩:=wJ h;simp only[zF];rw[if_pos i];exact ym e;cases a;cases a
theorem Yl(c:∀t∈l,∀d,ai ν t=O d->ai ν (cK t)=O (strip d))(h:ai ν (.f o l)=O d)(a:aap o l (kV l)=O u):ai ν u=O (strip d):=by unfold aap at a;split at a;rename_i t i j;simp[kV]at a;split at a;rename_i b;simp at a;subst a;simp only[bW]at b;have c:=c t (aU ..);rcases b with b|b<;>have b:=an b<;>subst b;refine AP rfl (by simp) (λ_=>rfl) (λx y z d h=> ?_) c h;obtain⟨xs,m,n,rfl,rfl,rfl,p,k,e,rfl⟩:=sG h;rw[bd,bd];simp_all[r_];refine AP rfl (by simp) (λ_=>rfl) (λx y z d h=> ?_) c h;obtain⟨xs,m,n,x,rfl,rfl,rfl,p,k,e,q⟩:=kg h;rw[bd];simp only[lX];rw[if_pos ⟨p,k⟩,Lq e];exact ym q;cases a;cases a
theorem Uo(g:∀t∈l,∀d,ai ν t=O d->ai ν (cK t)=O (strip d))(h:ai ν (.f o l)=O d)(a:Tv o l (kV l)=O u):ai ν u=O (strip d):=by unfold Tv at a;split at a;rename_i t i j r;simp[kV]at a;split at a;rename_i c;simp at a;subst a;have c:=an c;subst c;have⟨ds,C,e⟩:=(dn rfl (by decide)).1 h;obtain⟨s,E,B,y,rfl⟩:=aP.1 C;obtain⟨q,D,A,w,rfl⟩:=aP.1 y;obtain⟨p,b,z,v,rfl⟩:=aP.1 w;have e:om (s::q::p::b)=O d:=e;obtain⟨xs,cs,m,off,x,x',k,Iz,H,Gz,F,rfl⟩:=wK e;obtain⟨rfl,rfl,rfl,rfl⟩:=k;refine(dn rfl (by simp)).2 ⟨_,aP.2 ⟨_,_,g t (aU ..) _ B,aP.2 ⟨_,_,A,aP.2 ⟨_,_,z,nM (λu a=>g u (by grind)) v,rfl⟩,rfl⟩,rfl⟩,?_⟩;show om (strip (.l xs)::.n m::.n off::b.map strip)=O _;rw[bd,bd];simp_all[om,Uj];cases a;cases a
theorem Ym(e:∀t∈l,∀d,ai ν t=O d->ai ν (cK t)=O (strip d))(h:ai ν (.f o l)=O d)(c:aaq o l (kV l)=O u):ai ν u=O (strip d):=by unfold aaq at c;split at c;rename_i t i j;simp[kV]at c;split at c;rename_i b;simp at c;subst c;simp only[bW]at b;have a:=e j (by simp);have e:=e t (aU ..);rcases b with(((b|b)|b)|b)|b<;>have b:=an b<;>subst b;refine oz rfl (by simp) (λ_=>rfl) (λx y z d h=> ?_) e a h;obtain⟨xs,m,rfl,rfl,k,n,rfl⟩:=kh h;rw[bd,bd];simp_all[qV];refine oz rfl (by simp) (λ_=>rfl) (λx y z d h=> ?_) e a h;obtain⟨xs,ys,m,rfl,rfl,rfl,k,n,rfl⟩:=pQ h;rw[bd,bd,bd];simp_all[Ks];refine oz rfl (by simp) (λ_=>rfl) (λx y z d h=> ?_) e a h;obtain⟨xs,rfl,k,rfl⟩:=wI h;rw[bd];simp_all[sV,iH,sI];refine oz rfl (by simp) (λ_=>rfl) (λx y z d h=> ?_) e a h;grind[bd,uI,iH,qz,tF,nK,BG];refine oz rfl (by simp) (λ_=>rfl) (λx y z d h=> ?_) e a h;obtain⟨xs,m,rfl,rfl,k,n,rfl⟩:=pO h;rw[bd,bd];simp_all[Bg];cases c;cases c
theorem Uq(c:∀t∈l,∀d,ai ν t=O d->ai ν (cK t)=O (strip d))(h:ai ν (.f o l)=O d)(a:Tw o l (kV l)=O u):ai ν u=O (strip d):=by unfold Tw at a;split at a;rename_i n u;simp[kV]at a;split at a;rename_i b;simp at a;subst a;have b:=an b;subst b;have⟨x,y,j,i,e⟩:=(eR (g:=Ep) rfl (by decide) λ_=>rfl).1 h;obtain⟨m,rfl,k,rfl⟩:=pP e;refine(eR rfl (by simp) λ_=>rfl).2 ⟨_,_,j,c u (by simp) _ i,?_⟩;simp_all[Ep,bd];cases a;cases a
theorem ra{a:Option Tm}(e:∀u,a=O u->ai ν u=O d)(c:ai ν b=O d):ai ν (orT a b)=O d:=by cases a with|none=>exact c|some u=>exact e u rfl
theorem Yn(b:∀t∈l,∀d,ai ν t=O d->ai ν (cK t)=O (strip d))(h:ai ν (.f o l)=O d):ai ν (aar o l (kV l))=O (strip d):=by have flat:=h;unfold aar;split;(·rename_i k;cases i:Cn o with|true=>grind[GC,afY,dn]|false=>rw[i,Bool.false_or]at k;have p:=bz k;(have r:oU o=Z:=by grind[oU,an]);have⟨ds,_,g⟩:=(lR r).1 h;have⟨n,q⟩:=DR (R:=aI defs) p ds;rw[show uJ o ds=O (.n n)from q]at g;simp at g;subst g;exact h);split;(·rename_i c;simp only[bW]at c;(have cat:o=2∨o=11∨o=13:=by rcases c with(c|c)|c<;>have:=an c;(·exact .inl this);(·exact .inr (.inl this));·exact .inr (.inr this));rcases cat with rfl|c;(·have⟨ds,m,e⟩:=(dn rfl (by decide)).1 h;refine(dn rfl (by simp)).2 ⟨_,nM b m,?_⟩;have e:cn mq ds=O d:=e;obtain⟨x,y,rfl,s⟩:=bC e;show mq _ _=_;obtain⟨x,y,rfl,rfl,rfl⟩|⟨x,y,rfl,rfl,rfl⟩:=wH s;(·simp[strip,mq]);·simp[bd,mq]);grind[jd,nM,bd]);split;(·rename_i j;have j:=an j;subst j;have⟨ds,m,e⟩:=(dn rfl (by decide)).1 h;have e:eI (λa=>O (strip a)) ds=O d:=e;grind[dP,eL]);exact ra (λ_=>Uk b h) (ra (λ_=>Ul b h) (ra (λ_=>Um b h) (ra (λ_=>Yk b h) (ra (λ_=>Yl b h) (ra (λ_=>Uo b h) (ra (λ_=>Ym b h) (ra (λ_=>Uq b h) (Rr h))))))))
mutual
theorem du:∀{t:Tm}{d:ah},ai ν t=O d->ai ν (cK t)=O (strip d)|.c n,d,h=>by grind[ai,cK,strip]|.x i,d,h=>by grind[cK,nX]|.bin o k a b,d,h=>by grind[cK,gH,strip,dq]|.conv k a,d,h=>by grind[cK,strip,ov]|.f o l,d,h=>by exact Yn (GD l) h
theorem GD:∀(l:List Tm),∀t∈l,∀d,ai ν t=O d->ai ν (cK t)=O (strip d)|[],t,h,d,_=>by cases h|u::l,t,h,d,hd=>by rcases aO.1 h with e|h;rw[e]at hd⊢;exact du hd;exact GD l t h d hd
end
end
theorem Om(h:0<=x)(a:0<y):x%y<=x:=by have c:=Int.mul_ediv_add_emod x y;have b:0<=y*(x/y):=Int.mul_nonneg (Int.le_of_lt a) (Ad h (Int.le_of_lt a));omega
def Bd(r:Option Int×Option Int)(z:Int):Prop:=(∀m,r.1=O m->m<=z)/\(∀m,r.2=O m->z<=m)
theorem lC(z:Int):Bd (G,G) z:=⟨λ_ h=>(by cases h),λ_ h=>(by cases h)⟩
theorem mI{a b:Int}(h:a<=z)(k:z<=b):Bd (O a,O b) z:=⟨λ_ e=>(by simp_all),λ_ e=>(by simp_all)⟩
theorem abR{a:Int}(h:a<=z):Bd (O a,G) z:=⟨λ_ e=>(by simp_all),λ_ e=>(by cases e)⟩
theorem acO{a:Option Int}(h:∀m,a=O m->m<=z)(b:n<=z):∀m,VV a n=O m->m<=z:=λm c=>by cases a with|none=>simp_all[VV]|some a=>grind[VV]
theorem P9{a:Option Int}(h:∀m,a=O m->z<=m)(b:z<=n):∀m,VW a n=O m->z<=m:=λm c=>by cases a with|none=>simp_all[VW]|some a=>grind[VW]
theorem NR(h:Bd p z)(k:Bd q z):Bd (EJ p q) z:=by refine⟨λm a=> ?_,λm a=> ?_⟩;(·simp[EJ]at a;cases b:q.1 with|none=>rw[b]at a;exact h.1 m a|some n=>rw[b]at a;exact acO h.1 (k.1 n b) m a);·simp[EJ]at a;cases b:q.2 with|none=>rw[b]at a;exact h.2 m a|some n=>rw[b]at a;exact P9 h.2 (k.2 n b) m a
theorem TS(h:Bd p x)(k:Bd q y):Bd (zA p.1 q.1,zA p.2 q.2) (x+y):=by refine⟨λm c=> ?_,λm c=> ?_⟩;simp[zA]at c;split at c;rename_i a b e d;have:=h.1 a e;have:=k.1 b d;grind;cases c;simp[zA]at c;split at c;rename_i a b e d;have:=h.2 a e;have:=k.2 b d;grind;cases c
theorem acp(h:Bd p x)(k:Bd q y):Bd (Dk p.1 q.2,Dk p.2 q.1) (x - y):=by refine⟨λm c=> ?_,λm c=> ?_⟩;simp[Dk]at c;split at c;rename_i a b e d;have:=h.1 a e;have:=k.2 b d;grind;cases c;simp[Dk]at c;split at c;rename_i a b e d;have:=h.2 a e;have:=k.1 b d;grind;cases c
theorem ow(k:bu)(n:Int):k.min<=k.wrap n/\k.wrap n<=k.max:=by cases k<;>simp only[IntKind.wrap,IntKind.min,IntKind.max,IntKind.bits,IntKind.signed]<;>constructor<;>(try simp)<;>(try split)<;>omega
theorem DV(h:k.min<=n)(a:n<=k.max):k.wrap n=n:=by cases k<;>simp only[IntKind.wrap,IntKind.min,IntKind.max,IntKind.bits,IntKind.signed]at* <;>(try simp at*)<;>(try split)<;>omega
theorem FK(h:inK k p=I)(c:Bd p n):k.wrap n=n:=by unfold inK at h;split at h;rename_i a b e d;simp at h;exact DV (pb h.1 (c.1 a e)) (pb (c.2 b d) h.2);cases h
theorem Ae(a:Bd p n):Bd (SC k p) (k.wrap n):=by grind[SC,FK,mI,ow]
theorem pR(h:uU p=I)(b:Bd p n):0<=n:=by unfold uU at h;split at h;rename_i a c;have:=b.1 a c;grind;cases h
theorem acq(b:Bool):Bd (O 0,O 1) (if b=I then 1 else 0):=by grind[mI]
theorem acP{a:Int}{c:Option Int}(d:0<=x)(h:x<=a)(e:0<=y)(g:∀m,c=O m->m<=y):x/y<=aam a c:=by have base:x/y<=a:=pb (Int.ediv_le_self _ d) h;unfold aam;split;rename_i m;split;rename_i b;have b:0<m:=of_decide_eq_true b;have f:=g m rfl;refine(Int.le_ediv_iff_mul_le b).2 ?_;have i:0<=x/y:=Ad d e;have k:x/y*m<=x/y*y:=NS f i;have j:x/y*y<=x:=Int.ediv_mul_le x (by omega);omega;exact base;exact base
theorem Ur{o:BinOp}(h:gH o k x y=O (.n z))(i:Bd p x)(g:Bd q y):Bd (ZY o k p q) z:=by cases o;(case add=>simp[gH,dX]at h;subst h;exact Ae (TS i g));(case sub=>simp[gH,dX]at h;subst h;exact Ae (acp i g));(case mul=>simp[gH,dX]at h;subst h;simp[ZY];split;(·rename_i a b d s u;simp at d;have f:=pR d.1 i;have r:=pR d.2 g;have t:=i.2 a s;have v:=g.2 b u;exact Ae (mI (Int.mul_nonneg f r) (Int.mul_le_mul t v r (pb f t))));grind[mI,ow]);(case quo=>simp[gH,dX]at h;split at h;(·rename_i w n hh;split at hh;(·cases hh);·obtain⟨rfl,rfl⟩:=hh;simp at h;subst h;simp[ZY];split;(·rename_i a d s;simp at d;have f:=pR d.1 i;have r:=pR d.2 g;have t:=i.2 a s;have e:x.tdiv y=x/y:=Int.tdiv_eq_ediv_of_nonneg f;refine Ae (mI ?_ ?_);(·rw[e];exact Ad f r);·rw[e];exact acP f t r λc A=>g.1 c A);grind[mI,ow]);(·grind);·cases h);(case rem=>simp[gH,dX]at h;split at h;(·rename_i w n hh;split at hh;(·cases hh);·obtain⟨rfl,rfl⟩:=hh;simp at h;subst h;simp[ZY];split;(·rename_i a b d s u;split;(·rename_i C;simp at C;have f:=pR d i;have r:=g.1 a s;have t:=g.2 b u;have e:x.tmod y=x%y:=Int.tmod_eq_emod_of_nonneg f;rw[e];have v:=Int.emod_nonneg x (show y≠0 by omega);have D:=Int.emod_lt_of_pos x (show 0<y by omega);refine⟨λm l=>by simp_all,λm l=> ?_⟩;have B:∀m,p.2=O m->x%y<=m:=λm l=>pb (Om f (show 0<y by omega)) (i.2 m l);cases j:p.2 with|none=>rw[j]at l;grind[Tn]|some c=>rw[j]at l;exact P9 (a:=O _) (λm l=>by grind) (B c j) m l);·exact lC _);·exact lC _);(·grind);·cases h);all_goals (simp only[gH,dX]at h;first|((cases h;done))|((simp only[aG,ah.n.injEq]at h;subst h;exact mI (ow _ _).1 (ow _ _).2))|((simp only[aG,ah.n.injEq]at h;subst h;exact acq _)))
def Dr(o:BinOp)(x y:Int):Option Bool:=match o with|.eql=>O (decide (x=y))|.neq=>O (!decide (x=y))|.lss=>O (decide (x<y))|.leq=>O (decide (x<=y))|.gtr=>O (decide (x>y))|.geq=>O (decide (x>=y))|_=>G
theorem pS{a b:Int}:gj a b=decide (a=b):=by rw[iM];rfl
theorem bI{o:BinOp}{q:Bool}(h:Dr o x y=O q):gH o k x y=O (.n (if q=I then 1 else 0)):=by cases o<;>simp only[Dr,aG]at h<;>first|(cases h;done)|(simp_all[gH,dX,pS])
theorem GF{o:BinOp}{b:Bool}(h:gH o k x y=O (.n n))(l:decide (n≠0)=b)(e:Bd q y):Bd (Po o b q) x:=by (have cmp:∀r,Dr o x y=O r->r=b:=λr i=>by rw[bI (k:=k) i]at h;grind);have one:Bd (O 1,O 1) 1:=mI (by omega) (by omega);cases o<;>cases b<;>simp only[Po]<;>(try exact lC _)<;>(have j:=cmp _ rfl;simp at j);simp_all;simp_all;exact⟨λm d=>by have:=e.1 m d;omega,λ_ d=>by cases d⟩;refine⟨λ_ d=>(by grind),λm d=> ?_⟩;simp[Dk]at d;split at d;rename_i a c g f;have:=e.2 a g;grind;cases d;refine⟨λm d=> ?_,λ_ d=>by cases d⟩;simp[zA]at d;split at d;rename_i a c g f;have:=e.1 a g;grind;cases d;exact⟨λ_ d=>(by cases d),λm d=>by have:=e.2 m d;omega⟩;exact⟨λ_ d=>(by cases d),λm d=>by have:=e.2 m d;omega⟩;refine⟨λm d=> ?_,λ_ d=>by cases d⟩;simp[zA]at d;split at d;rename_i a c g f;have:=e.1 a g;grind;cases d;refine⟨λ_ d=>(by grind),λm d=> ?_⟩;simp[Dk]at d;split at d;rename_i a c g f;have:=e.2 a g;grind;cases d;exact⟨λm d=>by have:=e.1 m d;omega,λ_ d=>by cases d⟩
theorem acQ{o:BinOp}{r:Bool}(h:Dr o x y=O r):Dr (Tp o) y x=O r:=by
 cases o<;>first
  |(cases h;done)
  |exact h
  |exact Eq.trans (congrArg O (decide_eq_decide.2 eq_comm)) h
  |exact Eq.trans (congrArg (λb=>O _) (decide_eq_decide.2 eq_comm)) h
theorem Us{o:BinOp}{b:Bool}(h:gH o k x y=O (.n n))(d:decide (n≠0)=b)(c:Bd q x):Bd (Po (Tp o) b q) y:=by cases a:Dr o x y with|some r=>rw[bI (k:=k) a]at h;injection h with h;simp at h;exact GF (k:=k) (bI (acQ a)) (by rw[h];exact d) c|none=>cases o<;>first|(cases a;done)|(cases b<;>exact lC _)
section
variable{ν:Nm}
theorem acr{o:BinOp}{b:Bool}(h:bh ν (.bin o k a c) b):∃x y n,ai ν a=O (.n x)/\ai ν c=O (.n y)/\gH o k x y=O (.n n)/\decide (n≠0)=b:=by have⟨n,e,d⟩:=h;grind[dq]
theorem GG(d:∀u z,ai ν u=O (.n z)->Bd (E u) z)(c:ai ν t=O (.n z)):∀{pc:List (Tm×Bool)},(∀t b,(t,b)∈pc->bh ν t b)->Bd (ZZ E t pc) z|[],_=>lC _|(u,b)::pc,a=>by have e:=GG d c (pc:=pc) λt b h=>a t b (aS _ h);unfold ZZ;grind[acr,bj,NR,GF,Us]
theorem acs{r:Option Int×Option Int}(h:Bd r z)(d:z≠n):Bd (match r.1 with|O m=>(match gj m n with|I=>O (m+1)|Z=>O m)|G=>G,match r.2 with|O m=>(match gj m n with|I=>O (m - 1)|Z=>O m)|G=>G) z:=by refine⟨λm b=> ?_,λm b=> ?_⟩;simp only at b;split at b;rename_i a c;have:=h.1 a c;grind[h_];cases b;simp only at b;split at b;rename_i a c;have:=h.2 a c;grind[h_];cases b
theorem CI(g:ai ν t=O (.n z)):∀{pc:List (Tm×Bool)}{r:Option Int×Option Int},(∀t b,(t,b)∈pc->bh ν t b)->Bd r z->Bd (tight t pc r) z|[],_,_,h=>h|(u,b)::pc,r,f,h=>by have rest:∀{r:Option Int×Option Int},Bd r z->Bd (tight t pc r) z:=λh=>CI g (λt b h=>f t b (aS _ h)) h;unfold tight;split;rename_i heq;cases heq;rename_i o k a n s p heq;obtain⟨⟨rfl,rfl⟩,rfl⟩:=heq;have⟨x,y,m,d,l,c,j⟩:=acr (f _ _ (aU ..));simp[ai]at l;subst l;refine rest ?_;split;rename_i i;have:=bj i;subst this;rw[g]at d;injection d with d;simp at d;subst d;refine acs h λe=> ?_;subst e;rw[bI (q:=Z) (by simp[Dr])]at c;injection c with c;injection c with c;subst c;simp at j;rename_i i;have:=bj i;subst this;rw[g]at d;injection d with d;simp at d;subst d;refine acs h λe=> ?_;subst e;rw[bI (q:=I) (by simp[Dr])]at c;injection c with c;injection c with c;subst c;simp at j;exact h;simp_all
theorem acR(c:100<=o)(h:uJ o ds=O (.n z)):Bd (aiP o) z:=by unfold aiP;split;rename_i a;rw[ay]at a;have b:=an a.2;unfold uJ aQ at h;rw[a.1]at h;simp only at h;rw[if_neg (by omega),if_pos b]at h;split at h;grind[abR];injection h with h;simp at h;subst h;exact abR (ft _);exact lC _
theorem Yo(h:aiQ o=I)(ds:List ah):∃n,uJ o ds=O (.n n):=by unfold aiQ at h;split at h;rename_i a;exact DR (bz a) ds;cases h
theorem Ut(hE:∀u z,ai ν u=O (.n z)->Bd (E u) z)(hz:ai ν t=O (.n z)):Bd (aiU E t) z:=by unfold aiU;split;simp only[ai,aG,ah.n.injEq]at hz;subst hz;exact mI (ft _) (ft _);exact lC _;grind[ov,Ae];grind[dq,Ur];rename_i o l;split;rename_i u hu;rw[tn hu]at hz;have⟨x,n,h1,h2,h3⟩:=jO.1 hz;injection h3 with h3;subst h3;refine NR (abR (by omega)) ?_;split;rename_i a b hb;rw[fq hb]at h1;have hi:∀{p q:Option Int×Option Int}{m k:Nat},Bd p m->Bd q k->Bd (G,zA p.2 q.2) ((m+k:Nat):Int):=λ{p q m k} hp hq=>⟨λ_ e=>(by cases e),λc hc=>by have:=(TS hp hq).2 c hc;omega⟩;rcases ql.1 h1 with⟨p,q,h4,h5,rfl⟩|⟨p,q,h4,h5,rfl⟩;simp only[bM,aG,cL]at h2;subst h2;exact hi (hE _ _ (jO.2 ⟨_,_,h4,rfl,rfl⟩)) (hE _ _ (jO.2 ⟨_,_,h5,rfl,rfl⟩));simp only[bM,aG,cL]at h2;subst h2;exact hi (hE _ _ (jO.2 ⟨_,_,h4,rfl,rfl⟩)) (hE _ _ (jO.2 ⟨_,_,h5,rfl,rfl⟩));split;rename_i l3 h3;rw[q_ h3]at h1;obtain⟨ds,bs,h4,h5,rfl⟩:=Ft.1 h1;simp only[bM,aG]at h2;rw[yk h5,lZ h4]at h2;subst h2;exact mI (ft _) (ft _);split;rename_i a i j h3;rw[q_ h3]at h1;obtain⟨x,m,n',h4,h5,h6,h7,h8,h9,rfl⟩:=acm.1 h1;simp only[bM,aG,bD,dZ]at h2;have:=hE _ _ (jO.2 ⟨_,_,h4,rfl,rfl⟩);exact⟨λ_ e=>(by cases e),λc hc=>by have:=this.2 c hc;omega⟩;exact lC _;split;rename_i l3 h3;rw[q_ h3]at h1;obtain⟨ds,h4,rfl⟩:=(jd (.inl rfl)).1 h1;simp only[bM,aG]at h2;rw[lZ h4]at h2;subst h2;exact mI (ft _) (ft _);split;rename_i a h3;rw[tn h3]at h1;grind[bM,NQ,jO];split;rename_i p l' _ _ _ _ _;refine⟨λ_ e=>(by cases e),λc hc=> ?_⟩;simp only at hc;split at hc;cases hc;cases hc;exact lC _;split;rename_i hb;simp only[bW]at hb;(have so:∀b,ah.n z=jC b->Bd (O 0,O 1) z:=λb hb=>by injection hb with hb;subst hb;exact acq b);rcases hb with((hb|hb)|hb)|hb<;>have hb:=an hb<;>subst hb<;>have⟨ds,h1,h2⟩:=(dn rfl (by decide)).1 hz;have h2:cn eqF ds=O (.n z):=h2;grind[bC,FH];have h2:cn (rD SN) ds=O (.n z):=h2;obtain⟨a,b,rfl,h2⟩:=bC h2;have⟨_,_,_,_,h2⟩:=ep h2;exact so _ h2;have h2:eI O4 ds=O (.n z):=h2;grind[eL,BF];have h2:cn (λa b=>O (jC (sf a b))) ds=O (.n z):=h2;grind[bC];split;rename_i hb;have hb:=an hb;subst hb;have⟨ds,h1,h2⟩:=(dn rfl (by decide)).1 hz;have h2:cn ER ds=O (.n z):=h2;obtain⟨a,i,rfl,h2⟩:=bC h2;have⟨_,_,b,_,_,_,_,h4⟩:=yg h2;injection h4 with h4;subst h4;have:=b.toNat_lt;exact mI (by omega) (by omega);split;rename_i a b hb;rw[fq hb]at hz;have⟨m,n,h1,h2,h3⟩:=NP.1 hz;injection h3 with h3;subst h3;exact acp (hE _ _ h2) (hE _ _ h1);split;rename_i a b hb;rw[fq hb]at hz;have⟨m,n,h1,h2,h3⟩:=acn.1 hz;injection h3 with h3;subst h3;split;rename_i hn;have h0:=pR hn (hE _ _ h1);have hp:(0:Int)<2^n.toNat:=Int.pow_pos (by decide);rw[Int.fdiv_eq_ediv_of_nonneg _ (Int.le_of_lt hp)];refine⟨λc hc=>by injection hc with hc;have:=Ad h0 (Int.le_of_lt hp);omega,λc hc=>pb (Int.ediv_le_self _ h0) ((hE _ _ h1).2 c hc)⟩;exact lC _;grind[lR,ake,bz,acR,lC]
theorem GH(c:∀t b,(t,b)∈pc->bh ν t b)(e:∀u z,ai ν u=O (.n z)->Bd (E u) z):∀(d:Nat){t:Tm}{z:Int},ai ν t=O (.n z)->Bd (aeE E pc d t) z|0,t,z,a=>e t z a|d+1,t,z,a=>by unfold aeE;split;simp[ai]at a;subst a;exact mI (ft _) (ft _);exact CI a c (NR (GG e a c) (Ut (λu z (h:ai ν u=O (.n z))=>GH c e d h) a))
theorem qA(a:∀t b,(t,b)∈pc->bh ν t b):∀(d:Nat){t:Tm}{z:Int},ai ν t=O (.n z)->Bd (MF d pc t) z|0,t,z,c=>by unfold MF;split;simp[ai]at c;subst c;exact mI (ft _) (ft _);exact lC _|d+1,t,z,c=>by unfold MF;exact GH a (λu z (h:ai ν u=O (.n z))=>qA a d h) 80 c
theorem u7{a b:Option Int}(h:leO a b=I)(d:∀m,a=O m->x<=m)(c:∀m,b=O m->m<=y):x<=y:=by unfold leO at h;grind
theorem u9{a b:Option Int}(h:ltO a b=I)(d:∀m,a=O m->x<=m)(c:∀m,b=O m->m<=y):x<y:=by unfold ltO at h;grind
theorem tri{p q a c b:Bool}(h:(match p,q with|I,_=>O a|_,I=>O c|_,_=>G)=O b):(p=I/\b=a)∨(q=I/\b=c):=by cases p<;>cases q<;>simp only[aG]at h<;>first|grind|simp_all|simp_all
theorem GJ{o:BinOp}{b:Bool}(h:aiV o p q=O b)(g:Bd p x)(f:Bd q y):Dr o x y=O b:=by have e:∀{u v:Bool},u=v->O u=O v:=λh=>congrArg O h;(cases o<;>try(cases h;done));(case eql=>obtain⟨d,rfl⟩|⟨d,rfl⟩:=tri h;refine e (decide_eq_false λh=> ?_);simp at d;rcases d with d|d;have:=u9 d g.2 f.1;omega;have:=u9 d f.2 g.1;omega;simp at d;have j:=u7 d.1 g.2 f.1;have i:=u7 d.2 f.2 g.1;exact e (decide_eq_true (by omega)));(case neq=>obtain⟨d,rfl⟩|⟨d,rfl⟩:=tri h;refine e (show(!decide _)=I from ?_);rw[decide_eq_false];rfl;intro h;simp at d;rcases d with d|d;have:=u9 d g.2 f.1;omega;have:=u9 d f.2 g.1;omega;simp at d;have j:=u7 d.1 g.2 f.1;have i:=u7 d.2 f.2 g.1;refine e (show(!decide _)=Z from ?_);rw[decide_eq_true (by omega)];rfl);(case lss=>obtain⟨d,rfl⟩|⟨d,rfl⟩:=tri h;have:=u9 d g.2 f.1;exact e (decide_eq_true (by omega));have:=u7 d f.2 g.1;exact e (decide_eq_false (by omega)));(case leq=>obtain⟨d,rfl⟩|⟨d,rfl⟩:=tri h;have:=u7 d g.2 f.1;exact e (decide_eq_true (by omega));have:=u9 d f.2 g.1;exact e (decide_eq_false (by omega)));(case gtr=>obtain⟨d,rfl⟩|⟨d,rfl⟩:=tri h;have:=u7 d g.2 f.1;exact e (decide_eq_false (by omega));have:=u9 d f.2 g.1;exact e (decide_eq_true (by omega)));case geq=>obtain⟨d,rfl⟩|⟨d,rfl⟩:=tri h;have:=u9 d g.2 f.1;exact e (decide_eq_false (by omega));have:=u7 d f.2 g.1;exact e (decide_eq_true (by omega))
theorem jy{b:Bool}:∀{pc:List (Tm×Bool)},nA t pc=O b->(∀t b,(t,b)∈pc->bh ν t b)->bh ν t b|[],h,_=>by cases h|(u,c)::pc,h,a=>by unfold nA at h;split at h;grind[bj];exact jy h λt b d=>a t b (aS _ d)
def bS(lm:List fV):Prop:=∀e∈lm,∀ν:Nm,(∀t b,(t,b)∈e.hs->bh ν t b)->∀n,ai ν e.t=O (.n n)->decide (n≠0)=e.b
theorem rh:∀{pc:List (Tm×Bool)},(∀t b,(t,b)∈pc->bh ν t b)->EK t pc=I->∃n,ai ν t=O (.n n)|[],_,h=>by unfold EK at h;split at h;exact⟨_,rfl⟩;cases h|(u,c)::r,f,h=>by have i:=λt b h=>f t b (aS _ h);unfold EK at h;split at h;simp_all;rename_i o k a c' q j d;injection d with d e;injection d with d g;subst d e g;have⟨n,l,_⟩:=f _ _ (aU ..);have⟨x,y,p,m,_⟩:=dq.1 l;simp at h;rcases h with(h|h)|h;rw[<-bj h];grind;rw[<-bj h];grind;exact rh i h;rename_i j _ d;injection d with d e;subst e;exact rh i h
theorem Rs(a:∀t b,(t,b)∈pc->bh ν t b){b:Bool}(h:aan pc t b=I):bh ν t b:=by unfold aan at h;split at h;rename_i o k x y;simp at h;have⟨⟨l,j⟩,e⟩:=h;have⟨m,g⟩:=rh a l;have⟨n,f⟩:=rh a j;split at e;rename_i c i;(have d:c=b:=by simpa using e);subst d;have:=GJ i (qA a _ g) (qA a _ f);exact⟨_,dq.2 ⟨m,n,g,f,bI this⟩,by grind⟩;cases e;cases h
theorem pI(a:∀t b,(t,b)∈pc->bh ν t b):∀{l:List (Tm×Bool)},Bj pc l=I->∀t b,(t,b)∈l->bh ν t b|[],_,_,_,h=>by cases h|(u,c)::l,h,t,b,d=>by simp[Bj]at h;rcases aO.1 d with e|d;grind[jy,Rs];exact pI a h.2 t b d
theorem yn(a:∀t b,(t,b)∈pc->bh ν t b){b:Bool}(c:ai ν t=O (.n n)):∀{f:List fV},bS f->Z0 pc t f=O b->decide (n≠0)=b|[],_,h=>by cases h|e::r,i,h=>by unfold Z0 at h;have g:bS r:=λl d=>i l (aS _ d);split at h;exact yn a c g h;rename_i j;split at h;rename_i k;simp at h;subst h;rw[<-bj j]at c;exact i e (aU ..) ν (pI a k) n c;exact yn a c g h
theorem gC(c:Bool):∀n,ah.n n=jC c->decide (n≠0)=c:=λn h=>by injection h with h;simp_all
theorem qB{lm:List fV}(hl:bS lm)(rW:∀t b,(t,b)∈pc->bh ν t b):∀(d:Nat){t:Tm}{b:Bool}{n:Int},Km d lm pc t=O b->ai ν t=O (.n n)->decide (n≠0)=b|0,_,_,_,h,_=>by cases h|d+1,t,b,n,h,hn=>by unfold Km at h;split at h;(·rename_i c hc;simp at h;subst h;have⟨m,h1,h2⟩:=jy hc rW;rw[hn]at h1;simp_all);·split at h;(·grind[yn]);·split at h;(·simp_all[ai,pS]);(·grind[bI,dq,GJ,qA]);·split at h;(·rename_i a ha;rw[tn ha]at hn;have⟨m,h1,h2⟩:=Aa.1 hn;cases hd:Km d lm pc a with|none=>rw[hd]at h;cases h|some c=>rw[hd]at h;simp only[akK,aG]at h;subst h;have:=qB hl rW d hd h1;rw[gC _ _ h2,<-this];grind);·split at h;(·rename_i a c ha;rw[fq ha]at hn;have⟨x,y,h1,h2,h3⟩:=TR.1 hn;rw[gC _ _ h3];(have e1:(x !=0)=decide (x≠0):=by grind);(have e2:(y !=0)=decide (y≠0):=by grind);rw[e1,e2];cases hd:Km d lm pc a with|none=>(rw[hd]at h;cases ZK:Km d lm pc c with|none=>rw[ZK]at h;cases h|some q=>rw[ZK]at h;rw[qB hl rW d ZK h2];grind[aeF])|some p=>rw[hd]at h;rw[qB hl rW d hd h1];cases p;(·simp_all[aeF]);·cases ZK:Km d lm pc c with|none=>rw[ZK]at h;cases h|some q=>rw[ZK]at h;rw[qB hl rW d ZK h2];grind[aeF,aG]);·cases h
theorem ib{c:List fV}(e:bS c)(a:∀t b,(t,b)∈pc->bh ν t b){b:Bool}(h:MG c pc t=O b)(d:ai ν t=O (.n n)):decide (n≠0)=b:=qB e a 12 h d
theorem ri:∀(d:Nat){t:Tm}{b:Bool}{pc:List (Tm×Bool)},bh ν t b->(∀t b,(t,b)∈pc->bh ν t b)->∀u c,(u,c)∈KT d t b pc->bh ν u c|0,t,b,pc,h,g,u,c,f=>(by rcases aO.1 f with e|f;simp at e;obtain⟨rfl,rfl⟩:=e;exact h;grind)|d+1,t,b,pc,h,g,u,c,f=>by unfold KT at f;split at f;rename_i a s;rcases aO.1 f with e|f;simp_all;have⟨n,j,i⟩:=h;rw[tn s]at j;have⟨m,l,k⟩:=Aa.1 j;refine ri d ⟨m,l,?_⟩ g u c f;rw[gC _ _ k]at i;rw[<-i];grind;split at f;rename_i x y r;rcases aO.1 f with e|f;simp at e;obtain⟨rfl,rfl⟩:=e;exact h;have⟨n,j,i⟩:=h;rw[fq r]at j;have⟨p,q,l,k,v⟩:=TR.1 j;rw[gC _ _ v]at i;simp only[ay,bne_iff_ne]at i;exact ri d ⟨p,l,by simp[i.1]⟩ (λt b o=>ri d ⟨q,k,by simp[i.2]⟩ g t b o) u c f;grind
end
end
section
variable(Sp:Nat->ah->Prop)
mutual
def aK:Ty->ah->Prop|.any,d=>strip d=d|.bot,_=>False|.int,d=>∃z,d=.n z|.bool,d=>∃z,d=.n z/\0<=z/\z<=1|.MB,d=>∃z,d=.n z/\0<=z/\z<=Ka .i64|.num k,d=>∃z,d=.n z/\MA k<=z/\z<=Ka k|.str,d=>∃l,d=.s l|.row t,d=>∃xs,d=.l xs/\∀x∈xs,aK t x|.il ts,d=>∃xs,d=.l xs/\br ts xs|.map k v,d=>∃xs,d=.l xs/\∀x∈xs,∃a b,x=.l [a,b]/\aK k a/\aK v b|.sp n t,d=>aK t d/\Sp n d/\strip d=d
def br:List Ty->List ah->Prop|[],[]=>True|t::l,x::xs=>aK t x/\br l xs|_,_=>False
end
def rX:Prop:=∀n,Sp n (.l [])
variable{Sp}
theorem dS:∀{ts:List Ty}{xs:List ah},br Sp ts xs->ts.length=xs.length|[],[],_=>rfl|_::_,_::_,h=>by simp[dS h.2]|[],_::_,h=>by cases h|_::_,[],h=>by cases h
theorem eO:∀{ts:List Ty}{xs:List ah}{i:Nat}{t:Ty},br Sp ts xs->ts[i]? =O t->∃x,xs[i]? =O x/\aK Sp t x|[],_,_,_,_,h=>by simp at h|_::_,[],_,_,h,_=>by cases h|t::ts,x::xs,0,u,h,a=>by simp_all[br]|t::ts,x::xs,i+1,u,h,a=>by exact eO (i:=i) h.2 (by grind)
mutual
theorem mf:∀{t:Ty}{d:ah},aK Sp t d->aK Sp t (strip d)|.any,_,h=>by simp_all[aK]|.bot,_,h=>by cases h|.int,_,h=>by grind[aK,strip]|.bool,_,h=>by grind[aK,strip]|.MB,_,h=>by grind[aK,strip]|.num k,_,h=>by grind[aK,strip]|.str,_,h=>by grind[aK,strip]|.row t,_,h=>by simp[aK]at h⊢;obtain⟨xs,rfl,h⟩:=h;refine⟨xs.map strip,by simp[strip,dR],λx hx=> ?_⟩;obtain⟨y,hy,rfl⟩:=cA.1 hx;exact mf (h y hy)|.il ts,_,h=>by simp[aK]at h⊢;obtain⟨xs,rfl,h⟩:=h;exact⟨xs.map strip,by simp[strip,dR],AQ h⟩|.map k v,_,h=>by simp[aK]at h⊢;obtain⟨xs,rfl,h⟩:=h;refine⟨xs.map strip,by simp[strip,dR],λx hx=> ?_⟩;obtain⟨y,hy,rfl⟩:=cA.1 hx;obtain⟨a,b,rfl,ha,hb⟩:=h y hy;exact⟨strip a,strip b,by rfl,mf ha,mf hb⟩|.sp n t,_,h=>by simp_all[aK]
theorem AQ:∀{ts:List Ty}{xs:List ah},br Sp ts xs->br Sp ts (xs.map strip)|[],[],_=>by simp_all|_::_,_::_,h=>by exact⟨mf h.1,AQ h.2⟩|[],_::_,h=>by cases h|_::_,[],h=>by simp_all
end
mutual
theorem eZ:∀{t:Ty}{d:ah},aK Sp t d->strip d=d|.any,_,h=>by simpa[aK]using h|.bot,_,h=>by cases h|.int,_,h=>by grind[aK,strip]|.bool,_,h=>by grind[aK,strip]|.MB,_,h=>by grind[aK,strip]|.num k,_,h=>by grind[aK,strip]|.str,_,h=>by grind[aK,strip]|.row t,_,h=>by obtain⟨xs,rfl,h⟩:=h;have e:xs.map strip=xs:=kF (g:=id) (λx hx=>eZ (h x hx))|>.trans (List.map_id xs);simp[strip,dR,e]|.il ts,_,h=>by obtain⟨xs,rfl,h⟩:=h;simp[strip,dR,Lr h]|.map k v,_,h=>by obtain⟨xs,rfl,h⟩:=h;have e:xs.map strip=xs:=kF (g:=id) (λx hx=>by obtain⟨a,b,rfl,ha,hb⟩:=h x hx;simp[strip,j_,eZ ha,eZ hb])|>.trans (List.map_id xs);simp[strip,dR,e]|.sp n t,_,h=>by exact h.2.2
theorem Lr:∀{ts:List Ty}{xs:List ah},br Sp ts xs->xs.map strip=xs|[],[],_=>rfl|_::_,_::_,h=>by simp[eZ h.1,Lr h.2]|[],_::_,h=>by cases h|_::_,[],h=>by rfl
end
theorem s6{t:Ty}{d:ah}(h:aK Sp t d):aK Sp .any d:=by exact eZ h
theorem je:∀{t:Ty}{d:ah},aK Sp t d->aK Sp (sa t) d|.sp n t,d,h=>by simp[aK]at h;simp[sa];exact je h.1|.any,_,h|.bot,_,h|.int,_,h|.bool,_,h|.MB,_,h|.num _,_,h|.str,_,h|.row _,_,h|.il _,_,h|.map _ _,_,h=>by simpa only[sa]using h
theorem FL{a b:bu}(h:leK a b=I):MA b<=MA a/\Ka a<=Ka b:=by simp_all[leK]
theorem WQ(c:rX Sp):∀{u:Ty},(match sa u with|.row _=>I|.map _ _=>I|_=>Z)=I->aK Sp u (.l [])|.row t,_=>by simp_all[aK]|.map a b,_=>by simp_all[aK]|.sp n t,h=>by exact⟨WQ c (by simpa[sa]using h),c n,by rfl⟩|.any,h|.bot,h|.int,h|.bool,h|.MB,h|.num _,h|.str,h|.il _,h=>by simp only[sa]at h;cases h
theorem WR(k:bu):MA k<=0/\1<=Ka k:=by cases k<;>decide
mutual
theorem l7(hE:rX Sp):∀{t u:Ty},iT t u=I->∀{d:ah},aK Sp t d->aK Sp u d|.bot,_,_,_,h=>by cases h|.any,u,hs,d,h=>(by cases u<;>simp only[iT]at hs<;>first|(cases hs;done)|exact s6 h)|.int,u,hs,d,h=>(by cases u<;>simp only[iT]at hs<;>first|(cases hs;done)|exact h|exact s6 h|(simp only[aK]at h⊢;first|exact h|(have⟨z,hz,_⟩:=h;exact⟨z,hz⟩)))|.bool,u,hs,d,h=>by (cases u<;>simp only[iT]at hs<;>first|(cases hs;done)|exact h|exact s6 h|skip);(all_goals (simp[aK]at h⊢;obtain⟨z,rfl,h1,h2⟩:=h));exact⟨z,rfl⟩;exact⟨z,rfl,h1,by simp[Ka];omega⟩;grind[WR]|.MB,u,hs,d,h=>(by simp[aK,Ka]at h;obtain⟨z,rfl,h1,h2⟩:=h;cases u with|any=>rfl|int=>simp only[aK];simp_all|MB=>simp_all[aK,Ka]|num k=>(cases k with|i64=>grind[aK,MA,Ka]|u64=>grind[aK,MA,Ka]|_=>simp only[iT]at hs;cases hs)|_=>simp only[iT]at hs;cases hs)|.num j,u,hs,d,h=>by (cases u<;>simp only[iT]at hs<;>first|(cases hs;done)|exact h|exact s6 h|skip);(all_goals (simp[aK]at h⊢;obtain⟨z,rfl,h1,h2⟩:=h));simp_all;simp at hs;have:=FL hs.2;grind;have:=FL hs;grind|.str,u,hs,d,h=>(by cases u<;>simp only[iT]at hs<;>first|(cases hs;done)|exact h|exact s6 h|(simp only[aK]at h⊢;first|exact h|(have⟨z,hz,_⟩:=h;exact⟨z,hz⟩)))|.row t,u,hs,d,h=>(by cases u with|any=>exact s6 h|row v=>simp[iT]at hs;simp[aK]at h⊢;obtain⟨xs,rfl,h⟩:=h;exact⟨xs,rfl,λx hx=>l7 hE hs (h x hx)⟩|map a b=>(cases t<;>simp only[iT]at hs<;>try(cases hs;done));grind[aK]|sp n v=>(cases t<;>simp only[iT]at hs<;>try(cases hs;done));(have hd:d=.l []:=by simp only[aK]at h;obtain⟨xs,rfl,h⟩:=h;cases xs with|nil=>rfl|cons x xs=>grind[aU]);subst hd;exact⟨WQ hE hs,hE n,by rfl⟩|_=>simp only[iT]at hs;cases hs)|.il l,u,hs,d,h=>(by cases u with|any=>exact s6 h|il m=>simp[iT]at hs;simp[aK]at h⊢;obtain⟨xs,rfl,h⟩:=h;exact⟨xs,rfl,qC hE hs h⟩|_=>simp only[iT]at hs;cases hs)|.map a b,u,hs,d,h=>(by cases u with|any=>exact s6 h|map c e=>simp[iT]at hs;simp[aK]at h⊢;obtain⟨xs,rfl,h⟩:=h;refine⟨xs,rfl,λx hx=> ?_⟩;obtain⟨p,q,rfl,hp,hq⟩:=h x hx;exact⟨p,q,rfl,l7 hE hs.1 hp,l7 hE hs.2 hq⟩|_=>simp only[iT]at hs;cases hs)|.sp n t,u,hs,d,h=>by have h0:=h;simp[aK]at h;cases u with|any=>exact s6 h0|sp m v=>simp only[iT,ay]at hs;simp[aK];rw[<-an hs.1];exact⟨l7 hE hs.2 h.1,h.2⟩|_=>simp only[iT]at hs;exact l7 hE hs h.1
theorem qC(hE:rX Sp):∀{ts us:List Ty},xY ts us=I->∀{xs:List ah},br Sp ts xs->br Sp us xs|[],[],_,_,h=>h|t::ts,u::us,hs,[],h=>by cases h|t::ts,u::us,hs,x::xs,h=>by simp[xY]at hs;exact⟨l7 hE hs.1 h.1,qC hE hs.2 h.2⟩|[],_::_,hs,_,_=>by cases hs|_::_,[],hs,_,_=>by cases hs
end
theorem fM(a:rX Sp){t u v:Ty}(h:uh t u=O v){d:ah}:(aK Sp t d->aK Sp v d)/\(aK Sp u d->aK Sp v d):=by grind[uh,l7]
end
def afu:ah->Int|.n z=>z|_=>0
def rG:ah->Int|.l xs=>xs.length|.s l=>l.length|_=>0
mutual
def xP:ah->Int|.l xs=>sX xs|_=>0
def sX:List ah->Int|[]=>0|d::l=>max (max (rG d) (xP d)) (sX l)
end
def zU:ah->Option Int|.l [_,d]=>O (afu d)|_=>G
def Xx:List ah->Int|[]=>-1|d::l=>match zU d with|O z=>max z (Xx l)|G=>Xx l
def Xy:List ah->Int|[]=>0|d::l=>match zU d with|O z=>min z (Xy l)|G=>Xy l
def mxQ:ah->Int|.l xs=>Xx xs|_=>-1
def mnQ:ah->Int|.l xs=>Xy xs|_=>0
def im(k:Nat)(d:ah):Int:=match k with|0=>afu (strip d)|1=>rG (strip d)|2=>xP (strip d)|3=>mxQ (strip d)|4=>mnQ (strip d)|_=>0
theorem wM(k:Nat)(d:ah):im k (strip d)=im k d:=by unfold im;rw[dP]
theorem WS(d:ah):0<=rG d:=by cases d<;>simp[rG]
mutual
theorem afZ:∀d:ah,0<=xP d|.l xs=>by exact af0 xs|.n _|.s _|.v _|.r _ _ _=>by simp[xP]
theorem af0:∀l:List ah,0<=sX l|[]=>by simp[sX]|d::l=>by simp only[sX];have:=WS d;omega
end
theorem acS{l:List ah}{d:ah}(h:d∈l):rG d<=sX l/\xP d<=sX l:=by induction l with|nil=>cases h|cons a l b=>grind[sX]
theorem wt{l:List ah}{B:Int}(b:0<=B)(h:∀d∈l,rG d<=B/\xP d<=B):sX l<=B:=by induction l with|nil=>simpa[sX]using b|cons a l c=>grind[sX]
section
variable(U:Nat->List ah->Option ah)(ξ:Nat->Option ah)(γ:Int)
def MC(k:Nat)(t:Tm):Int:=if k=5 then γ else im k ((aD U ξ t).getD (.n 0))
def zp:List (Int×Nat×Tm)->Int|[]=>0|(c,k,t)::l=>c*MC U ξ γ k t+zp l
def ev(L:f_):Int:=L.c+zp U ξ γ L.l
variable{U ξ γ}
theorem P'(c:Int)(k:Nat)(t:Tm):∀l,zp U ξ γ (SQ c k t l)=c*MC U ξ γ k t+zp U ξ γ l|[]=>by rfl|(d,j,u)::l=>by unfold SQ;split;rename_i h;simp only[ay]at h;have e:=an h.1;have b:=bj h.2;subst e b;split;rename_i a;have a:=h_ a;simp[zp];(have:c*MC U ξ γ j u+d*MC U ξ γ j u=(c+d)*MC U ξ γ j u:=by rw[Int.add_mul]);rw[a,Int.zero_mul]at this;omega;grind[zp];simp[zp];rw[P' c k t l];omega
theorem P_(m:Int):∀l r,zp U ξ γ (SR m l r)=m*zp U ξ γ l+zp U ξ γ r|[],r=>by simp[SR,zp]|(c,k,t)::l,r=>by simp[SR];rw[P_ m l,P'];grind[zp]
theorem gh(a:f_)(m:Int)(b:f_):ev U ξ γ (a.plus m b)=ev U ξ γ a+m*ev U ξ γ b:=by grind[ev,f_.plus,P_]
theorem dh(n:Int):ev U ξ γ (gI n)=n:=by simp[ev,gI,zp]
theorem jW(k:Nat)(t:Tm):ev U ξ γ (eY k t)=MC U ξ γ k t:=by simp[ev,eY,zp]
theorem gq(a b:f_):ev U ξ γ (uC a b)=ev U ξ γ a - ev U ξ γ b:=by unfold uC;rw[gh];omega
theorem fY(a b:f_):ev U ξ γ (v_ a b)=ev U ξ γ a - ev U ξ γ b - 1:=by grind[v_,gh,dh]
def bU(U:Nat->List ah->Option ah)(ξ:Nat->Option ah)(L:f_):Prop:=∀p∈L.l,p.2.1=5∨∃d,aD U ξ p.2.2=O d
theorem Qa{c:Int}{k:Nat}{t:Tm}{p:Int×Nat×Tm}:∀{l},p∈SQ c k t l->(p.2.1=k/\p.2.2=t)∨∃q∈l,p.2=q.2|[],h=>by simp_all[SQ]|(d,j,u)::l,h=>by unfold SQ at h;split at h;grind[aU];rcases aO.1 h with rfl|h;simp_all;rcases Qa h with h|⟨q,e,b⟩;exact .inl h;grind
theorem Qb{m:Int}{p:Int×Nat×Tm}:∀{l r},p∈SR m l r->(∃q∈l,p.2=q.2)∨∃q∈r,p.2=q.2|[],r,h=>.inr ⟨p,h,rfl⟩|(c,k,t)::l,r,h=>by simp[SR]at h;obtain⟨q,b,a⟩|⟨q,b,a⟩:=Qb h;exact .inl ⟨q,aS _ b,a⟩;grind[Qa,aU]
theorem bU.plus{a b:f_}{m:Int}(g:bU U ξ a)(f:bU U ξ b):bU U ξ (a.plus m b):=λp e=>by obtain⟨q,d,c⟩|⟨q,d,c⟩:=Qb e;rw[c];exact f q d;rw[c];exact g q d
theorem bU.c(n:Int):bU U ξ (gI n):=λp a=>by cases a
theorem bU.a{k:Nat}{t:Tm}{d:ah}(h:aD U ξ t=O d):bU U ξ (eY k t):=λp b=>by simp_all[eY]
theorem bU.ge{a b:f_}(d:bU U ξ a)(c:bU U ξ b):bU U ξ (uC a b):=d.plus c
theorem bU.gt{a b:f_}(e:bU U ξ a)(d:bU U ξ b):bU U ξ (v_ a b):=(e.plus d).plus (bU.c _)
end
section
variable{a d i:ah}{ds:List ah}{l:List Tm}{o:Nat}{U:Nat->List ah->Option ah}{t:Tm}
mutual
def nw:Tm->Nat|.c _=>1|.x _=>1|.bin _ _ a b=>nw a+nw b+1|.conv _ a=>nw a+1|.f _ l=>j8 l+1
def j8:List Tm->Nat|[]=>0|t::l=>nw t+j8 l
end
section
variable{Sp:Nat->ah->Prop}{R:dI}{ξ:Nat->Option ah}{γ:Int}
theorem kY(h:aD U ξ (.f o l)=O d):∃ds,aA U ξ l=O ds/\U o ds=O d:=by grind[aD]
theorem abS(h:aA U ξ l=O ds):aD U ξ (.f o l)=U o ds:=by simp[aD,h]
theorem bf(h:aA U ξ (t::l)=O ds):∃d r,aD U ξ t=O d/\aA U ξ l=O r/\ds=d::r:=by grind[aA]
theorem KN{a b:Tm}{l:List Tm}{ds:List ah}(h:aA U ξ (a::b::l)=O ds):∃x y r,aD U ξ a=O x/\aD U ξ b=O y/\aA U ξ l=O r/\ds=x::y::r:=by grind[aA]
theorem Kb{a b c:Tm}{l:List Tm}{ds:List ah}(h:aA U ξ (a::b::c::l)=O ds):∃x y z r,aD U ξ a=O x/\aD U ξ b=O y/\aD U ξ c=O z/\aA U ξ l=O r/\ds=x::y::z::r:=by grind[aA]
theorem uD{a b c d e:Tm}{l:List Tm}{ds:List ah}(h:aA U ξ (a::b::c::d::e::l)=O ds):∃x y z u v r,aD U ξ a=O x/\aD U ξ b=O y/\aD U ξ c=O z/\aD U ξ d=O u/\aD U ξ e=O v/\aA U ξ l=O r/\ds=x::y::z::u::v::r:=by have⟨x,y,r,A,B,h,e⟩:=KN h;have⟨z,u,v,r,C,D,E,h,f⟩:=Kb h;exact⟨x,y,z,u,v,r,A,B,C,D,E,h,by rw[e,f]⟩
theorem kH{r:List ah}(b:aD U ξ t=O d)(a:aA U ξ l=O r):aA U ξ (t::l)=O (d::r):=by simp[aA,b,a]
theorem bR(h:aA U ξ []=O ds):ds=[]:=by simp_all[aA]
theorem vp:∀{l:List Tm}{ds:List ah},aA U ξ l=O ds->l.length=ds.length|[],_,h=>by rw[bR h];rfl|_::_,_,h=>by obtain⟨d,r,_,a,rfl⟩:=bf h;simp[vp a]
theorem uB(h:aF 1000 o=Z)(a:aF 100 o=Z):aQ R o ds=dD o ds:=by unfold aQ;rw[h,a]
theorem DW(xs:List ah):strip (.l xs)=.l (xs.map strip):=by simp[strip,dR]
theorem ni(xs:List ah):im 1 (.l xs)=xs.length:=by simp[im,DW,rG]
theorem ω(l:List UInt8):im 1 (.s l)=l.length:=by rfl
theorem oE(z:Int):im 0 (.n z)=z:=by rfl
theorem iC{k:Nat}(a:k≠5)(h:aD U ξ t=O d):MC U ξ γ k t=im k d:=by unfold MC;rw[if_neg a,h];rfl
theorem ajE:aD (aQ R) ξ (.f 23 [t])=(aD (aQ R) ξ t).map strip:=by simp[aD,aA];cases h:aD (aQ R) ξ t with|none=>rfl|some d=>rfl
theorem WT{k:Nat}:∀t:Tm,MC (aQ R) ξ γ k (uk t)=MC (aQ R) ξ γ k t|.f o l=>by unfold uk;split;(·rename_i t heq;injection heq with b a;subst b a;rw[WT t];unfold MC;rw[ajE];split;(·rfl);·cases h:aD (aQ R) ξ t with|none=>rfl|some d=>exact(wM k d).symm);·rfl|.c _=>rfl|.x _=>rfl|.bin ..=>rfl|.conv ..=>rfl
theorem WU:∀{t:Tm}{d:ah},aD (aQ R) ξ t=O d->∃d',aD (aQ R) ξ (uk t)=O d'|.f o l,d,h=>by unfold uk;split;(·rename_i t heq;injection heq with e b;subst e b;rw[ajE]at h;cases a:aD (aQ R) ξ t with|none=>rw[a]at h;cases h|some g=>exact WU a);simp_all|.c _,d,h=>⟨d,h⟩|.x _,d,h=>⟨d,h⟩|.bin ..,d,h=>⟨d,h⟩|.conv ..,d,h=>⟨d,h⟩
def Fu(U:Nat->List ah->Option ah)(ξ:Nat->Option ah):Tm->Prop|.bin .add k a b=>∀x y,aD U ξ a=O (.n x)->aD U ξ b=O (.n y)->k.wrap (x+y)=x+y|.bin .sub k a b=>∀x y,aD U ξ a=O (.n x)->aD U ξ b=O (.n y)->k.wrap (x - y)=x - y|.conv k a=>∀x,aD U ξ a=O (.n x)->k.wrap x=x|_=>True
def mF(U:Nat->List ah->Option ah)(ξ:Nat->Option ah)(N:List Tm):Prop:=∀t∈N,(∃d,aD U ξ t=O d)/\Fu U ξ t
theorem Ls{N:List Tm}(h:PG N t=I):t∈N:=by grind[PG,bj]
theorem pg{o:BinOp}{k:bu}{a b:Tm}(h:aD U ξ (.bin o k a b)=O d):∃x y,aD U ξ a=O (.n x)/\aD U ξ b=O (.n y)/\gH o k x y=O d:=by grind[aD]
theorem sr{k:bu}{a:Tm}(h:aD U ξ (.conv k a)=O d):∃x,aD U ξ a=O (.n x)/\d=.n (k.wrap x):=by grind[aD]
theorem af1{b:ah}(h:mq a b=O d):im 1 d=im 1 a+im 1 b:=by (cases a<;>simp only[mq]at h<;>try(cases h;done));(all_goals ((cases b<;>simp only[aG]at h<;>try(cases h;done));subst h));simp only[ω,cL];omega;simp_all[ni]
theorem acT{j:ah}(h:xv a i j=O d):im 1 d=im 0 j - im 0 i:=by (cases a<;>simp only[xv]at h<;>try(cases h;done));(cases i<;>simp only at h<;>try(cases h;done));(cases j<;>simp only at h<;>try(cases h;done));grind[ω,oE]
theorem af3{j:ah}(h:r_ a i j=O d):im 1 d=im 0 j - im 0 i:=by (cases a<;>simp only[r_]at h<;>try(cases h;done));(cases i<;>simp only at h<;>try(cases h;done));(cases j<;>simp only at h<;>try(cases h;done));grind[ni,oE]
theorem acU{n:ah}(h:qU a n=O d):im 1 d=im 0 n:=by (cases a<;>simp only[qU]at h<;>try(cases h;done));(cases n<;>simp only at h<;>try(cases h;done));grind[ni,oE]
theorem acV{z:ah}(h:qV a i z=O d):im 1 d=im 1 a:=by (cases a<;>simp only[qV]at h<;>try(cases h;done));(cases i<;>simp only at h<;>try(cases h;done));grind[ni]
theorem af4{n z:ah}(h:Ep n z=O d):im 1 d=im 0 n:=by (cases n<;>simp only[Ep]at h<;>try(cases h;done));grind[ni,oE]
theorem af5{u:ah}(h:Ks a i u=O d):im 1 d=im 1 a:=by (cases a<;>simp only[Ks]at h<;>try(cases h;done));(cases i<;>simp only at h<;>try(cases h;done));(cases u<;>simp only at h<;>try(cases h;done));grind[ni]
theorem acW{x:ah}(h:Bg a i x=O d):im 1 d=im 1 a:=by (cases a<;>simp only[Bg]at h<;>try(cases h;done));(cases i<;>simp only at h<;>try(cases h;done));grind[ni]
theorem FM{r:List ah}(h:om (a::i::r)=O d):∃(xs:List ah)(n off:Int)(cs:List ah)(e b:ah),a=.l xs/\i=.n n/\r=.n off::cs/\0<=n/\0<=off/\xs[n.toNat]? =O e/\uq e off.toNat cs=O b/\d=.l (xs.set n.toNat b):=by unfold om at h;split at h;rename_i xs n off cs heq;injection heq with g heq;injection heq with f c;subst g f c;grind;cases h
section
variable{N:List Tm}
theorem dV(u:mF (aQ R) ξ N):∀(n:Nat)(t:Tm),nw t<=n->∀{d:ah},aD (aQ R) ξ t=O d->ev (aQ R) ξ γ (bG N t)=im 0 d/\ev (aQ R) ξ γ (jZ N t)=im 1 d|0,t,s,_,_=>by cases t<;>simp only[nw]at s<;>omega|n+1,.c z,_,d,h=>by grind[aD,bG,dh,oE,jZ,jW,iC]|n+1,.x i,_,d,h=>by grind[bG,jW,jZ,iC]|n+1,.bin o k a b,s,d,h=>by (have D:nw a<=n/\nw b<=n:=by simp only[nw]at s;omega);refine⟨?_,?_⟩;(have base:ev (aQ R) ξ γ (eY 0 (.bin o k a b))=im 0 d:=by rw[jW];exact iC (by simp) h);simp[bG];split;rename_i Gz;have⟨_,F⟩:=u _ (Ls Gz);have⟨x,y,w,g,p⟩:=pg h;have j:=(dV u n a D.1 w).1;have m:=(dV u n b D.2 g).1;rw[oE]at j m;split;have:=F x y w g;simp[gH,dX]at p;rw[gh,j,m,<-p,oE,this];omega;have:=F x y w g;simp[gH,dX]at p;rw[gh,j,m,<-p,oE,this];omega;exact base;exact base;grind[jZ,jW,iC]|n+1,.conv k a,s,d,h=>by (have D:nw a<=n:=by simp only[nw]at s;omega);refine⟨?_,?_⟩;simp[bG];split;rename_i Gz;have⟨_,F⟩:=u _ (Ls Gz);obtain⟨x,w,rfl⟩:=sr h;have j:=(dV u n a D w).1;rw[j,oE,oE,F x w];rw[jW];exact iC (by simp) h;grind[jZ,jW,iC]|n+1,.f o l,s,d,h=>by (have J:ev (aQ R) ξ γ (eY 0 (.f o l))=im 0 d:=by rw[jW];exact iC (by simp) h);(have H:ev (aQ R) ξ γ (eY 1 (.f o l))=im 1 d:=by rw[jW];exact iC (by simp) h);have⟨ds,w,g⟩:=kY h;refine⟨?_,?_⟩;unfold bG;(split<;>rename_i heq<;>try(cases heq;done));rename_i t;injection heq with j m;subst j m;obtain⟨a,r,p,q,rfl⟩:=bf w;rw[bR q]at g;rw[uB rfl rfl]at g;(have D:nw t<=n:=by simp only[nw,j8]at s;omega);rw[(dV u n t D p).2];simp[dD,eI]at g;(cases a<;>simp only[jo,aG]at g<;>try(cases g;done));rw[<-g,oE,ω];rw[<-g,oE,ni];rename_i e v xs;rw[<-g,oE];simp[im,strip,rG,dR];rename_i t;injection heq with j m;subst j m;obtain⟨a,r,p,q,rfl⟩:=bf w;rw[bR q]at g;rw[uB rfl rfl]at g;(have D:nw t<=n:=by simp only[nw,j8]at s;omega);simp[dD,eI]at g;rw[(dV u n t D p).1,<-g,wM];simp_all;unfold jZ;(split<;>rename_i heq<;>try(cases heq;done));injection heq with j m;subst j m;rw[uB rfl rfl]at g;grind[dD,dh,ni,vp];injection heq with j m;subst j m;rw[uB rfl rfl]at g;grind[dD,dh,ni,vp];injection heq with j m;subst j m;obtain⟨a,b,r,p,B,A,rfl⟩:=KN w;rw[bR A,uB rfl rfl]at g;simp[dD,cn]at g;rw[gh,(dV u n _ (by simp only[nw,j8]at s;omega) p).2,(dV u n _ (by simp only[nw,j8]at s;omega) B).2,af1 g];omega;injection heq with j m;subst j m;obtain⟨a,b,c,r,p,B,E,C,rfl⟩:=Kb w;rw[bR C,uB rfl rfl]at g;simp[dD,bt]at g;rw[gh,(dV u n _ (by simp only[nw,j8]at s;omega) B).1,(dV u n _ (by simp only[nw,j8]at s;omega) E).1,acT g];omega;injection heq with j m;subst j m;obtain⟨a,r,p,q,rfl⟩:=bf w;rw[bR q,uB rfl rfl]at g;simp[dD,eI]at g;rw[(dV u n _ (by simp only[nw,j8]at s;omega) p).2,<-g,wM];injection heq with j m;subst j m;obtain⟨a,b,r,p,B,A,rfl⟩:=KN w;rw[uB rfl rfl]at g;simp[dD]at g;obtain⟨xs,z,off,cs,e,Iz,rfl,rfl,rfl,_,_,_,_,rfl⟩:=FM g;rw[(dV u n _ (by simp only[nw,j8]at s;omega) p).2,ni,ni,List.length_set];injection heq with j m;subst j m;obtain⟨a,b,r,p,B,A,rfl⟩:=KN w;rw[bR A,uB rfl rfl]at g;simp[dD,cn]at g;rw[(dV u n _ (by simp only[nw,j8]at s;omega) B).1,acU g];injection heq with j m;subst j m;obtain⟨a,b,c,r,p,B,E,C,rfl⟩:=Kb w;rw[bR C,uB rfl rfl]at g;simp[dD,bt]at g;rw[gh,(dV u n _ (by simp only[nw,j8]at s;omega) B).1,(dV u n _ (by simp only[nw,j8]at s;omega) E).1,af3 g];omega;injection heq with j m;subst j m;obtain⟨a,b,c,r,p,B,E,C,rfl⟩:=Kb w;rw[bR C,uB rfl rfl]at g;simp[dD,bt]at g;rw[(dV u n _ (by simp only[nw,j8]at s;omega) p).2,acV g];injection heq with j m;subst j m;obtain⟨a,b,r,p,B,A,rfl⟩:=KN w;rw[bR A,uB rfl rfl]at g;simp[dD,cn]at g;rw[(dV u n _ (by simp only[nw,j8]at s;omega) p).1,af4 g];injection heq with j m;subst j m;obtain⟨a,b,c,r,p,B,E,C,rfl⟩:=Kb w;rw[bR C,uB rfl rfl]at g;simp[dD,bt]at g;rw[(dV u n _ (by simp only[nw,j8]at s;omega) p).2,af5 g];injection heq with j m;subst j m;obtain⟨a,b,c,r,p,B,E,C,rfl⟩:=Kb w;rw[bR C,uB rfl rfl]at g;simp[dD,bt]at g;rw[(dV u n _ (by simp only[nw,j8]at s;omega) p).2,acW g];exact H
theorem a_(a:mF (aQ R) ξ N){z:Int}(h:aD (aQ R) ξ t=O (.n z)):ev (aQ R) ξ γ (bG N t)=z:=by rw[(dV a _ t (ba _) h).1,oE]
theorem iX(a:mF (aQ R) ξ N)(h:aD (aQ R) ξ t=O d):ev (aQ R) ξ γ (jZ N t)=im 1 d:=(dV a _ t (ba _) h).2
end
end
end
section
variable{d k:ah}{x y:Int}{ds:List ah}{l:List Tm}{us:List Ty}{t u v:Ty}
section
variable{Sp:Nat->ah->Prop}{R:dI}{ξ:Nat->Option ah}{γ:Int}
theorem Wu(k:bu)(n:Int):MA k<=k.wrap n/\k.wrap n<=Ka k:=by have:=ow k n;cases k<;>exact this
theorem yp(h:br Sp [] ds):ds=[]:=by grind[br]
theorem gv{l:List Ty}(h:br Sp (t::l) ds):∃d r,ds=d::r/\aK Sp t d/\br Sp l r:=by cases ds with|nil=>cases h|cons d r=>grind[br]
theorem ph(h:br Sp [t] ds):∃a,ds=[a]/\aK Sp t a:=by grind[yp,gv]
theorem eS(h:br Sp [t,u] ds):∃a b,ds=[a,b]/\aK Sp t a/\aK Sp u b:=by grind[gv,ph]
theorem iY(h:br Sp [t,u,v] ds):∃a b c,ds=[a,b,c]/\aK Sp t a/\aK Sp u b/\aK Sp v c:=by grind[gv,eS]
theorem dW(h:isNum t=I)(a:aK Sp t d):∃z,d=.n z:=by (cases t<;>simp only[isNum]at h<;>try(cases h;done));(all_goals simp[aK]at a);exact a;have⟨z,b,_⟩:=a;exact⟨z,b⟩;have⟨z,b,_⟩:=a;exact⟨z,b⟩;grind
theorem Qc(h:isNum t=I)(a:aK Sp t (.n x))(d:(0<=y/\y<=x)∨(x<=y/\y<=0)):aK Sp t (.n y):=by (cases t<;>simp only[isNum]at h<;>try(cases h;done));(all_goals simp only[aK,ah.n.injEq]at a⊢);exact⟨y,rfl⟩;exact⟨y,rfl,by omega,by omega⟩;exact⟨y,rfl,by omega,by omega⟩;grind[WR]
theorem wu(b:Bool):aK Sp .bool (jC b):=by grind[aK,jC]
theorem nY(h:Xu t=O u)(a:aK Sp t d):∃xs,d=.l xs/\∀x∈xs,aK Sp u x:=by have:=je a;grind[Xu,aK]
theorem mY{k:Ty}(h:O6 t=O (k,v))(c:aK Sp t d):∃xs,d=.l xs/\∀x∈xs,∃a b,x=.l [a,b]/\aK Sp k a/\aK Sp v b:=by have:=je c;grind[O6,aK]
theorem Aw{ts:List Ty}(h:aeW t=O ts)(a:aK Sp t d):∃xs,d=.l xs/\br Sp ts xs:=by have:=je a;grind[aeW,aK]
theorem WV(h:sa t=.str)(a:aK Sp t d):∃l,d=.s l:=by have:=je a;rw[h]at this;simpa[aK]using this
theorem nD{k:Ty}{xs:List ah}(h:∀x∈xs,∃a b,x=.l [a,b]/\aK Sp k a/\aK Sp v b):db xs=I:=by induction xs with|nil=>rfl|cons x xs c=>grind[db,aU]
theorem GK(c:rX Sp):∀{ts:List Ty}{u:Ty},Na ts=O u->∀{ds:List ah},br Sp ts ds->∀x∈ds,aK Sp u x|[],_,_,ds,h,x,a=>by rw[yp h]at a;cases a|t::ts,u,b,ds,h,x,a=>by obtain⟨d,r,rfl,g,f⟩:=gv h;simp[Na]at b;split at b;rename_i v e;rcases aO.1 a with rfl|a;exact(fM c b).1 g;exact(fM c b).2 (GK c e f x a);cases b
theorem Bu:∀{xs:List ah}{v:ah},gy k xs=O v->∃a,.l [a,v]∈xs/\strip k=strip a|[],_,h=>by cases h|x::xs,v,h=>by unfold gy at h;split at h;rename_i a b c;(have g:x=.l [a,b]:=by unfold jD at c;grind);split at h;grind[eD];have⟨f,e,d⟩:=Bu h;grind;have⟨f,e,d⟩:=Bu h;grind
theorem mR:∀{xs:List ah}{x:ah},x∈e_ k xs->x∈xs|[],_,h=>by cases h|d::xs,x,h=>by unfold e_ at h;split at h;split at h;exact aS _ (mR h);rcases aO.1 h with rfl|h;simp_all;exact aS _ (mR h);rcases aO.1 h with rfl|h;simp_all;exact aS _ (mR h)
theorem wv{v:ah}:∀{xs:List ah}{x:ah},x∈gf k v xs->x=.l [strip k,v]∨x∈xs|[],_,h=>by simp_all[gf]|d::xs,x,h=>by unfold gf at h;split at h;split at h;simp_all;rcases aO.1 h with rfl|h;simp_all;rcases wv h with h|h;exact .inl h;simp_all;rcases aO.1 h with rfl|h;simp_all;rcases wv h with h|h;exact .inl h;simp_all
theorem acu{t:Tm}{z:Int}(h:aA (aQ R) ξ [t,.c z]=O ds):∃a,ds=[a,.n z]:=by grind[bR,aD,bf]
theorem yq:∀{us:List Ty}{xs:List ah},br Sp us xs↔us.length=xs.length/\∀(i:Nat)(t:Ty)(x:ah),us[i]? =O t->xs[i]? =O x->aK Sp t x|[],[]=>by simp[br]|[],_::_=>by simp[br]|_::_,[]=>by simp[br]|u::us,x::xs=>by simp[br];rw[yq];constructor;grind;rintro⟨d,a⟩;exact⟨a 0 u x rfl rfl,d,λi t y c b=>a (i+1) t y (by grind) (by grind)⟩
theorem BL:∀{cs:List Ty}{j:Nat},K3 us j cs=I->∀(i:Nat)(t:Ty),cs[i]? =O t->∃u,us[j+i]? =O u/\iT t u=I|[],_,_,i,t,h=>by simp at h|c::cs,j,h,i,t,a=>by simp[K3]at h;cases i with|zero=>grind|succ i=>have⟨u,d,b⟩:=BL h.2 i t (by simpa using a);grind
theorem acX{cs:List Ty}{j:Nat}(h:K3 us j cs=I)(b:cs≠[]):j+cs.length<=us.length:=by (have a:cs.length - 1<cs.length:=by have:0<cs.length:=List.length_pos_iff.2 b;omega);have⟨u,c,_⟩:=BL h (cs.length - 1) cs[cs.length - 1] (aZ a);grind
theorem Yp(g:rX Sp){cs:List Ty}{j:Nat}(e:K3 us j cs=I)(b:br Sp cs ds){xs:List ah}(a:br Sp us xs)(f:j+ds.length<=xs.length):br Sp us (xs.take j++ds++xs.drop (j+ds.length)):=by refine yq.2 ⟨?_,λi t x d c=> ?_⟩;rw[dS a];simp only[cL,bD,dZ];omega;grind[dw,eh,yq,BL,l7]
section
variable{ts:List Ty}{T:Ty}{ds:List ah}{d:ah}
theorem af6(b:ty0 ts=O T)(a:br Sp ts ds)(h:eI jo ds=O d):aK Sp T d:=by unfold ty0 at b;grind[eI,aK,ph,BE]
theorem af7(i:rX Sp)(e:ty2 ts=O T)(c:br Sp ts ds)(h:cn mq ds=O d):aK Sp T d:=by unfold ty2 at e;(split at e<;>try(cases e;done));obtain⟨a,b,rfl,g,f⟩:=eS c;simp[cn]at h;have g:=je g;have f:=je f;grind[aK,mq,fM]
theorem af8(hT:ty4 ts=O T)(kQ:br Sp ts ds)(h:cn eqF ds=O d):aK Sp T d:=by unfold ty4 at hT;(split at hT<;>try(cases hT;done));obtain⟨a,b,rfl,ha,hb⟩:=eS kQ;simp[cn]at h;split at hT;simp at hT;subst hT;unfold eqF at h;grind[wu];cases hT
theorem af9(c:ty5 ts=O T)(e:br Sp ts ds)(h:cn (rD SN) ds=O d):aK Sp T d:=by unfold ty5 at c;(split at c<;>try(cases c;done));obtain⟨a,b,rfl,g,f⟩:=eS e;simp[cn]at h;split at c;simp at c;subst c;obtain⟨x,y,_,_,rfl⟩:=ep h;exact wu _;cases c
theorem af_(c:ty6 ts=O T)(f:br Sp ts ds)(h:cn (rD Z_) ds=O d):aK Sp T d:=by unfold ty6 at c;(split at c<;>try(cases c;done));obtain⟨a,b,rfl,j,k⟩:=eS f;simp[cn]at h;split at c;rename_i i;simp at c;subst c;obtain⟨x,y,rfl,rfl,rfl⟩:=ep h;simp at i;refine Qc i.1 j ?_;(have g:(0:Int)<2^y.toNat:=by have:(0:Nat)<2^y.toNat:=Nat.pow_pos (by omega);grind);rw[Int.fdiv_eq_ediv_of_nonneg _ (by omega)];rcases Int.le_total 0 x with e|e;exact .inl ⟨Ad e (by omega),Int.ediv_le_self _ e⟩;refine .inr ⟨?_,?_⟩;rw[Int.le_ediv_iff_mul_le g];have:x*2^y.toNat<=x*1:=Int.mul_le_mul_of_nonpos_left e (by omega);omega;(have l:x/2^y.toNat<1:=by rw[Int.ediv_lt_iff_lt_mul g];omega);omega;cases c
theorem Lt{f:Int->Int->ah}(g:∀x y,∃z,f x y=.n z)(c:ty7 ts=O T)(e:br Sp ts ds)(h:cn (rD f) ds=O d):aK Sp T d:=by unfold ty7 at c;(split at c<;>try(cases c;done));obtain⟨a,b,rfl,j,i⟩:=eS e;simp[cn]at h;split at c;simp at c;subst c;obtain⟨x,y,_,_,rfl⟩:=ep h;exact g x y;cases c
theorem aga(e:ty8 ts=O T)(f:br Sp ts ds)(h:bt xv ds=O d):aK Sp T d:=by unfold ty8 at e;(split at e<;>try(cases e;done));obtain⟨a,b,c,rfl,j,i,g⟩:=iY f;simp[bt]at h;split at e;simp at e;subst e;unfold xv at h;grind[aK];cases e
theorem agb(c:ty9 ts=O T)(e:br Sp ts ds)(h:cn ER ds=O d):aK Sp T d:=by unfold ty9 at c;(split at c<;>try(cases c;done));obtain⟨a,b,rfl,g,f⟩:=eS e;simp[cn]at h;split at c;simp at c;subst c;unfold ER at h;(split at h<;>try(cases h;done));(split at h<;>try(cases h;done));(split at h<;>try(cases h;done));rw[bZ]at h;obtain⟨x,_,rfl⟩:=h;simp only[aK,MA,Ka];have:=x.toNat_lt;grind;cases c
theorem acY(hT:aeX ts=O T)(kQ:br Sp ts ds)(h:eI O4 ds=O d):aK Sp T d:=by unfold aeX at hT;(split at hT<;>try(cases hT;done));obtain⟨a,rfl,ha⟩:=ph kQ;simp[eI]at h;split at hT;simp at hT;subst hT;unfold O4 at h;grind[wu];cases hT
theorem acZ(c:rX Sp)(b:ai_ ts=O T)(a:br Sp ts ds):aK Sp T (.l ds):=by grind[ai_,aK,GK]
theorem ac0(hT:aeY ts=O T)(kQ:br Sp ts ds)(h:cn Dm ds=O d):aK Sp T d:=by unfold aeY at hT;(split at hT<;>try(cases hT;done));obtain⟨a,b,rfl,ha,hb⟩:=eS kQ;simp[cn]at h;split at hT;simp at hT;subst hT;unfold Dm at h;grind[wu];cases hT
theorem ac1(l:rX Sp)(g:aeZ ts=O T)(i:br Sp ts ds)(h:bt sV ds=O d):aK Sp T d:=by unfold aeZ at g;(split at g<;>try(cases g;done));obtain⟨a,b,c,rfl,r,x,q⟩:=iY i;simp[bt]at h;split at g;(·rename_i k v o;obtain⟨xs,rfl,j⟩:=mY o r;simp[sV,nD j]at h;cases f:gy b xs with|none=>rw[f]at h;rw[<-h];exact(fM l g).2 q|some w=>rw[f]at h;rw[<-h];have⟨p,n,_⟩:=Bu f;have⟨u,t,e,_,m⟩:=j _ n;injection e with e;injection e with y e;injection e with s e;subst s;exact(fM l g).1 m);·cases g
theorem ac2(g:rX Sp)(e:ae0 ts=O T)(i:br Sp ts ds)(h:bt uI ds=O d):aK Sp T d:=by unfold ae0 at e;(split at e<;>try(cases e;done));obtain⟨a,b,c,rfl,u,t,s⟩:=iY i;simp[bt]at h;split at e;rename_i k v r;obtain⟨xs,rfl,m⟩:=mY r u;split at e;rename_i y w l j;simp at e;subst e;simp[uI,nD m]at h;subst h;refine⟨_,rfl,λx f=> ?_⟩;rcases wv f with rfl|f;exact⟨_,_,rfl,(fM g l).2 (mf t),(fM g j).2 s⟩;obtain⟨p,q,rfl,o,n⟩:=m _ (mR f);exact⟨p,q,rfl,(fM g l).1 o,(fM g j).1 n⟩;cases e;cases e
theorem ac3(c:ae1 ts=O T)(f:br Sp ts ds)(h:cn Kr ds=O d):aK Sp T d:=by unfold ae1 at c;(split at c<;>try(cases c;done));obtain⟨a,b,rfl,j,l⟩:=eS f;simp[cn]at h;split at c;rename_i k v i;obtain⟨xs,rfl,g⟩:=mY i j;simp at c;subst c;simp[Kr,nD g]at h;subst h;exact⟨_,rfl,λx e=>g x (mR e)⟩;cases c
theorem ac4(c:ae2 l ts=O T)(e:br Sp ts ds)(f:aA (aQ R) ξ l=O ds)(h:cn zF ds=O d):aK Sp T d:=by unfold ae2 at c;(split at c<;>try(cases c;done));obtain⟨a,b,rfl,i,g⟩:=eS e;simp[cn]at h;split at c;grind[zF,fO,acu,Aw,eO];cases c
theorem ac5(c:ae3 ts=O T)(b:br Sp ts ds)(h:eI (λa=>O (strip a)) ds=O d):aK Sp T d:=by unfold ae3 at c;grind[eI,ph,mf]
theorem WW(b:Xu t=O u)(c:aK Sp t d){ys:List ah}(a:∀xs,d=.l xs->∀y∈ys,y∈xs):aK Sp (.row u) (.l ys):=by grind[aK,nY]
theorem ac6(b:ae5 ts=O T)(a:br Sp ts ds)(h:cn qU ds=O d):aK Sp T d:=by unfold ae5 at b;grind[cn,eS,lV,WW]
theorem ac7(e:ae6 ts=O T)(f:br Sp ts ds)(h:bt r_ ds=O d):aK Sp T d:=by unfold ae6 at e;(split at e<;>try(cases e;done));obtain⟨a,b,c,rfl,k,j,i⟩:=iY f;simp[bt]at h;split at e;rename_i u g _;simp at e;subst e;unfold r_ at h;grind[WW,jX];cases e
theorem ac8(p:rX Sp)(f:ae7 ts=O T)(i:br Sp ts ds)(h:bt qV ds=O d):aK Sp T d:=by unfold ae7 at f;(split at f<;>try(cases f;done));obtain⟨a,b,c,rfl,o,r,q⟩:=iY i;simp[bt]at h;split at f;rename_i u n _;split at f;rename_i v l;simp at f;subst f;obtain⟨xs,m,rfl,_,_,_,rfl⟩:=kh h;have⟨j,e,k⟩:=nY n o;simp at e;subst e;refine⟨_,rfl,λy g=> ?_⟩;rcases dx.1 g with g|g;exact(fM p l).1 (k y (iZ g));grind[fM];cases f;cases f
theorem ac9(b:ae8 ts=O T)(a:br Sp ts ds)(h:cn Ep ds=O d):aK Sp T d:=by unfold ae8 at b;grind[cn,aK,eS,pP]
theorem ac_(k:rX Sp)(f:ae9 ts=O T)(e:br Sp ts ds)(h:bt Ks ds=O d):aK Sp T d:=by unfold ae9 at f;(split at f<;>try(cases f;done));obtain⟨a,b,c,rfl,j,i,g⟩:=iY e;grind[bt,aK,pQ,nY,fM]
theorem DX{t u:Tm}{z:Int}(h:aA (aQ R) ξ (t::u::.c z::l)=O ds):∃a b r,ds=a::b::.n z::r/\aA (aQ R) ξ l=O r:=by grind[aD,bf]
theorem ada(f:ae_ l ts=O T)(i:br Sp ts ds)(q:aA (aQ R) ξ l=O ds)(h:bt lX ds=O d):aK Sp T d:=by unfold ae_ at f;(split at f<;>first|(cases f;done)|skip);obtain⟨a,b,c,rfl,v,D,t⟩:=iY i;simp only[bt]at h;split at f;rename_i u B A j r _;have⟨F,E,C,e,_⟩:=DX q;injection e with z e;injection e with y e;injection e with w e;subst z y w;split at f;rename_i us p;obtain⟨xs,m,n,x,rfl,rfl,e,_,_,o,t⟩:=kg h;injection e with e;subst e;have⟨k,e,g⟩:=nY r v;injection e with e;subst e;obtain⟨cs,rfl,s⟩:=Aw p (g x (bE o));grind[fO,eO];cases f;cases f
theorem Qd(i:rX Sp){f:Int->Int->ah}(j:∀x y,f x y=.n x∨f x y=.n y)(c:afa ts=O T)(g:br Sp ts ds)(h:cn (rD f) ds=O d):aK Sp T d:=by unfold afa at c;(split at c<;>try(cases c;done));obtain⟨a,b,rfl,l,k⟩:=eS g;simp[cn]at h;split at c;obtain⟨x,y,rfl,rfl,rfl⟩:=ep h;rcases j x y with e|e;rw[e];exact(fM i c).1 l;rw[e];exact(fM i c).2 k;cases c
theorem adb(b:afb ts=O T)(a:br Sp ts ds)(h:cn xw ds=O d):aK Sp T d:=by unfold afb at b;grind[cn,eS,nI,nY]
theorem ade(l:rX Sp)(f:afc ts=O T)(j:br Sp ts ds)(h:bt Bg ds=O d):aK Sp T d:=by unfold afc at f;(split at f<;>try(cases f;done));obtain⟨a,b,c,rfl,q,r,p⟩:=iY j;simp[bt]at h;split at f;rename_i u o _;split at f;rename_i v k;simp at f;subst f;obtain⟨xs,m,rfl,_,_,_,rfl⟩:=pO h;have⟨n,e,i⟩:=nY o q;simp at e;subst e;refine⟨_,rfl,λy g=> ?_⟩;rcases mO g with g|rfl;exact(fM l k).1 (i y g);exact(fM l k).2 p;cases f;cases f
theorem adf(K:rX Sp)(f:ae4 l ts=O T)(p:br Sp ts ds)(w:aA (aQ R) ξ l=O ds)(h:om ds=O d):aK Sp T d:=by unfold ae4 at f;(split at f<;>try(cases f;done));obtain⟨a,r,rfl,A,k⟩:=gv p;obtain⟨b,r,rfl,J,i⟩:=gv k;obtain⟨c,r,rfl,Iz,t⟩:=gv i;split at f;rename_i us E D j Gz x _;have⟨N,M,F,e,_⟩:=DX w;injection e with m e;injection e with q e;injection e with B e;subst m q B e;split at f;rename_i H;simp at f;subst f;obtain⟨xs,z,off,cs,C,L,rfl,rfl,e,_,_,v,s,rfl⟩:=FM h;injection e with m q;injection m with m;subst m q;have⟨u,e,g⟩:=nY x A;simp at e;subst e;rw[aK];refine⟨_,rfl,λy n=> ?_⟩;rcases mO n with n|rfl;exact g y n;have o:=g C (bE v);rw[aK]at o⊢;grind[uq,ei,Yp];cases f;cases f
theorem adg(b:afd ts=O T)(g:br Sp ts ds)(h:eI xX ds=O d):aK Sp T d:=by unfold afd at b;(split at b<;>try(cases b;done));obtain⟨a,rfl,o⟩:=ph g;simp[eI]at h;split at b;rename_i k v m;split at b;rename_i u t n A;simp at b;subst b;obtain⟨xs,rfl,rfl⟩:=rf h;have⟨i,e,l⟩:=mY m o;simp at e;subst e;rw[aK];refine⟨_,rfl,λy j=> ?_⟩;obtain⟨p,q,z,rfl,c,_⟩:=yh j;have⟨x,w,e,f,B⟩:=l _ c;injection e with e;injection e with s e;injection e with r e;subst s r;have f:=je f;rw[n,aK]at f;simp_all[aK,br];cases b;cases b
theorem agc(hE:rX Sp){o:Nat}(hT:tyF o l ts=O T)(kQ:br Sp ts ds)(hl:aA (aQ R) ξ l=O ds)(h:aQ R o ds=O d):aK Sp T d:=by unfold tyF at hT;(split at hT<;>try(cases hT;done));(all_goals rw[uB rfl rfl]at h);(all_goals simp only[dD]at h);exact af6 hT kQ h;exact af7 hE hT kQ h;exact af8 hT kQ h;exact af9 hT kQ h;exact af_ hT kQ h;exact Lt (λx y=>⟨_,rfl⟩) hT kQ h;exact Lt (λx y=>⟨_,rfl⟩) hT kQ h;exact aga hT kQ h;exact agb hT kQ h;exact acY hT kQ h;grind[acZ];simp at h;subst h;injection hT with hT;grind[aK];exact ac0 hT kQ h;exact ac1 hE hT kQ h;exact ac2 hE hT kQ h;exact ac3 hT kQ h;unfold aja at hT;grind[cn,eS,wu];exact ac4 hT kQ hl h;exact ac5 hT kQ h;exact adf hE hT kQ hl h;exact ac6 hT kQ h;exact ac7 hT kQ h;exact ac8 hE hT kQ h;exact ac9 hT kQ h;exact ac_ hE hT kQ h;exact ada hT kQ hl h;grind[Qd];exact Qd hE (λx y=>by grind) hT kQ h;exact adb hT kQ h;exact ade hE hT kQ h;exact adg hT kQ h
end
def jc(Sp:Nat->ah->Prop)(ξ:Nat->Option ah)(Γ:Tr Ty):Prop:=∀i T,Γ.get i=O T->∃d,ξ i=O d/\aK Sp T d
variable{Γ:Tr Ty}
theorem agd{o:BinOp}{k:bu}(a:XQ o=I)(h:gH o k x y=O d):∃m,d=.n (k.wrap m):=by (cases o<;>simp only[XQ]at a<;>try(cases a;done));(all_goals simp only[gH,dX]at h);(case quo=>(split at h<;>rename_i heq<;>split at heq<;>first|(cases heq;done)|(cases h;done)|skip);grind);all_goals grind
theorem age{o:BinOp}{k:bu}(a:K4 o=I)(h:gH o k x y=O d):aK Sp .bool d:=by (cases o<;>simp only[K4]at a<;>try(cases a;done));all_goals (simp only[gH,dX,aG]at h;rw[<-h];exact wu _)
theorem Yq(x y:Int):(0<=x.tmod y/\x.tmod y<=x)∨(x<=x.tmod y/\x.tmod y<=0):=by (have c:(x.tmod y).natAbs<=x.natAbs:=by rw[Int.natAbs_tmod];exact Nat.mod_le _ _);rcases Int.le_total 0 x with b|b;have:=Int.tmod_nonneg y b;omega;have:=Int.tmod_nonneg (a:= -x) y (by omega);rw[Int.neg_tmod]at this;omega
mutual
theorem mS(hE:rX Sp)(ub:jc Sp ξ Γ):∀{t:Tm}{T:Ty}{d:ah},Ec Γ t=O T->aD (aQ R) ξ t=O d->aK Sp T d|.c n,T,d,hT,h=>by simp[Ec]at hT;simp[aD]at h;subst hT h;unfold akQ;split;rename_i h0;have h0:=of_decide_eq_true h0;split;rename_i h1;have h1:=of_decide_eq_true h1;split;rename_i h2;rw[aK];exact⟨n,rfl,h0,of_decide_eq_true h2⟩;rw[aK];exact⟨n,rfl,h0,by exact h1⟩;split;rename_i h1;rw[aK];exact⟨n,rfl,h0,by exact of_decide_eq_true h1⟩;split;rename_i h1;rw[aK];exact⟨n,rfl,h0,by exact of_decide_eq_true h1⟩;split;rename_i h1;rw[aK];exact⟨n,rfl,h0,by exact of_decide_eq_true h1⟩;rw[aK];exact⟨n,rfl⟩;grind[aK,MA,Ka]|.x i,T,d,hT,h=>by simp[Ec]at hT;simp[aD]at h;have⟨d',h1,h2⟩:=ub i T hT;rw[h]at h1;simp_all|.bin o k a b,T,d,hT,h=>by have⟨x,y,h1,h2,h3⟩:=pg h;simp[Ec]at hT;split at hT;rename_i t u ht hu;split at hT;rename_i hn;simp at hn;split at hT;grind[age];split at hT;rename_i ha;simp at hT;subst hT;obtain⟨m,rfl⟩:=agd ha h3;rw[aK];exact⟨_,rfl,(Wu k m).1,(Wu k m).2⟩;split at hT;simp at hT;subst hT;simp[gH,dX]at h3;(split at h3<;>rename_i heq<;>split at heq<;>first|(cases heq;done)|(cases h3;done)|skip);injection heq with heq;injection heq with e1 e2;simp at h3;rw[<-h3,<-e2];exact Qc hn.1 (mS hE ub ht h1) (Yq x y);cases hT;cases hT;cases hT|.conv k a,T,d,hT,h=>by obtain⟨x,h1,rfl⟩:=sr h;simp[Ec]at hT;split at hT;split at hT;simp at hT;subst hT;rw[aK];exact⟨_,rfl,(Wu k x).1,(Wu k x).2⟩;cases hT;cases hT|.f o l,T,d,hT,h=>by have⟨ds,h1,h2⟩:=kY h;simp[Ec]at hT;split at hT;rename_i ts hts;exact agc hE hT (vq hE ub hts h1) h1 h2;cases hT
theorem vq(hE:rX Sp)(ub:jc Sp ξ Γ):∀{l:List Tm}{ts:List Ty}{ds:List ah},O7 Γ l=O ts->aA (aQ R) ξ l=O ds->br Sp ts ds|[],ts,ds,hT,h=>by grind[O7,bR,br]|t::l,ts,ds,hT,h=>by obtain⟨d,r,h1,h2,rfl⟩:=bf h;simp[O7]at hT;split at hT;rename_i a b ha hb;simp at hT;subst hT;exact⟨mS hE ub ha h1,vq hE ub hb h2⟩;cases hT
end
end
end
section
variable{a:ah}
section
variable{Sp:Nat->ah->Prop}{R:dI}{ξ:Nat->Option ah}{γ:Int}{N:List Tm}
theorem x8{t u:Ty}(b:Xu t=O u)(c:aK Sp t a):∃xs,a=.l xs:=by grind[nY]
theorem tv1{t:Tm}(h:aA (aQ R) ξ [t]=O [a]):aD (aQ R) ξ t=O a:=by grind[bf]
theorem tvs{t:Tm}{l:List Tm}{r:List ah}(h:aA (aQ R) ξ (t::l)=O (a::r)):aD (aQ R) ξ t=O a/\aA (aQ R) ξ l=O r:=by grind[bf]
section
variable{ts:List Ty}{T:Ty}{ds:List ah}{l:List Tm}
theorem Nd{P:Tm->Tm->Prop}{b:ah}(h:aA (aQ R) ξ l=O [a,b]):∃t u,l=[t,u]/\aD (aQ R) ξ t=O a/\aD (aQ R) ξ u=O b:=by have c:=vp h;match l,c with|[t,u],_=>grind[tvs,tv1]
theorem Fv{b c:ah}(h:aA (aQ R) ξ l=O [a,b,c]):∃t u v,l=[t,u,v]/\aD (aQ R) ξ t=O a/\aD (aQ R) ξ u=O b/\aD (aQ R) ξ v=O c:=by have d:=vp h;match l,d with|[t,u,v],_=>have⟨f,e⟩:=tvs h;grind[tvs,tv1]
theorem X5{f:Int->Int->ah}{t u:Ty}(c:(isNum t&&isNum u)=I)(e:br Sp [t,u] ds):∃d,cn (rD f) ds=O d:=by obtain⟨a,b,rfl,h,g⟩:=eS e;simp at c;obtain⟨x,rfl⟩:=dW c.1 h;obtain⟨y,rfl⟩:=dW c.2 g;exact⟨_,rfl⟩
theorem WX(q:mF (aQ R) ξ N){o:Nat}(f:tyF o l ts=O T)(g:br Sp ts ds)(C:aA (aQ R) ξ l=O ds)(m:∀L∈Sj N o l,0<=ev (aQ R) ξ γ L):∃d,aQ R o ds=O d:=by unfold tyF at f;(split at f<;>first|(cases f;done)|skip);(all_goals rw[uB rfl rfl]);(all_goals simp only[dD]);(·unfold ty0 at f;(split at f<;>first|(cases f;done)|skip);obtain⟨a,rfl,h⟩:=ph g;have h:=je h;simp only[eI];(split at f<;>first|(cases f;done)|skip);all_goals (rename_i e;rw[e,aK]at h;first|((obtain⟨x,rfl,_⟩:=h;exact⟨_,rfl⟩))|((obtain⟨x,rfl⟩:=h;exact⟨_,rfl⟩))));unfold ty2 at f;(split at f<;>first|(cases f;done)|skip);obtain⟨a,b,rfl,h,i⟩:=eS g;have h:=je h;have i:=je i;simp only[cn];(split at f<;>first|(cases f;done)|skip);rename_i Gz F;rw[Gz,aK]at h;rw[F,aK]at i;obtain⟨x,rfl⟩:=h;obtain⟨y,rfl⟩:=i;exact⟨_,rfl⟩;rename_i Gz F;rw[Gz,aK]at h;rw[F,aK]at i;obtain⟨x,rfl,_⟩:=h;obtain⟨y,rfl,_⟩:=i;exact⟨_,rfl⟩;unfold ty4 at f;(split at f<;>first|(cases f;done)|skip);obtain⟨a,b,rfl,h,i⟩:=eS g;have h:=je h;have i:=je i;simp only[cn];(split at f<;>first|(cases f;done)|skip);rename_i Gz F;rw[Gz,aK]at h;rw[F,aK]at i;obtain⟨x,rfl⟩:=h;obtain⟨y,rfl⟩:=i;exact⟨_,rfl⟩;unfold ty5 at f;(split at f<;>first|(cases f;done)|skip);(split at f<;>first|(cases f;done)|skip);exact X5 ‹_› g;unfold ty6 at f;(split at f<;>first|(cases f;done)|skip);(split at f<;>first|(cases f;done)|skip);exact X5 ‹_› g;unfold ty7 at f;(split at f<;>first|(cases f;done)|skip);(split at f<;>first|(cases f;done)|skip);exact X5 ‹_› g;unfold akR at f;(split at f<;>first|(cases f;done)|skip);(split at f<;>first|(cases f;done)|skip);exact X5 ‹_› g;unfold ty8 at f;(split at f<;>first|(cases f;done)|skip);obtain⟨a,b,c,rfl,h,i,E⟩:=iY g;obtain⟨t,u,v,rfl,s,w,J⟩:=Fv C;(split at f<;>first|(cases f;done)|skip);rename_i e n;simp only[ay]at n;obtain⟨x,rfl⟩:=WV e h;obtain⟨y,rfl⟩:=dW n.1 i;obtain⟨z,rfl⟩:=dW n.2 E;simp only[Sj,aO,dv,or_false,forall_eq_or_imp,forall_eq,gq,a_ q w,a_ q J,iX q s,ω]at m;simp_all[bt,xv];unfold ty9 at f;(split at f<;>first|(cases f;done)|skip);obtain⟨a,b,rfl,h,i⟩:=eS g;obtain⟨t,u,rfl,s,w⟩:=Nd (P:=λ_ _=>True) C;(split at f<;>first|(cases f;done)|skip);rename_i e n;obtain⟨x,rfl⟩:=WV e h;obtain⟨y,rfl⟩:=dW n i;simp only[Sj,aO,dv,or_false,forall_eq_or_imp,forall_eq,fY,a_ q w,iX q s,ω]at m;simp only[cn,ER];rw[if_pos m.1,aZ (by omega)];simp_all;unfold aeX at f;(split at f<;>first|(cases f;done)|skip);obtain⟨a,rfl,h⟩:=ph g;(split at f<;>first|(cases f;done)|skip);obtain⟨x,rfl⟩:=dW ‹_› h;exact⟨_,rfl⟩;simp_all;simp_all;unfold aeY at f;(split at f<;>first|(cases f;done)|skip);obtain⟨a,b,rfl,h,i⟩:=eS g;(split at f<;>first|(cases f;done)|skip);rename_i p D;obtain⟨xs,rfl,B⟩:=mY (k:=p.1) (v:=p.2) D h;simp only[cn,Dm,nD B];simp_all;unfold aeZ at f;(split at f<;>first|(cases f;done)|skip);obtain⟨a,b,c,rfl,h,i,E⟩:=iY g;(split at f<;>first|(cases f;done)|skip);rename_i D;obtain⟨xs,rfl,B⟩:=mY D h;simp only[bt,sV,nD B];simp_all;unfold ae0 at f;(split at f<;>first|(cases f;done)|skip);obtain⟨a,b,c,rfl,h,i,E⟩:=iY g;(split at f<;>first|(cases f;done)|skip);rename_i D;obtain⟨xs,rfl,B⟩:=mY D h;simp only[bt,uI,nD B];simp_all;unfold ae1 at f;(split at f<;>first|(cases f;done)|skip);obtain⟨a,b,rfl,h,i⟩:=eS g;(split at f<;>first|(cases f;done)|skip);rename_i D;obtain⟨xs,rfl,B⟩:=mY D h;simp only[cn,Kr,nD B];simp_all;unfold aja at f;(split at f<;>first|(cases f;done)|skip);obtain⟨a,b,rfl,_,_⟩:=eS g;exact⟨_,rfl⟩;unfold ae2 at f;(split at f<;>first|(cases f;done)|skip);obtain⟨a,b,rfl,h,i⟩:=eS g;(split at f<;>first|(cases f;done)|skip);rename_i us t j D;have⟨a',e⟩:=acu C;injection e with Gz e;injection e with F e;subst Gz F;obtain⟨xs,rfl,B⟩:=Aw D h;have⟨x,s,_⟩:=eO B f;simp_all[cn,zF,fO];unfold ae3 at f;(split at f<;>first|(cases f;done)|skip);obtain⟨a,rfl,h⟩:=ph g;exact⟨_,rfl⟩;unfold ae4 at f;(split at f<;>first|(cases f;done)|skip);obtain⟨a,r,rfl,h,Q⟩:=gv g;obtain⟨b,r,rfl,i,Oz⟩:=gv Q;obtain⟨c,r,rfl,E,M⟩:=gv Oz;(split at f<;>first|(cases f;done)|skip);rename_i us t1 t2 j lr A n;have⟨a',b',r',e,_⟩:=DX C;injection e with Gz e;injection e with F e;injection e with Zz e;subst Gz F Zz e;(split at f<;>first|(cases f;done)|skip);rename_i hs;obtain⟨xs,rfl,H⟩:=nY A h;obtain⟨z,rfl⟩:=dW n i;have⟨s,Iz⟩:=tvs C;have⟨w,_⟩:=tvs Iz;simp only[Sj,aO,dv,or_false,forall_eq_or_imp,forall_eq,fY,a_ q w,iX q s,ni]at m;(have S:z.toNat<xs.length:=by omega);have B:xs[z.toNat]? =O xs[z.toNat]:=aZ S;have K:=H _ (bE B);rw[aK]at K;have⟨es,X,V⟩:=K;have U:=acX hs (by simp);rw[dS M,dS V]at U;simp_all[om,uq];unfold ae5 at f;(split at f<;>first|(cases f;done)|skip);obtain⟨a,b,rfl,h,i⟩:=eS g;obtain⟨t,u,rfl,s,w⟩:=Nd (P:=λ_ _=>True) C;(split at f<;>first|(cases f;done)|skip);rename_i A n;obtain⟨xs,rfl⟩:=x8 A h;obtain⟨y,rfl⟩:=dW n i;simp only[Sj,aO,dv,or_false,forall_eq_or_imp,forall_eq,gq,a_ q w,iX q s,ni]at m;simp_all[cn,qU];unfold ae6 at f;(split at f<;>first|(cases f;done)|skip);obtain⟨a,b,c,rfl,h,i,E⟩:=iY g;obtain⟨t,u,v,rfl,s,w,J⟩:=Fv C;(split at f<;>first|(cases f;done)|skip);rename_i A n;simp only[ay]at n;obtain⟨xs,rfl⟩:=x8 A h;obtain⟨y,rfl⟩:=dW n.1 i;obtain⟨z,rfl⟩:=dW n.2 E;simp only[Sj,aO,dv,or_false,forall_eq_or_imp,forall_eq,gq,a_ q w,a_ q J,iX q s,ni]at m;simp_all[bt,r_];unfold ae7 at f;(split at f<;>first|(cases f;done)|skip);obtain⟨a,b,c,rfl,h,i,E⟩:=iY g;obtain⟨t,u,v,rfl,s,w,J⟩:=Fv C;(split at f<;>first|(cases f;done)|skip);rename_i A n;obtain⟨xs,rfl⟩:=x8 A h;obtain⟨y,rfl⟩:=dW n i;simp only[Sj,aO,dv,or_false,forall_eq_or_imp,forall_eq,gq,a_ q w,iX q s,ni]at m;simp_all[bt,qV];unfold ae8 at f;(split at f<;>first|(cases f;done)|skip);obtain⟨a,b,rfl,h,i⟩:=eS g;obtain⟨t,u,rfl,s,w⟩:=Nd (P:=λ_ _=>True) C;(split at f<;>first|(cases f;done)|skip);obtain⟨y,rfl⟩:=dW ‹_› h;simp only[Sj,aO,dv,or_false,forall_eq,a_ q s]at m;simp_all[cn,Ep];unfold ae9 at f;(split at f<;>first|(cases f;done)|skip);obtain⟨a,b,c,rfl,h,i,E⟩:=iY g;obtain⟨t,u,v,rfl,s,w,J⟩:=Fv C;(split at f<;>first|(cases f;done)|skip);rename_i A n W;obtain⟨xs,rfl⟩:=x8 A h;obtain⟨y,rfl⟩:=dW n i;obtain⟨ys,rfl⟩:=x8 W E;simp only[Sj,aO,dv,or_false,forall_eq_or_imp,forall_eq,gq,a_ q w,iX q s,ni]at m;simp_all[bt,Ks];unfold ae_ at f;(split at f<;>first|(cases f;done)|skip);obtain⟨a,b,c,rfl,h,i,E⟩:=iY g;(split at f<;>first|(cases f;done)|skip);rename_i u t1 t2 j A n;have⟨a',b',r',e,_⟩:=DX C;injection e with Gz e;injection e with F e;injection e with Zz e;subst Gz F Zz;(split at f<;>first|(cases f;done)|skip);rename_i us hu;obtain⟨xs,rfl,H⟩:=nY A h;obtain⟨z,rfl⟩:=dW n i;have⟨s,Iz⟩:=tvs C;have⟨w,_⟩:=tvs Iz;simp only[Sj,aO,dv,or_false,forall_eq_or_imp,forall_eq,fY,a_ q w,iX q s,ni]at m;(have S:z.toNat<xs.length:=by omega);have B:xs[z.toNat]? =O xs[z.toNat]:=aZ S;have⟨cs,X,Y⟩:=Aw hu (H _ (bE B));have⟨y,J,_⟩:=eO Y f;simp_all[bt,lX,fO];unfold afa at f;(split at f<;>first|(cases f;done)|skip);(split at f<;>first|(cases f;done)|skip);exact X5 ‹_› g;unfold akS at f;(split at f<;>first|(cases f;done)|skip);(split at f<;>first|(cases f;done)|skip);exact X5 ‹_› g;unfold afb at f;(split at f<;>first|(cases f;done)|skip);obtain⟨a,b,rfl,h,i⟩:=eS g;obtain⟨t,u,rfl,s,w⟩:=Nd (P:=λ_ _=>True) C;(split at f<;>first|(cases f;done)|skip);rename_i A n;obtain⟨xs,rfl⟩:=x8 A h;obtain⟨y,rfl⟩:=dW n i;simp only[Sj,aO,dv,or_false,forall_eq_or_imp,forall_eq,fY,a_ q w,iX q s,ni]at m;simp only[cn,xw];rw[if_pos m.1,aZ (by omega)];simp_all;unfold afc at f;(split at f<;>first|(cases f;done)|skip);obtain⟨a,b,c,rfl,h,i,E⟩:=iY g;obtain⟨t,u,v,rfl,s,w,J⟩:=Fv C;(split at f<;>first|(cases f;done)|skip);rename_i A n;obtain⟨xs,rfl⟩:=x8 A h;obtain⟨y,rfl⟩:=dW n i;simp only[Sj,aO,dv,or_false,forall_eq_or_imp,forall_eq,fY,a_ q w,iX q s,ni]at m;simp only[bt,Bg];rw[if_pos ⟨m.1,by omega⟩];simp_all;unfold afd at f;(split at f<;>first|(cases f;done)|skip);obtain⟨a,rfl,h⟩:=ph g;(split at f<;>first|(cases f;done)|skip);rename_i D;obtain⟨xs,rfl,B⟩:=mY D h;exact⟨_,rfl⟩
end
end
end
section
variable{d:ah}{xs:List ah}{t:Tm}
section
variable{Sp:Nat->ah->Prop}{R:dI}{ξ:Nat->Option ah}{γ:Int}{N:List Tm}{Γ:Tr Ty}
theorem kO:∀(n:Nat)(t:Tm),nw t<=n->∀{d:ah},aD (aQ R) ξ t=O d->bU (aQ R) ξ (bG N t)/\bU (aQ R) ξ (jZ N t)|0,t,j,_,_=>by cases t<;>simp only[nw]at j<;>omega|n+1,.c z,_,d,h=>by grind[bG,jZ,bU.c,bU.a]|n+1,.x i,_,d,h=>by grind[bG,jZ,bU.a]|n+1,.bin o k a b,j,d,h=>by (have u:nw a<=n/\nw b<=n:=by simp only[nw]at j;omega);have⟨x,y,p,A,_⟩:=pg h;refine⟨?_,by exact bU.a h⟩;simp[bG];split;split;exact(kO n a u.1 p).1.plus (kO n b u.2 A).1;exact(kO n a u.1 p).1.plus (kO n b u.2 A).1;exact bU.a h;exact bU.a h|n+1,.conv k a,j,d,h=>by (have u:nw a<=n:=by simp only[nw]at j;omega);have⟨x,p,_⟩:=sr h;refine⟨?_,by exact bU.a h⟩;simp[bG];split;exact(kO n a u p).1;exact bU.a h|n+1,.f o l,j,d,h=>by have⟨ds,p,_⟩:=kY h;refine⟨?_,?_⟩;unfold bG;(split<;>rename_i heq<;>try(cases heq;done));injection heq with g e;subst g e;obtain⟨a,r,m,_,rfl⟩:=bf p;exact(kO n _ (by simp only[nw,j8]at j;omega) m).2;injection heq with g e;subst g e;obtain⟨a,r,m,_,rfl⟩:=bf p;exact(kO n _ (by simp only[nw,j8]at j;omega) m).1;grind[bU.a];unfold jZ;(split<;>rename_i heq<;>try(cases heq;done));exact bU.c _;exact bU.c _;injection heq with g e;subst g e;obtain⟨a,b,r,m,s,v,rfl⟩:=KN p;exact(kO n _ (by simp only[nw,j8]at j;omega) m).2.plus (kO n _ (by simp only[nw,j8]at j;omega) s).2;injection heq with g e;subst g e;obtain⟨a,b,c,r,m,s,w,B,rfl⟩:=Kb p;exact(kO n _ (by simp only[nw,j8]at j;omega) w).1.plus (kO n _ (by simp only[nw,j8]at j;omega) s).1;injection heq with g e;subst g e;obtain⟨a,r,m,q,rfl⟩:=bf p;exact(kO n _ (by simp only[nw,j8]at j;omega) m).2;injection heq with g e;subst g e;obtain⟨a,r,m,q,rfl⟩:=bf p;exact(kO n _ (by simp only[nw,j8]at j;omega) m).2;injection heq with g e;subst g e;obtain⟨a,b,r,m,s,v,rfl⟩:=KN p;exact(kO n _ (by simp only[nw,j8]at j;omega) s).1;injection heq with g e;subst g e;obtain⟨a,b,c,r,m,s,w,B,rfl⟩:=Kb p;exact(kO n _ (by simp only[nw,j8]at j;omega) w).1.plus (kO n _ (by simp only[nw,j8]at j;omega) s).1;injection heq with g e;subst g e;obtain⟨a,r,m,q,rfl⟩:=bf p;exact(kO n _ (by simp only[nw,j8]at j;omega) m).2;injection heq with g e;subst g e;obtain⟨a,r,m,q,rfl⟩:=bf p;exact(kO n _ (by simp only[nw,j8]at j;omega) m).1;injection heq with g e;subst g e;obtain⟨a,r,m,q,rfl⟩:=bf p;exact(kO n _ (by simp only[nw,j8]at j;omega) m).2;injection heq with g e;subst g e;obtain⟨a,r,m,q,rfl⟩:=bf p;exact(kO n _ (by simp only[nw,j8]at j;omega) m).2;exact bU.a h
theorem bg(h:aD (aQ R) ξ t=O d):bU (aQ R) ξ (bG N t):=(kO _ t (ba _) h).1
theorem kZ(h:aD (aQ R) ξ t=O d):bU (aQ R) ξ (jZ N t):=(kO _ t (ba _) h).2
theorem iV{k:Nat}(h:aD (aQ R) ξ t=O d):bU (aQ R) ξ (eY k (uk t)):=by grind[WU,bU.a]
theorem fB{k:Nat}(a:k≠5)(h:aD (aQ R) ξ t=O d):ev (aQ R) ξ γ (eY k (uk t))=im k d:=by rw[jW,WT,iC a h]
theorem ald(xs:List ah):im 2 (.l xs)=sX (xs.map strip):=by simp[im,DW,xP]
theorem Cy(d:ah):0<=im 2 d:=by exact afZ _
theorem ah8(d:ah):0<=im 1 d:=by exact WS _
theorem fi{x:ah}(h:x∈xs):im 1 x<=im 2 (.l xs)/\im 2 x<=im 2 (.l xs):=by rw[ald];have:=acS (pj (f:=strip) h);exact this
theorem oO{B:Int}(c:0<=B)(h:∀x∈xs,im 1 x<=B/\im 2 x<=B):im 2 (.l xs)<=B:=by rw[ald];refine wt c λd b=> ?_;obtain⟨x,a,rfl⟩:=cA.1 b;exact h x a
theorem ale(z:Int):im 2 (.n z)=0:=by rfl
theorem alf(z:Int):im 1 (.n z)=0:=by rfl
theorem amD(l:List UInt8):im 2 (.s l)=0:=by rfl
theorem jt{alts:List f_}{q:Int}(b:alts≠[])(h:∀B,(∀A∈alts,ev (aQ R) ξ γ A<=B)->q<=B):∃A∈alts,q<=ev (aQ R) ξ γ A:=by (have key:∃A∈alts,∀A'∈alts,ev (aQ R) ξ γ A'<=ev (aQ R) ξ γ A:=by clear h;induction alts with|nil=>simp_all|cons a l g=>by_cases c:l=[];subst c;exact⟨a,aU ..,λA' d=>by rw[aR.1 d];exact ft _⟩;grind);have⟨A,f,e⟩:=key;exact⟨A,f,h _ e⟩
theorem ly:∀{l:List Tm}{ds:List ah},aA (aQ R) ξ l=O ds->∀A∈mH Γ N l,bU (aQ R) ξ A|[],_,_,A,a=>by cases a|t::l,ds,h,A,a=>by obtain⟨d,r,c,b,rfl⟩:=bf h;unfold mH at a;split at a;exact ly b A a;rcases aO.1 a with rfl|a;exact kZ c;rcases aO.1 a with rfl|a;exact iV c;exact ly b A a
theorem jI(f:rX Sp)(b:jc Sp ξ Γ)(g:mF (aQ R) ξ N){B:Int}(i:0<=B):∀{l:List Tm}{ds:List ah},aA (aQ R) ξ l=O ds->(∀A∈mH Γ N l,ev (aQ R) ξ γ A<=B)->∀d∈ds,im 1 d<=B/\im 2 d<=B|[],ds,h,_,d,a=>by rw[bR h]at a;cases a|t::l,ds,h,e,d,a=>by obtain⟨o,r,n,j,rfl⟩:=bf h;unfold mH at e;split at e;rename_i c;rcases aO.1 a with rfl|a;unfold aaN at c;split at c;rename_i T m;obtain⟨z,rfl⟩:=dW c (mS f b m n);rw[alf,ale];simp_all;cases c;exact jI f b g i j e d a;rcases aO.1 a with rfl|a;simp_all[iX,fB];exact jI f b g i j (λA k=>e A (aS _ (aS _ k))) d a
theorem adh{k:ah}{v:ah}(h:gy k xs=O v):im 1 v<=im 2 (.l xs)/\im 2 v<=im 2 (.l xs):=by have⟨a,b,_⟩:=Bu h;have d:=fi b;have c:=fi (xs:=[a,v]) (x:=v) (by simp);omega
theorem adi(K:rX Sp)(w:jc Sp ξ Γ)(J:mF (aQ R) ξ N){o:Nat}{l:List Tm}{ds:List ah}(C:aA (aQ R) ξ l=O ds)(h:aQ R o ds=O d):∀alts∈upW Γ N o l,(∀A∈alts,bU (aQ R) ξ A)/\∃A∈alts,im 2 d<=ev (aQ R) ξ γ A:=by intro alts Oz;unfold upW at Oz;(split at Oz<;>try(cases Oz;done));(all_goals (rw[aR]at Oz;subst Oz;rw[uB rfl rfl]at h;simp only[dD]at h));(·obtain⟨a,b,r,i,H,D,rfl⟩:=KN C;rw[bR D]at h;simp[cn]at h;refine⟨λA f=> ?_,jt (by simp) λB g=> ?_⟩;(·grind[iV]);·simp[fB _ i,fB _ H]at g;have:=Cy a;(cases a<;>simp only[mq]at h<;>try(cases h;done));(all_goals ((cases b<;>simp only[aG]at h<;>try(cases h;done));subst h));(·rw[amD];omega);·refine oO (by omega) λx t=> ?_;rcases dx.1 t with t|t;(·have:=fi t;omega);·have:=fi t;omega);(·simp at h;subst h;refine⟨λA f=> ?_,jt (by simp) λB g=> ?_⟩;(·grind[bU.c,ly]);·have k:=g _ (aU ..);rw[dh]at k;exact oO k (jI K w J k C λA f=>g A (aS _ f)));(·simp at h;subst h;refine⟨λA f=> ?_,jt (by simp) λB g=> ?_⟩;(·grind[bU.c,ly]);·have k:=g _ (aU ..);rw[dh]at k;exact oO k (jI K w J k C λA f=>g A (aS _ f)));(·obtain⟨a,b,c,r,i,H,Gz,E,rfl⟩:=Kb C;rw[bR E]at h;simp[bt]at h;have Iz:aA (aQ R) ξ [_,_]=O [b,c]:=kH H (kH Gz rfl);refine⟨λA f=> ?_,jt (by simp) λB g=> ?_⟩;(·grind[bU.c,iV,ly]);·have k:=g _ (aU ..);rw[dh]at k;have F:=g _ (aS _ (aU ..));rw[fB (by decide:2≠5) i]at F;have M:=jI K w J (by omega:0<=B) Iz λA f=>g A (aS _ (aS _ f));unfold uI at h;(split at h<;>try(cases h;done));(split at h<;>try(cases h;done));simp at h;subst h;refine oO (by omega) λx t=> ?_;rcases wv t with rfl|t;(·refine⟨by rw[ni];simpa using k,oO (by omega) λy j=> ?_⟩;grind[wM]);·have:=fi (mR t);omega);(·obtain⟨a,b,c,r,i,H,Gz,E,rfl⟩:=Kb C;rw[bR E]at h;simp[bt]at h;have Iz:aA (aQ R) ξ [_]=O [c]:=kH Gz rfl;refine⟨λA f=> ?_,jt (by simp) λB g=> ?_⟩;(·grind[iV,bU.c,ly]);·have F:=g _ (aU ..);rw[fB (by decide:2≠5) i]at F;have k:=g _ (aS _ (aU ..));rw[dh]at k;have M:=jI K w J k Iz λA f=>g A (aS _ (aS _ f));unfold sV at h;(split at h<;>try(cases h;done));(split at h<;>try(cases h;done));simp at h;subst h;rename_i xs _ _;cases S:gy b xs with|none=>simp_all|some v=>have:=adh S;grind);(·obtain⟨a,b,c,r,i,H,Gz,E,rfl⟩:=Kb C;refine⟨λA f=> ?_,jt (by simp) λB g=> ?_⟩;(·grind[iV,ly]);·have F:=g _ (aU ..);rw[fB (by decide:2≠5) i]at F;have k:0<=B:=pb (Cy a) F;have M:=jI K w J k E λA f=>g A (aS _ f);obtain⟨xs,z,off,cs,e,e',rfl,rfl,Y,_,_,t,s,rfl⟩:=FM h;injection Y with X W;subst X W;have Q:=fi (bE t);refine oO k λx L=> ?_;rcases mO L with L|rfl;(·have:=fi L;omega);·unfold uq at s;split at s;(·split at s;(·injection s with s;subst s;rename_i es V;rw[ni]at Q⊢;refine⟨?_,oO k λy j=> ?_⟩;(·grind);·rcases dx.1 j with j|j;(·rcases dx.1 j with j|j;(·have:=fi (iZ j);omega);grind);·have:=fi (jX j);omega);·cases s);·cases s);(·obtain⟨a,b,c,r,i,H,Gz,E,rfl⟩:=Kb C;rw[bR E]at h;simp[bt]at h;have Iz:aA (aQ R) ξ [_]=O [c]:=kH Gz rfl;refine⟨λA f=> ?_,jt (by simp) λB g=> ?_⟩;(·grind[iV,bU.c,ly]);·have F:=g _ (aU ..);rw[fB (by decide:2≠5) i]at F;have k:=g _ (aS _ (aU ..));rw[dh]at k;have M:=jI K w J k Iz λA f=>g A (aS _ (aS _ f));obtain⟨xs,m,rfl,_,_,_,rfl⟩:=kh h;refine oO k λy j=> ?_;rcases dx.1 j with j|j;(·have:=fi (iZ j);omega);simp_all);(·obtain⟨a,b,r,i,H,D,rfl⟩:=KN C;rw[bR D]at h;simp[cn]at h;have Iz:aA (aQ R) ξ [_]=O [b]:=kH H rfl;refine⟨λA f=> ?_,jt (by simp) λB g=> ?_⟩;(·grind[bU.c,ly]);·have k:=g _ (aU ..);rw[dh]at k;have M:=jI K w J k Iz λA f=>g A (aS _ f);grind[pP,oO]);(·obtain⟨a,b,c,r,i,H,Gz,E,rfl⟩:=Kb C;rw[bR E]at h;simp[bt]at h;refine⟨λA f=> ?_,jt (by simp) λB g=> ?_⟩;(·grind[iV]);·simp[fB _ i,fB _ Gz]at g;have:=Cy a;obtain⟨xs,ys,m,rfl,_,rfl,_,_,rfl⟩:=pQ h;refine oO (by omega) λy j=> ?_;rcases dx.1 j with j|j;(·rcases dx.1 j with j|j;(·have:=fi (iZ j);omega);·have:=fi (iZ j);omega);·have:=fi (jX j);omega);(·obtain⟨a,b,c,r,i,H,Gz,E,rfl⟩:=Kb C;rw[bR E]at h;simp[bt]at h;have Iz:aA (aQ R) ξ [_]=O [c]:=kH Gz rfl;refine⟨λA f=> ?_,jt (by simp) λB g=> ?_⟩;(·grind[iV,bU.c,ly]);·have F:=g _ (aU ..);rw[fB (by decide:2≠5) i]at F;have k:=g _ (aS _ (aU ..));rw[dh]at k;have M:=jI K w J k Iz λA f=>g A (aS _ (aS _ f));obtain⟨xs,m,rfl,_,_,_,rfl⟩:=pO h;refine oO k λy j=> ?_;rcases mO j with j|rfl;(·have:=fi j;omega);simp_all);(·obtain⟨a,r,i,u,rfl⟩:=bf C;rw[bR u]at h;simp[eI]at h;refine⟨λA f=> ?_,jt (by simp) λB g=> ?_⟩;(·grind[bU.c,iV]);·simp[fB _ i,dh]at g;obtain⟨xs,rfl,rfl⟩:=rf h;refine oO (by omega) λy j=> ?_;obtain⟨p,q,z,rfl,Q,_⟩:=yh j;have U:=fi Q;have T:=fi (xs:=[.l [p,q],.n z]) (x:=.l [p,q]) (by simp);have m3:=fi (xs:=[p,q]) (x:=p) (by simp);have Zz:=fi (xs:=[p,q]) (x:=q) (by simp);refine⟨by rw[ni];simpa using g.1,oO (by omega) λx t=> ?_⟩;grind[alf,ale]);(·obtain⟨a,r,i,u,rfl⟩:=bf C;refine⟨λA f=>by rw[aR.1 f];exact iV i,_,aR.2 rfl,?_⟩;rw[fB (by decide:2≠5) i];match r,h with|[b],h=>simp[cn]at h;unfold Kr at h;(split at h<;>try(cases h;done));(split at h<;>try(cases h;done));simp at h;subst h;exact oO (Cy _) λx t=>fi (mR t));(·obtain⟨a,r,i,u,rfl⟩:=bf C;refine⟨λA f=>by rw[aR.1 f];exact iV i,_,aR.2 rfl,?_⟩;rw[fB (by decide:2≠5) i];match r,h with|[b],h=>simp[cn]at h;unfold zF at h;(split at h<;>try(cases h;done));(split at h<;>try(cases h;done));unfold fO at h;(split at h<;>try(cases h;done));exact(fi (bE h)).2);(·obtain⟨a,r,i,u,rfl⟩:=bf C;refine⟨λA f=>by rw[aR.1 f];exact iV i,_,aR.2 rfl,?_⟩;rw[fB (by decide:2≠5) i];match r,h with|[b],h=>simp[cn]at h;obtain⟨xs,m,rfl,_,_,_,rfl⟩:=lV h;exact oO (Cy _) λx t=>fi (iZ t));(·obtain⟨a,r,i,u,rfl⟩:=bf C;refine⟨λA f=>by rw[aR.1 f];exact iV i,_,aR.2 rfl,?_⟩;rw[fB (by decide:2≠5) i];match r,h with|[b,c],h=>simp[bt]at h;unfold r_ at h;(split at h<;>try(cases h;done));(split at h<;>try(cases h;done));(split at h<;>try(cases h;done));(split at h<;>try(cases h;done));simp at h;subst h;exact oO (Cy _) λx t=>fi (jX (iZ t)));(·obtain⟨a,r,i,u,rfl⟩:=bf C;refine⟨λA f=>by rw[aR.1 f];exact iV i,_,aR.2 rfl,?_⟩;rw[fB (by decide:2≠5) i];match r,h with|[b,c],h=>simp[bt]at h;obtain⟨xs,m,n,x,rfl,_,_,_,_,t,P⟩:=kg h;have U:=fi (bE t);unfold fO at P;(split at P<;>try(cases P;done));have T:=fi (bE P);omega);·obtain⟨a,r,i,u,rfl⟩:=bf C;refine⟨λA f=>by rw[aR.1 f];exact iV i,_,aR.2 rfl,?_⟩;rw[fB (by decide:2≠5) i];match r,h with|[b],h=>simp[cn]at h;obtain⟨xs,m,rfl,_,_,t⟩:=nI h;exact(fi (bE t)).2
end
end
section
variable{d m:ah}{B:Int}{l xs:List ah}{t:Tm}
section
variable{Sp:Nat->ah->Prop}{R:dI}{ξ:Nat->Option ah}{γ:Int}{N:List Tm}{Γ:Tr Ty}
theorem TT:∀l:List ah, -1<=Xx l|[]=>by simp[Xx]|d::l=>by have:=TT l;unfold Xx;grind
theorem TU:∀l:List ah,Xy l<=0|[]=>by simp[Xy]|d::l=>by have:=TU l;unfold Xy;grind
theorem NT{z:Int}(h:d∈l)(c:zU d=O z):z<=Xx l:=by induction l with|nil=>cases h|cons a l b=>grind[Xx]
theorem NU{z:Int}(h:d∈l)(c:zU d=O z):Xy l<=z:=by induction l with|nil=>cases h|cons a l b=>grind[Xy]
theorem akg(b: -1<=B)(h:∀d∈l,∀z,zU d=O z->z<=B):Xx l<=B:=by induction l with|nil=>simpa[Xx]using b|cons a l c=>grind[Xx]
theorem akh(b:B<=0)(h:∀d∈l,∀z,zU d=O z->B<=z):B<=Xy l:=by induction l with|nil=>simpa[Xy]using b|cons a l c=>grind[Xy]
theorem S6(xs:List ah):im 3 (.l xs)=Xx (xs.map strip):=by simp[im,DW,mxQ]
theorem S7(xs:List ah):im 4 (.l xs)=Xy (xs.map strip):=by simp[im,DW,mnQ]
theorem tH(a v:ah):zU (strip (.l [a,v]))=O (im 0 v):=by rfl
theorem NV{a v:ah}(h:.l [a,v]∈xs):im 0 v<=im 3 (.l xs)/\im 4 (.l xs)<=im 0 v:=by rw[S6,S7];have:=pj (f:=strip) h;exact⟨NT this (tH a v),NU this (tH a v)⟩
theorem ah9(a: -1<=B)(h:∀x∈xs,∀z,zU (strip x)=O z->z<=B):im 3 (.l xs)<=B:=by rw[S6];refine akg a λd b=> ?_;grind
theorem ah_(a:B<=0)(h:∀x∈xs,∀z,zU (strip x)=O z->B<=z):B<=im 4 (.l xs):=by rw[S7];refine akh a λd b=> ?_;grind
theorem BM{alts:List f_}{q:Int}(b:alts≠[])(h:∀B,(∀A∈alts,B<=ev (aQ R) ξ γ A)->B<=q):∃A∈alts,ev (aQ R) ξ γ A<=q:=by (have key:∃A∈alts,∀A'∈alts,ev (aQ R) ξ γ A<=ev (aQ R) ξ γ A':=by clear h;induction alts with|nil=>simp_all|cons a l g=>by_cases c:l=[];subst c;exact⟨a,aU ..,λA' d=>by rw[aR.1 d];exact ft _⟩;grind);have⟨A,f,e⟩:=key;exact⟨A,f,h _ e⟩
theorem Rt(g:rX Sp)(b:jc Sp ξ Γ)(h:aD (aQ R) ξ t=O d):∀alts∈TO Γ t,(∀A∈alts,bU (aQ R) ξ A)/\∃A∈alts,im 0 d<=ev (aQ R) ξ γ A:=by intro alts a;unfold TO at a;(split at a<;>try(cases a;done));all_goals (rename_i f;rw[aR]at a;subst a;have e:=mS g b f h;rw[aK]at e;obtain⟨z,rfl,k,j⟩:=e;refine⟨λA i=>by rw[aR.1 i];exact bU.c _,_,aR.2 rfl,?_⟩;rw[dh,oE];exact j)
theorem Ru(g:rX Sp)(b:jc Sp ξ Γ)(h:aD (aQ R) ξ t=O d):∀alts∈TP Γ t,(∀A∈alts,bU (aQ R) ξ A)/\∃A∈alts,ev (aQ R) ξ γ A<=im 0 d:=by intro alts a;unfold TP at a;(split at a<;>try(cases a;done));all_goals (rename_i f;rw[aR]at a;subst a;have e:=mS g b f h;rw[aK]at e;obtain⟨z,rfl,j,k⟩:=e;refine⟨λA i=>by rw[aR.1 i];exact bU.c _,_,aR.2 rfl,?_⟩;rw[dh,oE];exact j)
theorem NW{b z:ah}(h:sV m b z=O d):∃xs,m=.l xs/\((∃a,.l [a,d]∈xs)∨d=z):=by unfold sV at h;(split at h<;>try(cases h;done));(split at h<;>try(cases h;done));simp at h;rename_i xs _ _;refine⟨xs,rfl,?_⟩;cases c:gy b xs with|none=>rw[c]at h;grind|some v=>rw[c]at h;grind[Bu]
theorem NX{k v:ah}(h:uI m k v=O d):∃xs,m=.l xs/\d=.l (gf k v (e_ k xs)):=by unfold uI at h;grind
theorem NY{k:ah}(h:Kr m k=O d):∃xs,m=.l xs/\d=.l (e_ k xs):=by unfold Kr at h;grind
theorem FN(k:ah):∀xs:List ah,(e_ k xs).length<=xs.length|[]=>by simp[e_]|d::xs=>by have:=FN k xs;grind[e_]
theorem Qe(k v:ah):∀xs:List ah,(gf k v xs).length=xs.length+1|[]=>by simp[gf]|d::xs=>by have:=Qe k v xs;grind[gf]
theorem GL:∀xs:List ah,(eA xs).length<=xs.length|[]=>by simp[eA]|d::xs=>by have:=GL xs;unfold eA;grind
theorem adj(q:mF (aQ R) ξ N){o:Nat}{l:List Tm}{ds:List ah}(i:aA (aQ R) ξ l=O ds)(h:aQ R o ds=O d):∀alts∈upL N o l,(∀A∈alts,bU (aQ R) ξ A)/\∃A∈alts,im 1 d<=ev (aQ R) ξ γ A:=by intro alts j;unfold upL at j;(split at j<;>try(cases j;done));(all_goals (rw[aR]at j;subst j;rw[uB rfl rfl]at h;simp[dD]at h));(·obtain⟨a,r,e,g,rfl⟩:=bf i;refine⟨λA f=>by rw[aR.1 f];exact iV e,_,aR.2 rfl,?_⟩;rw[fB (by decide:2≠5) e];match r,h with|[b,c],h=>simp[bt]at h;obtain⟨xs,m,n,x,rfl,_,_,_,_,s,p⟩:=kg h;have z:=fi (bE s);unfold fO at p;(split at p<;>try(cases p;done));have y:=fi (bE p);omega);(·obtain⟨a,r,e,g,rfl⟩:=bf i;refine⟨λA f=>by rw[aR.1 f];exact iV e,_,aR.2 rfl,?_⟩;rw[fB (by decide:2≠5) e];match r,h with|[b],h=>simp[cn]at h;unfold zF at h;(split at h<;>try(cases h;done));(split at h<;>try(cases h;done));unfold fO at h;(split at h<;>try(cases h;done));exact(fi (bE h)).1);(·obtain⟨a,r,e,g,rfl⟩:=bf i;refine⟨λA f=>by rw[aR.1 f];exact iV e,_,aR.2 rfl,?_⟩;rw[fB (by decide:2≠5) e];match r,h with|[b],h=>simp[cn]at h;obtain⟨xs,m,rfl,_,_,s⟩:=nI h;exact(fi (bE s)).1);(·obtain⟨a,b,c,r,e,w,v,t,rfl⟩:=Kb i;rw[bR t]at h;simp[bt]at h;refine⟨λA f=> ?_,jt (by simp) λB u=> ?_⟩;(·grind[iV,kZ]);·simp[fB _ e,iX q v]at u;obtain⟨xs,rfl,h|rfl⟩:=NW h;(·have⟨a,h⟩:=h;have z:=fi h;have y:=fi (xs:=[a,d]) (x:=d) (by simp);omega);·exact u.2);(·obtain⟨a,b,c,r,e,w,v,t,rfl⟩:=Kb i;rw[bR t]at h;simp[bt]at h;refine⟨λA f=>by rw[aR.1 f];exact(kZ e).plus (bU.c _),_,aR.2 rfl,?_⟩;rw[gh,dh,iX q e];grind[ni,Qe,NX,FN]);(·obtain⟨a,b,r,e,w,k,rfl⟩:=KN i;rw[bR k]at h;simp[cn]at h;refine⟨λA f=>by rw[aR.1 f];exact kZ e,_,aR.2 rfl,?_⟩;rw[iX q e];grind[ni,NY,FN]);·obtain⟨a,r,e,g,rfl⟩:=bf i;rw[bR g]at h;simp[eI]at h;refine⟨λA f=>by rw[aR.1 f];exact kZ e,_,aR.2 rfl,?_⟩;rw[iX q e];obtain⟨xs,rfl,rfl⟩:=rf h;rw[ni,ni];have:=GL xs;have:=(ki (eA xs)).length_eq;omega
def Kx(up:Bool)(q e:Int):Prop:=if up=I then q<=e else e<=q
theorem Nf{U:Nat->List ah->Option ah}{o:Nat}{a b:Tm}(e:o=32∨o=33)(h:aD (aQ R) ξ (.f o [a,b])=O d):∃x y z,aD (aQ R) ξ a=O (.n x)/\aD (aQ R) ξ b=O (.n y)/\d=.n z/\(o=32->z<=x/\z<=y/\(z=x∨z=y))/\(o=33->x<=z/\y<=z/\(z=x∨z=y)):=by have⟨ds,j,c⟩:=kY h;obtain⟨p,q,r,l,k,g,rfl⟩:=KN j;rw[bR g]at c;rcases e with rfl|rfl;all_goals (rw[uB rfl rfl]at c;grind[dD,cn,ep])
theorem adk(F:rX Sp)(v:jc Sp ξ Γ)(o:mF (aQ R) ξ N){up:Bool}{k:Nat}(h:aD (aQ R) ξ t=O d):∀alts∈fam Γ N up k t,(∀A∈alts,bU (aQ R) ξ A)/\∃A∈alts,Kx up (im k d) (ev (aQ R) ξ γ A):=by intro alts e;unfold fam at e;(split at e<;>first|(cases e;done)|skip);simp only[Kx,if_true];rcases dx.1 e with e|e;exact Rt F v h alts e;(split at e<;>first|(cases e;done)|skip);rw[aR]at e;subst e;have⟨ds,m,g⟩:=kY h;obtain⟨a,r,j,s,rfl⟩:=bf m;obtain⟨b,r,D,q,rfl⟩:=bf s;obtain⟨c,r,C,w,rfl⟩:=bf q;rw[bR w,uB rfl rfl]at g;simp only[dD,bt]at g;refine⟨λA i=> ?_,jt (by simp) λB n=> ?_⟩;simp only[aO,dv,or_false]at i;grind[iV,bg];simp only[aO,dv,or_false,forall_eq_or_imp,forall_eq,fB (by decide:3≠5) j,(dV o _ _ (ba _) C).1]at n;obtain⟨xs,rfl,hh|rfl⟩:=NW g;have⟨a,hh⟩:=hh;have:=(NV hh).1;omega;exact n.2;obtain⟨x,y,z,m,g,rfl,j,_⟩:=Nf (U:=aQ R) (.inl rfl) h;have j:=j rfl;simp only[aO,dv,or_false]at e;rcases e with rfl|rfl;refine⟨λA i=>by rw[aR.1 i];exact bg m,_,aR.2 rfl,?_⟩;rw[a_ o m,oE];exact j.1;refine⟨λA i=>by rw[aR.1 i];exact bg g,_,aR.2 rfl,?_⟩;rw[a_ o g,oE];exact j.2.1;obtain⟨x,y,z,m,g,rfl,_,j⟩:=Nf (U:=aQ R) (.inr rfl) h;have j:=j rfl;rw[aR]at e;subst e;refine⟨λA i=> ?_,jt (by simp) λB n=> ?_⟩;simp only[aO,dv,or_false]at i;grind[bg];simp only[aO,dv,or_false,forall_eq_or_imp,forall_eq,a_ o m,a_ o g]at n;rw[oE];omega;simp only[Kx,kG,if_false];rcases dx.1 e with e|e;exact Ru F v h alts e;(split at e<;>first|(cases e;done)|skip);rw[aR]at e;subst e;have⟨ds,m,g⟩:=kY h;obtain⟨a,r,j,s,rfl⟩:=bf m;obtain⟨b,r,D,q,rfl⟩:=bf s;obtain⟨c,r,C,w,rfl⟩:=bf q;rw[bR w,uB rfl rfl]at g;simp only[dD,bt]at g;refine⟨λA i=> ?_,BM (by simp) λB n=> ?_⟩;simp only[aO,dv,or_false]at i;grind[iV,bg];simp only[aO,dv,or_false,forall_eq_or_imp,forall_eq,fB (by decide:4≠5) j,(dV o _ _ (ba _) C).1]at n;obtain⟨xs,rfl,hh|rfl⟩:=NW g;have⟨a,hh⟩:=hh;have:=(NV hh).2;omega;exact n.2;obtain⟨x,y,z,m,g,rfl,j,_⟩:=Nf (U:=aQ R) (.inl rfl) h;have j:=j rfl;rw[aR]at e;subst e;refine⟨λA i=> ?_,BM (by simp) λB n=> ?_⟩;simp only[aO,dv,or_false]at i;grind[bg];simp only[aO,dv,or_false,forall_eq_or_imp,forall_eq,a_ o m,a_ o g]at n;rw[oE];omega;obtain⟨x,y,z,m,g,rfl,_,j⟩:=Nf (U:=aQ R) (.inr rfl) h;have j:=j rfl;simp only[aO,dv,or_false]at e;rcases e with rfl|rfl;refine⟨λA i=>by rw[aR.1 i];exact bg m,_,aR.2 rfl,?_⟩;rw[a_ o m,oE];exact j.1;refine⟨λA i=>by rw[aR.1 i];exact bg g,_,aR.2 rfl,?_⟩;rw[a_ o g,oE];exact j.2.1;simp only[Kx,if_true];(split at e<;>first|(cases e;done)|skip);have⟨ds,m,g⟩:=kY h;exact adj o m g alts e;rw[aR]at e;subst e;refine⟨λA i=>by rw[aR.1 i];exact bU.c _,_,aR.2 rfl,?_⟩;simp only[Kx,kG,if_false,dh];exact ah8 d;simp only[Kx,if_true];(split at e<;>first|(cases e;done)|skip);have⟨ds,m,g⟩:=kY h;exact adi F v o m g alts e;rw[aR]at e;subst e;refine⟨λA i=>by rw[aR.1 i];exact bU.c _,_,aR.2 rfl,?_⟩;simp only[Kx,kG,if_false,dh];exact Cy d;(·simp only[Kx,if_true];(split at e<;>first|(cases e;done)|skip);(all_goals (rw[aR]at e;subst e;have⟨ds,m,g⟩:=kY h));obtain⟨a,r,j,s,rfl⟩:=bf m;obtain⟨b,r,D,q,rfl⟩:=bf s;obtain⟨c,r,C,w,rfl⟩:=bf q;rw[bR w,uB rfl rfl]at g;simp only[dD,bt]at g;refine⟨λA i=> ?_,jt (by simp) λB n=> ?_⟩;simp only[aO,dv,or_false]at i;grind[iV,bg];simp only[aO,dv,or_false,forall_eq_or_imp,forall_eq,fB (by decide:3≠5) j,(dV o _ _ (ba _) C).1]at n;obtain⟨xs,rfl,rfl⟩:=NX g;(have E: -1<=im 3 (.l xs):=by rw[S6];exact TT _);refine ah9 (by omega) λx p z u=> ?_;rcases wv p with rfl|p;rw[tH]at u;simp_all;have:=NT (pj (f:=strip) (mR p)) u;rw[S6]at n;omega;obtain⟨a,r,j,s,rfl⟩:=bf m;obtain⟨b,r,D,q,rfl⟩:=bf s;rw[bR q,uB rfl rfl]at g;simp only[dD,cn]at g;refine⟨λA i=>by rw[aR.1 i];exact iV j,_,aR.2 rfl,?_⟩;rw[fB (by decide:3≠5) j];obtain⟨xs,rfl,rfl⟩:=NY g;refine ah9 (by rw[S6];exact TT _) λx p z u=> ?_;rw[S6];exact NT (pj (f:=strip) (mR p)) u;refine⟨λA i=>by rw[aR.1 i];exact bU.c _,_,aR.2 rfl,?_⟩;rw[bR m,uB rfl rfl]at g;grind[dD,dh,S6,Xx]);(·simp only[Kx,kG,if_false];(split at e<;>first|(cases e;done)|skip);(all_goals (rw[aR]at e;subst e;have⟨ds,m,g⟩:=kY h));obtain⟨a,r,j,s,rfl⟩:=bf m;obtain⟨b,r,D,q,rfl⟩:=bf s;obtain⟨c,r,C,w,rfl⟩:=bf q;rw[bR w,uB rfl rfl]at g;simp only[dD,bt]at g;refine⟨λA i=> ?_,BM (by simp) λB n=> ?_⟩;simp only[aO,dv,or_false]at i;grind[iV,bg];simp only[aO,dv,or_false,forall_eq_or_imp,forall_eq,fB (by decide:4≠5) j,(dV o _ _ (ba _) C).1]at n;obtain⟨xs,rfl,rfl⟩:=NX g;(have E:im 4 (.l xs)<=0:=by rw[S7];exact TU _);refine ah_ (by omega) λx p z u=> ?_;rcases wv p with rfl|p;rw[tH]at u;simp_all;have:=NU (pj (f:=strip) (mR p)) u;rw[S7]at n;omega;obtain⟨a,r,j,s,rfl⟩:=bf m;obtain⟨b,r,D,q,rfl⟩:=bf s;rw[bR q,uB rfl rfl]at g;simp only[dD,cn]at g;refine⟨λA i=>by rw[aR.1 i];exact iV j,_,aR.2 rfl,?_⟩;rw[fB (by decide:4≠5) j];obtain⟨xs,rfl,rfl⟩:=NY g;refine ah_ (by rw[S7];exact TU _) λx p z u=> ?_;rw[S7];exact NU (pj (f:=strip) (mR p)) u;refine⟨λA i=>by rw[aR.1 i];exact bU.c _,_,aR.2 rfl,?_⟩;rw[bR m,uB rfl rfl]at g;grind[dD,dh,S7,Xy])
theorem aki{k:Nat}(h:k=1∨k=2):0<=MC (aQ R) ξ γ k t:=by unfold MC;rcases h with rfl|rfl;rw[if_neg (by decide)];exact ah8 _;rw[if_neg (by decide)];exact Cy _
theorem tY{L:f_}(h:Fq L=I):0<=ev (aQ R) ξ γ L:=by simp only[Fq,ay,decide_eq_true_eq]at h;have⟨e,d⟩:=h;unfold ev;(have key:∀l:List (Int×Nat×Tm),(l.all λp=>gj p.1 0||(decide (0<=p.1)&&(ae p.2.1 1||ae p.2.1 2)))=I->0<=zp (aQ R) ξ γ l:=by intro l;induction l with|nil=>simp[zp]|cons p l a=>intro h;have⟨c,k,t⟩:=p;simp only[List.all_cons,ay]at h;have:=a h.2;simp only[zp];rcases(bW ..).mp h.1 with h|h;rw[h_ h,Int.zero_mul];omega;simp only[ay,decide_eq_true_eq]at h;have b:k=1∨k=2:=((bW ..).mp h.2).imp an an;have:=Int.mul_nonneg h.1 (aki (R:=R) (ξ:=ξ) (γ:=γ) (t:=t) b);omega);grind
def pk(U:Nat->List ah->Option ah)(ξ:Nat->Option ah)(γ:Int)(H:List f_):Prop:=∀f∈H,bU U ξ f/\0<=ev U ξ γ f
variable{H:List f_}
theorem alg{up:Bool}:fam Γ N up 5 t=[]:=by cases up<;>rfl
mutual
theorem qD(hE:rX Sp)(ub:jc Sp ξ Γ)(hN:mF (aQ R) ξ N)(hH:pk (aQ R) ξ γ H):∀(c:Xv){L:f_},bU (aQ R) ξ L->Ku Γ N H c L=I->0<=ev (aQ R) ξ γ L|.d,L,_,h=>by exact tY h|.s n r,L,hL,h=>(by simp only[Ku,ay]at h;have hn:=bz h.1;have:=qD hE ub hN hH r (bU.plus (a:=⟨.ofNat n - 1,[]⟩) (λp hp=>by cases hp) hL) h.2;rw[gh]at this;simp only[ev,zp,Int.ofNat_eq_natCast]at this⊢;rcases Int.lt_or_le (L.c+zp (aQ R) ξ γ L.l) 0 with sO|hle;exfalso;have h1:(n:Int)*(L.c+zp (aQ R) ξ γ L.l)<=(n:Int)*(-1):=NS (by omega) (by omega);omega;exact hle)|.u i m r,L,hL,h=>by simp only[Ku]at h;split at h;rename_i f hf;have⟨hf1,hf2⟩:=hH f (bE hf);have:=qD hE ub hN hH r (hL.plus hf1) h;rw[gh,Int.ofNat_eq_natCast,Int.neg_mul]at this;have:=Int.mul_nonneg (bO m) hf2;omega;cases h|.a i j rs,L,hL,h=>(by simp[Ku]at h;split at h;rename_i c k t hi;split at h;rename_i alts ha;have hm:=bE ha;rcases hL _ (bE hi)with hk|⟨d,hd⟩;simp_all[alg];have⟨f1,A,hA,f2⟩:=adk (γ:=γ) hE ub hN (k:=k) hd alts hm;(have hk5:k≠5:=by grind[alg]);have hr:=CJ hE ub hN hH rs (hL.plus (bU.a (k:=k) hd)) f1 h A hA;rw[gh,gh,jW,iC hk5 hd]at hr;unfold Kx at f2;by_cases hc:c<0;rw[if_pos (decide_eq_true hc)]at f2;have:c*ev (aQ R) ξ γ A<=c*im k d:=Int.mul_le_mul_of_nonpos_left (by omega) f2;grind;rw[if_neg (by simpa using hc)]at f2;have:c*ev (aQ R) ξ γ A<=c*im k d:=NS f2 (by omega);grind;cases h;cases h)|.n r,L,_,h=>by simp[Ku]at h;have:=qD hE ub hN hH r (bU.c _) h;rw[dh]at this;omega|.o,_,_,h=>by cases h|.g _,_,_,h=>by cases h
theorem CJ(hE:rX Sp)(ub:jc Sp ξ Γ)(hN:mF (aQ R) ξ N)(hH:pk (aQ R) ξ γ H):∀(rs:List Xv){L:f_}{c:Int}{as:List f_},bU (aQ R) ξ L->(∀A∈as,bU (aQ R) ξ A)->V9 Γ N H rs L c as=I->∀A∈as,0<=ev (aQ R) ξ γ (L.plus c A)|[],L,c,[],_,_,_,A,hA=>by cases hA|r::rs,L,c,B::as,hL,hAs,h,A,hA=>(by simp[V9]at h;rcases aO.1 hA with rfl|hA;exact qD hE ub hN hH r (hL.plus (hAs _ (aU ..))) h.1;exact CJ hE ub hN hH rs hL (λA hA=>hAs A (aS _ hA)) h.2 A hA)|[],_,_,_::_,_,_,h,_,_=>by cases h|_::_,_,_,[],_,_,h,_,_=>by simp_all
end
theorem yr(a:pk (aQ R) ξ γ H){L:f_}(h:δ H L=I):0<=ev (aQ R) ξ γ L:=by unfold δ at h;rcases(bW ..).mp h with h|h;exact tY h;have⟨f,c,b⟩:=List.any_eq_true.1 h;have:=tY (R:=R) (ξ:=ξ) (γ:=γ) b;rw[gh]at this;have:=(a f c).2;omega
end
end
section
variable{s s':CS}{σ:Cs}{d:ah}{t:Tm}
section
variable{Sp:Nat->ah->Prop}{R:dI}{ξ:Nat->Option ah}{γ:Int}{Γ:Tr Ty}
structure iA(U:Nat->List ah->Option ah)(ξ:Nat->Option ah)(γ:Int)(s:CS):Prop where
 H:pk U ξ γ s.H
 N:mF U ξ s.N
 D:∀d∈s.D,bU U ξ d/\ev U ξ γ d≠0
theorem gG(i:rX Sp)(b:jc Sp ξ Γ)(a:iA (aQ R) ξ γ s){L:f_}(g:bU (aQ R) ξ L)(h:ask Γ s L=O s'):iA (aQ R) ξ γ s'/\0<=ev (aQ R) ξ γ L/\s'.N=s.N:=by unfold ask at h;split at h;rename_i e;simp at h;subst h;exact⟨a,yr a.H e,rfl⟩;split at h;split at h;rename_i d;simp at h;subst h;have:=qD i b a.N a.H _ g d;refine⟨⟨λf c=> ?_,a.N,a.D⟩,this,rfl⟩;rcases aO.1 c with rfl|c;simp_all;exact a.H f c;cases h;cases h
theorem nN(e:rX Sp)(a:jc Sp ξ Γ):∀{b:List f_}{s s':CS},iA (aQ R) ξ γ s->(∀L∈b,bU (aQ R) ξ L)->asks Γ s b=O s'->iA (aQ R) ξ γ s'/\(∀L∈b,0<=ev (aQ R) ξ γ L)/\s'.N=s.N|[],s,s',c,_,h=>by simp_all[asks]|L::b,s,s',c,d,h=>by simp[asks]at h;split at h;rename_i i g;have⟨a1,a2,a3⟩:=gG e a c (d _ (aU ..)) g;have⟨l,k,j⟩:=nN e a a1 (λL f=>d L (aS _ f)) h;simp_all;cases h
theorem iA.cons(a:iA (aQ R) ξ γ s){L:f_}(d:bU (aQ R) ξ L)(c:0<=ev (aQ R) ξ γ L):iA (aQ R) ξ γ ⟨L::s.H,s.N,σ,s.D⟩:=
 ⟨λf b=>by
  rcases aO.1 b with rfl|b
  ·simp_all
  ·exact a.H f b,a.N,a.D⟩
theorem iA.nov(b:iA (aQ R) ξ γ s)(e:aD (aQ R) ξ t=O d)(c:Fu (aQ R) ξ t):iA (aQ R) ξ γ ⟨s.H,t::s.N,σ,s.D⟩:=
 ⟨b.H,λu a=>by
  rcases aO.1 a with rfl|a
  ·simp_all
  ·exact b.N u a,b.D⟩
theorem iA.sig(a:iA (aQ R) ξ γ s):iA (aQ R) ξ γ ⟨s.H,s.N,σ,s.D⟩:=⟨a.H,a.N,a.D⟩
theorem DY{k:bu}{x:Int}(b:MA k<=x)(a:x<=Ka k):k.wrap x=x:=by apply DV;cases k<;>exact b;cases k<;>exact a
theorem Uu(f:rX Sp)(b:jc Sp ξ Γ)(h:aaO Γ t=I):Fu (aQ R) ξ t:=by unfold aaO at h;split at h;split at h;rename_i k a j d;intro x c;have:=mS f b d c;rw[aK]at this;have⟨z,e,i,g⟩:=this;simp at e;subst e;have:=FL h;exact DY (by omega) (by omega);cases h;cases h
theorem Uv{N:List Tm}(g:mF (aQ R) ξ N){A B:f_}(h:ajb N t=O (A,B))(m:aD (aQ R) ξ t=O d):bU (aQ R) ξ A/\bU (aQ R) ξ B/\(0<=ev (aQ R) ξ γ A->0<=ev (aQ R) ξ γ B->Fu (aQ R) ξ t):=by unfold ajb at h;split at h;injection h with h;injection h with k j;subst k j;have⟨x,y,a,b,_⟩:=pg m;have i:bU (aQ R) ξ ((bG N _).plus 1 (bG N _)):=(bg a).plus (bg b);refine⟨i.ge (bU.c _),(bU.c _).ge i,λf e=> ?_⟩;rw[gq,gh,a_ g a,a_ g b,dh]at f e;intro x' y' l n;rw[a]at l;rw[b]at n;grind[DY];injection h with h;injection h with k j;subst k j;have⟨x,y,a,b,_⟩:=pg m;have i:bU (aQ R) ξ ((bG N _).plus (-1) (bG N _)):=(bg a).plus (bg b);refine⟨i.ge (bU.c _),(bU.c _).ge i,λf e=> ?_⟩;rw[gq,gh,a_ g a,a_ g b,dh]at f e;intro x' y' l n;rw[a]at l;rw[b]at n;grind[DY];injection h with h;injection h with k j;subst k j;have⟨x,a,_⟩:=sr m;refine⟨(bg a).ge (bU.c _),(bU.c _).ge (bg a),λf e=> ?_⟩;rw[gq,a_ g a,dh]at f e;intro x' l;rw[a]at l;grind[DY];cases h
theorem yt(e:rX Sp)(a:jc Sp ξ Γ)(b:iA (aQ R) ξ γ s)(c:aD (aQ R) ξ t=O d)(h:ε Γ s t=O s'):iA (aQ R) ξ γ s':=by unfold ε at h;split at h;rename_i k;simp at h;subst h;exact b.nov c (Uu e a k);split at h;cases h;simp at h;subst h;exact b.sig;split at h;rename_i A B f;have⟨j,i,g⟩:=Uv (γ:=γ) b.N f c;split at h;rename_i q m;have⟨a1,a2,a3⟩:=gG e a b.sig j m;split at h;rename_i p l;have⟨o,n,r⟩:=gG e a a1 i l;simp at h;subst h;exact o.nov c (g a2 n);cases h;cases h;cases h
theorem yu(w:rX Sp)(g:jc Sp ξ Γ)(i:iA (aQ R) ξ γ s)(e:aD (aQ R) ξ t=O d)(K:∀k a b,t=.bin .rem k a b->∀y,aD (aQ R) ξ b=O (.n y)->0<y)(h:ζ Γ s t=O s'):iA (aQ R) ξ γ s':=by unfold ζ at h;split at h;simp_all;split at h;exact yt w g i e h;exact yt w g i e h;rename_i k a b _;unfold akT at h;split at h;cases h;simp at h;subst h;exact i.sig;have⟨x,y,o,u,j⟩:=pg e;split at h;rename_i l A;have⟨a1,a2,a3⟩:=gG w g i.sig (bg o) A;rw[a_ i.N o]at a2;simp at h;subst h;have J:=K k a b rfl y u;(have Iz:d=.n (x.tmod y):=by simp[gH,dX]at j;(split at j<;>rename_i heq<;>split at heq<;>first|(cases heq;done)|(cases j;done)|skip);injection heq with heq;injection heq with _ heq;simp at j;rw[<-j,<-heq]);subst Iz;have Gz:0<=x.tmod y:=Int.tmod_nonneg _ a2;have Oz:x.tmod y<y:=Int.tmod_lt_of_pos _ J;(have v:ev (aQ R) ξ γ (eY 0 (.bin .rem k a b))=x.tmod y:=by rw[jW,iC (by simp) e,oE]);have C:=a1.nov (σ:=l.σ) e (by trivial);have L:bU (aQ R) ξ (bG l.N b):=bg u;have B:iA (aQ R) ξ γ ⟨v_ (bG l.N b) (eY 0 (.bin .rem k a b))::l.H,.bin .rem k a b::l.N,l.σ,l.D⟩:=C.cons (L.gt (bU.a e)) (by rw[fY,a_ a1.N u,v];omega);exact B.cons (bU.a e) (by rw[v];exact Gz);cases h;exact yt w g i e h;rename_i x _;simp at h;subst h;have⟨ds,A,z⟩:=kY e;obtain⟨p,q,r,o,j,M,rfl⟩:=KN A;rw[bR M,uB rfl rfl]at z;simp[dD,cn]at z;obtain⟨m,n,rfl,rfl,rfl⟩:=ep z;simp[aD]at j;subst j;(have v:ev (aQ R) ξ γ (eY 0 (.f 6 [x,.c 1]))=m/2:=by rw[jW,iC (by decide) e];simp only[Z_,oE];rw[Int.fdiv_eq_ediv_of_nonneg _ (by decide)];rfl);have C:=i.nov (σ:=s.σ) e (by trivial);have E:=bg (N:=s.N) o;have F:bU (aQ R) ξ ((eY 0 (.f 6 [x,.c 1])).plus 1 (eY 0 (.f 6 [x,.c 1]))):=(bU.a e).plus (bU.a e);have B:iA (aQ R) ξ γ ⟨v_ (((eY 0 (.f 6 [x,.c 1])).plus 1 (eY 0 (.f 6 [x,.c 1]))).plus 1 (gI 2)) (bG s.N x)::s.H,.f 6 [x,.c 1]::s.N,s.σ,s.D⟩:=C.cons ((F.plus (bU.c _)).gt E) (by rw[fY,gh,gh,dh,v,a_ i.N o];omega);exact B.cons (E.ge F) (by rw[gq,gh,v,a_ i.N o];omega);simp_all
theorem alQ{N:List Tm}{o:Nat}{l:List Tm}{ds:List ah}(i:aA (aQ R) ξ l=O ds):∀L∈Sj N o l,bU (aQ R) ξ L:=by intro L e;unfold Sj at e;(split at e<;>try(cases e;done));(all_goals (obtain⟨a,b,r,f,d,h,rfl⟩:=KN i;simp only[aO,dv,or_false]at e));obtain⟨c,r,g,j,rfl⟩:=bf h;rcases e with rfl|rfl|rfl;exact bg d;exact(bg g).ge (bg d);exact(kZ f).ge (bg g);rcases e with rfl|rfl;exact bg d;exact(kZ f).gt (bg d);rcases e with rfl|rfl;exact bg d;exact(kZ f).gt (bg d);rcases e with rfl|rfl;exact bg d;exact(kZ f).ge (bg d);obtain⟨c,r,g,j,rfl⟩:=bf h;rcases e with rfl|rfl|rfl;exact bg d;exact(bg g).ge (bg d);exact(kZ f).ge (bg g);rcases e with rfl|rfl;exact bg d;exact(kZ f).ge (bg d);subst e;exact bg f;rcases e with rfl|rfl;exact bg d;exact(kZ f).ge (bg d);rcases e with rfl|rfl;exact bg d;exact(kZ f).gt (bg d);rcases e with rfl|rfl;exact bg d;exact(kZ f).gt (bg d);rcases e with rfl|rfl;exact bg d;exact(kZ f).gt (bg d)
theorem Rv{p:Option Tm}(h:TQ p t=I):∃a b z d,p=O (.f 31 [a,b,.c z])/\t=.f 31 [a,b,.c d]:=by unfold TQ at h;split at h;simp at h;rw[bj h.1,bj h.2];simp_all;cases h
theorem agf{o:BinOp}{k:bu}{a b:Tm}{x y:Int}(g:aD (aQ R) ξ a=O (.n x))(f:aD (aQ R) ξ b=O (.n y))(e:K4 o=I∨XQ o=I∨o=.rem)(c:o=.quo∨o=.rem->y≠0):∃d,aD (aQ R) ξ (.bin o k a b)=O d:=by simp[aD,g,f,gH];(cases o<;>simp only[K4,XQ,reduceCtorEq,or_false,false_or,kG]at e<;>simp only[dX]<;>first|exact⟨_,rfl⟩|skip);all_goals (have:=c (by simp);grind[h_])
mutual
theorem tI(hE:rX Sp)(ub:jc Sp ξ Γ):∀{t:Tm}{T:Ty}{s s':CS},iA (aQ R) ξ γ s->Ec Γ t=O T->Kv Γ t s=O s'->iA (aQ R) ξ γ s'/\∃d,aD (aQ R) ξ t=O d|.c z,T,s,s',hs,_,h=>by simp[Kv]at h;subst h;exact⟨hs,_,rfl⟩|.x i,T,s,s',hs,hT,h=>by simp[Kv]at h;subst h;simp[Ec]at hT;have⟨d,h1,_⟩:=ub i T hT;exact⟨hs,d,h1⟩|.bin o k a b,T,s,s',hs,hT,h=>by simp[Kv]at h;simp[Ec]at hT;(split at hT<;>try(cases hT;done));rename_i t u ht hu;(split at hT<;>try(cases hT;done));rename_i hn;simp at hn;(split at h<;>try(cases h;done));rename_i s1 h1;(split at h<;>try(cases h;done));rename_i s2 h2;(split at h<;>try(cases h;done));rename_i s3 h3;have⟨c1,d1,e1⟩:=tI hE ub hs ht h1;have⟨c2,d2,e2⟩:=tI hE ub c1 hu h2;obtain⟨x,rfl⟩:=dW hn.1 (mS hE ub ht e1);obtain⟨y,rfl⟩:=dW hn.2 (mS hE ub hu e2);(have hD:∀L∈obB s2.N o b,bU (aQ R) ξ L:=by intro L hL;unfold obB at hL;(split at hL<;>try(cases hL;done));all_goals (rw[aR.1 hL];exact(bg e2).gt (bU.c _)));have⟨c3,q3,_⟩:=nN hE ub c2 hD h3;(have Ky:o=.quo∨o=.rem->0<y:=by rintro(rfl|rfl);have:=q3 _ (aR.2 rfl);rw[fY,dh,a_ c2.N e2]at this;omega;have:=q3 _ (aR.2 rfl);rw[fY,dh,a_ c2.N e2]at this;omega);(have ho:K4 o=I∨XQ o=I∨o=.rem:=by split at hT;exact .inl ‹_›;split at hT;exact .inr (.inl ‹_›);split at hT;exact .inr (.inr rfl);cases hT);(have⟨d,hd⟩:=agf (k:=k) e1 e2 ho λhq=>by have:=Ky hq;omega);grind[yu]|.conv k a,T,s,s',hs,hT,h=>by simp[Kv]at h;simp[Ec]at hT;(split at hT<;>try(cases hT;done));rename_i t ht;(split at hT<;>try(cases hT;done));rename_i hn;(split at h<;>try(cases h;done));rename_i s1 h1;have⟨c1,d1,e1⟩:=tI hE ub hs ht h1;obtain⟨x,rfl⟩:=dW hn (mS hE ub ht e1);(have hd:aD (aQ R) ξ (.conv k a)=O (.n (k.wrap x)):=by simp[aD,e1]);grind[yu]|.f o l,T,s,s',hs,hT,h=>by simp[Kv]at h;simp[Ec]at hT;(split at hT<;>try(cases hT;done));rename_i ts hts;(split at h<;>try(cases h;done));rename_i s1 h1;(split at h<;>try(cases h;done));rename_i s2 h2;have⟨c1,ds,e1⟩:=rj hE ub hs hts (λu hu=>by cases hu) h1;have⟨c2,q2,_⟩:=nN hE ub c1 (alQ e1) h2;have⟨d,hd⟩:=WX c1.N hT (vq hE ub hts e1) e1 q2;have hd:aD (aQ R) ξ (.f o l)=O d:=abS e1▸hd;grind[yu]
theorem rj(hE:rX Sp)(ub:jc Sp ξ Γ):∀{l:List Tm}{p:Option Tm}{ts:List Ty}{s s':CS},iA (aQ R) ξ γ s->O7 Γ l=O ts->(∀u,p=O u->∃d,aD (aQ R) ξ u=O d)->EU Γ l p s=O s'->iA (aQ R) ξ γ s'/\∃ds,aA (aQ R) ξ l=O ds|[],_,_,s,s',hs,_,_,h=>by simp[EU]at h;subst h;exact⟨hs,[],rfl⟩|t::l,p,ts,s,s',hs,hT,hp,h=>by simp[O7]at hT;(split at hT<;>try(cases hT;done));rename_i T Ts hT1 hT2;simp[EU]at h;split at h;rename_i alR;obtain⟨a,b,z,z',rfl,rfl⟩:=Rv alR;have⟨d,hd⟩:=hp _ rfl;(have ZK:∃d,aD (aQ R) ξ (.f 31 [a,b,.c z'])=O d:=by have⟨ds,h1,h2⟩:=kY hd;obtain⟨A,r,e1,e2,rfl⟩:=bf h1;obtain⟨B,r,e3,e4,rfl⟩:=bf e2;obtain⟨C,r,e5,e6,rfl⟩:=bf e4;rw[bR e6,uB rfl rfl]at h2;simp[dD,bt]at h2;obtain⟨xs,m,n,x,rfl,rfl,_,hm,_,hx,_⟩:=kg h2;have hv:aA (aQ R) ξ [a,b,.c z']=O [.l xs,.n m,.n z']:=kH e1 (kH e3 (kH rfl rfl));simp[Ec]at hT1;(split at hT1<;>try(cases hT1;done));rename_i ts' ajF;have sO:=(cj.1 hx).1;have⟨d',hd'⟩:=WX (γ:=γ) hs.N hT1 (vq hE ub ajF hv) hv (λL hL=>by simp[Sj]at hL;rcases hL with rfl|rfl;rw[a_ hs.N e3];exact hm;rw[fY,a_ hs.N e3,iX hs.N e1,ni];omega);simp_all[abS]);have⟨d2,ZK⟩:=ZK;have⟨c1,ds,e1⟩:=rj hE ub hs hT2 (λu hu=>by simp_all) h;exact⟨c1,d2::ds,kH ZK e1⟩;(split at h<;>try(cases h;done));rename_i s1 h1;have⟨c1,d,e1⟩:=tI hE ub hs hT1 h1;have⟨c2,ds,e2⟩:=rj hE ub c1 hT2 (λu hu=>by simp_all) h;exact⟨c2,d::ds,kH e1 e2⟩
end
theorem mg(i:rX Sp)(b:jc Sp ξ Γ){ts:List Tm}{a:List Ty}(g:iA (aQ R) ξ γ s)(h:visit Γ s ts=O (s',a)):iA (aQ R) ξ γ s'/\∃ds,aA (aQ R) ξ ts=O ds/\br Sp a ds:=by unfold visit at h;(split at h<;>try(cases h;done));rename_i d c;(split at h<;>try(cases h;done));rename_i m j;injection h with h;injection h with l k;subst l k;have⟨n,ds,e⟩:=rj i b g c (λu f=>by cases f) j;grind[vq]
end
end
section
variable{n:Int}{a t:Tm}
section
variable{Sp:Nat->ah->Prop}{R:dI}{ξ:Nat->Option ah}{γ:Int}{Γ:Tr Ty}{N:List Tm}
theorem gD{o:BinOp}{k:bu}{c:Tm}{q:Int->Int->Bool}(b:∀x y,gH o k x y=O (.n (if q x y=I then 1 else 0)))(h:aD (aQ R) ξ (.bin o k a c)=O (.n n)):∃x y,aD (aQ R) ξ a=O (.n x)/\aD (aQ R) ξ c=O (.n y)/\q x y=decide (n≠0):=by have⟨x,y,f,e,d⟩:=pg h;refine⟨x,y,f,e,?_⟩;rw[b]at d;grind
theorem and_val{b:Tm}(h:aD (aQ R) ξ (.f 5 [a,b])=O (.n n))(hn:n≠0):∃x y,aD (aQ R) ξ a=O (.n x)/\aD (aQ R) ξ b=O (.n y)/\x≠0/\y≠0:=by have⟨ds,h1,h2⟩:=kY h;obtain⟨p,q,r,h3,h5,h6,rfl⟩:=KN h1;rw[bR h6,uB rfl rfl]at h2;grind[dD,cn,SN,jC,ep]
theorem NZ(h:aD (aQ R) ξ (.f 10 [a])=O (.n n)):∃x,aD (aQ R) ξ a=O (.n x)/\(n≠0↔x=0):=by have⟨ds,h1,h2⟩:=kY h;obtain⟨p,r,h3,h4,rfl⟩:=bf h1;rw[bR h4,uB rfl rfl]at h2;simp[dD,eI]at h2;unfold O4 at h2;grind[jC]
theorem rk(hE:rX Sp)(ub:jc Sp ξ Γ)(hN:mF (aQ R) ξ N):∀(z:Nat){t:Tm}{b:Bool}{n:Int},nw t<=z->aD (aQ R) ξ t=O (.n n)->b=decide (n≠0)->∀L∈xZ Γ N t b,bU (aQ R) ξ L/\0<=ev (aQ R) ξ γ L|0,t,_,_,hz,_,_=>by cases t<;>simp only[nw]at hz<;>omega|z+1,t,b,n,hz,h,hb=>by intro L hL;unfold xZ at hL;split at hL;have⟨x,y,h1,h2,h3⟩:=gD (q:=λx y=>decide (x<=y)) (λx y=>bI rfl) h;rw[aR.1 hL];refine⟨(bg h2).ge (bg h1),?_⟩;rw[gq,a_ hN h1,a_ hN h2];simp_all;have⟨x,y,h1,h2,h3⟩:=gD (q:=λx y=>decide (x<=y)) (λx y=>bI rfl) h;rw[aR.1 hL];refine⟨(bg h1).gt (bg h2),?_⟩;rw[fY,a_ hN h1,a_ hN h2];grind;have⟨x,y,h1,h2,h3⟩:=gD (q:=λx y=>decide (x<y)) (λx y=>bI rfl) h;rw[aR.1 hL];refine⟨(bg h2).gt (bg h1),?_⟩;rw[fY,a_ hN h1,a_ hN h2];grind;have⟨x,y,h1,h2,h3⟩:=gD (q:=λx y=>decide (x<y)) (λx y=>bI rfl) h;rw[aR.1 hL];refine⟨(bg h1).ge (bg h2),?_⟩;rw[gq,a_ hN h1,a_ hN h2];simp_all;have⟨x,y,h1,h2,h3⟩:=gD (q:=λx y=>decide (x>=y)) (λx y=>bI rfl) h;rw[aR.1 hL];refine⟨(bg h1).ge (bg h2),?_⟩;rw[gq,a_ hN h1,a_ hN h2];simp_all;have⟨x,y,h1,h2,h3⟩:=gD (q:=λx y=>decide (x>=y)) (λx y=>bI rfl) h;rw[aR.1 hL];refine⟨(bg h2).gt (bg h1),?_⟩;rw[fY,a_ hN h1,a_ hN h2];grind;have⟨x,y,h1,h2,h3⟩:=gD (q:=λx y=>decide (x>y)) (λx y=>bI rfl) h;rw[aR.1 hL];refine⟨(bg h1).gt (bg h2),?_⟩;rw[fY,a_ hN h1,a_ hN h2];grind;have⟨x,y,h1,h2,h3⟩:=gD (q:=λx y=>decide (x>y)) (λx y=>bI rfl) h;rw[aR.1 hL];refine⟨(bg h2).ge (bg h1),?_⟩;rw[gq,a_ hN h1,a_ hN h2];simp_all;have⟨x,y,h1,h2,h3⟩:=gD (q:=λx y=>decide (x=y)) (λx y=>bI rfl) h;have:=of_decide_eq_true (h3.trans hb.symm);simp at hL;rcases hL with rfl|rfl;refine⟨(bg h1).ge (bg h2),?_⟩;rw[gq,a_ hN h1,a_ hN h2];omega;refine⟨(bg h2).ge (bg h1),?_⟩;rw[gq,a_ hN h1,a_ hN h2];omega;have⟨x,y,h1,h2,h3⟩:=gD (q:=λx y=> !decide (x=y)) (λx y=>bI rfl) h;have:=h3.trans hb.symm;simp at this;simp at hL;rcases hL with rfl|rfl;refine⟨(bg h1).ge (bg h2),?_⟩;rw[gq,a_ hN h1,a_ hN h2];omega;refine⟨(bg h2).ge (bg h1),?_⟩;rw[gq,a_ hN h1,a_ hN h2];omega;cases hL;cases hL;have hn:n≠0:=of_decide_eq_true hb.symm;have⟨x,y,h1,h2,h3,h4⟩:=and_val h hn;rcases dx.1 hL with hL|hL;exact rk hE ub hN z (by simp only[nw,j8]at hz;omega) h1 (decide_eq_true h3).symm L hL;exact rk hE ub hN z (by simp only[nw,j8]at hz;omega) h2 (decide_eq_true h4).symm L hL;have⟨x,h1,h2⟩:=NZ h;refine rk hE ub hN z (by simp only[nw,j8]at hz;omega) h1 ?_ L hL;rw[hb];simp_all;rename_i m k;have hn:n≠0:=of_decide_eq_true hb.symm;have⟨ds,h1,h2⟩:=kY h;obtain⟨p,q,r,h3,h5,h6,rfl⟩:=KN h1;rw[bR h6,uB rfl rfl]at h2;simp[dD,cn]at h2;unfold Dm at h2;(split at h2<;>try(cases h2;done));(split at h2<;>try(cases h2;done));rename_i xs _ _;simp at h2;injection h2 with h2;(have aia:(gy q xs).isSome=I:=by grind);rw[aia]at h2;simp at h2;(have g0:bU (aQ R) ξ (v_ (eY 0 (.f 16 [m,k])) (gI 0))/\0<=ev (aQ R) ξ γ (v_ (eY 0 (.f 16 [m,k])) (gI 0)):=by refine⟨(bU.a h).gt (bU.c _),?_⟩;rw[fY,dh,jW,iC (by decide) h,oE,<-h2];omega);split at hL;split at hL;simp at hL;rcases hL with rfl|rfl;refine⟨(iV h3).ge (iV h3),?_⟩;rw[gq,fB (by decide) h3,fB (by decide) h3];have⟨v,hv⟩:=fu.1 aia;have⟨a,ha,_⟩:=Bu hv;have:=NV ha;omega;exact g0;simp_all;cases hL;(have hn:n=0:=by simp_all);split at hL;simp at hL;rcases hL with rfl|rfl;grind[a_,bg];refine⟨(bU.c _).ge (bg h),?_⟩;rw[gq,dh,a_ hN h];omega;cases hL;have hn:n≠0:=of_decide_eq_true hb.symm;split at hL;rename_i hT;split at hL;rename_i hk;have hk:=of_decide_eq_true hk;have:=mS hE ub hT h;rw[aK]at this;have⟨w,e,h1,h2⟩:=this;simp at e;subst e;rw[aR.1 hL];refine⟨(bg h).gt (bU.c _),?_⟩;rw[fY,dh,a_ hN h];omega;cases hL;rename_i hT;have:=mS hE ub hT h;rw[aK]at this;have⟨w,e,h1,h2⟩:=this;simp at e;subst e;rw[aR.1 hL];refine⟨(bg h).gt (bU.c _),?_⟩;rw[fY,dh,a_ hN h];omega;cases hL
theorem Yr(d:mF (aQ R) ξ N){b:Bool}(h:aD (aQ R) ξ t=O (.n n))(g:b=decide (n≠0)):∀L∈η N t b,bU (aQ R) ξ L/\ev (aQ R) ξ γ L≠0:=by intro L e;unfold η at e;split at e;have⟨x,y,c,a,f⟩:=gD (q:=λx y=>decide (x=y)) (λx y=>bI rfl) h;rw[aR.1 e];refine⟨(bg c).ge (bg a),?_⟩;rw[gq,a_ d c,a_ d a];grind;have⟨x,y,c,a,f⟩:=gD (q:=λx y=> !decide (x=y)) (λx y=>bI rfl) h;rw[aR.1 e];refine⟨(bg c).ge (bg a),?_⟩;rw[gq,a_ d c,a_ d a];grind;have⟨w,i,j⟩:=NZ h;have k:n≠0:=of_decide_eq_true g.symm;have⟨x,y,c,a,f⟩:=gD (q:=λx y=>decide (x=y)) (λx y=>bI rfl) i;rw[aR.1 e];refine⟨(bg c).ge (bg a),?_⟩;rw[gq,a_ d c,a_ d a];grind;cases e
theorem xD:∀{D H:List f_},pk (aQ R) ξ γ H->(∀d∈D,bU (aQ R) ξ d/\ev (aQ R) ξ γ d≠0)->pk (aQ R) ξ γ (DQ D H)|[],H,b,_=>b|d::D,H,b,i=>by simp[DQ];have h:=i d (aU ..);refine xD ?_ λe j=>i e (aS _ j);split;rename_i g;have:=yr b g;intro f a;rcases aO.1 a with rfl|a;refine⟨h.1.gt (bU.c _),?_⟩;rw[fY,dh];omega;exact b f a;split;rename_i g;have:=yr b g;rw[gq,dh]at this;intro f a;rcases aO.1 a with rfl|a;refine⟨(bU.c _).gt h.1,?_⟩;rw[fY,dh];omega;exact b f a;exact b
theorem AR:∀{n D H:List f_},pk (aQ R) ξ γ H->(∀d∈D,bU (aQ R) ξ d/\ev (aQ R) ξ γ d≠0)->pk (aQ R) ξ γ (settle n D H)|[],_,_,a,_=>a|_::n,D,H,a,b=>by simp[settle];exact AR (xD a b) b
theorem CK(l:rX Sp)(g:jc Sp ξ Γ){s:CS}(a:iA (aQ R) ξ γ s){b:Bool}(h:aD (aQ R) ξ t=O (.n n))(j:b=decide (n≠0)):iA (aQ R) ξ γ (Nb Γ s t b):=by (have k:pk (aQ R) ξ γ (xZ Γ s.N t b++s.H):=λf c=>by rcases dx.1 c with c|c;exact rk l g a.N _ (ba _) h j f c;exact a.H f c);(have i:∀d∈η s.N t b++s.D,bU (aQ R) ξ d/\ev (aQ R) ξ γ d≠0:=λd e=>by rcases dx.1 e with e|e;exact Yr a.N h j d e;exact a.D d e);unfold Nb;simp only;split;exact⟨k,a.N,i⟩;exact⟨AR k i,a.N,i⟩
theorem Ys(i:rX Sp)(e:jc Sp ξ Γ){s l:CS}(a:iA (aQ R) ξ γ s)(h:aD (aQ R) ξ t=O (.n n))(f:prC Γ s t I=O l):iA (aQ R) ξ γ l/\n≠0:=by have fin:∀{q:Bool},q=decide (n≠0)->q=I->n≠0:=λd b=>of_decide_eq_true (d.symm.trans b);unfold prC at f;split at f;have⟨x,y,d,b,g⟩:=gD (q:=λx y=>decide (x<=y)) (λx y=>bI rfl) h;have⟨a1,a2,_⟩:=gG i e a ((bg b).ge (bg d)) f;rw[gq,a_ a.N d,a_ a.N b]at a2;exact⟨a1,fin g (decide_eq_true (by omega))⟩;have⟨x,y,d,b,g⟩:=gD (q:=λx y=>decide (x<y)) (λx y=>bI rfl) h;have⟨a1,a2,_⟩:=gG i e a ((bg b).gt (bg d)) f;rw[fY,a_ a.N d,a_ a.N b]at a2;exact⟨a1,fin g (decide_eq_true (by omega))⟩;have⟨x,y,d,b,g⟩:=gD (q:=λx y=>decide (x>=y)) (λx y=>bI rfl) h;have⟨a1,a2,_⟩:=gG i e a ((bg d).ge (bg b)) f;rw[gq,a_ a.N d,a_ a.N b]at a2;exact⟨a1,fin g (decide_eq_true (by omega))⟩;have⟨x,y,d,b,g⟩:=gD (q:=λx y=>decide (x>y)) (λx y=>bI rfl) h;have⟨a1,a2,_⟩:=gG i e a ((bg d).gt (bg b)) f;rw[fY,a_ a.N d,a_ a.N b]at a2;exact⟨a1,fin g (decide_eq_true (by omega))⟩;have⟨x,y,d,b,g⟩:=gD (q:=λx y=>decide (x=y)) (λx y=>bI rfl) h;have⟨a1,a2,_⟩:=nN i e a (λL m=>by simp at m;rcases m with rfl|rfl;exact(bg d).ge (bg b);exact(bg b).ge (bg d)) f;have r:=a2 _ (aU ..);have p:=a2 _ (aS _ (aU ..));rw[gq,a_ a.N d,a_ a.N b]at r p;exact⟨a1,fin g (decide_eq_true (by omega))⟩;have⟨x,y,d,b,g⟩:=gD (q:=λx y=> !decide (x=y)) (λx y=>bI rfl) h;split at f;rename_i o j;simp at f;subst f;have⟨a1,a2,_⟩:=gG i e a ((bg d).gt (bg b)) j;rw[fY,a_ a.N d,a_ a.N b]at a2;exact⟨a1,fin g (by simp;omega)⟩;have⟨a1,a2,_⟩:=gG i e a ((bg b).gt (bg d)) f;rw[fY,a_ a.N d,a_ a.N b]at a2;exact⟨a1,fin g (by simp;omega)⟩;have⟨w,v,u⟩:=NZ h;have⟨x,y,d,b,g⟩:=gD (q:=λx y=>decide (x=y)) (λx y=>bI rfl) v;have go:x≠y->n≠0:=λk=>u.2 (by have:decide (x=y)=Z:=decide_eq_false k;rw[this]at g;have:=of_decide_eq_false g.symm;simpa using this);split at f;rename_i o j;simp at f;subst f;have⟨a1,a2,_⟩:=gG i e a ((bg d).gt (bg b)) j;rw[fY,a_ a.N d,a_ a.N b]at a2;exact⟨a1,go (by omega)⟩;have⟨a1,a2,_⟩:=gG i e a ((bg b).gt (bg d)) f;rw[fY,a_ a.N d,a_ a.N b]at a2;exact⟨a1,go (by omega)⟩;have⟨a1,a2,_⟩:=gG i e a ((bg h).gt (bU.c _)) f;rw[fY,dh,a_ a.N h]at a2;exact⟨a1,by omega⟩;simp_all
end
end
section
variable{s:CS}{L g:f_}{U:Nat->List ah->Option ah}
section
variable{Sp:Nat->ah->Prop}{R:dI}{ξ mr:Nat->Option ah}{γ:Int}{Γ:Tr Ty}{N:List Tm}
def Ext(ξ mr:Nat->Option ah):Prop:=∀i d,ξ i=O d->mr i=O d
mutual
theorem ox(hx:Ext ξ mr):∀{t:Tm}{d:ah},aD U ξ t=O d->aD U mr t=O d|.c _,_,h=>h|.x i,d,h=>hx i d h|.bin o k a b,d,h=>by have⟨x,y,h1,h2,h3⟩:=pg h;simpa[aD,ox hx h1,ox hx h2]|.conv k a,d,h=>by obtain⟨x,h1,rfl⟩:=sr h;simp[aD,ox hx h1]|.f o l,d,h=>by have⟨ds,h1,h2⟩:=kY h;rw[abS (pU hx h1)];exact h2
theorem pU(hx:Ext ξ mr):∀{l:List Tm}{ds:List ah},aA U ξ l=O ds->aA U mr l=O ds|[],_,h=>h|t::l,ds,h=>by obtain⟨d,r,h1,h2,rfl⟩:=bf h;exact kH (ox hx h1) (pU hx h2)
end
theorem bU.mono(a:Ext ξ mr)(h:bU U ξ L):bU U mr L:=λp b=>by rcases h p b with h|⟨d,h⟩;exact .inl h;exact .inr ⟨d,ox a h⟩
theorem N0(b:Ext ξ mr)(h:bU U ξ L):ev U mr γ L=ev U ξ γ L:=by unfold ev;(have key:∀l:List (Int×Nat×Tm),(∀p∈l,p.2.1=5∨∃d,aD U ξ p.2.2=O d)->zp U mr γ l=zp U ξ γ l:=by intro l;induction l with|nil=>intro _;rfl|cons p l a=>grind[zp,MC,ox]);rw[key L.l h]
theorem iA.mono(b:Ext ξ mr)(h:iA (aQ R) ξ γ s):iA (aQ R) mr γ s:=by refine⟨λf g=> ?_,λt e=> ?_,λd i=> ?_⟩;have⟨a,c⟩:=h.H f g;exact⟨a.mono b,by rw[N0 b a];exact c⟩;have⟨⟨d,a⟩,c⟩:=h.N t e;refine⟨⟨d,ox b a⟩,?_⟩;unfold Fu at c⊢;grind[ox,pg,sr];have⟨a,c⟩:=h.D d i;exact⟨a.mono b,by rw[N0 b a];exact c⟩
def kU(ds rs:List ah)(p:Nat):Option ah:=match aF 1000 p with|I=>rs[p - 1000]? |Z=>ds[p]?
theorem WY:∀{ts:List Tm}{ds:List ah}{p:Nat}{t:Tm},aA U ξ ts=O ds->ts[p]? =O t->ds[p]? =aD U ξ t|[],_,_,_,_,h=>by simp at h|u::ts,ds,0,t,h,a=>by grind[bf]|u::ts,ds,p+1,t,h,a=>by obtain⟨d,r,c,b,rfl⟩:=bf h;simpa using WY b (by grind)
section
variable{ts rs:List Tm}{ds qs:List ah}
mutual
theorem put_eq(h1:aA (aQ R) ξ ts=O ds)(h2:aA (aQ R) ξ rs=O qs):∀{t t':Tm},qh ts rs t=O t'->aD (aQ R) ξ t'=aD (aQ R) (kU ds qs) t|.c n,t',h=>by simp[qh]at h;subst h;rfl|.x p,t',h=>by grind[qh,aD,kU,WY]|.bin o k a b,t',h=>by simp[qh]at h;(split at h<;>try(cases h;done));rename_i a' b' ha hb;simp at h;subst h;simp[aD,put_eq h1 h2 ha,put_eq h1 h2 hb]|.conv k a,t',h=>by simp[qh]at h;(split at h<;>try(cases h;done));rename_i a' ha;simp at h;subst h;simp[aD,put_eq h1 h2 ha]|.f o l,t',h=>by simp[qh]at h;(split at h<;>try(cases h;done));rename_i l' hl;simp at h;subst h;simp[aD,N1 h1 h2 hl]
theorem N1(h1:aA (aQ R) ξ ts=O ds)(h2:aA (aQ R) ξ rs=O qs):∀{l l':List Tm},Bq ts rs l=O l'->aA (aQ R) ξ l'=aA (aQ R) (kU ds qs) l|[],l',h=>by simp only[Bq,aG]at h;subst h;rfl|t::l,l',h=>by simp[Bq]at h;(split at h<;>try(cases h;done));rename_i a b ha hb;simp at h;subst h;simp[aA,put_eq h1 h2 ha,N1 h1 h2 hb]
end
theorem Uw(a:mF (aQ R) ξ N){k:Nat}(b:k≠5){t:Tm}{d:ah}(h:aD (aQ R) ξ t=O d):bU (aQ R) ξ (V8 N k t)/\ev (aQ R) ξ γ (V8 N k t)=im k d:=by unfold V8;split;exact⟨bg h,(dV a _ _ (ba _) h).1⟩;exact⟨kZ h,(dV a _ _ (ba _) h).2⟩;exact⟨iV h,fB b h⟩
theorem GM(o:aA (aQ R) ξ ts=O ds)(n:aA (aQ R) ξ rs=O qs)(m:mF (aQ R) ξ N)(i:bU (aQ R) ξ g):∀{l:List (Int×Nat×Tm)}{M:f_},EV N ts rs g l=O M->(∀p∈l,p.2.1=5∨∃d,aD (aQ R) (kU ds qs) p.2.2=O d)->bU (aQ R) ξ M/\ev (aQ R) ξ γ M=zp (aQ R) (kU ds qs) (ev (aQ R) ξ γ g) l|[],M,h,_=>by simp[EV]at h;subst h;exact⟨bU.c _,by rw[dh];rfl⟩|(c,k,t)::l,M,h,j=>by simp[EV]at h;(split at h<;>try(cases h;done));rename_i L w;have⟨f,b⟩:=GM o n m i w λp v=>j p (aS _ v);split at h;rename_i a;have a:=an a;simp at h;subst h;refine⟨f.plus i,?_⟩;rw[gh,b];simp[zp,MC,a];omega;rename_i a;(have a:k≠5:=λe=>by rw[e]at a;simp_all);(split at h<;>try(cases h;done));rename_i q u;simp at h;subst h;rcases j _ (aU ..)with e|⟨d,e⟩;grind;simp only at e;have x:aD (aQ R) ξ q=O d:=put_eq o n u▸e;have⟨s,r⟩:=Uw (γ:=γ) m a x;refine⟨f.plus s,?_⟩;rw[gh,b,r];grind[zp,iC]
theorem yv(k:aA (aQ R) ξ ts=O ds)(j:aA (aQ R) ξ rs=O qs)(f:mF (aQ R) ξ N)(d:bU (aQ R) ξ g){M:f_}(h:Cw N ts rs g L=O M)(e:bU (aQ R) (kU ds qs) L):bU (aQ R) ξ M/\ev (aQ R) ξ γ M=ev (aQ R) (kU ds qs) (ev (aQ R) ξ γ g) L:=by unfold Cw at h;(split at h<;>try(cases h;done));rename_i M' i;simp at h;subst h;have⟨b,a⟩:=GM (γ:=γ) k j f d i e;refine⟨b.plus (bU.c _),?_⟩;rw[gh,dh,a];unfold ev;omega
theorem oA(j:aA (aQ R) ξ ts=O ds)(i:aA (aQ R) ξ rs=O qs)(f:mF (aQ R) ξ N)(d:bU (aQ R) ξ g):∀{c Ms:List f_},oI N ts rs g c=O Ms->(∀L∈c,bU (aQ R) (kU ds qs) L)->(∀M∈Ms,bU (aQ R) ξ M)/\((∀M∈Ms,0<=ev (aQ R) ξ γ M)↔∀L∈c,0<=ev (aQ R) (kU ds qs) (ev (aQ R) ξ γ g) L)|[],Ms,h,_=>by simp_all[oI]|L::c,Ms,h,e=>by simp[oI]at h;(split at h<;>try(cases h;done));rename_i a b l k;simp at h;subst h;have⟨q,p⟩:=yv (γ:=γ) j i f d l (e _ (aU ..));have⟨o,n⟩:=oA j i f d k λL m=>e L (aS _ m);simp_all
theorem FO:∀{g:f_}{l:List (Int×Nat×Tm)}{M:f_},EV N ts rs g l=O M->∀p∈l,p.2.1≠5->∃b,qh ts rs p.2.2=O b|_,[],_,_,p,a,_=>by cases a|g,(c,k,t)::l,M,h,p,a,d=>by simp[EV]at h;(split at h<;>try(cases h;done));rename_i L e;rcases aO.1 a with rfl|a;grind[an];exact FO e p a d
theorem Lu:∀{g:f_}{d Ms:List f_},oI N ts rs g d=O Ms->∀L∈d,∀p∈L.l,p.2.1≠5->∃e,qh ts rs p.2.2=O e|_,[],_,_,L,c,_,_,_=>by cases c|g,M::d,Ms,h,L,c,p,f,i=>by simp[oI]at h;(split at h<;>try(cases h;done));rename_i a b k j;rcases aO.1 c with rfl|c;grind[Cw,FO];exact Lu j L c p f i
theorem yw:∀{l:List (Int×Nat×Tm)}{p:Int×Nat×Tm},p∈l->p.2.1≠5->(∃i,p.2.2=.x i)∨p.2.2∈s5 l|[],_,a,_=>by cases a|(c,k,t)::l,p,a,b=>by have d:p∈l->(∃i,p.2.2=.x i)∨p.2.2∈s5 l:=λh=>yw h b;unfold s5;grind[an]
theorem GN:∀{a:List f_}{L:f_},L∈a->∀t∈s5 L.l,t∈extras a|[],_,h,_,_=>by cases h|M::a,L,h,t,b=>by simp only[extras];rcases aO.1 h with rfl|h;simp_all;exact i6 _ (GN h t b)
theorem vr:∀{l:List Tm}{ds:List ah},aA U ξ l=O ds->∀t∈l,∃d,aD U ξ t=O d|[],_,_,t,a=>by cases a|u::l,ds,h,t,a=>by obtain⟨d,r,c,b,rfl⟩:=bf h;rcases aO.1 a with rfl|a;grind;exact vr b t a
def uQ(R:dI)(γ:Int)(ds rs:List ah)(L:f_):Prop:=bU (aQ R) (kU ds rs) L/\0<=ev (aQ R) (kU ds rs) γ L
theorem pJ(u:rX Sp)(b:jc Sp ξ Γ)(l:aA (aQ R) ξ ts=O ds)(k:aA (aQ R) ξ rs=O qs)(D:bU (aQ R) ξ g){r:CS}(B:iA (aQ R) ξ γ s){m:List f_}(h:Br Γ s ts rs g m=O r):iA (aQ R) ξ γ r/\∀L∈m,uQ R (ev (aQ R) ξ γ g) ds qs L:=by unfold Br at h;(split at h<;>try(cases h;done));rename_i us n;(split at h<;>try(cases h;done));rename_i F w A;(split at h<;>try(cases h;done));rename_i Ms c;have⟨v,es,E,_⟩:=mg u b B A;(have j:∀L∈m,bU (aQ R) (kU ds qs) L:=λL f p t=>by by_cases o:p.2.1=5;exact .inl o;refine .inr ?_;obtain⟨i,C⟩|z:=yw t o;have⟨q,a⟩:=Lu c L f p t o;rw[C]at a⊢;have e:=put_eq (R:=R) l k a;simp[qh]at a;split at a;have⟨d,j⟩:=vr k q (bE a);grind;have⟨d,j⟩:=vr l q (bE a);grind;have:=N1 (R:=R) l k n;rw[E]at this;exact vr this.symm _ (GN f _ z));have⟨y,x⟩:=oA (γ:=γ) l k v.N D c j;have⟨a1,a2,_⟩:=nN u b v y h;exact⟨a1,λL f=>⟨j L f,x.1 a2 L f⟩⟩
end
def PQ(Sp:Nat->ah->Prop)(R:dI)(A:lJ)(γ:Int)(ds:List ah):Prop:=br Sp A.args ds/\∀L∈A.pre,uQ R γ ds [] L
def x9(Sp:Nat->ah->Prop)(R:dI)(A:lJ)(γ:Int)(ds:List ah)(g:Nat)(rs:List ah):Prop:=∃us post,uP g A.ends=O (us,post)/\br Sp us rs/\∀L∈post,uQ R γ ds rs L
def Bv(Sp:Nat->ah->Prop)(R:dI)(k:Nat)(A:lJ):Prop:=∀γ ds,PQ Sp R A γ ds->∃m g rs,R k ds=O (m,g,rs)/\x9 Sp R A γ ds g rs
def Α(ξ:Nat->Option ah)(Γ:Tr Ty):Prop:=∀i,Γ.get i=G->ξ i=G
theorem tJ:∀{l:List (Nat×Bool)}{ts:List Ty}{Γ Ss:Tr Ty}{ξ:Nat->Option ah}{ds:List ah},zR l ts Γ=O Ss->br Sp ts ds->jc Sp ξ Γ->Α ξ Γ->∃mr,dN (cu l) ds ξ=O mr/\jc Sp mr Ss/\Α mr Ss/\Ext ξ mr/\aA (aQ R) mr (rJ l)=O ds|[],[],Γ,Ss,ξ,ds,h,c,g,f=>by simp[zR]at h;subst h;rw[yp c];exact⟨ξ,rfl,g,f,λi d h=>h,rfl⟩|(i,b)::l,t::ts,Γ,Ss,ξ,ds,h,c,g,f=>by obtain⟨d,r,rfl,u,q⟩:=gv c;simp[zR]at h;split at h;rename_i s;(have w:jc Sp (λj=>if j=i then O d else ξ j) (Γ.put i (O t)):=λj T a=>by rw[Tr.bJ]at a;split at a;rename_i e;simp at a;subst a;exact⟨d,if_pos e,u⟩;rename_i e;have⟨d',n,m⟩:=g j T a;exact⟨d',by simpa[if_neg e],m⟩);(have v:Α (λj=>if j=i then O d else ξ j) (Γ.put i (O t)):=λj a=>by rw[Tr.bJ]at a;split at a;cases a;rename_i e;simp only;rw[if_neg e];exact f j a);have⟨mr,A,z,y,k,B⟩:=tJ h q w v;have x:ξ i=G:=f i s;(have p:Ext ξ mr:=λj d' a=>by refine k j d' ?_;by_cases e:j=i;rw[e,x]at a;cases a;simp only;rw[if_neg e];exact a);refine⟨mr,A,z,y,p,?_⟩;have o:mr i=O d:=k i d (if_pos rfl);grind[rJ,zQ,ajE,aD,eZ,kH];cases h|[],_::_,_,_,_,_,h,_,_,_=>by cases h|_::_,[],_,_,_,_,h,_,_,_=>by cases h
theorem Lv{g:Nat}:∀{l:List (Nat×List Ty×List f_)}{x:List Ty×List f_},uP g l=O x->∃p∈l,p.1=g|[],_,h=>by cases h|(j,a,b)::l,x,h=>by simp[uP]at h;split at h;simp_all;have⟨p,d,c⟩:=Lv h;grind
theorem tq:ev U ξ γ Bh=γ:=by unfold Bh;rw[jW];rfl
theorem x_:bU U ξ Bh:=λp a=>by simp_all[Bh,eY]
theorem Ux{a:CS}(b:jc Sp ξ Γ)(h:aaP Γ s=O (g,a)):bU (aQ R) ξ g/\a.H=s.H/\a.N=s.N/\a.D=s.D:=by unfold aaP at h;(split at h<;>try(cases h;done));(split at h<;>try(cases h;done));rename_i j;injection h with h;injection h with m l;subst m l;refine⟨λp c=> ?_,rfl,rfl,rfl⟩;have:=cm.1 j p c;rcases(bW ..).mp this with h|h;simp_all;split at h;rename_i i e;have⟨T,k⟩:=fu.1 h;have⟨d,f,_⟩:=b i T k;exact .inr ⟨d,by rw[e];exact f⟩;cases h
section
variable{T:Tr lJ}{k0:Nat}{A:lJ}{as:List Tm}{KO:List ah}
noncomputable def PR(R:dI)(A:lJ)(γ:Int)(ds:List ah):Int:=ev (aQ R) (kU ds []) γ A.XR
def afv(Sp:Nat->ah->Prop)(R:dI)(A:lJ)(γ:Int)(KO:List ah):Option Nat×List ah->Prop|(O g,rs)=>x9 Sp R A γ KO g rs|(G,ds)=>PQ Sp R A γ ds/\0<=PR R A γ KO/\PR R A γ ds<PR R A γ KO/\∀g rs,x9 Sp R A γ ds g rs->x9 Sp R A γ KO g rs
structure amE(Sp:Nat->ah->Prop)(R:dI)(T:Tr lJ)(ξ:Nat->Option ah)(γ:Int)(m:Mo)(g:Nat):Prop where
 ex:∃ds n rs B,aA (aQ R) ξ m.us=O ds/\R m.k ds=O (n,g,rs)/\T.get m.k=O B/\x9 Sp R B (ev (aQ R) ξ γ m.γ) ds g rs
 D:bU (aQ R) ξ m.γ
theorem CL(x:rX Sp){ts:List Tm}{m:List ah}(d:jc Sp ξ Γ)(w:Α ξ Γ)(has:aA (aQ R) ξ as=O KO)(i:aA (aQ R) ξ ts=O m):∀{l:List (Nat×List Ty×List f_)}{s u:CS},iA (aQ R) ξ γ s->V_ as ts Γ l s=O u->∀g us post,uP g l=O (us,post)->∀rs,br Sp us rs->(∀L∈post,uQ R γ m rs L)->∀L∈post,uQ R γ KO rs L|[],_,_,_,_,g,us,post,h,_,_,_,_,_=>by cases h|(K,z,n)::l,s,u,v,h,g,us,post,b,rs,j,p,L,k=>by simp[V_]at h;(split at h<;>try(cases h;done));rename_i Ss ps E C;(split at h<;>try(cases h;done));rename_i A q;simp[uP]at b;split at b;injection b with b;injection b with Gz F;subst Gz F;have⟨mr,Oz,Iz,M,t,y⟩:=tJ (R:=R) E j d w;have a:=v.mono t;have e:=pU t i;have⟨B,o⟩:=oA (γ:=γ) e y a.N x_ C λL k=>(p L k).1;(have o:=o.2 λL k=>by rw[tq];exact(p L k).2);have r:iA (aQ R) mr γ ⟨ps++s.H,s.N,s.σ,s.D⟩:=⟨λf c=>by rcases dx.1 c with c|c;exact⟨B f c,o f c⟩;exact a.H f c,a.N,a.D⟩;have⟨_,J⟩:=pJ x Iz (pU t has) y x_ r q;simp_all[tq];have r:iA (aQ R) ξ γ ⟨s.H,s.N,A.σ,s.D⟩:=v.sig;exact CL x d w has i r h g us post b rs j p L k
theorem nO(q:rX Sp)(hT:∀j B,j<k0->T.get j=O B->Bv Sp R j B):∀{w:Way}{Γ:Tr Ty}{s:CS}{σ:Cs}{ξ:Nat->Option ah},sW k0 w=I->jc Sp ξ Γ->Α ξ Γ->iA (aQ R) ξ γ s->aA (aQ R) ξ as=O KO->
 (oV T A as w G Γ s=O σ->∃r,jR R w ξ=O r/\afv Sp R A γ KO r)/\
 (∀m g,amE Sp R T ξ γ m g->g∉m.Gz->oV T A as w (O m) Γ s=O σ->∃r,jR R w ξ=O r/\afv Sp R A γ KO r)
 |.bad,Γ,s,σ,ξ,_,l,K,F,has=>by
  refine⟨λh=> ?_,λm g Iz J h=> ?_⟩
  ·simp only[oV]at h
   split at h<;>first|(cases h;done)|skip
   obtain⟨_,a2,_⟩:=gG q l F (bU.c _) ‹_›
   rw[dh]at a2
   omega
  ·simp only[oV]at h
   split at h<;>first|(cases h;done)|skip
   rename_i B U
   split at h<;>first|(cases h;done)|skip
   rename_i he
   obtain⟨ds,n,rs,B',P,q2,Oz,us,post,q4,_⟩:=Iz.ex
   rw[U]at Oz
   grind[endsIn,Lv,an]
 |.out g ts,Γ,s,σ,ξ,_,l,K,F,has=>by
  refine⟨λh=> ?_,λm g Iz J h=>by simp only[oV]at h;cases h⟩
  simp only[oV]at h
  split at h<;>first|(cases h;done)|skip
  rename_i o Xw Q
  obtain⟨z,rs,y,C⟩:=mg q l F Q
  split at h<;>first|(cases h;done)|skip
  rename_i us post he
  split at h<;>first|(cases h;done)|skip
  rename_i x
  split at h<;>first|(cases h;done)|skip
  rename_i s2 J
  obtain⟨_,g2⟩:=pJ q l has y x_ z J
  rw[tq]at g2
  refine⟨(O g,rs),by simp only[jR,y],us,post,he,qC q x C,g2⟩
 |.again ts,Γ,s,σ,ξ,_,l,K,F,has=>by
  refine⟨λh=> ?_,λm g Iz J h=>by simp only[oV]at h;cases h⟩
  simp only[oV]at h
  split at h<;>first|(cases h;done)|skip
  rename_i o Xw Q
  obtain⟨z,rs,y,C⟩:=mg q l F Q
  split at h<;>first|(cases h;done)|skip
  rename_i m0 m1 x hx i0 i1
  split at h<;>first|(cases h;done)|skip
  rename_i s2 ha
  split at h<;>first|(cases h;done)|skip
  rename_i s3 J
  split at h<;>first|(cases h;done)|skip
  rename_i s4 alS
  have E:aA (aQ R) ξ []=O []:=rfl
  have dm:∀{us:List Tm}{es:List ah}{M:f_},aA (aQ R) ξ us=O es->Cw o.N us [] Bh A.XR=O M->bU (aQ R) (kU es []) A.XR:=λ{us es M} hu hi p hp=>by
   by_cases hk:p.2.1=5
   ·exact .inl hk
   ·refine .inr ?_
    rcases yw hp hk with⟨i,hi'⟩|hx'
    ·unfold Cw at hi
     split at hi<;>first|(cases hi;done)|skip
     obtain⟨t',ht⟩:=FO ‹_› p hp hk
     rw[hi']at ht⊢
     have e:=put_eq (R:=R) hu E ht
     simp only[qh]at ht
     split at ht
     ·simp at ht
     ·obtain⟨d,hd⟩:=vr hu t' (bE ht)
      exact⟨d,by rw[<-e];exact hd⟩
    simp_all
  obtain⟨d0,v0⟩:=yv (γ:=γ) has E z.N x_ i0 (dm has i0)
  obtain⟨d1,v1⟩:=yv (γ:=γ) y E z.N x_ i1 (dm y i1)
  obtain⟨a1,a2,_⟩:=nN q l z (λL hL=>by
   simp only[aO,dv,or_false]at hL
   rcases hL with rfl|rfl
   ·exact d0
   ·exact d0.gt d1) ha
  have q0:=a2 _ (aU ..)
  have P:=a2 _ (aS _ (aU ..))
  rw[fY]at P
  rw[v0,tq]at q0 P
  rw[v1,tq]at P
  obtain⟨c3,g2⟩:=pJ q l y E x_ a1 J
  rw[tq]at g2
  refine⟨(G,rs),by simp only[jR,y],⟨qC q x C,g2⟩,q0,?_,λg rs' u=> ?_⟩
  ·unfold PR
   omega
  ·obtain⟨us,post,p1,p2,p3⟩:=u
   exact⟨us,post,p1,p2,CL q l K has y c3 alS g us post p1 rs' p2 p3⟩
 |.ite t a b,Γ,s,σ,ξ,S,l,K,F,has=>by
  refine⟨λh=> ?_,λm g Iz J h=>by simp only[oV]at h;cases h⟩
  simp only[sW,ay]at S
  simp only[oV]at h
  split at h<;>first|(cases h;done)|skip
  rename_i o ty Q
  obtain⟨z,rs,y,C⟩:=mg q l F Q
  obtain⟨v,r,e3,e4,rfl⟩:=bf y
  split at h<;>first|(cases h;done)|skip
  rename_i hn
  split at h<;>first|(cases h;done)|skip
  rename_i σ1 h1
  rw[bR e4]at C
  simp only[br]at C
  obtain⟨n,rfl⟩:=dW hn C.1
  cases hb:decide (n≠0)with
  |true=>
   obtain⟨r,r1,r2⟩:=(nO q hT (w:=a) S.1.2 l K (CK q l z e3 hb.symm) has).1 h1
   simp_all[jR]
  |false=>
   have V:iA (aQ R) ξ γ ⟨o.H,o.N,σ1,o.D⟩:=z.sig
   obtain⟨r,r1,r2⟩:=(nO q hT (w:=b) S.2 l K (CK q l V e3 hb.symm) has).1 h
   simp_all[jR]
 |.aW t a,Γ,s,σ,ξ,S,l,K,F,has=>by
  refine⟨λh=> ?_,λm g Iz J h=>by simp only[oV]at h;cases h⟩
  simp only[sW,ay]at S
  simp only[oV]at h
  split at h<;>first|(cases h;done)|skip
  rename_i o ty Q
  obtain⟨z,rs,y,C⟩:=mg q l F Q
  obtain⟨v,r,e3,e4,rfl⟩:=bf y
  split at h<;>first|(cases h;done)|skip
  rename_i s2 hn hp
  rw[bR e4]at C
  simp only[br]at C
  obtain⟨n,rfl⟩:=dW hn C.1
  obtain⟨V,zk⟩:=Ys q l z e3 hp
  obtain⟨r,r1,r2⟩:=(nO q hT (w:=a) S.2 l K V has).1 h
  simp_all[jR]
 |.call k ts g xs a b,Γ,s,σ,ξ,S,l,K,F,has=>by
  simp only[sW,ay]at S
  obtain⟨⟨⟨hk,_⟩,hla⟩,hlb⟩:=S
  have hk:k<k0:=bz hk
  have step:∀{o:CS}{B:lJ}{X:f_}{Gz:List Nat}{ds rs:List ah}{n Y:Nat}{σ':Cs},iA (aQ R) ξ γ o->aA (aQ R) ξ ts=O ds->bU (aQ R) ξ X->T.get k=O B->R k ds=O (n,Y,rs)->x9 Sp R B (ev (aQ R) ξ γ X) ds Y rs->Y∉Gz->
   (match(match uP g B.ends with
    |G=>O o.σ
    |O (us,post)=>match zR xs us Γ,oI o.N ts (rJ xs) X post with
     |O Ss,O ps=>oV T A as a G Ss ⟨ps++o.H,o.N,o.σ,o.D⟩
     |_,_=>G)with
    |O Zz=>oV T A as b (O ⟨k,ts,g::Gz,X⟩) Γ ⟨o.H,o.N,Zz,o.D⟩
    |G=>G)=O σ'->∃r,jR R (.call k ts g xs a b) ξ=O r/\afv Sp R A γ KO r:=by
   intro o B X Gz ds rs n Y σ' z hts hgl U hR u hG h
   split at h<;>first|(cases h;done)|skip
   rename_i Zz hA
   by_cases hgg:Y=g
   ·subst hgg
    obtain⟨us,post,P,q2,Oz⟩:=u
    rw[P]at hA
    simp only at hA
    split at hA<;>first|(cases hA;done)|skip
    rename_i Ss ps hb hi
    obtain⟨mr,b1,b2,b3,b4,b5⟩:=tJ (R:=R) hb q2 l K
    have W:=z.mono b4
    have ajF:=pU b4 hts
    obtain⟨m1,m2⟩:=oA (γ:=γ) ajF b5 W.N (hgl.mono b4) hi λL hL=>(Oz L hL).1
    have m2:=m2.2 λL hL=>by rw[N0 b4 hgl];exact(Oz L hL).2
    have V:iA (aQ R) mr γ ⟨ps++o.H,o.N,o.σ,o.D⟩:=⟨λf hf=>by
     rcases dx.1 hf with hf|hf
     ·exact⟨m1 f hf,m2 f hf⟩
     ·exact W.H f hf,W.N,W.D⟩
    obtain⟨r,r1,r2⟩:=(nO q hT (w:=a) hla b2 b3 V (pU b4 has)).1 hA
    simp_all[jR]
   ·have V:iA (aQ R) ξ γ ⟨o.H,o.N,Zz,o.D⟩:=z.sig
    obtain⟨r,r1,r2⟩:=(nO q hT (w:=b) hlb l K V has).2 ⟨k,ts,g::Gz,X⟩ Y ⟨⟨ds,n,rs,B,hts,hR,U,u⟩,hgl⟩ (λIz=>by
     rcases aO.1 Iz with e|Iz
     ·exact hgg e
     ·exact hG Iz) h
    simp_all[jR]
  refine⟨λh=> ?_,λm Y Iz J h=> ?_⟩
  ·simp only[oV]at h
   split at h<;>first|(cases h;done)|skip
   rename_i o Xw Q
   obtain⟨z,ds,y,C⟩:=mg q l F Q
   split at h<;>first|(cases h;done)|skip
   rename_i B X s2 U htg
   obtain⟨t1,t2,t3,t4⟩:=Ux (R:=R) l htg
   have V:iA (aQ R) ξ γ s2:=⟨by rw[t2];exact z.H,by rw[t3];exact z.N,by rw[t4];exact z.D⟩
   split at h<;>first|(cases h;done)|skip
   rename_i x
   split at h<;>first|(cases h;done)|skip
   rename_i s3 J
   obtain⟨c3,g2⟩:=pJ q l y (rfl:aA (aQ R) ξ []=O []) t1 V J
   obtain⟨n,Y,rs,p1,p2⟩:=hT k B hk U (ev (aQ R) ξ γ X) ds ⟨qC q x C,g2⟩
   exact step (Gz:=[]) c3 y t1 U p1 p2 (by simp) h
  ·simp only[oV]at h
   split at h<;>first|(cases h;done)|skip
   rename_i B hc U
   simp only[ay,Bool.not_eq_true']at hc
   obtain⟨⟨hc1,Ke⟩,hc3⟩:=hc
   have y:=an hc1
   have C:=Av Ke
   obtain⟨ds,n,rs,B',P,q2,Oz,q4⟩:=Iz.ex
   rw[<-y]at q2 Oz
   rw[<-C]at P
   rw[U]at Oz
   injection Oz with Oz
   subst Oz
   exact step (Gz:=m.Gz) F P Iz.D U q2 q4 J h
theorem yx(Q:rX Sp){D:List bq}(S:SP D=I){F:bq}(P:xz D k0=O F){A:lJ}{σ:Cs}(Oz:∀j B,j<k0->T.get j=O B->Bv Sp (aI D) j B)(h:SS T F A σ=I):Bv Sp (aI D) k0 A:=by have⟨e,q⟩:=tk S P;unfold SS at h;(split at h<;>try(cases h;done));rename_i Γ H N k;(split at h<;>try(cases h;done));rename_i w Iz;intro γ ds a;(have one:∀ds,PQ Sp (aI D) A γ ds->∃ξ r,dN (cu F.args) ds (λ_=>G)=O ξ/\jR (aI D) F.jL ξ=O r/\afv Sp (aI D) A γ ds r:=by intro ds a;have⟨ξ,l,W,V,b4,v⟩:=tJ (R:=aI D) (ξ:=λ_=>G) N a.1 (λi T k=>by rw[Tr.ah7]at k;cases k) (λi _=>rfl);(have s:mF (aQ (aI D)) ξ []:=λt J=>by cases J);have⟨E,o⟩:=oA (γ:=γ) v (rfl:aA (aQ (aI D)) ξ []=O []) s x_ k λL p=>(a.2 L p).1;(have o:=o.2 λL p=>by rw[tq];exact(a.2 L p).2);have U:iA (aQ (aI D)) ξ γ ⟨H,[],σ,[]⟩:=⟨λf u=>⟨E f u,o f u⟩,s,λd M=>by cases M⟩;have⟨r,c,b⟩:=(nO Q Oz e W V U v).1 Iz;exact⟨ξ,r,l,c,b⟩);(have key:∀(n:Nat)(ds:List ah),PQ Sp (aI D) A γ ds->(PR (aI D) A γ ds+1).toNat<n->∃m g rs,ur (aI D) F ds=O (m,g,rs)/\x9 Sp (aI D) A γ ds g rs:=by intro n;induction n with|zero=>omega|succ n Gz=>intro ds a K;have⟨ξ,r,l,c,b⟩:=one ds a;match r,c,b with|(O g,rs),c,b=>exact⟨0,g,rs,P1 l c,b⟩|(G,qP),c,b=>have⟨C,Y,X,z⟩:=b;have⟨m,g,rs,y,x⟩:=Gz qP C (by omega);exact⟨m+1,g,rs,Gt l c y,z g rs x⟩);have⟨m,g,rs,h1,Zz⟩:=key _ ds a (Nat.lt_succ_self _);grind
end
end
end
section
open RowKit
variable{x:AV}{g n:Nat}{s':St}{t tx:ag}{X:aa}
theorem m_:∀(vs:List aa)(l r:List aa)(off:Nat),off+vs.length<=l.length->bx (l++r) off vs=bx l off vs++r|[],l,r,off,_=>rfl|v::vs,l,r,off,h=>by simp at h;simp[bx];rw[List.set_append_left _ _ (by omega),m_ vs (l.set off v) r (off+1) (by simp;omega)]
theorem cF:∀(vs:List aa)(l:List aa)(off:Nat),(bx l off vs).length=l.length|[],_,_=>rfl|v::vs,l,off=>by rw[bx,cF vs];simp
theorem jz:∀(vs:List aa)(l:List aa)(off:Nat),off+vs.length<=l.length->bx l off vs=l.take off++vs++l.drop (off+vs.length)|[],l,off,_=>by simp[bx]|v::vs,l,off,h=>by simp at h;rw[bx,jz vs _ _ (by simp;omega)];(have a:(l.set off v).take (off+1)=l.take off++[v]:=by rw[List.take_set,List.take_add_one,aZ (by omega)];simp only[Option.toList_some];rw[List.set_append_right _ _ (by rw[bD];omega)];(have:off - (l.take off).length=0:=by rw[bD];omega);rw[this];simp);grind[List.drop_set_of_lt]
theorem rl(b:Nat):∀(vs:List aa)(w:aj)(o:Nat),w.setCells b o vs=putCells w b o vs|[],_,_=>rfl|_::vs,_,o=>rl b vs _ (o+1)
section
variable{P:aw}{w0 w:aj}{A:en}{ν:Nm}{s:St}
theorem aL.raw(h:aL P w0 A ν s w){w':aj}{obj:Obj}(p:∀i o,s.h.get i=O o->ν i≠O g)(u:ν.z g=G)(B:w0.heap.size<=g)(n:A.w.heap.size<=g∨∃j o,A.h.get j=O o/\A.ν j=O g)(a:Dd w g obj w'):aL P w0 A ν s w':=by refine⟨h.pos,⟨a.os.trans h.dz.os,a.tape.trans h.dz.tape,a.output.trans h.dz.output,by rw[a.size];exact h.dz.size,λk b f=> ?_⟩,h.top,λj d t=> ?_,h.inj,h.ext,h.xb,λj d t f=> ?_,λk b f=> ?_,by rw[a.size];exact h.nv,h.own,h.ctx,λk ob b=>⟨(a.rest k λe=>by rw[e,u]at b;cases b).trans (h.mu k ob b).1,(h.mu k ob b).2⟩,h.lq,h.nU,h.kR,h.kS⟩;rw[a.rest k (by omega)];exact h.dz.block k b f;obtain⟨r,c,l|⟨m,l,y,x⟩⟩:=h.fX j d t;simp_all;exact⟨r,c,.inr ⟨m,l,(a.rest r λe=>p j d t (by grind)).trans y,x⟩⟩;have⟨⟨v,c⟩,l⟩:=h.same j d t f;exact⟨⟨v,c⟩,λr q=>(a.rest r λe=>p j v c (by rw[h.ext _ _ q,e])).trans (l r q)⟩;refine(a.rest k ?_).trans (h.sT k b f);rintro rfl;rcases n with c|⟨j,d,c,l⟩;omega;exact f j d c (by have:=h.pos;omega) l
def lN(P:aw)(w0:aj)(A:en)(ν:Nm)(s':St)(v:AV)(r:Result aa):Prop:=∃ed V w',Nm.le ν ed/\aL P w0 A ed s' w'/\den ed v=O V/\r=.ok V w'
theorem pK(h:aL P w0 A ν s w){i off:Nat}{vs:List AV}{VS:List aa}(a:kp s i off vs=O s')(k:ν i=O g)(e:bw ν vs=O VS):aL P w0 A ν s' (putCells w g off VS)/\(storeCells ⟨g,off,G⟩ VS 0).run P w=.ok () (putCells w g off VS)/\(∃t cs,nq w g t cs/\off+VS.length<=cs.size)/\VS.all plainCell=I/\(∀u∈VS,u.oneCell'=I):=by unfold kp at a;split at a;rename_i l t c j;split at a;rename_i z;simp only[ay]at z;have⟨d,n⟩:=z;have d:=bz d;simp at a;subst a;have⟨L,R,B,o,y⟩:=h.Sv j k;have⟨C,r⟩:=qq n e;have v:=fK B;have E:=fK e;(have b:off+VS.length<=(L++R).length:=by simp;omega);have⟨q,p⟩:=eF (P:=P) VS 0 (L++R) w off o (by simpa using b) r;simp at q p;refine⟨?_,q,⟨t,_,o,by simpa using b⟩,r,C⟩;have f:bx (L++R) off VS=bx L off VS++R:=m_ VS L R off (by omega);have⟨fz,m,F,Gz⟩:=Dd.put o.lt off VS p;refine h.write j k ?_ F (λx D=>aS _ D) (λ_ _=>aU) (h.nz j k);refine⟨rfl,m,bx L off VS,R,wG off B e,by simp[f],?_⟩;grind[cF];cases a;cases a
theorem Uy(h:aL P w0 A ν s w){i off:Nat}{v:AV}{V:aa}(a:Th P s t i off v=O s')(k:ν i=O g)(e:den ν v=O V):∃w',aL P w0 A ν s' w'/\(storeVar t ⟨g,off,G⟩ V).run P w=.ok () w':=by unfold Th at a;split at a;rename_i n j;split at a;rename_i d;have d:=an d;(have b:(da v).all oS=I:=by unfold kp at a;split at a;split at a;rename_i c;simp only[ay]at c;exact c.2;cases a;cases a);have c:=lY e b;have⟨l,m,_⟩:=pK (P:=P) h a k c;refine⟨_,l,?_⟩;(have f:V.cells.size=n:=by have:=fK c;simp at this;omega);show(Sem.bind _ _).run P w=_;rw[run_bind,d_ j];simp_all;cases a;cases a
theorem vF(h:aL P w0 A ν s w){size:Nat}{cs:List AV}(d:den ν x=O X)(o:gS s size x=O cs)(p:Be x=O n)(f:cs.length=n*size):∃CS,bw ν cs=O CS/\CS.length=n*size/\(∀w':aj,(Builtin.lenOf X).run P w'=.ok n w')/\(∀m,m<=n->∀w':aj,(∀g,g<w.heap.size->w'.heap[g]? =w.heap[g]?)->(Builtin.firstCells size m X).run P w'=.ok (CS.take (m*size)).toArray w'):=by (cases x<;>simp only[gS,Be]at o p<;>try(cases o;done));(case cQ=>simp only[den,aG]at d o p;subst d o p;refine⟨[],rfl,by simp,λ_=>rfl,λm q w' _=> ?_⟩;simp_all[Builtin.firstCells]);(case slice i off len c=>obtain⟨g,C,Iz,hC,F,rfl⟩:=gX d;simp at p;subst p;split at o;rename_i l t c' H;have⟨L,R,M,v,_⟩:=h.Sv H Iz;have⟨N,y⟩:=sq M o;refine⟨_,N,y,λ_=>rfl,λm q w' D=> ?_⟩;have r:nq w' g t (L++R).toArray:=v.move (D g v.lt);have E:m*size<=len*size:=cV _ q;refine run_firstCells_some w' size m _ len C _ (by rw[bD,y];omega) λj u Gz=> ?_;rw[gO,r.cell];rw[eT]at Gz;grind;cases o);(case tail i off Oz len c Q=>simp only[aG]at o p;subst o p;(have K:∃a k,X=.slice (O a) 0 k:=by simp[den]at d;split at d;split at d<;>injection d with d<;>exact⟨_,_,d.symm⟩;cases d);obtain⟨a,k,rfl⟩:=K;refine⟨[],rfl,by simp,λ_=>rfl,λm q w' _=> ?_⟩;grind[run_firstCells_some]);case str b=>simp[den]at d o p;subst d o p;simp at f;(have J:∀l:List UInt8,bw ν (l.map λc=>AV.int .u8 c.toNat)=O (l.map λc=>Value.int .u8 c.toNat):=λl=>by induction l with|nil=>rfl|cons a l B=>exact eQ rfl B);refine⟨_,J b,by rw[fR];exact f,λ_=>rfl,λm q w' _=> ?_⟩;(have e:m*size=m:=by rcases Nat.eq_zero_or_pos b.length with z|z;simp_all;(have:size=1:=by have:=Nat.eq_of_mul_eq_mul_left z (by rw[<-f];omega:b.length*size=b.length*1);exact this);simp[this]);rw[e];show Result.ok _ w'=_;simp[List.extract_eq_take_drop,List.map_take]
theorem acv(h:aL P w0 A ν s w){size:Nat}(hk:VT P tx=I){cs:List AV}(hx:den ν x=O X)(hc:gS s size x=O cs)(hn:Be x=O n)(hlen:cs.length=n*size)(uv:cs.all oS=I):∃CS,bw ν cs=O CS/\Src P size tx X n CS w:=by have⟨CS,h1,h2,h3,h4⟩:=vF (P:=P) h hx hc hn hlen;refine⟨CS,h1,?_,h3,?_,?_,h2,(qq uv h1).1⟩;grind[VT];grind;have:=h4 n (ba _) w.drew (λ_ _=>rfl);rwa [<-h2,List.take_length]at this
theorem BN(h:aL P w0 A ν s w){e:ag}{a:TypeInfo}{z:aa}(D:P.underlying t=O (.slice e))(x:P.info? e=O a)(B:a.zero=O z)(p:z.cells.size=a.size){base:Option Addr}{sl sc:Nat}{olds:List AV}{rH:List aa}(F:bw ν olds=O rH)(q:rH.length=sl*a.size)(i:(Builtin.firstCells a.size sl (.slice base sl sc)).run P w.drew=.ok rH.toArray w.drew){Y:aa}{news:List AV}{dj:List aa}(Gz:bw ν news=O dj)(r:Src P a.size tx Y n dj w)(y:sc<sl+n)(v:sl+n<=most)(J:a.bytes<=most)(ty:ag){b:St}(g:aL P w0 A ν b w):lN P w0 A ν (Di (oh b (.cells (olds++news) e (O (b.n+1))))) (.slice b.n 0 (sl+n) (.u (b.n+1) 0)) ((Builtin.append_ #[t,tx] ty #[.slice base sl sc,Y]).run P w):=by have d:(sl+n)*a.bytes<=140737488355328:=dU (Nat.mul_le_mul v J) (by decide);have E:=run_append_grow_src (P:=P) w t tx ty e a z D x B base sl sc rH i Y n dj r y (by unfold most at v;omega) (growslice_fits y d);have H:=grownCap_ge w (sl+n) sc e;have j:=g.top (b.n+1) (by omega);have Iz:=(g.drew).name (k:=b.n+1) (n':=b.n+2) j (by omega) (by omega) (grownCap w (sl+n) sc e);(have l:(ν.set (b.n+1) (grownCap w (sl+n) sc e)) b.n=G:=by simp only[Nm.set];rw[if_neg (by omega)];exact g.top _ (ba _));have f:=Nm.fP j (grownCap w (sl+n) sc e);have c:=Nm.fP l w.heap.size;have m:(Nm.set (ν.set (b.n+1) (grownCap w (sl+n) sc e)) b.n w.heap.size) (b.n+1)=O (grownCap w (sl+n) sc e):=c _ _ (Nm.cx _ _ _);have C:=Iz.alloc (k:=b.n) (n':=b.n+2) (o:=.cells (olds++news) e (O (b.n+1))) (obj:=.cells ((rH++dj).toArray++Builtin.zeroCells z.cells (grownCap w (sl+n) sc e - (sl+n))) e (0,0)) l (by simp) (by omega) ⟨rfl,K_ _,rH++dj,(Builtin.zeroCells z.cells (grownCap w (sl+n) sc e - (sl+n))).toList,fo c _ _ (fo f _ _ (iE F Gz)),by simp,grownCap w (sl+n) sc e,a,m,x,by simp[size_zeroCells,q,r.newsLen,p,<-df];congr 1;omega⟩;refine⟨_,.slice _ _ _,_,f.trans c,C,?_,E⟩;simp_all[den,cX,Nm.cx]
theorem Rw(h:aL P w0 A ν s w){ty:ag}{y v:AV}{Y:aa}(b:Nv P s t tx x y=O (v,s'))(hx:den ν x=O X)(hy:den ν y=O Y):
 lN P w0 A ν s' v ((Builtin.append_ #[t,tx] ty #[X,Y]).run P w):=by
 unfold Nv at b
 split at b
 ·rename_i e hk ht
  split at b
  ·rename_i xl yl f Iz hyl U
   simp only at b
   split at b
   ·cases b
   ·rename_i news S
    split at b
    ·cases b
    ·rename_i H
     simp only[ay]at H
     have⟨⟨⟨⟨⟨c1,c2⟩,c3⟩,c4⟩,c5⟩,c6⟩:=H
     have c2:=bz c2
     have c3:=bz c3
     have c4:=bz c4
     have c5:=an c5
     split at c6
     ·rename_i z hz
      have c6:=an c6
      have⟨dj,hN,q⟩:=acv (P:=P) h hk hy S hyl c5 c1
      cases x<;>(try simp only at b)<;>try(cases b;done)
      case cQ=>
       simp[Be]at Iz
       subst Iz
       simp[den]at hx
       subst hx
       split at b
       ·first|contradiction|simp_all|grind|omega
       ·rename_i h0
        have h0:=fQ h0
        simp only[ew,aG,Prod.mk.injEq]at b
        obtain⟨rfl,rfl⟩:=b
        have:=BN (P:=P) h ht U hz c6 (base:=G) (sl:=0) (sc:=0) (olds:=[]) (rH:=[]) rfl (by simp) (run_firstCells_none _ _ _ _ _) hN q (by omega) (by omega) c3 ty h
        grind
      case slice i off n c=>
       simp[Be]at Iz
       subst Iz
       obtain⟨g,C,B,hC,hle,rfl⟩:=gX hx
       cases c with
       |k C'=>
        simp[cX]at hC
        subst hC
        simp only at b
        split at b
        ·rename_i d
         have d:=bz d
         split at b
         ·rename_i s2 hst
          simp at b
          obtain⟨rfl,rfl⟩:=b
          have⟨r1,r2,⟨t',cs,N,Q⟩,r4,r5⟩:=pK (P:=P) h hst B hN
          have hr:=run_append_room_src (P:=P) w t tx ty e f ht U g off n C' Y yl dj q d (λj D=>by rw[N.cell];simp;omega) (λj D=>N.frozen _ (by omega))
          rw[rl]at hr
          refine⟨ν,_,_,Nm.le.refl _,r1,?_,hr⟩
          simp_all[den,cX]
         ·cases b
        ·rename_i d
         have d:¬n+yl<=C':=λhle=>by rw[fe hle]at d;cases d
         split at b
         ·rename_i olds holds
          obtain⟨rfl,rfl⟩:=b
          have hol:olds.length=n*f.size:=by
           simp[gS]at holds
           split at holds
           ·exact(Li holds).2
           ·cases holds
          have⟨rH,o1,Oz,_,o4⟩:=vF (P:=P) h hx holds (n:=n) rfl hol
          have o5:=o4 n (ba _) w.drew (λ_ _=>rfl)
          rw[<-Oz,List.take_length]at o5
          exact BN h ht U hz c6 o1 Oz o5 hN q (by omega) c2 c3 ty h
         ·cases b
       |u c m=>
        simp only at b
        split at b
        ·first|contradiction|simp_all|grind|omega
        ·rename_i h0
         have h0:=fQ h0
         split at b
         ·rename_i l t' c' Zz a
          simp only[ay]at Zz
          have ajG:=an Zz.1
          have hm0:=an Zz.2
          subst ajG hm0
          split at b
          ·rename_i olds V amF
           simp only[ay]at V
           have amG:=an V.1
           have amH:=an V.2
           subst amG amH
           obtain⟨rfl,rfl⟩:=b
           have⟨L,R,hL,N,Β⟩:=h.Sv a B
           have⟨o1,Oz⟩:=sq hL amF
           simp only[fH]at o1 Oz
           have⟨cap,alh,hcn,r,Q⟩:=Β
           simp only[cX,hcn]at hC
           rw[if_pos (dy _)]at hC
           simp at hC
           subst hC
           have p:=h.kill i
           have F:∀w':aj,w'.heap[g]? =w.heap[g]?->(Builtin.firstCells f.size n (.slice (O ⟨g,0,G⟩) n cap)).run P w'=.ok (L.take (n*f.size)).toArray w':=λw' hw'=>by
            refine run_firstCells_some w' f.size n _ n cap _ Oz λj u D=> ?_
            have hb':nq w' g t' (L++R).toArray:=N.move hw'
            rw[gO,hb'.cell]
            rw[eT]at D
            grind
           by_cases d:n+yl<=cap
           ·
            rw[U]at r
            simp at r
            subst r
            have E:n*f.size+dj.length<=(L++R).length:=by rw[Q,q.newsLen,<-df];exact cV _ d
            have hr:=run_append_room_src (P:=P) w t tx ty t' f ht U g 0 n cap Y yl dj q d (λj D=>by rw[N.cell];simp only[ew];rw[fu];exact⟨_,by rw[js];exact aZ (by omega)⟩) (λj D=>N.frozen _ (by simp only[ew,List.size_toArray];omega))
            rw[rl]at hr
            simp at hr
            have uv:=qq c1 hN
            have⟨_,M⟩:=eF (P:=P) dj 0 (L++R) w (n*f.size) N (by simpa using E) uv.2
            simp at M
            have hgs:w0.heap.size<=g:=by
             have⟨g',obj,q1,q2,_⟩:=h.real a
             rw[B]at q1
             simp at q1
             subst q1
             exact q2
            have ZA:∀j o,(cw s i).h.get j=O o->ν j≠O g:=λj o D e=>by
             simp[cw]at D
             rw[Tr.bJ]at D
             split at D
             ·cases D
             ·rename_i zk
              exact zk (h.inj j i o _ D a (by rw[e];intro e;simp at e;cases (h.nz a B) e) (by rw[e,B]))
            have⟨fz,hfz,J,_⟩:=Dd.put N.lt (n*f.size) dj M
            have amI:=p.raw ZA (h.zT a B (h.nz a B)) hgs (h.own i _ a g B (h.nz a B)) J
            have T:=p.top ((cw s i).n+1) (by omega)
            have hd:=amI.name (k:=(cw s i).n+1) (n':=(cw s i).n+2) T (by omega) (by omega) cap
            have hk0:(ν.set ((cw s i).n+1) cap) (cw s i).n=G:=by
             simp only[Nm.set]
             rw[if_neg (by omega)]
             exact p.top _ (ba _)
            have K:=Nm.fP T cap
            have Gz:=Nm.fP hk0 g
            have W:(Nm.set (ν.set ((cw s i).n+1) cap) (cw s i).n g) ((cw s i).n+1)=O cap:=Gz _ _ (Nm.cx _ _ _)
            have htl:bx (L++R) (n*f.size) dj=(L.take (n*f.size)++dj)++(L++R).drop (n*f.size+dj.length):=by
             rw[jz _ _ _ E,ie (by rw[<-Oz,bD];omega)]
            have hw:=hd.La (k:=(cw s i).n) (n':=(cw s i).n+2) (g:=g) (o:=.cells (olds++news) t' (O ((cw s i).n+1))) hk0 (by simp) (by omega) J.here hgs (λj o D e=>by
             have hj':(cw s i).h.get j=O o:=D
             have:j≠(cw s i).n+1:=λe'=>p.named T o (e'▸hj')
             simp[Nm.set]at e
             rw[if_neg this]at e
             exact ZA j o hj' e) (h.zT a B (h.nz a B)) (h.nz a B) (h.own i _ a g B (h.nz a B))
             ⟨rfl,hfz,L.take (n*f.size)++dj,(L++R).drop (n*f.size+dj.length),fo Gz _ _ (fo K _ _ (iE o1 hN)),by simp[htl],cap,f,W,U,by
              simpa only[List.size_toArray,cF]⟩
            refine⟨_,.slice _ _ cap,_,K.trans Gz,hw,?_,hr⟩
            simp_all[den,cX,Nm.cx]
           ·exact BN h ht U hz c6 o1 Oz (F w.drew rfl) hN q (by omega) c2 c3 ty p
          ·cases b
         ·cases b
     ·cases c6
  ·cases b
 ·cases b
end
end
section
open RowKit
section
variable{P:aw}{w0 w:aj}{A:en}{ν:Nm}{s:St}
theorem Yt(h:aL P w0 A ν s w){t tx ty:ag}{x y v:AV}{X Y:aa}{z:St}(b:aak P s t x y=O (v,z))(o:den ν x=O X)(E:den ν y=O Y):
 lN P w0 A ν z v ((Builtin.copy_ #[t,tx] ty #[X,Y]).run P w):=by
 unfold aak at b
 split at b
 ·rename_i e F
  split at b
  ·rename_i size xl yl Gz f m
   simp only at b
   split at b
   ·cases b
   ·rename_i cs q
    split at b
    ·cases b
    ·rename_i d
     have d:=an d
     have⟨CS,L,N,K,J⟩:=vF (P:=P) h E q m d
     have l:XG (aF yl xl) yl xl=Nat.min yl xl:=by
      cases r:aF yl xl with
      |true=>exact(ju (bz r)).symm
      |false=>exact(Nat.min_eq_right (by rcases Nat.le_total yl xl with u|u;rw[fe u]at r;cases r;exact u)).symm
     rw[l]at b
     have j:∀(base:Option Addr)(cap:Nat)(k:Unit->aj->Result aa),(Builtin.copy_ #[t,tx] ty #[.slice base xl cap,Y]).run P w=
      (match base with
       |O a=>((storeCells a (CS.take (Nat.min yl xl*size)) 0).bind λ_=>pure (goInt (Nat.min yl xl))).run P w
       |G=>.ok (goInt (Nat.min yl xl)) w):=λbase cap _=>by
      simp only[Builtin.copy_,js,List.getElem?_cons_zero,List.getElem?_cons_succ]
      show(Sem.bind _ _).run P w=_
      rw[run_bind,run_underlying F]
      show(Sem.bind _ _).run P w=_
      rw[run_bind,K w]
      show(Sem.bind _ _).run P w=_
      rw[run_bind,d_ Gz]
      show(Sem.bind _ _).run P w=_
      rw[run_bind,J (Nat.min yl xl) (Nat.min_le_left _ _) w (λ_ _=>rfl)]
      cases base<;>rfl
     cases x<;>(try simp only at b)<;>try(cases b;done)
     case cQ=>
      simp[Be]at f
      subst f
      simp[den]at o b
      subst o
      obtain⟨rfl,rfl⟩:=b
      refine⟨ν,_,w,Nm.le.refl _,h,?_,j G 0 (λ_ w=>.ok undef w)⟩
      simp[den,i64,goInt]
     case slice i off n c=>
      simp[Be]at f
      subst f
      obtain⟨g,C,Iz,hC,H,rfl⟩:=gX o
      split at b
      ·rename_i M p
       simp at b
       obtain⟨rfl,rfl⟩:=b
       have⟨D,B,_⟩:=pK (P:=P) h p Iz (wF _ L)
       refine⟨ν,_,_,Nm.le.refl _,D,rfl,?_⟩
       rw[j (O ⟨g,off,G⟩) C (λ_ w=>.ok undef w)]
       simp only
       rw[run_bind,B]
       rfl
      ·cases b
  ·cases b
 ·cases b
theorem yz{b:Bool}{n:Nat}{t:ag}{d:TypeDesc}(a:P.underlying t=O d)(c:eM d=I)(V:aa):(Instr.checkKey b (n+1) t V).run P w=.ok () w:=by rw[Instr.checkKey];show(Sem.bind _ _).run P w=_;rw[run_bind,run_underlying a];cases d<;>first|(cases c;done)|rfl
theorem uj {b:Bool} {n:Nat} {CS:List aa} {l:List AV} (k:bw ν l=O CS):∀(e:List Field) (i:Nat),ke P e i=I->ia P e (l.drop i)=I->(forIn e PUnit.unit λf (_:PUnit)=>if f.name≠"_" then(part f.type CS.toArray f.offset).bind λx=>(Instr.checkKey b (n+1) f.type x).bind λ_=>(pure (ForInStep.yield PUnit.unit):Sem _)else pure (ForInStep.yield PUnit.unit)).run P w= .ok PUnit.unit w|[],i,_,_=>rfl|f::e,i,j,c=>by simp only[ke,ay]at j;have⟨⟨⟨a1,a2⟩,a3⟩,a4⟩:=j;have a1:=an a1;(have g:f.name≠"_":=by simpa using a2);rw[DT];show(Sem.bind _ _).run P w=_;rw[run_bind,if_pos g];split at a3;(·rename_i d m;cases a:l.drop i with|nil=>rw[a]at c;cases c|cons v vs=>rw[a]at c;simp[ia]at c;(have p:l[i]? =O v:=by have:(l.drop i)[0]? =O v:=a▸rfl;grind);(have q:fD P f.type=O Z:=by unfold fD;rw[m];cases d<;>first|rfl|cases a3);(have o:ir P f.type l f.offset=O v:=by simp_all[ir]);have⟨V,_,r⟩:=jE (P:=P) (w:=w) k o;rw[run_bind,r];simp only;rw[run_bind,yz m a3];simp only;(have h:l.drop (i+1)=vs:=by simp[<-List.drop_drop,a]);exact uj k e (i+1) a4 (by rw[h];exact c.2));·cases a3
theorem Qf{e:ag}{d:TypeDesc}(c:P.underlying e=O d)(b:eM d=I)(l:List AV)(i:Nat):ir P e l i=l[i]?:=by (have a:fD P e=O Z:=by unfold fD;rw[c];cases d<;>first|rfl|cases b);unfold ir;rw[a]
theorem vS{b:Bool}{n:Nat}{e:ag}{d:TypeDesc}{a:TypeInfo}(f:P.underlying e=O d)(c:eM d=I)(j:P.info? e=O a)(k:a.size=1){CS:List aa}{l:List AV}(g:bw ν l=O CS):∀(m i:Nat),i+m<=l.length->(forIn (bX i m) PUnit.unit λi (_:PUnit)=>(sizeOf e).bind λs=>(part e CS.toArray (i*s)).bind λx=>(Instr.checkKey b (n+1) e x).bind λ_=>(pure (ForInStep.yield PUnit.unit):Sem _)).run P w=.ok PUnit.unit w|0,i,_=>rfl|m+1,i,h=>by rw[List.range'_succ,DT];show(Sem.bind _ _).run P w=_;rw[run_bind,run_bind,run_sizeOf j];simp[k];(have o:ir P e l i=O l[i]:=by rw[Qf f c];simp_all);have⟨V,_,r⟩:=jE (P:=P) (w:=w) g o;rw[run_bind,r];simp;rw[run_bind,yz f c];exact vS f c j k g m _ (by omega)
theorem run_checkKey{b:Bool}{n:Nat}{t:ag}{k:AV}{K:aa}(p:(gk P t&&mB P t k)=I)(o:den ν k=O K):(Instr.checkKey b (n+2) t K).run P w=.ok () w:=by simp at p;have⟨h,f⟩:=p;unfold gk at h;unfold mB at f;split at h;(·rename_i a i;simp only[ay]at h;rw[i]at f;cases k with|agg l=>simp only at f;obtain⟨CS,j,rfl⟩:=gB o;rw[Instr.checkKey];show(Sem.bind _ _).run P w=_;rw[run_bind,run_underlying i];show(Sem.bind _ _).run P w=_;rw[run_bind,<-Array.forIn_toList];have:=uj (P:=P) (w:=w) (n:=n) (b:=b) j a.toList 0 h.2 (by simpa using f);simp_all[bind]|_=>simp[gN]at f);(·rename_i m e i;simp at h;rw[i]at f;cases k with|agg l=>simp only[ay]at f;have⟨c,g⟩:=h;split at c;(·rename_i s r;have c:=an c;obtain⟨q,u,rfl⟩:=ee r;split at g;(·rename_i d v;obtain⟨CS,j,rfl⟩:=gB o;rw[Instr.checkKey];show(Sem.bind _ _).run P w=_;rw[run_bind,run_underlying i];show(Sem.bind _ _).run P w=_;rw[run_bind,Std.Legacy.Range.forIn_eq_forIn_range'];have:=vS (P:=P) (w:=w) (n:=n) (b:=b) v g u c j m 0 (by rw[an f.1];omega);simp_all[bind]);·cases g);·cases c|_=>simp[gN]at f);(·grind[yz]);·cases h
theorem qK{d:TypeDesc}{x y:AV}(g:gN d x=I)(f:gN d y=I){b:Bool}(h:fZ x y=b)(n:Nat):∀{t:ag},P.underlying t=O d->KL P (n+1) t x y=O b:=λ{t} e=>by subst h;(cases d<;>cases x<;>try(cases g;done));(all_goals cases y<;>try(cases f;done));simp[KL,e,fZ];rename_i k m a l c;have j:=eV g;have i:=eV f;subst j i;simp[KL,e,fZ];(have:fy k k=I:=by cases k<;>rfl);simp[this];simp[KL,e,fZ]
theorem xE{n:Nat}{l m:List AV}:∀(c:List Field)(i:Nat),ke P c i=I->ia P c (l.drop i)=I->ia P c (m.drop i)=I->jH P (KL P (n+1)) l m c=O (gE (l.drop i) (m.drop i))|[],i,_,b,a=>by (have w:l.drop i=[]:=by grind[ia]);(have t:m.drop i=[]:=by grind[ia]);rw[w,t];rfl|f::c,i,p,b,a=>by simp only[ke,ay]at p;have⟨⟨⟨a1,a2⟩,a3⟩,a4⟩:=p;have a1:=an a1;split at a3;(·rename_i d o;cases g:l.drop i with|nil=>rw[g]at b;cases b|cons v vs=>cases e:m.drop i with|nil=>rw[e]at a;cases a|cons u us=>rw[g]at b;rw[e]at a;simp[ia,o]at b a;(have k:l[i]? =O v:=by have:(l.drop i)[0]? =O v:=g▸rfl;simpa using this);(have j:m[i]? =O u:=by have:(m.drop i)[0]? =O u:=e▸rfl;simpa using this);(have h:fD P f.type=O Z:=by unfold fD;rw[o];cases d<;>first|rfl|cases a3);(have s:ir P f.type l f.offset=O v:=by unfold ir;rw[h];simp only;rw[a1];exact k);(have r:ir P f.type m f.offset=O u:=by unfold ir;rw[h];simp only;rw[a1];exact j);have x:=qK (P:=P) b.1 a.1 rfl n o;have q:=xE (n:=n) c (i+1) a4 (by rw[<-List.drop_drop,g];exact b.2) (by rw[<-List.drop_drop,e];exact a.2);rw[<-List.drop_drop,g,<-List.drop_drop,e]at q;grind[jH,gE]);·cases a3
theorem AS{e:ag}{d:TypeDesc}(c:P.underlying e=O d)(f:eM d=I)(l m:List AV):∀(n i:Nat),i+n=l.length->i+n=m.length->l.all (gN d)=I->m.all (gN d)=I->
 mX P (KL P 1 e) e 1 l m n i=O (gE (l.drop i) (m.drop i))
 |0,i,k,j,_,_=>by
  rw[List.drop_eq_nil_of_le (by omega),List.drop_eq_nil_of_le (by omega)]
  rfl
 |n+1,i,k,j,h,g=>by
  have b:i<l.length:=by omega
  have a:i<m.length:=by omega
  simp[mX,Qf c f,aZ b,aZ a]
  have p:=cm.1 h l[i] (dt b)
  have o:=cm.1 g m[i] (dt a)
  rw[qK (P:=P) p o rfl 0 c,List.drop_eq_getElem_cons b,List.drop_eq_getElem_cons a]
  simp[gE]
  cases fZ l[i] m[i]with
  |true=>exact AS c f l m n _ (by omega) (by omega) h g
  |false=>rfl
theorem BO{t:ag}{k o:AV}(v:(gk P t&&mB P t k)=I)(f:mB P t o=I){b:Bool}(h:kN k o=O b):KL P 2 t k o=O b:=by simp at v;obtain⟨i,g⟩:=v;unfold gk at i;unfold mB at g f;split at i;(·rename_i j q;simp at i;rw[q]at g f;cases k with|agg l=>(cases o with|agg m=>simp only at g f;simp[kN]at h;subst h;unfold KL;simp[q,i.1];have:=xE (P:=P) (n:=0) (l:=l) (m:=m) j.toList 0 i.2 (by simpa using g) (by simpa using f);grind|_=>simp[gN]at f)|_=>simp[gN]at g);(·rename_i m e q;simp at i;rw[q]at g f;cases k with|agg l=>(cases o with|agg B=>simp only[ay]at g f;simp[kN]at h;subst h;obtain⟨A,z⟩:=i;grind[KL,an,AS]|_=>simp[gN]at f)|_=>simp[gN]at g);(·rename_i d E y p;rw[p]at g f;(have u:gN d k=I:=by cases d<;>first|(cases i;done)|exact g);(have s:gN d o=I:=by cases d<;>first|(cases i;done)|exact f);refine qK u s ?_ 1 p;(cases d<;>cases k<;>try(cases u;done));(all_goals cases o<;>try(cases s;done));(·simp[kN]at h;exact h);(·rename_i r D a C c;have x:=eV u;have w:=eV s;subst x w;(have:fy r r=I:=by cases r<;>rfl);simp_all[kN,fZ]);·simp[kN]at h;exact h);·cases i
theorem vU:∀{l m:List AV}{L M:List aa},gE l m=I->bw ν l=O L->bw ν m=O M->L=M|[],[],L,M,_,f,e=>by rw[gu f,gu e]|a::x,b::y,_,_,h,f,e=>by obtain⟨V,R,v1,g,rfl⟩:=cd f;obtain⟨U,S,d,i,rfl⟩:=cd e;simp[gE]at h;split at h;rename_i c;rw[vU h g i];congr 1;(cases a<;>cases b<;>simp only[fZ]at c<;>try(cases c;done));simp[den]at v1 d;subst v1 d;simpa using c;simp only[ay,iM]at c;have:=eV c.1;simp[den]at v1 d;subst v1 d this;simpa using c.2;simp_all[gi];cases h|[],_::_,_,_,h,_,_=>by cases h|_::_,[],_,_,h,_,_=>by cases h
theorem GO{k c:AV}{K K':aa}(h:kN k c=O I)(b:den ν k=O K)(a:den ν c=O K'):K'=K:=by (cases k<;>cases c<;>simp only[kN]at h<;>try(cases h;done));simp only[aG,den]at h b a;subst b a;simp at h⊢;exact h.symm;split at h;rename_i d;have:=eV d;simp only[aG,den,iM]at h b a;subst b a this;simp at h⊢;exact h.symm;cases h;simp only[aG,den,gi]at h b a;subst b a;simp at h⊢;exact h.symm;grind[vU,gB]
def E0:aa->Bool|.agg cs=>(cs.toList.all λc=>match c with|.bool _=>I|.int _ _=>I|.string _=>I|_=>Z)|.bool _=>I|.int _ _=>I|.string _=>I|_=>Z
theorem sameBits_self{V:aa}(h:E0 V=I):Instr.sameBits 10000 V V=I:=by (have one:∀(n:Nat)(c:aa),(match c with|.bool _=>I|.int _ _=>I|.string _=>I|_=>Z)=I->Instr.sameBits n c c=I:=λn c f=>by (cases c<;>try(cases f;done));cases n<;>simp[Instr.sameBits];cases n<;>simp[Instr.sameBits];rename_i b;(have:(b==b)=I:=by show(b.data==b.data)=I;simp);cases n<;>simp[Instr.sameBits,this]);(cases V<;>first|(cases h;done)|exact one _ _ rfl|skip);rename_i cs;show Instr.sameBits (9999+1) _ _=I;simp only[Instr.sameBits,beq_self_eq_true,Bool.true_and,cm];rintro⟨x,y⟩ e;(have d:x=y:=by have⟨i,a⟩:=List.getElem?_of_mem e;rw[List.getElem?_zip_eq_some]at a;have:=a.1.symm.trans a.2;injection this);grind[E0,List.of_mem_zip]
theorem GP{k g:AV}{K:aa}(h:kN k g=O I)(d:den ν k=O K):E0 K=I:=by (cases k<;>cases g<;>simp only[kN]at h<;>try(cases h;done));simp[den]at d;subst d;rfl;simp[den]at d;subst d;rfl;simp[den]at d;subst d;rfl;(·rename_i l m;obtain⟨L,f,rfl⟩:=gB d;simp at h;(have:∀(l m:List AV)(L:List aa),gE l m=I->bw ν l=O L->(L.all λc=>match c with|.bool _=>I|.int _ _=>I|.string _=>I|_=>Z)=I:=by intro l;induction l with|nil=>intro m L _ f;rw[gu f];rfl|cons a x n=>intro m L e f;obtain⟨V,R,v1,j,rfl⟩:=cd f;cases m with|nil=>cases e|cons b y=>simp[gE]at e;split at e;(·rename_i i;simp only[List.all_cons,ay];refine⟨?_,n y R e j⟩;(cases a<;>cases b<;>simp only[fZ]at i<;>try(cases i;done));all_goals grind[den]);cases e);simpa[E0]using this l m L h f)
def Δ(ν:Nm)(k:AV)(ES:List bQ)(i:Nat):Option (Nat×AV×Nat)->Option (Nat×aa)->Prop|G,r=>r=G|O (j,v,b),r=>∃m,i<=j/\ES[j - i]? =O m/\r=O (j,m.val)/\den ν v=O m.val/\m.born=b/\(∀K,den ν k=O K->m.key=K/\E0 K=I)
theorem Δ.step{k:AV}{ES:List bQ}{m:bQ}{i:Nat}{r:Option (Nat×AV×Nat)}{R:Option (Nat×aa)}(h:Δ ν k ES (i+1) r R):Δ ν k (m::ES) i r R:=by cases r with|none=>exact h|some p=>have⟨j,v,b⟩:=p;have⟨a,e,d,c⟩:=h;refine⟨a,by omega,?_,c⟩;grind
theorem Lw{e:ag}{k:AV}{K:aa}(x:(gk P e&&mB P e k)=I)(f:den ν k=O K):∀{es:List (AV×AV×Nat)}{ES:List bQ}{i:Nat}{r:Option (Nat×AV×Nat)},cJ (oD ν) es ES->xm P e k es i=O r->∃R,Δ ν k ES i r R/\(Instr.findAsking e K ES i).run P w=.ok R w/\(∀d,P.underlying e=O d->eM d=I->Instr.findNow d K ES i=O R)|[],[],i,r,_,h=>by simp[xm]at h;subst h;exact⟨G,rfl,rfl,λ_ _ _=>rfl⟩|(s,v,b)::es,m::ES,i,r,⟨⟨o,C,B⟩,y⟩,h=>by simp only at o C B;unfold xm at h;(have A:∀{q:Bool},mB P e s=I->kN k s=O q->∀d,P.underlying e=O d->eM d=I->Instr.sameNow d K m.key=O q:=λ{q} n l d z p=>by (have g:mB P e k=I:=by simp_all);unfold mB at g n;rw[z]at g n;(cases d<;>try(cases p;done));(all_goals (cases k<;>try(cases g;done)));(all_goals (cases s<;>try(cases n;done)));grind[den,kN,Instr.sameNow];rename_i t L a J c;have E:=eV g;have D:=eV n;subst E D;simp[den]at f o;rw[<-f,<-o];(have:fy t t=I:=by cases t<;>rfl);simp_all[kN,iM,Instr.sameNow];simp[den]at f o;rw[<-f,<-o];simp[kN,gi]at l;simp[Instr.sameNow];rw[<-l];rename_i Iz H;show(Iz.toArray==H.toArray)=_;simp);split at h;rename_i n l;simp at h;subst h;have heq:=sH (P:=P) (w:=w) 2 Op.maxDepth e k s I K m.key (by decide) (BO x n l) f o;refine⟨O _,⟨m,ba _,by simp,rfl,C,B.symm,λK' j=> ?_⟩,?_,λd z p=> ?_⟩;rw[f]at j;simp at j;subst j;exact⟨GO l f o,GP l f⟩;rw[Instr.findAsking];show(Sem.bind _ _).run P w=_;rw[run_bind,show(Op.equal e K m.key).run P w=_ from heq];rfl;simp_all[Instr.findNow];rename_i n l;have⟨R,Gz,F,M⟩:=Lw x f y h;have heq:=sH (P:=P) (w:=w) 2 Op.maxDepth e k s Z K m.key (by decide) (BO x n l) f o;refine⟨R,Gz.step,?_,λd z p=> ?_⟩;rw[Instr.findAsking];show(Sem.bind _ _).run P w=_;rw[run_bind,show(Op.equal e K m.key).run P w=_ from heq];exact F;simp_all[Instr.findNow];cases h|[],_::_,_,_,u,_=>u.elim|_::_,[],_,_,u,_=>u.elim
theorem run_findKey{c:ag}{k:AV}{K:aa}(e:(gk P c&&mB P c k)=I)(l:den ν k=O K){es:List (AV×AV×Nat)}{ES:List bQ}{r:Option (Nat×AV×Nat)}(f:cJ (oD ν) es ES)(h:xm P c k es 0=O r):∃R,Δ ν k ES 0 r R/\(Instr.findKey c K ES).run P w=.ok R w:=by have⟨R,g,i,o⟩:=Lw (P:=P) (w:=w) e l f h;refine⟨R,g,?_⟩;unfold Instr.findKey;simp at e;have b:=e.1;unfold gk at b;split at b;(·rename_i a d;show(Sem.bind _ _).run P w=_;rw[run_bind,run_underlying d];simp;cases ES with|nil=>(have:R=G:=by cases es with|nil=>simp[xm]at h;subst h;exact g|cons _ _=>cases f);subst this;rfl|cons m ES=>(have:Instr.findNow (.struct a) K (m::ES) 0=G:=by rw[Instr.findNow];rfl);rw[this];exact i);(·rename_i j n d;show(Sem.bind _ _).run P w=_;rw[run_bind,run_underlying d];simp;cases ES with|nil=>(have:R=G:=by cases es with|nil=>simp[xm]at h;subst h;exact g|cons _ _=>cases f);subst this;rfl|cons m ES=>(have:Instr.findNow (.array j n) K (m::ES) 0=G:=by rw[Instr.findNow];rfl);rw[this];exact i);(·simp_all[run_underlying]);·cases b
end
end
end Go.Proofs.YtinknfobdleeeaaGreat
