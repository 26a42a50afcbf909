/- Part of the proof of a law: no condition. -/
import Derived.Test.YtinknfobdleeeaaGreatRd
import Derived.Shelf.SlSortCmp.InsertionK
import Derived.KernelRfl
import Derived.Test.YtinknfobdleeeaaGreatRows
set_option linter.all false
open Nat renaming eq_of_beq_eq_true→an,le_of_ble_eq_true→bz,ble→aF,ble_eq_true_of_le→fe,one_mul→fG,lt_or_ge→eu,add_zero→pB,le_refl→ba,mul_le_mul_right→cV,add_mul→df,zero_le→dy,zero_add→ew,beq→ae
open Bool renaming and_eq_true→ay,or_eq_true→bW,eq_false_iff→Ak
open Option.some renaming injEq→aG
open List renaming mem_cons→aO,all_eq_true→cm,getElem?_eq_getElem→aZ,mem_cons_of_mem→aS,mem_cons_self→aU,getElem?_eq_some_iff→cj,getElem?_append_left→dw,length_append→cL,getElem?_map→dg,mem_map→cA,getElem?_eq_none→ik,mem_iff_getElem?→jV,map_cons→eJ,getElem?_toArray→js,replicate→fF,length_map→fR,map_congr_left→kF,nodup_cons→mT,cons_append→fU,append_assoc→i7,mem_of_getElem?→bE,mem_append→dx,mem_of_mem_drop→jX,mem_of_mem_take→iZ,mem_or_eq_of_mem_set→mO,mem_singleton→aR,range'→bX
open Option renaming isSome_iff_exists→fu,map_eq_some_iff→bZ
open Array renaming getElem?_eq_some_iff→ef,getElem?_toList→fI,getD_eq_getD_getElem?→wB,length_toList→nZ
open Int renaming le_refl→ft
open Go renaming Value→aa,TypeId→ag,World→aj,Program→aw,IntKind→bu,MapEntry→bQ
namespace Go.Proofs.YtinknfobdleeeaaGreat
set_option maxRecDepth 100000
open Option renaming some→O,none→G
open Bool renaming true→I,false→Z
section
open RowKit
variable{pc:List (Tm×Bool)}{lm:List fV}{E:List VK}{n0:Nat}{ν:Nm}{o p:Out}{P:aw}
def si(E:List VK):Prop:=∀e∈E,∀ν:Nm,(∀t b,(t,b)∈e.hs->bh ν t b)->∀d,ai ν e.b=O d->ai ν e.a=O d
def oW(lm:List fV):Prop:=∀e∈lm,∀ν:Nm,(∀t b,(t,b)∈e.hs->bh ν t b)->bh ν e.t e.b
section
variable{n0 n1:Nat}{τ:Tr Tm}{ν cD:Nm}
mutual
theorem vA(hx:∀j u,sb n0 n1 τ (.x j)=O u->∀d,ai ν u=O d->cD.x j=O d)(hu:cD.u=ν.u):∀{t u:Tm}{d:ah},sb n0 n1 τ t=O u->ai ν u=O d->ai cD t=O d|.c n,u,d,h,hd=>by simp[sb]at h;subst h;exact hd|.x j,u,d,h,hd=>hx j u h d hd|.bin o k a b,u,d,h,hd=>by simp[sb]at h;split at h;(·rename_i a' b' ha hb;simp at h;subst h;have⟨x,y,h1,h2,h3⟩:=dq.1 hd;exact dq.2 ⟨x,y,vA hx hu ha h1,vA hx hu hb h2,h3⟩);·cases h|.conv k a,u,d,h,hd=>by simp[sb]at h;split at h;(·rename_i a' ha;simp at h;subst h;have⟨x,h1,h2⟩:=ov.1 hd;exact ov.2 ⟨x,vA hx hu ha h1,h2⟩);·cases h|.f o l,u,d,h,hd=>by simp[sb]at h;(have key:∀{l':List Tm}{d:ah},Ld n0 n1 τ l=O l'->ai ν (.f o l')=O d->ai cD (.f o l)=O d:=λ{l' d} hl hd=>by simp[ai]at hd⊢;cases h1:bA ν l' with|none=>rw[h1]at hd;cases hd|some ds=>rw[h1]at hd;rw[L_ hx hu hl h1,hu];exact hd);grind[bj,an,nX,du]
theorem L_(hx:∀j u,sb n0 n1 τ (.x j)=O u->∀d,ai ν u=O d->cD.x j=O d)(hu:cD.u=ν.u):∀{t u:List Tm}{d:List ah},Ld n0 n1 τ t=O u->bA ν u=O d->bA cD t=O d|[],u,d,h,hd=>by simp only[Ld,aG]at h;subst h;exact hd|t::l,u,d,h,hd=>by simp[Ld]at h;split at h;(·rename_i a' b' ha hb;simp at h;subst h;simp[bA]at hd⊢;cases h1:ai ν a' with|none=>rw[h1]at hd;cases hd|some x=>cases h2:bA ν b' with|none=>rw[h1,h2]at hd;cases hd|some y=>rw[h1,h2]at hd;rw[vA hx hu ha h1,L_ hx hu hb h2];exact hd);·cases h
end
theorem Ma(i:si E)(a:∀t b,(t,b)∈pc->bh ν t b){t u:Tm}(h:afz E pc t u=I){d:ah}(c:ai ν u=O d):ai ν t=O d:=by unfold afz at h;rw[bW]at h;rcases h with h|h;rw[bj h];exact c;have⟨e,g,f⟩:=List.any_eq_true.1 h;simp at f;have⟨⟨l,k⟩,j⟩:=f;rw[<-bj l];rw[<-bj k]at c;exact i e g ν (pI a j) d c
mutual
theorem B9(hE:si E)(rW:∀t b,(t,b)∈pc->bh ν t b):∀(n:Nat){t u:Tm},X8 E pc n t u=I->∀{d:ah},ai ν u=O d->ai ν t=O d|0,t,u,h,d,hd=>by grind[X8,Ma]|n+1,t,u,h,d,hd=>by unfold X8 at h;split at h;(·grind[Ma]);·split at h;(·rename_i o l p m _;rw[ay]at h;have:=an h.1;subst this;simp[ai]at hd⊢;cases h1:bA ν m with|none=>rw[h1]at hd;cases hd|some ds=>rw[h1]at hd;rw[Hf hE rW n h.2 h1];exact hd);(·rename_i k a j b _;rw[ay]at h;have:=iw h.1;subst this;have⟨x,h1,h2⟩:=ov.1 hd;exact ov.2 ⟨x,B9 hE rW n h.2 h1,h2⟩);·cases h
theorem Hf(hE:si E)(rW:∀t b,(t,b)∈pc->bh ν t b):∀(n:Nat){l m:List Tm},Wz E pc n l m=I->∀{ds:List ah},bA ν m=O ds->bA ν l=O ds|n,[],[],_,ds,hd=>hd|n,t::l,u::m,h,ds,hd=>by unfold Wz at h;split at h;(·rename_i h1;simp[bA]at hd⊢;cases k1:ai ν u with|none=>rw[k1]at hd;cases hd|some x=>cases k2:bA ν m with|none=>rw[k1,k2]at hd;cases hd|some y=>rw[k1,k2]at hd;rw[B9 hE rW n h1 k1,Hf hE rW n h k2];exact hd);·cases h|n,[],_::_,h,_,_=>by cases h|n,_::_,[],h,_,_=>by cases h
end
end
section
variable{σ:Nat->Option Nat}{q:Tm->Tm->Bool}{ν cD:Nm}
structure Cz(σ:Nat->Option Nat)(q:Tm->Tm->Bool)(cD ν:Nm):Prop where
 f:∀j i,σ j=O i->cD.f j=ν.f i
 q:∀t u,q t u=I->∀d,ai ν u=O d->ai cD t=O d
 x:∀j,j<bm->cD.x j=ν.x j
 z:cD.z=ν.z
 n:∀j i,σ j=O i->cD.q j=ν.q i
theorem B_(H:Cz σ q cD ν){c d:zj}(h:xq σ c d=I){n:Nat}(a:cX ν d=O n):cX cD c=O n:=by (cases c<;>cases d<;>simp only[xq,ay]at h<;>try(cases h;done));rw[an h];exact a;simp[cX]at a⊢;rw[H.f _ _ (dp h.1),an h.2];exact a
theorem adM(H:Cz σ q cD ν){c d:OL}(h:XM σ c d=I){n:Fn}(a:lM ν d=O n):lM cD c=O n:=by (cases c<;>cases d<;>simp only[XM]at h<;>try(cases h;done));rw[an h];exact a;simp[lM]at a⊢;rw[H.f _ _ (dp h)];exact a
mutual
theorem tz(H:Cz σ q cD ν):∀{a b:AV}{V:aa},uE σ q a b=I->den ν b=O V->den cD a=O V|.bool a,b,V,h,hd=>by (cases b<;>simp only[uE]at h<;>try(cases h;done));rw[eq_of_beq h];exact hd|.int k a,b,V,h,hd=>by (cases b<;>simp only[uE,ay]at h<;>try(cases h;done));rw[iw h.1,h_ h.2];exact hd|.str a,b,V,h,hd=>by (cases b<;>simp only[uE]at h<;>try(cases h;done));rw[tP h];exact hd|.kv,b,V,h,hd=>(by cases b<;>simp only[uE]at h<;>first|(cases h;done)|exact hd)|.ptr i n,b,V,h,hd=>by (cases b<;>simp only[uE,ay]at h<;>try(cases h;done));simp[den]at hd⊢;rw[H.f _ _ (dp h.1),an h.2];exact hd|.cQ,b,V,h,hd=>(by cases b<;>simp only[uE]at h<;>first|(cases h;done)|exact hd)|.slice i n l c,b,V,h,hd=>by (cases b<;>simp only[uE,ay]at h<;>try(cases h;done));have⟨⟨⟨h1,h2⟩,h3⟩,h4⟩:=h;obtain⟨g,C,k1,k2,k3,rfl⟩:=gX hd;simp[den];rw[H.f _ _ (dp h1),an h2,an h3,k1,B_ H h4 k2];simp_all|.lf,b,V,h,hd=>(by cases b<;>simp only[uE]at h<;>first|(cases h;done)|exact hd)|.map i,b,V,h,hd=>by (cases b<;>simp only[uE]at h<;>try(cases h;done));simp[den]at hd⊢;rw[H.f _ _ (dp h)];exact hd|.func f a c,b,V,h,hd=>by (cases b<;>simp only[uE,ay]at h<;>try(cases h;done));have⟨⟨h1,h2⟩,h3⟩:=h;obtain⟨fn,FZ,CS,k1,k2,k3,rfl⟩:=qt hd;simp[den];rw[adM H h1 k1,qw H h2 k2,qw H h3 k3]|.iq,b,V,h,hd=>(by cases b<;>simp only[uE]at h<;>first|(cases h;done)|exact hd)|.iface t v,b,V,h,hd=>by (cases b<;>simp only[uE,ay]at h<;>try(cases h;done));simp[den]at hd⊢;split at hd;rename_i U hU;rw[tz H h.2 hU,an h.1];exact hd;cases hd|.gP,b,V,h,hd=>(by cases b<;>simp only[uE]at h<;>first|(cases h;done)|exact hd)|.agg a,b,V,h,hd=>by (cases b<;>simp only[uE]at h<;>try(cases h;done));obtain⟨L,k1,rfl⟩:=gB hd;simp[den];rw[qw H h k1]|.il a,b,V,h,hd=>by (cases b<;>simp only[uE]at h<;>try(cases h;done));obtain⟨L,k1,rfl⟩:=wq hd;simp[den];rw[qw H h k1]|.ext i,b,V,h,hd=>by (cases b<;>simp only[uE,ay]at h<;>try(cases h;done));have:=an h.1;subst this;simp[den]at hd⊢;rw[H.x _ (bz h.2)];exact hd|.mw g n,b,V,h,hd=>by (cases b<;>simp only[uE,ay]at h<;>try(cases h;done));rw[an h.1,an h.2];exact hd|.sym k t,b,V,h,hd=>by (cases b<;>simp only[uE,ay]at h<;>try(cases h;done));simp[den]at hd;simp[den];rw[H.q _ _ h.2 _ rfl,iw h.1,<-hd];obtain⟨n,k1,rfl⟩:=pa hd;simp[den];rw[H.q _ _ h.2 _ k1,iw h.1]|.iI t,b,V,h,hd=>by (cases b<;>simp only[uE]at h<;>try(cases h;done));rename_i c;simp[den]at hd;simp only[den];rw[H.q _ _ h _ rfl,<-hd];cases c<;>rfl;obtain⟨n,k1,rfl⟩:=vn hd;simp only[den];rw[H.q _ _ h _ k1]|.iJ t,b,V,h,hd=>by (cases b<;>simp only[uE]at h<;>try(cases h;done));rename_i l;simp[den]at hd;simp[den];rw[H.q _ _ h _ (vH ν l),<-hd];rename_i u;obtain⟨l,k1,_,rfl⟩:=u_ rfl hd;simp[den];rw[H.q _ _ h _ k1]|.deep e t,b,V,h,hd=>by (cases b<;>simp only[uE,ay]at h<;>try(cases h;done));simp[den]at hd;have h1:ai ν (.f 22 [.f 14 [.c (.ofNat e)],.f 11 []])=O (.r e (.slice G 0 0) []):=dr.2 ⟨DU.2 rfl,(dn rfl (by decide)).2 ⟨[],rfl,rfl⟩⟩;simp[den];rw[H.q _ _ h _ h1,<-hd];simp only;rw[if_pos ⟨trivial,rfl⟩];rename_i f u;have:=an h.1;subst this;have⟨xs,k1,k2⟩:=lA hd;simp[den];rw[H.q _ _ h.2 _ k1];simp_all|.mn e z t i n,b,V,h,hd=>(by (cases b<;>simp only[uE,ay]at h<;>try(cases h;done));rename_i f y u j m;have⟨⟨⟨⟨h1,h2⟩,h3⟩,h4⟩,h5⟩:=h;rw[an h1,an h2,an h3];simp only[den]at hd⊢;cases k1:ai ν u with|none=>rw[k1]at hd;cases hd|some d=>cases k2:ai ν j with|none=>rw[k1,k2]at hd;simp_all|some e=>rw[k1,k2]at hd;rw[H.q _ _ h4 _ k1,H.q _ _ h5 _ k2];exact hd)|.bK i t c,b,V,h,hd=>by (cases b<;>simp only[uE,ay]at h<;>try(cases h;done));have⟨⟨h1,h2⟩,h3⟩:=h;simp only[den]at hd⊢;split at hd;rename_i g n m k1 k2 k3;rw[(H.f _ _ (dp h1)).trans k1,H.q _ _ h2 _ k2,B_ H h3 k3,H.n _ _ (dp h1)];exact hd;cases hd|.jM i e z t n,b,V,h,hd=>by (cases b<;>simp only[uE,ay]at h<;>try(cases h;done));have⟨⟨⟨⟨h1,h2⟩,h3⟩,h4⟩,h5⟩:=h;rw[an h2,an h3,an h4];simp[den]at hd⊢;split at hd;rename_i g n k1 k2;rw[(H.f _ _ (dp h1)).trans k1,H.q _ _ h5 _ k2];exact hd;cases hd|.gZ i e z t v c,b,V,h,hd=>by (cases b<;>simp only[uE,ay]at h<;>try(cases h;done));have⟨⟨⟨⟨⟨h1,h2⟩,h3⟩,h4⟩,h5⟩,h6⟩:=h;rw[an h2,an h3];simp only[den]at hd⊢;split at hd;rename_i g a b' m k1 k2 k3 k4;rw[(H.f _ _ (dp h1)).trans k1,H.q _ _ h4 _ k2,H.q _ _ h5 _ k3,B_ H h6 k4,H.n _ _ (dp h1)];exact hd;cases hd|.tail _ _ _ _ _ _,b,V,h,hd=>by cases b<;>cases h
theorem qw(H:Cz σ q cD ν):∀{a b:List AV}{V:List aa},MS σ q a b=I->bw ν b=O V->bw cD a=O V|[],b,V,h,hd=>(by cases b with|nil=>exact hd|cons _ _=>cases h)|a::l,b,V,h,hd=>by cases b with|nil=>cases h|cons b m=>unfold MS at h;split at h;rename_i hab;obtain⟨U,R,k1,k2,rfl⟩:=cd hd;exact eQ (tz H hab k1) (qw H h k2);cases h
end
theorem QP(H:Cz σ q cD ν):∀{a b:List (AV×AV×Nat)}{l:List bQ},afA σ q a b=I->cJ (oD ν) b l->cJ (oD cD) a l
 |[],b,l,h,g=>by
  cases b with
  |nil=>cases l with
   |nil=>trivial
   |cons _ _=>cases g
  |cons _ _=>cases h
 |(a,c,d)::r,b,l,h,g=>by
  cases b with
  |nil=>cases h
  |cons y m=>
   have⟨s,p,o⟩:=y
   unfold afA at h
   split at h
   ·rename_i f
    simp only[ay]at f
    cases l with
    |nil=>cases g
    |cons e l=>
     have⟨⟨n,k,j⟩,i⟩:=g
     exact⟨⟨tz H f.1.1 n,tz H f.1.2 k,(an f.2).trans j⟩,QP H h i⟩
   ·cases h
theorem Mb:∀{l:List (Nat×AV)}{T:Tr AV},afB σ q l T=I->∀r∈l,∃v,T.get r.1=O v/\uE σ q r.2 v=I|[],_,_,r,a=>by cases a|(i,u)::l,T,h,r,a=>by simp[afB]at h;rcases aO.1 a with rfl|a;grind;exact Mb h.2 r a
theorem agE(H:Cz σ q cD ν){a b:bF}{obj:Obj}(h:okO σ q a b=I)(k:bN P ν b obj):bN P cD a obj:=by (cases a<;>cases b<;>simp only[okO,ay]at h<;>try(cases h;done));rename_i l t c m u' d;(cases obj<;>simp only[bN]at k⊢<;>try exact k.elim);have⟨n,r,L,R,j,p,o⟩:=k;refine⟨by rw[an h.1.1];exact n,r,L,R,qw H h.2 j,p,?_⟩;(cases c<;>cases d<;>simp only[zC]at h<;>try(cases h.1.2;done));exact o;have⟨cap,i,y,E,D⟩:=o;exact⟨cap,i,(H.f _ _ (dp h.1.2)).trans y,by rw[an h.1.1];exact E,D⟩;(cases obj<;>simp only[bN]at k⊢<;>try exact k.elim);grind[an,QP];rename_i m a l b m' a' l' b';(cases obj<;>simp only[bN]at k⊢<;>try exact k.elim);have⟨⟨⟨x,w⟩,s⟩,F⟩:=h;refine⟨?_,by rw[an w];exact k.2.1,by rw[n_ F];exact k.2.2.1,by rw[an s];exact k.2.2.2⟩;(cases m<;>cases m'<;>simp only[zC]at x<;>try(cases x;done));exact k.1;have⟨g,g1,g2⟩:=k.1;exact⟨g,(H.f _ _ (dp x)).trans g1,g2⟩;rename_i st pe T N ps d key Q U T' N' ps' d' anF;(cases obj<;>simp only[bN]at k⊢<;>try exact k.elim);(cases st<;>cases pe<;>try(simp only[okO]at h;cases h;done));(cases Q<;>cases U<;>try(simp only at h;cases h;done));simp only[ay]at h;have⟨⟨⟨⟨⟨x,w⟩,s⟩,F⟩,K⟩,h6⟩:=h;have⟨n,r,j,p,o,y⟩:=k;have w:=an w;subst w;refine⟨n,r,⟨j.size,λi u hu=> ?_⟩,by rw[n_ s];exact p,by rw[an K,wz h6];exact o,(H.f _ _ (dp F)).trans y⟩;have⟨v,q1,q2⟩:=Mb x (i,u) (fL.2 hu);have⟨V,q3,q4⟩:=j.jb i v q1;exact⟨V,tz H q2 q3,q4⟩;(cases obj<;>simp only[bN]at k⊢<;>try exact k.elim);exact k;rename_i t e c Oz e' d;(cases obj<;>simp only[bN]at k⊢<;>try exact k.elim);have⟨n,r,dd,L,R,j,p,o,y⟩:=k;have J:=an h.1.2;refine⟨by rw[J];exact n,r,dd,L,R,H.q _ _ h.1.1 _ j,by rw[J,H.z];exact p,o,?_⟩;(cases c<;>cases d<;>simp only[zC]at h<;>try(cases h.2;done));exact y;have⟨cap,i,E,D,Gz⟩:=y;exact⟨cap,i,(H.f _ _ (dp h.2)).trans E,by rw[J];exact D,Gz⟩;rename_i kt vt t pd X M Oz W;(cases obj<;>simp only[bN]at k⊢<;>try exact k.elim);(cases pd<;>cases W<;>simp only[okO,ay]at h<;>try(cases h;done));have⟨xs,n,r,j,p⟩:=k;refine⟨xs,H.q _ _ h.2 _ n,?_⟩;rw[an h.1.1,an h.1.2,H.z];simp_all;rename_i t e c it cs Oz e' d it' rY;(cases obj<;>simp only[bN]at k⊢<;>try exact k.elim);have⟨⟨⟨⟨x,w⟩,s⟩,F⟩,K⟩:=h;have⟨n,r,xs,L,R,kk,vs,j,p,o,y,E,D,Gz,A⟩:=k;have J:=an w;subst J;refine⟨n,r,xs,L,R,kk,vs,H.q _ _ x _ j,by rw[H.z];exact p,H.q _ _ F _ o,y,qw H K E,D,Gz,?_⟩;(cases c<;>cases d<;>simp only[zC]at s<;>try(cases s;done));exact A;have⟨cap,i,Iz,Zz,Y⟩:=A;exact⟨cap,i,(H.f _ _ (dp s)).trans Iz,Zz,Y⟩;rename_i kt vt t c B S last X M Oz c' B' S' C;(cases last<;>cases C<;>simp only[okO,ay]at h<;>try(cases h;done));(cases obj<;>simp only[bN]at k⊢<;>try exact k.elim);have⟨⟨⟨⟨⟨x,w⟩,s⟩,F⟩,K⟩,h6⟩:=h;have⟨xs,zs,bs,ys,n,r,j,p,o,y,E,D,Gz,A,Iz⟩:=k;have e1:=an x;have e2:=an w;subst e1 e2;exact⟨xs,zs,bs,ys,H.q _ _ s _ n,by rw[H.z];exact r,j,H.q _ _ F _ p,H.q _ _ K _ o,H.q _ _ h6 _ y,E,by rw[H.z];exact D,Gz,A,trivial⟩;rename_i m c B m' c' B';(cases obj<;>simp only[bN]at k⊢<;>try exact k.elim);have⟨⟨x,w⟩,s⟩:=h;have⟨g,n,r,j,p,o⟩:=k;exact⟨g,(H.f _ _ (dp x)).trans n,r,H.q _ _ w _ j,p,H.q _ _ s _ o⟩
theorem adN(H:Cz σ q cD ν){a b:bF}(h:okO σ q a b=I)(k:iU P ν b):iU P cD a:=by cases b<;>simp only[iU]at k;obtain⟨d,l,j,i,c',m,rfl,g⟩:=k;(cases a<;>simp only[okO,ay]at h<;>try(cases h;done));rename_i t e c;have n:=an h.1.2;subst n;cases c with|none=>cases h.2|some c=>exact⟨d,H.q _ _ h.1.1 _ l,by rw[H.z];exact j,i,c,m,rfl,(H.f _ _ (dp h.2)).trans g⟩
end
theorem Y9{a b:Ex}(h:ajR a b=I):a=b:=by cases a<;>cases b<;>simp only[ajR]at h<;>first|rfl|(cases h;done)|rw[an h]
theorem Mc{b:Fit}:∀{l:List (Nat×AV)},afE E n0 b o p l=I->∀r∈l,∃v,o.T.get r.1=O v/\uE (rC n0 p.s.n b.f) (okQ E n0 b o p) r.2 v=I|[],_,r,a=>by cases a|(i,u)::l,h,r,a=>by simp[afE]at h;rcases aO.1 a with rfl|a;grind;exact Mc h.2 r a
theorem agF(h:oW lm):bS lm:=λe c ν a n b=>by have⟨m,d,f⟩:=h e c ν a;rw[b]at d;simp_all
theorem Md(hDe:oL){φ:Fit}{cD:Nm}(hN:∀t∈ab0 o,∃n,ai ν t=O (.n n))(hL:oW lm)(rW:∀t b,(t,b)∈o.s.x.pc->bh ν t b)(hi:∀{t u:Tm}{d:ah},sb n0 p.s.n φ.x t=O u->ai ν u=O d->ai cD t=O d):∀{l:List (Tm×Bool)},afD lm n0 φ o p l=I->∀t b,(t,b)∈l->bh cD t b|[],_,t,b,hm=>by cases hm|(t',b')::l,h,t,b,hm=>by simp[afD]at h;rcases aO.1 hm with e|hm;simp at e;obtain⟨rfl,rfl⟩:=e;have h1:=h.1;split at h1;rename_i u hu;simp only[bW]at h1;(have:bh ν u b:=by rcases h1 with((h1|h1)|h1)|h1;split at h1;rename_i c hc;have:c=b:=eq_of_beq h1;grind[jy];cases h1;have⟨e,he,hc⟩:=List.any_eq_true.1 h1;simp only[ay]at hc;have⟨⟨c1,c2⟩,c3⟩:=hc;have:=hL e he ν (pI rW c3);rw[bj c1,eq_of_beq c2]at this;exact this;rw[ay]at h1;rw[h1.1];exact OH (λe he=>by cases he) hDe rW h1.2;split at h1;rename_i c hc;rw[ay]at h1;have⟨n,hn⟩:=lW hN h1.2;rw[<-eq_of_beq h1.1];exact⟨n,hn,ib (agF hL) rW hc hn⟩;cases h1);have⟨n,k1,k2⟩:=this;exact⟨n,hi hu k1,k2⟩;cases h1;exact Md hDe hN hL rW hi h.2 t b hm
theorem Me(hDe:oL)(hE:si E)(hL:oW lm)(h:afF E lm n0 o p=I){w0 w:aj}{A:en}{C:Nm}(a1:Nm.le C ν)(a2:∀i,n0<=i->C i=G)(a5:∀i,n0<=i->C.x (bm+i)=G)(a6:∀i,n0<=i->C.q i=G)(a3:Nm.le A.ν C)(a4:nC C o.s.x.gl w0)(F:aL P w0 A ν o.s w)(hov:∃V,den ν o.v=O V)(hoT:∀i v,o.T.get i=O v->∃V,den ν v=O V):
 p.e=o.e/\p.M=[]/\o.M=[]/\∃cD,Nm.le C cD/\aL P w0 A cD p.s w/\(∀V,den ν o.v=O V->den cD p.v=O V)/\∀i u,p.T.get i=O u->∃v,o.T.get i=O v/\∀V,den ν v=O V->den cD u=O V:=by
 unfold afF at h
 simp only[ay]at h
 generalize afC n0 o p=B at h
 have⟨⟨⟨⟨⟨⟨⟨⟨⟨⟨r,Gz⟩,h3⟩,h4⟩,h5⟩,h6⟩,hv⟩,hsl⟩,Zz⟩,Y⟩,rW⟩:=h
 have hn:=bz h4
 have ajK:∀{a b:Nat},a<=b->aF a b=I:=λh=>fe h
 have ajL:∀{a b:Nat},b<a->aF a b=Z:=λ{a b} h=>by
  grind[bz]
 have amW:∀t∈ab0 o,∃n,ai ν t=O (.n n):=by
  have⟨V,hV⟩:=hov
  have⟨VS,hVS⟩:∃VS,bw ν ((cG o.T 1 0 []).map (·.2))=O VS:=qH λp hp=>by
   grind[fL]
  exact ic (eQ hV hVS) (tR (P:=P) (λp hp=>by
   have⟨i,ob⟩:=p
   obtain⟨g,_,⟨_,k⟩|⟨obj,_,_,k⟩⟩:=F.fX i ob (fL.1 hp)
   ·exact .inl k
   ·exact .inr ⟨obj,k⟩) λ_ h=>by cases h)
 refine⟨Y9 r,by simpa using Gz,by simpa using h3,?_⟩
 have⟨cD,D⟩:∃cD:Nm,cD=⟨λj=>(rC n0 p.s.n B.f j).bind ν.f,λj=>match sb n0 p.s.n B.x (.x j)with
  |O u=>ai ν u
  |G=>G,ν.u,ν.z,λj=>(rC n0 p.s.n B.f j).bind ν.q⟩:=⟨_,rfl⟩
 have pf:∀j,cD.f j=(rC n0 p.s.n B.f j).bind ν.f:=λj=>by rw[D]
 have px:∀j,cD.x j=match sb n0 p.s.n B.x (.x j)with
  |O u=>ai ν u
  |G=>G:=λj=>by rw[D]
 have pq:∀j,cD.q j=(rC n0 p.s.n B.f j).bind ν.q:=λj=>by rw[D]
 have pu:cD.u=ν.u:=by rw[D]
 have pz:cD.z=ν.z:=by rw[D]
 have L:∀j,j<bm+n0->cD.x j=ν.x j:=λj c=>by
  rw[px]
  simp only[sb]
  rw[ajL c]
  rfl
 have hx:∀j u,sb n0 p.s.n B.x (.x j)=O u->∀d,ai ν u=O d->cD.x j=O d:=λj u X d hd=>by
  rw[px,X]
  exact hd
 have Oz:∀{t u:Tm}{d:ah},sb n0 p.s.n B.x t=O u->ai ν u=O d->ai cD t=O d:=λX hd=>vA hx pu X hd
 have H:Cz (rC n0 p.s.n B.f) (okQ E n0 B o p) cD ν:=by
  refine⟨λj i c=>by rw[pf,c];rfl,λt u R d hd=> ?_,λj c=>L j (by omega),pz,λj i c=>by rw[pq,c];rfl⟩
  unfold okQ at R
  split at R
  ·rename_i t' ht'
   rcases(bW ..).mp R with R|R
   ·exact Oz ht' (B9 hE F.ctx.pc 3 R hd)
   grind[bj,FR]
  ·cases R
 have S:Nm.le C cD:=by
  refine⟨λi g N=> ?_,λj d c=> ?_,by rw[pu,a1.u],λj c=>by rw[L j (by omega)];exact a1.xe j c,λg ob K=>by rw[pz];exact a1.z g ob K,λi v N=> ?_⟩
  ·have Iz:i<n0:=by
    grind
   show cD.f i=O g
   rw[pf,rb Iz]
   exact a1 i g N
  ·have Iz:j<bm+n0:=by
    rcases eu j (bm+n0)with h|h
    ·exact h
    ·have:=a5 (j - bm) (by omega)
     rw[show bm+(j - bm)=j by omega,c]at this
     cases this
   rw[L j Iz]
   exact a1.x j d c
  ·have Iz:i<n0:=by
    grind
   rw[pq,rb Iz]
   exact a1.q i v N
 refine⟨cD,S,?_,λV hV=>tz H hv hV,λi u X=> ?_⟩
 ·have live:∀j ob,p.s.h.get j=O ob->∃i m,rC n0 p.s.n B.f j=O i/\o.s.h.get i=O m/\okO (rC n0 p.s.n B.f) (okQ E n0 B o p) ob m=I/\(j<n0∨(n0<=i∨p.s.h.get i=G)/\B.b.get i=O j):=λj ob c=>by
   have:=jJ Zz j ob c
   rw[fG,pB]at this
   unfold alv at this
   split at this
   ·rename_i i N
    simp only[ay]at this
    have⟨r,Gz⟩:=this
    split at r
    ·rename_i m h3
     refine⟨i,m,N,h3,r,?_⟩
     split at Gz
     ·grind
     ·simp only[ay]at Gz
      have⟨h4,h5⟩:=Gz
      split at h5
      ·simp_all
      ·cases h5
    ·cases r
   ·cases this
  have J:∀{j i},rC n0 p.s.n B.f j=O i->cD.f j=ν.f i:=λh=>H.f _ _ h
  refine⟨F.pos,F.dz,λj c=> ?_,λj ob c=> ?_,λj k ob Q c hk e0 e=> ?_,a3.trans S,F.xb,λi ob N hnl=> ?_,F.sT,F.nv,λj ob c g K g0=> ?_,⟨?_,Md hDe amW hL F.ctx.pc Oz rW⟩,λg ob K=>⟨(F.mu g ob (by rw[<-pz];exact K)).1,λj Q c g0 e=> ?_⟩,λg ob K=>F.lq g ob (by rw[<-pz];exact K),λj d c=> ?_,λi N=> ?_,λj c=> ?_⟩
  ·show cD.f j=G
   rw[pf]
   cases hs:rC n0 p.s.n B.f j with
   |none=>rfl
   |some i=>
    rcases Nk hs with⟨r,_⟩|⟨_,Gz⟩
    ·omega
    ·omega
  ·have⟨i,m,r,Gz,h3,_⟩:=live j ob c
   obtain⟨g,k1,⟨W,k3⟩|⟨obj,W,k3,k4⟩⟩:=F.fX i m Gz
   ·exact⟨g,(J r).trans k1,.inl ⟨W,adN H h3 k3⟩⟩
   grind[agE]
  ·have⟨i,m,r,Gz,_,h4⟩:=live j ob c
   have⟨i',U,Kc,OQ,_,Eh⟩:=live k Q hk
   have e2:i=i':=F.inj i i' m U Gz OQ (λe'=>e0 ((J r).trans e')) (by
    have e1:ν.f i=ν.f i':=(J r).symm.trans ((show cD.f j=cD.f k from e).trans (J Kc))
    exact e1)
   grind[rb]
  ·have Iz:i<n0:=by
    have⟨g,K⟩:=F.xb i ob N
    have:=a3 _ _ K
    rcases eu i n0 with h|h
    ·exact h
    ·rw[a2 i h]at this;cases this
   have amX:i∉o.s.log:=λhm=>by
    have:=cm.1 h6 i hm
    rw[bW]at this
    rcases this with h|h
    ·have:=bz h;omega
    ·have⟨y,hy,hb⟩:=List.any_eq_true.1 h
     rw[an hb]at hnl
     exact hnl hy
   have⟨⟨o2,r⟩,Gz⟩:=F.same i ob N amX
   refine⟨?_,Gz⟩
   have:=jJ Y i o2 r
   rw[fG,pB,fe Iz]at this
   rcases(bW ..).mp this with h|h
   ·exact fu.1 h
   simp_all
  ·have⟨i,m,r,Gz,_,_⟩:=live j ob c
   exact F.own i m Gz g ((J r).symm.trans K) g0
  ·rw[<-pw h5]
   intro g l K i v hv'
   have⟨V,k1,W⟩:=a4 g l K i v hv'
   exact⟨V,cY S v V k1,W⟩
  ·have⟨i,m,r,Gz,_,_⟩:=live j Q c
   exact(F.mu g ob (by rw[<-pz];exact K)).2 i m Gz g0 ((J r).symm.trans e)
  ·rw[pz]
   rw[px]at c
   split at c
   ·exact mP F.nU c
   ·cases c
  ·show cD.x (bm+i)=G
   rw[px]
   simp only[sb]
   rw[ajK (show bm+n0<=bm+i by omega)]
   grind
  ·rw[pq]
   cases hs:rC n0 p.s.n B.f j with
   |none=>rfl
   |some i=>
    rcases Nk hs with⟨r,_⟩|⟨_,Gz⟩
    ·omega
    ·omega
 ·have⟨v,k1,W⟩:=Mc hsl (i,u) (fL.2 X)
  grind[tz]
theorem Hg{w0 w:aj}{A:en}(e:bS lm){V:aa}{N:Nat}{a:Act}(h:aL P w0 A ν o.s w)(u:den ν o.v=O V)(x:eG ν o.T N a.tmps):∃b,Nm.le ν b/\aL P w0 A b (s_ P lm n0 p o).s w/\den b (s_ P lm n0 p o).v=O V/\eG b (s_ P lm n0 p o).T N a.tmps:=by have⟨j,g,t,r⟩:=Gc e (p:=p.v) (k:=p.s.h) h u;have⟨i,f,q,n⟩:=vy e (k:=p.s.h) (l:=cG p.T 1 0 []) t (x.mono g);have⟨c,d,m⟩:=AH e (k:=p.s.h) (l:=Fz n0 (afC n0 {o with v:=(ky P lm p.s.h p.v o.v o.s).1,T:=(xf P lm p.s.h (cG p.T 1 0 []) o.T (ky P lm p.s.h p.v o.v o.s).2).1,s:=(xf P lm p.s.h (cG p.T 1 0 []) o.T (ky P lm p.s.h p.v o.v o.s).2).2} p) (cG p.s.h 1 0 [])) q;exact⟨c,(g.trans f).trans d,m,cY d _ _ (cY f _ _ r),n.mono d⟩
theorem RS(u:oL){U:Int}(Y:P.follows .mixedOrders=I)(hN:mU P=I){pr:Pr}(B:S_ P U pr)(hE:si E)(hL:oW lm){n:Nat}{e:sR}(h:rN P pr E lm n e=I){tab:List sR}(hT:E_ P (cE P U) U tab):E_ P (cE P U) U (e::tab):=λx l=>by rcases aO.1 l with rfl|l;unfold rN at h;split at h;rename_i d X;have⟨h1,h2⟩:cy P (cE P U) U n d (.call x.f x.args x.s):=qJ Y hN B n _ _ X;refine⟨h1,λw0 A ν w VS Zz c t=>Calls.mono (h2 w0 A ν w VS Zz c t) λr w' S=> ?_⟩;have⟨o,q,D,V,R,Q,Oz,K⟩:=S;have b:=cm.1 h o q;split at b;rename_i he;have⟨p,W,j⟩:=List.any_eq_true.1 b;simp at j;have⟨g,j⟩:=j;have⟨C,F,z,k,y⟩:=Hg B.L (n0:=x.s.n) (p:=p) (o:={o with T:=.e,M:=[]}) (V:=V) (N:=0) (a:={tmps:= #[],defers:=[]}) Q Oz ⟨rfl,λi v m=>by cases m⟩;generalize s_ P pr.lm x.s.n p {o with T:=.e,M:=[]}=Gz at g j z k y;have⟨_,_,_,cD,J,Iz,H,_⟩:=Me u hE hL j (R.trans F) c.top c.kR c.kS c.ext (by rw[<-pw g];exact c.ctx.gl) z ⟨V,k⟩ (λi v m=>by have⟨V,h,_⟩:=y.jb i v m;grind);exact⟨p,W,cD,V,J,Iz,H V k,K⟩;cases b;cases h;exact hT x l
end
section
open RowKit
variable{x y:List Int}{ks:List bu}{j k:Nat}
abbrev zM(k:Nat):Type:={l:List Int//l.length=k}
instance (k:Nat):Inhabited (zM k):=⟨⟨fF k 0,by simp⟩⟩
def Λ(ks:List bu)(r:List Int):List aa:=List.zipWith (λk n=>.int k n) ks r
def oX(ks:List bu)(r:zM ks.length):List aa:=Λ ks r.1
def Df(x y:List Int):Bool:=decide (x.getD 0 0<y.getD 0 0)||(decide (x.getD 0 0=y.getD 0 0)&&decide (x.getD 1 0<y.getD 1 0))
def afI(x y:List Int):Int:=if x.getD 0 0<y.getD 0 0 then -1 else if y.getD 0 0<x.getD 0 0 then 1 else if x.getD 1 0<y.getD 1 0 then -1 else if y.getD 1 0<x.getD 1 0 then 1 else 0
def Pk{k:Nat}(x y:zM k):Int:=afI x.1 y.1
theorem wW(x y:zM k):ltOf Pk x y=Df x.1 y.1:=by unfold ltOf Pk afI Df;rw[Bool.eq_iff_iff];grind
theorem Ca(h:Df x y=I):Df y x=Z:=by unfold Df at h⊢;rw[Ak];grind
theorem Mf{z:List Int}(h:Df x y=I)(a:Df y z=I):Df x z=I:=by unfold Df at h a⊢;grind
theorem adO(k:Nat):Sort.SWO (ltOf (Pk (k:=k))):=by refine⟨λx=> ?_,λx y z h h2=> ?_,λx y z h h2=> ?_⟩;rw[wW];simp_all[Df];rw[wW]at h h2⊢;exact Mf h h2;rw[wW]at h h2⊢;unfold Df at h h2⊢;rw[Ak]at h h2⊢;grind
def rZ(x:List Int):Int×Int:=(x.getD 0 0,x.getD 1 0)
theorem Mg(h:rZ x≠rZ y):Df x y=I∨Df y x=I:=by simp only[Df,decide_eq_true_eq,bW,ay];grind[rZ]
def sd(x:List Int):List (List Int)->List (List Int)|[]=>[x]|y::l=>match Df x y with|I=>x::y::l|Z=>y::sd x l
def sortL:List (List Int)->List (List Int)|[]=>[]|x::l=>sd x (sortL l)
theorem Hh(h:Df x y=I):∀l,sd x (sd y l)=sd y (sd x l)|[]=>by simp[sd,h,Ca h]|z::l=>by cases a:Df y z with|true=>grind[sd,Ca,Mf]|false=>cases b:Df x z with|true=>simp[sd,a,b,Ca h]|false=>simp[sd,a,b,Hh h l]
theorem Y'(h:rZ x≠rZ y)(l:List (List Int)):sd x (sd y l)=sd y (sd x l):=by grind[Mg,Hh]
theorem Vi{l m:List (List Int)}(h:l.Perm m):(l.map rZ).Nodup->sortL l=sortL m:=by induction h with|nil=>simp_all|cons x _ d=>simp_all[sortL]|swap x y l=>grind[sortL,Y']|trans e _ b a=>grind
theorem A7:∀{l:List (List Int)},l.Pairwise (λx y=>Df y x=Z)->(l.map rZ).Nodup->sortL l=l|[],_,_=>rfl|[x],_,_=>rfl|x::y::l,h,a=>by rw[List.pairwise_cons]at h;simp only[eJ,mT,aO,not_or]at a;rw[sortL,A7 h.2 (by simp only[eJ,mT];exact a.2)];grind[sd,Mg]
def qf(l:List Int):ah:=.l (l.map .n)
theorem adP(f:2<=x.length)(e:2<=y.length)(h:rZ x≠rZ y):sS (qf x) (qf y)=Df x y:=by match x,y,f,e with|a::b::l,c::d::m,_,_=>simp[rZ]at h;simp[qf,sS,sU,Df];rw[Bool.eq_iff_iff];simp[eD];omega
theorem QQ:∀{l:List (List Int)},(∀y∈l,sS (qf x) (qf y)=Df x y)->(sd x l).map qf=rE (qf x) (l.map qf)|[],_=>rfl|y::l,h=>by simp[sd,rE];rw[h y (aU ..)];cases Df x y with|true=>rfl|false=>simp only[eJ];rw[QQ λy a=>h y (aS _ a)]
theorem QR:∀{l:List (List Int)},y∈sd x l->y=x∨y∈l|[],h=>by simp_all[sd]|z::l,h=>by unfold sd at h;split at h;simp_all;rcases aO.1 h with rfl|h;simp_all;rcases QR h with h|h;exact .inl h;simp_all
theorem Mh:∀{l:List (List Int)},y∈sortL l->y∈l|[],h=>h|x::l,h=>by rcases QR h with rfl|h;simp_all;exact aS _ (Mh h)
theorem Mi:∀{l:List (List Int)},(∀x∈l,2<=x.length)->(l.map rZ).Nodup->(sortL l).map qf=iS (l.map qf)|[],_,_=>rfl|x::l,h,a=>by simp only[eJ,mT]at a;simp[sortL,iS];rw[<-Mi (λy b=>h y (aS _ b)) a.2];grind[QQ,adP,Mh]
theorem Y_{l m:List (List Int)}(e:∀x∈l,2<=x.length)(b:(l.map rZ).Nodup)(a:m.Perm l)(d:m.Pairwise (λx y=>Df y x=Z)):m.map qf=iS (l.map qf):=by have c:=(a.map rZ).nodup_iff.2 b;rw[<-Mi e b,<-Vi a c,A7 d c]
structure Oc(P:aw)(f t g e:Nat)(ks:List bu):Prop where
 VL:P.underlying t=O (.slice e)
 Xw:∃ts,dG P 8 e=O ts/\ts.length=ks.length/\∀(j:Nat)(tc:ag)(k:bu),ts[j]? =O tc->ks[j]? =O k->P.underlying tc=O (.int k)
 two:2<=ks.length
 nb:P.underlying e≠O (.int .u8)
 enter:∀VS w,(callFunc f VS).run P w=.ok (.enter f VS) w
 sort:∀(Sv cap:Nat)(d:Array (zM ks.length))(w:aj),Sort.HoldsK (oX ks) ks.length w Sv 0 d->Sv<w.heap.size->d.size<4611686018427387904->
  Calls P f #[.slice (O ⟨Sv,0,G⟩) d.size cap,.func (.func g) #[] #[]] w λe w'=>e=.returned (.tuple #[])/\∃d' n os,Sort.PermIn 0 d.size d d'/\Sort.SortedIn (ltOf Pk) 0 d.size d'/\w'=sortWorldK (oX ks) ks.length w Sv 0 n d' os
 none_:∀(p:Option Addr)(cap:Nat)(fv:aa)(w:aj),Calls P f #[.slice p 0 cap,fv] w λe w'=>e=.returned (.tuple #[])/\w'=w
def kM(d:ah):List Int:=match d with|.l ds=>(ds.map λx=>match x with|.n n=>n|_=>0)|_=>[]
def rowOf(k:Nat)(d:ah):zM k:=if h:(kM d).length=k then⟨kM d,h⟩else default
theorem Za{d:ah}(h:(kM d).length=k):(rowOf k d).1=kM d:=by simp_all[rowOf]
theorem QS{r:List Int}{k:bu}{n:Int}(b:ks[j]? =O k)(a:r[j]? =O n):(Λ ks r)[j]? =O (.int k n):=by simp_all[Λ,List.getElem?_zipWith]
theorem QU(r:zM ks.length):(oX ks r).length=ks.length:=by grind[oX,Λ]
theorem agG{a:Type}[Inhabited a]{l:List a}{x:a}(h:l[j]? =O x):l[j]! =x:=by rw[List.getElem!_eq_getElem?_getD,h];rfl
theorem Gj{b:Type}[Inhabited b]{a:Array b}{x:b}(h:a[j]? =O x):a[j]! =x:=by rw[Array.getElem!_eq_getD,wB,h];rfl
section
variable{P:aw}{z:Nat->Option Obj}
theorem Zb{e:ag}{ts:List ag}(F:ts.length=ks.length)(J:2<=ks.length)(u:∀(j:Nat)(a:ag)(k:bu),ts[j]? =O a->ks[j]? =O k->P.underlying a=O (.int k)){d:ah}(o:gK ks.length d){L:List aa}{i:Nat}(H:(i+1)*ks.length<=L.length)(A:∀(j:Nat)(c:ah)(a:ag)(v:aa),dQ d j=O c->ts[j]? =O a->L[i*ks.length+j]? =O v->cU P z a v c):d=qf (rowOf ks.length d).1/\∀j,j<ks.length->L[i*ks.length+j]? =(oX ks (rowOf ks.length d))[j]?:=by (have x:∃ds,d=.l ds:=by have:=(o.1 1).2 (by omega);cases d<;>simp[dQ]at this⊢);obtain⟨ds,rfl⟩:=x;(have b:ds.length=ks.length:=by have C:∀j,(ds[j]?).isSome↔j<ks.length:=o.1;rcases Nat.lt_trichotomy ds.length ks.length with h|h|h;have:=(C ds.length).2 h;rw[ik (ba _)]at this;cases this;exact h;simp_all);(have Gz:(i+1)*ks.length=i*ks.length+ks.length:=by rw[df,fG]);(have key:∀(j:Nat)(c:ah),ds[j]? =O c->∃k n,ks[j]? =O k/\c=.n n/\L[i*ks.length+j]? =O (.int k n):=λj c g=>by (have f:j<ks.length:=by rw[<-b];exact(cj.1 g).1);(have q:i*ks.length+j<L.length:=by omega);have p:=A j c _ _ g (aZ (by omega)) (aZ q);have B:=u j _ _ (aZ (by omega)) (aZ f);refine⟨ks[j],?_⟩;generalize w:L[i*ks.length+j]=v at p;(have Iz:L[i*ks.length+j]? =O v:=by rw[aZ q,w]);(cases p<;>rename_i m<;>rw[B]at m<;>try(cases m;done));simp_all);(have t:(kM (.l ds)).length=ks.length:=by simp_all[kM]);have s:(rowOf ks.length (.l ds)).1=kM (.l ds):=Za t;refine⟨?_,λj g=> ?_⟩;rw[s];simp[qf,kM];refine(List.map_id _).symm.trans (kF λc y=> ?_);grind[jV];have⟨k,n,E,D,r⟩:=key j ds[j] (aZ (by omega));rw[r];grind[oX,kM,QS]
theorem agH(r:zM k)(h:2<=k):gK k (qf r.1):=by refine⟨λj=> ?_,λe=>by omega⟩;show(_[j]?).isSome↔j<k;rw[dg,Option.isSome_map,fu];have:=r.2;constructor;rintro⟨x,a⟩;have:=(cj.1 a).1;omega;simp_all
theorem Vk(l:List Int):strip (qf l)=qf l:=by simp_all[qf,strip,dR]
theorem Mj{l:List Int}(h:2<=l.length):qe (qf l)=.l [.n (rZ l).1,.n (rZ l).2]:=by match l,h with|a::b::l,_=>rfl
end
theorem KJ{w:aj}{g n:Nat}{d':Array (zM ks.length)}{t:ag}{fz:Nat×Nat}{L R:List aa}(hb:w.heap[g]? =O (.cells (L++R).toArray t fz))(hl:L.length=d'.size*ks.length):∃w1,Dd w g (.cells ((Sort.flatK (oX ks) ks.length d').toList++R).toArray t fz) w1/\∀os,Below w1.heap.size w1 (sortWorldK (oX ks) ks.length w g 0 n d' os):=by have hF:=Sort.size_flatK (oX ks) ks.length d';refine⟨Sort.putRowK (oX ks) ks.length (Sort.ahead w n) g 0 d',⟨rfl,rfl,rfl,?_,?_,λk hk=> ?_⟩,λos=>⟨rfl,rfl,rfl,?_,λk hk=> ?_⟩⟩;exact Sort.size_putRow ..;show((Sort.ahead w n).heap.modify g _)[g]? =_;rw[Array.getElem?_modify,if_pos rfl];show(w.heap[g]?).map _=_;rw[hb];simp[Sort.onCells];apply Array.ext_getElem?;intro j;simp only[Sort.putCells,Array.getElem?_mapIdx,js,List.getElem?_append,nZ,hF,hl,dy,ew,Nat.sub_zero,true_and,id];grind;show((Sort.ahead w n).heap.modify g _)[k]? =_;rw[Array.getElem?_modify,if_neg (λe=>hk e.symm)];rfl;show _<=(Sort.grow _ os).heap.size;rw[Sort.size_grow];simp_all;exact Sort.heap_grow_old _ os hk
theorem Da{g:ah->ah}{xs:List ah}{n:Int}(h:oH g (.l xs)=O (.n n))(hn:decide (n≠0)=I):(xs.map g).Nodup:=by grind[oH,jC]
section
variable{P:aw}{w0 w:aj}{A:en}{ν:Nm}{s:St}{lm:List fV}
theorem adQ{d d':Array (zM k)}(h:Sort.PermIn 0 d.size d d'):d'.toList.Perm d.toList:=by have⟨b,_,a⟩:=h;rw[Array.extract_eq_self_of_le (ba _)]at a;rw[<-b,Array.extract_eq_self_of_le (ba _)]at a;exact a
theorem Vl{d':Array (zM k)}(h:Sort.SortedIn (ltOf Pk) 0 d'.size d'):(d'.toList.map (·.1)).Pairwise (λx y=>Df y x=Z):=by rw[List.pairwise_map,List.pairwise_iff_getElem];intro i j hi hj hij;have:=h i j (dy _) hij (by simpa using hj);rw[wW]at this;grind
theorem adR{f t e:Nat}(Iz:Oc P f (t%65536) (t/65536) e ks)(hL:bS lm)(h:aL P w0 A ν s w){x y v:AV}{s':St}{X Y:aa}(hm:V3 P lm s t x y=O (v,s'))(hx:den ν x=O X)(hy:den ν y=O Y):Calls P f #[X,Y] w λE W=>∃V,E=.returned V/\∃ed,Nm.le ν ed/\aL P w0 A ed s' W/\den ed v=O V:=by unfold V3 at hm;split at hm;rename_i e1 i n c g1 hu;rw[Iz.VL]at hu;injection hu with hu;simp at hu;subst hu;split at hm;rename_i u e' c' Μ;split at hm;rename_i hc;simp only[ay]at hc;have⟨⟨⟨⟨⟨⟨c1,c2⟩,c3⟩,c4⟩,c5⟩,c6⟩,c7⟩:=hc;have c1:=an c1;have c2:=an c2;have c3:=an c3;subst c1 c2 c3;obtain⟨rfl,rfl⟩:=hm;(have hY:Y=.func (.func (t/65536)) #[] #[]:=by simp_all[den,lM,bw]);subst hY;have⟨ts,ht1,ht2,ht3⟩:=Iz.Xw;have two:=Iz.two;have alx:∀ed:Nm,den ed (.il [])=O (.tuple #[]):=λ_=>rfl;(have aly:∀{ed:Nm}{xs:List ah},ai ed u=O (.l xs)->xs.map strip=xs->ai ed (.f 45 [u])=O (.l (iS xs)):=λ{ed xs} hu hs=>by refine(lB rfl (by simp) λ_=>rfl).2 ⟨_,hu,?_⟩;show O _=_;rw[dR,hs]);obtain⟨q1,q2,q3,⟨a,rfl⟩,_⟩|⟨g,n',cap,q1,q0,q2,q3,q4,rfl⟩:=ek hx;have⟨d,r1,r2,r3,c',m,rc1,rc2⟩:=h.Ey Μ q1;(have hd:d=.l []:=by (cases d<;>simp only[bT]at r2<;>try exact r2.elim);cases Iz.nb r2.1;simp_all[bM]);subst hd;refine Calls.mono (Iz.none_ a 0 _ w) ?_;rintro _ _ ⟨rfl,rfl⟩;refine⟨_,rfl,ν,Nm.le.refl _,?_,alx _⟩;exact(h.wy Μ q1 (o:=.row _ e _) (.inl ⟨rfl,_,aly r1 rfl,r2,r3,c',m,rc1,rc2⟩)).Nj i;have⟨obj,r1,r2⟩:=h.VH Μ q1 q0;(cases obj<;>simp only[bN]at r2<;>try exact r2.elim);rename_i arr t' fz;obtain⟨rfl,ZC,d,L,R,r3,r4,r5,ajT,inf,r6,r7,r8⟩:=r2;(have hd:∃xs:List ah,d=.l xs:=by (cases d<;>simp only[bT]at r4<;>try exact r4.elim);cases Iz.nb r4.1;simp_all);obtain⟨xs,rfl⟩:=hd;have⟨_,ts2,k,a1,a2,a3,a4,a5,a6⟩:=r4;rw[ht1]at a1;simp at a1;subst a1;(have hk:k=ks.length:=by omega);subst hk;(have hn2:n'=xs.length:=by grind[bM,kK,cM]);subst hn2;have Ζ:arr=(L++R).toArray:=iK r5;subst Ζ;(have alz:0<ks.length:=by omega);(have zl:∀(i:Nat)(x:ah),xs[i]? =O x->x=qf (rowOf ks.length x).1/\∀j,j<ks.length->L[i*ks.length+j]? =(oX ks (rowOf ks.length x))[j]?:=λi x hx=>by have hi:=(cj.1 hx).1;refine Zb (P:=P) (z:=ν.z) (e:=t') ht2 two ht3 (a5 i x hx) (by rw[a4];exact cV _ hi) λj c tc v p1 p2 p3=>a6 i j x c tc v hx p1 p2 p3);have⟨D,hD⟩:∃D:Array (zM ks.length),D=(xs.map (rowOf ks.length)).toArray:=⟨_,rfl⟩;(have hDs:D.size=xs.length:=by rw[hD,List.size_toArray,fR]);(have hxs:xs=(D.toList.map (·.1)).map qf:=by rw[hD];simp;refine(List.map_id _).symm.trans (kF λx hx=> ?_);grind[jV]);(have acD:xs.map strip=xs:=by (conv=>lhs;rw[hxs]);(conv=>rhs;rw[hxs]);rw[List.map_map];exact kF λl _=>Vk l);have afJ:g<w.heap.size:=(ef.1 r1).1;(have hH:Sort.HoldsK (oX ks) ks.length w g 0 D:=by intro j hj;rw[Sort.size_flatK,hDs]at hj;have hi:j/ks.length<xs.length:=Nat.div_lt_of_lt_mul (by rwa [Nat.mul_comm]at hj);have hx:=aZ hi;have h2:=(zl _ _ hx).2 (j%ks.length) (Nat.mod_lt _ alz);rw[Nat.div_add_mod']at h2;have hlen:=QU (rowOf ks.length xs[j/ks.length]);(have hme:(oX ks (rowOf ks.length xs[j/ks.length]))[j%ks.length]? =O (oX ks (rowOf ks.length xs[j/ks.length]))[j%ks.length]!:=by rw[aZ (by rw[hlen];grind),getElem!_pos _ _ (by rw[hlen];grind)]);have hDi:D[j/ks.length]! =rowOf ks.length xs[j/ks.length]:=Gj (by rw[hD,js,dg,hx];rfl);refine⟨?_,?_⟩;rw[ew];have hb:nq w g t' (L++R).toArray:=⟨fz,r1,ZC⟩;(have hc:w.cell? ⟨g,j,G⟩=(L++R).toArray[j]?:=by have:=hb.cell j;simpa using this);rw[hc,js,dw (by rw[a4];exact hj),h2,hme];grind[Sort.get_flatK];have hb:nq w g t' (L++R).toArray:=⟨fz,r1,ZC⟩;rw[ew];exact hb.frozen j (by rw[List.size_toArray,cL,a4];omega));(have ZB:D.size<4611686018427387904:=by have:(xs.length:Int)<=1000000000000:=iG hL h.ctx.pc q2 (q:=.c 1000000000000) rfl c7;omega);(have hap:((D.toList.map (·.1)).map rZ).Nodup:=by have hc:=du r3;rw[bd,acD]at hc;(have ZD:(xs.map qe).Nodup:=by unfold gA at c6;split at c6;rename_i hd;have⟨m,hm⟩:∃m,oH qe (.l xs)=O (.n m):=⟨_,rfl⟩;exact Da hm (ib hL h.ctx.pc hd ((lB rfl (by simp) λ_=>rfl).2 ⟨_,hc,hm⟩));cases c6);rw[hxs]at ZD;rw[List.map_map,List.Nodup,List.pairwise_map]at ZD;rw[List.Nodup,List.pairwise_map];refine List.Pairwise.imp_of_mem ?_ ZD;intro a b ha hb h1 e;refine h1 ?_;(have hla:2<=a.length:=by obtain⟨r,_,rfl⟩:=cA.1 ha;omega);(have hlb:2<=b.length:=by obtain⟨r,_,rfl⟩:=cA.1 hb;omega);simp;rw[Mj hla,Mj hlb,e]);have WA:=Iz.sort g cap D w hH afJ ZB;rw[hDs]at WA;refine Calls.mono WA ?_;rintro _ _ ⟨rfl,D',n0,os,p1,p2,rfl⟩;(have p1s:D'.size=xs.length:=by rw[<-hDs];exact p1.1);have hp:=adQ (by rw[hDs];exact p1);have hs:=Vl (d':=D') (by rw[p1s];exact p2);(have hS:iS xs=(D'.toList.map (·.1)).map qf:=by rw[hxs];exact(Y_ (λl hl=>by obtain⟨r,_,rfl⟩:=cA.1 hl;omega) hap (hp.map _) hs).symm);have⟨w1,U,B⟩:=KJ (n:=n0) (d':=D') r1 (by rw[a4,p1s]);have hFs:=Sort.size_flatK (oX ks) ks.length D';(have hat:∀(i:Nat)(d:ah),(iS xs)[i]? =O d->∃r:zM ks.length,D'[i]? =O r/\d=qf r.1:=λi d hi=>by rw[hS,List.map_map,dg,bZ]at hi;have⟨r,h1,h2⟩:=hi;grind);(have ajH:bT P ν.z t' (.l (iS xs)) (Sort.flatK (oX ks) ks.length D').toList:=by refine⟨Iz.nb,ts,ks.length,ht1,a2,ht2,?_,λi d hi=> ?_,λi j d c tc v hi hj ht hv=> ?_⟩;rw[nZ,hFs,wL,p1s];obtain⟨r,_,rfl⟩:=hat i d hi;exact agH r two;obtain⟨r,h1,rfl⟩:=hat i d hi;have hj':(r.1.map ah.n)[j]? =O c:=hj;rw[dg,bZ]at hj';obtain⟨m,h2,rfl⟩:=hj';(have hjl:j<ks.length:=by grind);have hi':=(ef.1 h1).1;(have um:i*ks.length+j<D'.size*ks.length:=by grind);have hv2:(Sort.flatK (oX ks) ks.length D')[i*ks.length+j]! =v:=Gj (by rw[<-fI];exact hv);rw[Sort.get_flatK _ _ _ _ um]at hv2;(have e1:(i*ks.length+j)/ks.length=i:=by rw[Nat.add_comm,Nat.add_mul_div_right _ _ alz,Nat.div_eq_of_lt hjl,ew]);(have e2:(i*ks.length+j)%ks.length=j:=by rw[Nat.add_comm,Nat.add_mul_mod_self_right,Nat.mod_eq_of_lt hjl]);rw[e1,e2,Gj h1]at hv2;have Kf:=QS (ks:=ks) (aZ hjl) h2;have hv3:(oX ks r)[j]! =.int ks[j] m:=agG Kf;rw[hv3]at hv2;subst hv2;exact .int (ht3 j tc _ ht (aZ hjl)));(have hfs:((Sort.flatK (oX ks) ks.length D').toList++R).toArray.size=(L++R).toArray.size:=by grind);refine⟨_,rfl,ν,Nm.le.refl _,?_,alx _⟩;refine(h.set Μ q1 q0 ?_ U).grow (B os);exact⟨rfl,by rw[hfs];exact ZC,_,_,R,aly r3 acD,ajH,rfl,ajT,inf,r6,r7,by rw[hfs];exact r8⟩;cases hm;cases hm;cases hm
theorem RT{f t e:Nat}(Iz:Oc P f (t%65536) (t/65536) e ks):pD P [(f,7,t)]:=by intro g k q b lm j w0 A ν s w args v h VS a i d;simp[xV]at b;split at b;rename_i c;have:=an c;subst this;obtain⟨rfl,rfl⟩:=b;(have p:aaw P 7 t args s=G:=by rfl);unfold PC at a;rw[p]at a;simp only at a;unfold aaL at a;split at a;simp_all;rename_i x y;have a:V3 P lm s t x y=O (v,h):=a;obtain⟨X,R1,o,n,rfl⟩:=cd d;obtain⟨Y,R2,m,l,rfl⟩:=cd n;rw[gu l];exact .inr ⟨Iz.enter _ _,adR Iz j i a o m⟩;cases a;cases b
end
end
section
open RowKit
variable{l xs:List ah}{L S t:Tm}
def bare(d:ah):Prop:=strip d=d
theorem FA(h:bare (.l xs)):∀x∈xs,bare x:=by unfold bare at h;rw[bd]at h;simp at h;intro x a;(have:xs.map strip=xs.map id:=by rw[h,List.map_id]);exact List.map_inj_left.1 this x a
theorem Mk:∀{a b:List UInt8},OM a b=I->OM b a=Z|[],[],h=>by rfl|[],_::_,_=>by simp[OM]|_::_,[],h=>by cases h|a::x,b::y,h=>by simp[OM]at h;rw[Ak];intro c;simp[OM]at c;rcases h with h|⟨h,e⟩<;>rcases c with c|⟨c,d⟩;omega;omega;omega;rw[Mk e]at d;cases d
theorem Ml:∀{a b c:List UInt8},OM a b=I->OM b c=I->OM a c=I|a,[],_,h,_=>by cases a<;>simp[OM]at h|_,_::_,[],_,h=>by cases h|[],_::_,_::_,_,_=>by simp[OM]|a::x,b::y,c::z,h,d=>by simp[OM]at h d⊢;rcases h with h|⟨h,f⟩<;>rcases d with d|⟨d,e⟩;omega;simp_all;simp_all;exact .inr ⟨by omega,Ml f e⟩
theorem Mm:∀{a b:List UInt8},a≠b->OM a b=I∨OM b a=I|[],[],h=>absurd rfl h|[],_::_,_=>.inl (by simp[OM])|_::_,[],_=>.inr (by simp[OM])|a::x,b::y,h=>by simp[OM];rcases Nat.lt_trichotomy a.toNat b.toNat with c|c|c;exact .inl (.inl c);have:a=b:=UInt8.toNat_inj.1 c;subst this;rcases Mm (a:=x) (λe=>h (by rw[e]))with d|d;exact .inl (.inr ⟨rfl,d⟩);exact .inr (.inr ⟨rfl,d⟩);simp_all
mutual
theorem p':∀{a b:ah},sS a b=I->sS b a=Z|.n a,.n b,h=>by grind[sS]|.s a,.s b,h=>by grind[sS,Mk]|.l a,.l b,h=>by exact Hi h|.n _,.s _,_=>by simp[sS]|.n _,.l _,_=>by simp[sS]|.s _,.l _,_=>by simp[sS]|.s _,.n _,h=>by cases h|.l _,.n _,h=>by cases h|.l _,.s _,h=>by cases h|.v _,_,h=>by cases h|.r _ _ _,_,h=>by cases h|.n _,.v _,h=>by rfl|.n _,.r _ _ _,h=>by rfl|.s _,.v _,h=>by rfl|.s _,.r _ _ _,h=>by rfl|.l _,.v _,h=>by rfl|.l _,.r _ _ _,h=>by rfl
theorem Hi:∀{a b:List ah},sU a b=I->sU b a=Z|[],[],h=>by rfl|[],_::_,_=>by simp[sU]|_::_,[],h=>by cases h|a::x,b::y,h=>by simp[sU,eD]at h;rw[Ak];intro h2;simp[sU,eD]at h2;rcases h with h|⟨h,h3⟩<;>rcases h2 with h2|⟨h2,h4⟩;rw[p' h]at h2;cases h2;subst h2;have:=p' h;rw[h]at this;cases this;subst h;have:=p' h2;rw[h2]at this;cases this;rw[Hi h3]at h4;cases h4
end
mutual
theorem Mn:∀{a b c:ah},sS a b=I->sS b c=I->sS a c=I|.n a,.n b,.n c,h,h2=>by simp[sS]at h h2⊢;omega|.s a,.s b,.s c,h,h2=>by grind[sS,Ml]|.l a,.l b,.l c,h,h2=>by exact Hj h h2|.n _,.n _,.s _,_,_=>by simp[sS]|.n _,.n _,.l _,_,_=>by simp[sS]|.n _,.s _,.s _,_,_=>by simp[sS]|.n _,.s _,.l _,_,_=>by simp[sS]|.n _,.l _,.l _,_,_=>by simp[sS]|.s _,.s _,.l _,_,_=>by simp[sS]|.s _,.l _,.l _,_,_=>by simp[sS]|.v _,_,_,h,_=>by cases h|.r _ _ _,_,_,h,_=>by cases h|.n _,.v _,_,h,_=>by cases h|.n _,.r _ _ _,_,h,_=>by cases h|.s _,.v _,_,h,_=>by cases h|.s _,.r _ _ _,_,h,_=>by cases h|.l _,.v _,_,h,_=>by cases h|.l _,.r _ _ _,_,h,_=>by cases h|.s _,.n _,_,h,_=>by cases h|.l _,.n _,_,h,_=>by cases h|.l _,.s _,_,h,_=>by cases h|.n _,.n _,.v _,_,h=>by cases h|.n _,.n _,.r _ _ _,_,h=>by cases h|.n _,.s _,.v _,_,h=>by cases h|.n _,.s _,.r _ _ _,_,h=>by cases h|.n _,.s _,.n _,_,h=>by cases h|.n _,.l _,.v _,_,h=>by cases h|.n _,.l _,.r _ _ _,_,h=>by cases h|.n _,.l _,.n _,_,h=>by cases h|.n _,.l _,.s _,_,h=>by rfl|.s _,.s _,.v _,_,h=>by cases h|.s _,.s _,.r _ _ _,_,h=>by cases h|.s _,.s _,.n _,_,h=>by cases h|.s _,.l _,.v _,_,h=>by cases h|.s _,.l _,.r _ _ _,_,h=>by cases h|.s _,.l _,.n _,_,h=>by cases h|.s _,.l _,.s _,_,h=>by cases h|.l _,.l _,.v _,_,h=>by cases h|.l _,.l _,.r _ _ _,_,h=>by cases h|.l _,.l _,.n _,_,h=>by cases h|.l _,.l _,.s _,_,h=>by cases h
theorem Hj:∀{a b c:List ah},sU a b=I->sU b c=I->sU a c=I|a,[],_,h,_=>by cases a<;>simp[sU]at h|_,_::_,[],_,h=>by cases h|[],_::_,_::_,_,_=>by simp[sU]|a::x,b::y,c::z,h,h2=>by simp[sU,eD]at h h2⊢;rcases h with h|⟨h,h3⟩<;>rcases h2 with h2|⟨h2,h4⟩;exact .inl (Mn h h2);simp_all;simp_all;subst h h2;exact .inr ⟨rfl,Hj h3 h4⟩
end
mutual
theorem Mp:∀{a b:ah},bare a->bare b->a≠b->sS a b=I∨sS b a=I|.n a,.n b,_,_,h=>by simp only[sS,decide_eq_true_eq];grind|.s a,.s b,_,_,h=>by grind[sS,Mm]|.l a,.l b,ha,hb,h=>by simp only[sS];exact Hk (FA ha) (FA hb) λe=>h (by rw[e])|.n _,.s _,_,_,_=>.inl (by simp[sS])|.n _,.l _,_,_,_=>.inl (by simp[sS])|.s _,.l _,_,_,_=>.inl (by simp[sS])|.s _,.n _,_,_,_=>.inr (by simp[sS])|.l _,.n _,_,_,_=>.inr (by simp[sS])|.l _,.s _,_,_,_=>.inr (by simp[sS])|.v _,_,h,_,_=>by simp[bare,strip]at h|.r _ _ _,_,h,_,_=>by simp[bare,strip]at h|.n _,.v _,_,h,_=>by simp[bare,strip]at h|.n _,.r _ _ _,_,h,_=>by simp[bare,strip]at h|.s _,.v _,_,h,_=>by simp[bare,strip]at h|.s _,.r _ _ _,_,h,_=>by simp[bare,strip]at h|.l _,.v _,_,h,_=>by simp[bare,strip]at h|.l _,.r _ _ _,_,h,_=>by simp[bare,strip]at h
theorem Hk:∀{a b:List ah},(∀x∈a,bare x)->(∀x∈b,bare x)->a≠b->sU a b=I∨sU b a=I|[],[],_,_,h=>absurd rfl h|[],_::_,_,_,_=>.inl (by simp[sU])|_::_,[],_,_,_=>.inr (by simp[sU])|a::x,b::y,ha,hb,h=>by simp only[sU,bW,ay,eD];by_cases e:a=b;subst e;rcases Hk (a:=x) (b:=y) (λz hz=>ha z (aS _ hz)) (λz hz=>hb z (aS _ hz)) (λe=>h (by rw[e]))with h2|h2;exact .inl (.inr ⟨rfl,h2⟩);simp_all;rcases Mp (ha a (aU ..)) (hb b (aU ..)) e with h2|h2;exact .inl (.inl h2);simp_all
end
theorem Hl{x y:ah}(h:sS x y=I):∀l,rE x (rE y l)=rE y (rE x l)|[]=>by simp[rE,h,p' h]|z::l=>by cases a:sS y z with|true=>grind[rE,p',Mn]|false=>cases b:sS x z with|true=>simp[rE,a,b,p' h]|false=>simp[rE,a,b,Hl h l]
theorem Zc{x y:ah}(b:bare x)(a:bare y)(l:List ah):rE x (rE y l)=rE y (rE x l):=by grind[Mp,Hl]
theorem KK{m:List ah}(h:l.Perm m):(∀x∈l,bare x)->iS l=iS m:=by induction h with|nil=>simp_all|cons x _ c=>simp_all[iS]|swap x y l=>grind[iS,Zc,aU]|trans d _ b a=>grind
def FB(d:ah):List ah:=match d with|.l [.l [a,b],.n z]=>(match decide (0<z)with|I=>[.l [a,b,.n z]]|Z=>[])|_=>[]
theorem gU(d:ah)(l:List ah):eA (d::l)=FB d++eA l:=by (conv=>lhs;unfold eA);grind[FB]
theorem xJ(l m:List ah):eA (l++m)=eA l++eA m:=by induction l with|nil=>rfl|cons d l a=>rw[fU,gU,gU,a,i7]
theorem RU{m:List ah}(h:l.Perm m):(eA l).Perm (eA m):=by induction h with|nil=>rfl|cons x _ c=>rw[gU,gU];exact c.append_left _|swap x y l=>rw[gU,gU,gU,gU,<-i7,<-i7];exact(List.perm_append_comm).append_right _|trans _ _ b a=>exact b.trans a
theorem rv:∀l:List ah,((eA l).map qe).Sublist (l.map qQ)|[]=>List.Sublist.slnil|d::l=>by rw[gU,List.map_append,eJ];unfold FB;split;split;exact(rv l).cons_cons _;exact(rv l).cons _;exact(rv l).cons _
theorem Db(h:∀x∈l,bare x):∀x∈eA l,bare x:=λx a=>by grind[bare,strip,j_,nJ,FA]
section
variable{ν:Nm}
theorem Ea{o:Nat}{a b:Tm}{c:Bool}(e:oU o=Z)(d:o<100)(h:bh ν (.f o [a,b]) c):∃x y,ai ν a=O x/\ai ν b=O y/\∃n,dD o [x,y]=O (.n n)/\decide (n≠0)=c:=by have⟨n,i,g⟩:=h;grind[dn,aP,eX]
theorem AK(h:bh ν (.f 44 [S,L]) I):∃xs,ai ν S=O (.l xs)/\ai ν L=O (.l (eA xs)):=by
 classical
 have⟨x,y,h1,h2,n,h3,h4⟩:=Ea rfl (by decide) h
 have h3:Cu x y=O (.n n):=h3
 unfold Cu at h3
 split at h3
 ·split at h3
  ·simp at h3
   have:=gC _ n h3.symm
   rw[h4]at this
   have:=of_decide_eq_true this.symm
   subst this
   exact⟨_,h1,h2⟩
  ·simp at h3
   have:=gC _ n h3.symm
   rw[h4]at this
   cases this
 grind[gC]
theorem Od(b:ai ν S=O (.l xs))(a:ai ν L=O (.l (eA xs))):bh ν (.f 44 [S,L]) I:=by refine qm ((eR rfl (by simp) λ_=>rfl).2 ⟨_,_,b,a,?_⟩);unfold Cu;simp
theorem p_(h:bh ν (.f 46 [t,L]) I):∃xs ys,ai ν t=O (.l xs)/\ai ν L=O (.l ys)/\ys.Perm (eA xs):=by
 classical
 have⟨x,y,h1,h2,n,h3,h4⟩:=Ea rfl (by decide) h
 have h3:uY x y=O (.n n):=h3
 unfold uY at h3
 split at h3
 ·split at h3
  ·simp at h3
   have:=gC _ n h3.symm
   rw[h4]at this
   exact⟨_,_,h1,h2,of_decide_eq_true this.symm⟩
  ·simp at h3
   have:=gC _ n h3.symm
   rw[h4]at this
   cases this
 grind[gC]
theorem adS{ys:List ah}(h1:ai ν t=O (.l xs))(h2:ai ν L=O (.l ys))(hp:ys.Perm (eA xs)):bh ν (.f 46 [t,L]) I:=by
 classical
 refine qm ((eR rfl (by simp) λ_=>rfl).2 ⟨_,_,h1,h2,?_⟩)
 simp[uY,hp]
theorem adT(h:bh ν (.f 41 [S,t]) I):∃xs ys,ai ν S=O (.l xs)/\ai ν t=O (.l ys)/\xs.Perm ys:=by
 classical
 have⟨x,y,h1,h2,n,h3,h4⟩:=Ea rfl (by decide) h
 have h3:Cr x y=O (.n n):=h3
 unfold Cr at h3
 split at h3
 ·split at h3
  ·simp at h3
   have:=gC _ n h3.symm
   rw[h4]at this
   exact⟨_,_,h1,h2,of_decide_eq_true this.symm⟩
  ·simp at h3
   have:=gC _ n h3.symm
   rw[h4]at this
   cases this
 grind[gC]
theorem some_get(h:bh ν (.f 43 [S,t]) I):∃xs ys zs,ai ν S=O (.l xs)/\ai ν t=O (.l ys)/\(xs++zs).Perm ys:=by
 classical
 have⟨x,y,h1,h2,n,h3,h4⟩:=Ea rfl (by decide) h
 have h3:Ct x y=O (.n n):=h3
 unfold Ct at h3
 split at h3
 ·split at h3
  ·simp at h3
   have:=gC _ n h3.symm
   rw[h4]at this
   have⟨zs,hz⟩:=of_decide_eq_true this.symm
   exact⟨_,_,zs,h1,h2,hz⟩
  ·simp at h3
   have:=gC _ n h3.symm
   rw[h4]at this
   cases this
 grind[gC]
theorem adU(h:bh ν (.f 49 [t]) I)(a:ai ν t=O (.l xs)):(xs.map qQ).Nodup:=by have⟨n,c,e⟩:=h;have⟨x,b,d⟩:=(lB (g:=oH qQ) rfl (by decide) λ_=>rfl).1 c;rw[a]at b;grind[Da]
end
end
end Go.Proofs.YtinknfobdleeeaaGreat
section
namespace Go.Proofs.YtinknfobdleeeaaGreat
open Option renaming some→O,none→G
open Bool renaming true→I,false→Z
open Go Go.RowKit
variable{d k k' v x:ah}{a xs:List ah}{R:dI}
def aB(ds:List ah):Prop:=∀d∈ds,bare d
theorem bn(n:Int):bare (.n n):=Ab
theorem cB(h:aB xs):bare (.l xs):=by unfold bare;rw[bd];congr 1;have:xs.map strip=xs.map id:=List.map_inj_left.2 λx a=>h x a;rw[this,List.map_id]
theorem aB.append{b:List ah}(f:aB a)(e:aB b):aB (a++b):=λd c=>(dx.1 c).elim (f d) (e d)
theorem aB.take(h:aB a)(n:Nat):aB (a.take n):=λd b=>h d (iZ b)
theorem aB.drop(h:aB a)(n:Nat):aB (a.drop n):=λd b=>h d (jX b)
theorem aB.set(h:aB a)(b:bare x)(n:Nat):aB (a.set n x):=λd c=>(mO c).elim (h d) λe=>e▸b
theorem aB.get(h:aB a){n:Nat}(b:a[n]? =O x):bare x:=h x (bE b)
theorem aB.cons(b:bare x)(h:aB a):aB (x::a):=λd c=>(aO.1 c).elim (λe=>e▸b) (h d)
theorem aB.nil:aB []:=λd a=>by cases a
theorem aB.hd(h:aB (x::a)):bare x:=h x (aU ..)
theorem aB.tl(h:aB (x::a)):aB a:=λd b=>h d (aS _ b)
theorem bP(h:bare (.l xs)):aB xs:=FA h
theorem Mq{n:Nat}(a:bare x)(h:fO x n=O d):bare d:=by unfold fO at h;split at h;exact(bP a).get h;cases h
theorem adV(h:jD d=O (k,v)):d=.l [k,v]:=by unfold jD at h;grind
theorem sC:∀{xs:List ah},gy k xs=O v->∃k',.l [k',v]∈xs/\strip k=strip k'|[],h=>by cases h|d::xs,h=>by unfold gy at h;split at h;rename_i k' e f;split at h;grind[adV,eD];have⟨a,c,b⟩:=sC h;grind;have⟨a,c,b⟩:=sC h;grind
theorem sN:∀{xs:List ah},d∈e_ k xs->d∈xs|[],h=>by cases h|x::xs,h=>by unfold e_ at h;split at h;split at h;exact aS _ (sN h);rcases aO.1 h with rfl|h;simp_all;exact aS _ (sN h);rcases aO.1 h with rfl|h;simp_all;exact aS _ (sN h)
theorem Cb:∀{xs:List ah},d∈gf k v xs↔d=.l [strip k,v]∨d∈xs|[]=>by simp[gf]|x::xs=>by unfold gf;split;split;simp_all;simp[Cb];grind;simp[Cb];grind
theorem QV:∀{xs:List ah},d∈rE x xs->d=x∨d∈xs|[],h=>.inl (by simpa[rE]using h)|y::xs,h=>by unfold rE at h;split at h;simp_all;rcases aO.1 h with h|h;simp_all;exact(QV h).imp id (aS _)
theorem Mr:∀{xs:List ah},d∈iS xs->d∈xs|[],h=>by cases h|x::xs,h=>by unfold iS at h;rcases QV h with h|h;simp_all;exact aS _ (Mr h)
def ab1(o:Nat):Bool:=Cn o||aF 1000 o||ae o 2||ae o 11||ae o 13||ae o 17||ae o 18||ae o 19||ae o 21||ae o 23||ae o 24||ae o 25||ae o 26||ae o 28||ae o 29||ae o 30||ae o 31||ae o 34||ae o 35||ae o 36||ae o 40
theorem adW{o:Nat}{ds:List ah}(f:ab1 o=I)(h:aQ R o ds=O d)(j:aB ds):bare d:=by by_cases s:1000<=o;(·have⟨n,t⟩:=DR (R:=R) s ds;rw[t]at h;cases h;rfl);unfold ab1 at f;rw[Ak.2 (λe=>s (bz e):aF 1000 o≠I),Bool.or_false]at f;simp only[bW]at f;(have base:o<100->dD o ds=O d:=λu=>by rw[FF u]at h;exact h);rcases f with(((((((((((((((((((f|f)|f)|f)|f)|f)|f)|f)|f)|f)|f)|f)|f)|f)|f)|f)|f)|f)|f)|f);(·refine GC f (base ?_);simp only[Cn,bW]at f;(have:∀m,m<100->ae o m=I->o<100:=λm p h=>by rw[an h];exact p);rcases f with(((((((((((((f|f)|f)|f)|f)|f)|f)|f)|f)|f)|f)|f)|f)|f)|f<;>exact this _ (by decide) f);(all_goals have f:=an f);(all_goals subst f);(all_goals have h:=base (by simp));(·obtain⟨a,b,rfl,h⟩:=bC h;obtain⟨x,y,rfl,rfl,rfl⟩|⟨x,y,rfl,rfl,rfl⟩:=wH h;(·rfl);·exact cB ((bP j.hd).append (bP j.tl.hd)));(·cases h;exact cB j);(·cases h;exact cB j);(·obtain⟨a,b,c,rfl,h⟩:=cZ h;obtain⟨xs,rfl,_,rfl⟩:=wI h;cases w:gy b xs with|none=>exact j.tl.tl.hd|some v=>have⟨k',p,_⟩:=sC w;exact(bP (bP j.hd _ p)).tl.hd);(·obtain⟨a,b,c,rfl,h⟩:=cZ h;obtain⟨xs,rfl,_,rfl⟩:=BG h;refine cB λx k=> ?_;rcases Cb.1 k with rfl|k;(·exact cB (.cons (dP _) (.cons j.tl.tl.hd .nil)));·exact bP j.hd _ (sN k));(·obtain⟨a,b,rfl,h⟩:=bC h;obtain⟨xs,rfl,_,rfl⟩:=BH h;exact cB λx k=>bP j.hd _ (sN k));(·obtain⟨a,b,rfl,h⟩:=bC h;obtain⟨m,rfl,_,h⟩:=wJ h;exact Mq j.hd h);(·obtain⟨a,rfl,h⟩:=eL h;cases h;exact dP a);(·obtain⟨xs,cs,i,off,x,x',rfl,_,_,r,q,rfl⟩:=wK h;obtain⟨es,rfl,_,rfl⟩:=BJ q;have k:=bP ((bP j.hd).get r);exact cB ((bP j.hd).set (cB (((k.take _).append j.tl.tl.tl).append (k.drop _))) _));(·obtain⟨a,b,rfl,h⟩:=bC h;obtain⟨xs,m,rfl,_,_,_,rfl⟩:=lV h;exact cB ((bP j.hd).take _));(·obtain⟨a,b,c,rfl,h⟩:=cZ h;obtain⟨xs,m,n,rfl,_,_,_,_,_,rfl⟩:=sG h;exact cB (((bP j.hd).drop _).take _));(·obtain⟨a,b,c,rfl,h⟩:=cZ h;obtain⟨xs,m,rfl,_,_,_,rfl⟩:=kh h;exact cB (((bP j.hd).take _).append λx k=>(List.eq_of_mem_replicate k)▸j.tl.tl.hd));(·obtain⟨a,b,rfl,h⟩:=bC h;obtain⟨m,rfl,_,rfl⟩:=pP h;exact cB λx k=>(List.eq_of_mem_replicate k)▸j.tl.hd);(·obtain⟨a,b,c,rfl,h⟩:=cZ h;obtain⟨xs,ys,m,rfl,_,rfl,_,_,rfl⟩:=pQ h;exact cB ((((bP j.hd).take _).append ((bP j.tl.tl.hd).take _)).append ((bP j.hd).drop _)));(·obtain⟨a,b,c,rfl,h⟩:=cZ h;obtain⟨xs,m,n,x,rfl,_,_,_,_,r,q⟩:=kg h;exact Mq ((bP j.hd).get r) q);(·obtain⟨i,l,rfl,_,h⟩:=Gx h;exact j.tl.get h);(·obtain⟨a,b,rfl,h⟩:=bC h;obtain⟨xs,m,rfl,_,_,h⟩:=nI h;exact(bP j.hd).get h);(·obtain⟨a,b,c,rfl,h⟩:=cZ h;obtain⟨xs,m,rfl,_,_,_,rfl⟩:=pO h;exact cB ((bP j.hd).set j.tl.tl.hd _));·obtain⟨a,rfl,h⟩:=eL h;have h:xX a=O d:=h;unfold xX at h;split at h;(·cases h;exact cB λx k=>Db (bP j.hd) x (Mr k));·cases h
mutual
def PX:Tm->Bool|.c _=>I|.x _=>I|.bin _ _ _ _=>I|.conv _ _=>I|.f o l=>ab1 o&&td l
def td:List Tm->Bool|[]=>I|t::l=>PX t&&td l
end
def sj:Way->Bool|.bad=>I|.out _ ts=>td ts|.again ts=>td ts|.ite _ a b=>sj a&&sj b|.aW _ a=>sj a|.call _ ts _ _ a b=>td ts&&sj a&&sj b
def FC:List bq->Bool|[]=>I|F::r=>sj F.jL&&FC r
def jq(ξ:Nat->Option ah):Prop:=∀i d,ξ i=O d->bare d
section
variable{R:dI}{ξ:Nat->Option ah}
mutual
theorem adX(zr:jq ξ):∀{t:Tm}{d:ah},PX t=I->aD (aQ R) ξ t=O d->bare d|.c n,d,_,h=>by cases h;rfl|.x i,d,_,h=>zr i d h|.bin o k a b,d,_,h=>by grind[gH,lG,bn]|.conv k a,d,_,h=>by grind[aD,bn]|.f o l,d,ht,h=>by simp[PX]at ht;have⟨ds,h1,h2⟩:=mG h;exact adW ht.1 h2 (aH zr ht.2 h1)
theorem aH(zr:jq ξ):∀{l:List Tm}{ds:List ah},td l=I->aA (aQ R) ξ l=O ds->aB ds|[],ds,_,h=>by cases h;exact .nil|t::l,ds,ht,h=>by simp[td]at ht;obtain⟨d,r,h1,h2,rfl⟩:=aM h;exact .cons (adX zr ht.1 h1) (aH zr ht.2 h2)
end
theorem ak:∀{l:List Nat}{ds:List ah}{ξ b:Nat->Option ah},dN l ds ξ=O b->jq ξ->aB ds->jq b|[],[],ξ,b,h,c,_=>by cases h;exact c|a::l,d::ds,ξ,b,h,c,g=>by simp[dN]at h;refine ak h (λi x f=> ?_) g.tl;by_cases e:i=a;rw[if_pos e]at f;cases f;exact g.hd;rw[if_neg e]at f;exact c i x f|[],_::_,_,_,h,_,_=>by cases h|_::_,[],_,_,h,_,_=>by cases h
theorem Cc(d:∀{k:Nat}{ds:List ah}{m g:Nat}{rs:List ah},R k ds=O (m,g,rs)->aB ds->aB rs){w:Way}{ξ:Nat->Option ah}{g:Option Nat}{rs:List ah}(h:c_ R w ξ g rs)(c:sj w=I)(a:jq ξ):aB rs:=by induction h with|out h=>exact aH a c h|again h=>exact aH a c h|yes _ _ _ b=>simp_all[sj]|no _ _ b=>simp_all[sj]|aW _ _ _ b=>simp_all[sj]|call i f e _ b=>simp[sj]at c;grind[ak,aH]|ajO _ _ _ _ b=>simp_all[sj]
end
theorem QW(f:∀{k:Nat}{ds:List ah}{m g:Nat}{rs:List ah},R k ds=O (m,g,rs)->aB ds->aB rs){F:bq}(c:sj F.jL=I):∀{n:Nat}{ds:List ah}{m g:Nat}{rs:List ah},R_ R F n ds=O (m,g,rs)->aB ds->aB rs|0,_,_,_,_,h,_=>by cases h|n+1,ds,m,g,rs,h,l=>by unfold R_ at h;split at h;cases h;rename_i ξ o;have a:=ak o (λi d h=>by cases h) l;split at h;rename_i p b e;cases h;exact Cc f (mW e) c a;rename_i qP e;split at h;rename_i k p b j;cases h;exact QW f c j (Cc f (mW e) c a);cases h;cases h
theorem wX:∀{D:List bq},FC D=I->∀{k:Nat}{ds:List ah}{m g:Nat}{rs:List ah},aI D k ds=O (m,g,rs)->aB ds->aB rs|[],_,_,_,_,_,_,h,_=>by cases h|F::r,a,k,ds,m,g,rs,h,b=>by simp[FC]at a;simp[aI]at h;split at h;have⟨n,c⟩:=sE h;exact QW (wX a.2) a.1 c b;exact wX a.2 h b
theorem cH.bare(b:FC defs=I){k:Nat}{ds rs:List ah}{g:Nat}(h:cH k ds g rs)(a:aB ds):aB rs:=by have⟨m,h⟩:=h;exact wX b h a
theorem aN{ξ:Nat->Option ah}(a:jq ξ)(i:Nat):aD (aQ R) ξ (sy i)=ξ i:=by simp[sy,aD,aA];cases h:ξ i with|none=>rfl|some d=>simp only[alr,eI];have:=a i d h;simp_all[Go.Proofs.YtinknfobdleeeaaGreat.bare]
theorem tU(a:strip k≠strip k'):∀{xs:List ah},gy k (e_ k' xs)=gy k xs|[]=>rfl|d::xs=>by unfold e_;split;rename_i f v b;split;rename_i c;rw[tU a];have e:=eD.1 c;(conv=>rhs;unfold gy);rw[b];simp_all[sf];(conv=>lhs;unfold gy);(conv=>rhs;unfold gy);rw[b];simp[tU a];rename_i b;(conv=>lhs;unfold gy);(conv=>rhs;unfold gy);rw[b];simp[tU a]
theorem yM(a:strip k≠strip k'):∀{xs:List ah},gy k (gf k' v xs)=gy k xs|[]=>by simp_all[gf,gy,jD,dP,sf]|d::xs=>by unfold gf;split;rename_i e c b;split;(conv=>lhs;unfold gy);simp_all[jD,dP,sf];(conv=>lhs;unfold gy);(conv=>rhs;unfold gy);rw[b];simp[yM a];rename_i b;(conv=>lhs;unfold gy);(conv=>rhs;unfold gy);rw[b];simp[yM a]
theorem Hm(k v:ah):∀{xs:List ah},db xs=I->db (gf k v xs)=I|[],_=>rfl|d::xs,h=>by unfold db at h;split at h;simp[gf,jD];split;simpa[db]using h;exact Hm k v h;cases h
theorem wC:gy k (gf k' v (e_ k' xs))=(open Classical in if strip k=strip k' then O v else gy k xs):=by
 classical
 by_cases e:strip k=strip k'
 ·rw[if_pos e]
  have:∀ys,gy k ys=gy k' ys:=λys=>by
   induction ys with
   |nil=>rfl
   |cons d l ih=>unfold gy;rw[e,ih]
  rw[this]
  exact N8
 ·rw[if_neg e,yM e,tU e]
theorem Hn(h:db xs=I):db (gf k v (e_ k xs))=I:=Hm k v (nK k h)
end Go.Proofs.YtinknfobdleeeaaGreat
end
namespace Go.Proofs.YtinknfobdleeeaaGreat
set_option maxRecDepth 100000
open Option renaming some→O,none→G
open Bool renaming true→I,false→Z
theorem al5:(cG qR 1 0 []).map (λp=>xz defs p.1)=(cG qR 1 0 []).map (λp=>O p.2):=by kernel_rfl
theorem dJ:oL:=⟨by kernel_rfl,λk F h=>List.map_inj_left.1 al5 (k,F) (fL.2 h)⟩
theorem bL{l:List (Nat×Nat×Bool)}{ds:List ah}{ξ a:Nat->Option ah}(h:dN (cu (fa l)) ds ξ=O a)(b:Du 0 l=I:=by decide):ds.length=Κ l/\∀i,a i=nV l 0 ds ξ i:=have⟨d,c⟩:=aJ h b;⟨d,congrFun c⟩
theorem sB{ξ:Nat->Option ah}(a:jq ξ)(i:Nat):aD (aQ (aI defs)) ξ (sy i)=ξ i:=aN a i
theorem cH.o{k g:Nat}{ds rs:List ah}(h:cH k ds g rs)(F:bq)(n:qR.get k=O F:=by kernel_rfl):∃ξ,dN (cu F.args) ds (λ_=>G)=O ξ/\(c_ (aI defs) F.jL ξ (O g) rs∨∃qP,c_ (aI defs) F.jL ξ G qP/\cH k qP g rs):=h.one dJ n
theorem cH.iv{k g:Nat}{ds rs:List ah}(F:bq)(Q:List ah->Prop)(E:Nat->List ah->Prop)(c:∀ds ξ go r,Q ds->dN (cu F.args) ds (λ_=>G)=O ξ->c_ (aI defs) F.jL ξ go r->Ends Q E go r)(h:cH k ds g rs)(a:Q ds)(n:qR.get k=O F:=by kernel_rfl):E g rs:=cH.inv dJ n Q E c h a
theorem ct:FC defs=I:=by kernel_rfl
section
open RowKit
variable{ν:Nm}{P:aw}
variable{D:List Deferred}
def Nm.at(ν:Nm)(u:Int):Nm:=⟨ν.f,ν.x,u,ν.z,ν.q⟩
def en.at(A:en)(u:Int):en:=⟨A.h,A.ν.at u,A.w⟩
section
variable{ν:Nm}{u:Int}
mutual
theorem eU:∀{t:Tm},xL t=I->ai (ν.at u) t=ai ν t|.c _,_=>rfl|.x _,_=>rfl|.bin o k a b,h=>by simp[xL]at h;simp[ai,eU h.1,eU h.2]|.conv k a,h=>by simp[xL]at h;simp[ai,eU h]|.f o l,h=>by simp[xL]at h;simp[ai,QX h.2,h.1]
theorem QX:∀{l:List Tm},afG l=I->bA (ν.at u) l=bA ν l|[],_=>rfl|t::l,h=>by simp[afG]at h;simp[bA,eU h.1,QX h.2]
end
theorem QY(c:zj):cX (ν.at u) c=cX ν c:=by rfl
theorem agI(f:OL):lM (ν.at u) f=lM ν f:=by rfl
mutual
theorem wD:∀{v:AV},DD v=I->den (ν.at u) v=den ν v|.bool _,_=>by rfl|.int _ _,_=>by rfl|.str _,_=>by rfl|.kv,_=>by rfl|.ptr i off,_=>by rfl|.cQ,_=>by rfl|.slice i off n c,_=>by rfl|.lf,_=>by rfl|.map i,_=>by rfl|.func f a b,h=>by simp[DD]at h;simp[den,agI,qx h.1,qx h.2]|.iq,_=>by rfl|.iface t v,h=>by simp[DD]at h;simp[den,wD h]|.gP,_=>by rfl|.agg l,h=>by simp[den,qx h]|.il l,h=>by simp[den,qx h]|.ext i,_=>by rfl|.mw _ _,_=>by rfl|.sym k t,h=>by simp_all[DD,den,eU]|.iI t,h=>by simp_all[DD,den,eU]|.tail i off o2 n c m,_=>by rfl|.iJ t,h=>by simp_all[DD,den,eU]|.deep e t,h=>by simp_all[DD,den,eU]|.mn e sz t i off,h=>by simp_all[DD,den,eU]|.bK i t c,h=>by simp[DD]at h;simp only[den,eU h,QY];rfl|.jM i e z t o,h=>by simp[DD]at h;simp[den,eU h];rfl|.gZ i e z t u c,h=>by simp[DD]at h;simp only[den,eU h.1,eU h.2,QY];rfl
theorem qx:∀{l:List AV},Dv l=I->bw (ν.at u) l=bw ν l|[],_=>by rfl|v::l,h=>by simp[Dv]at h;simp[bw,wD h.1,qx h.2]
end
theorem Gk{T:Tr AV}{N:Nat}{tmps:Array aa}(h:ajS T=I)(b:eG ν T N tmps):eG (ν.at u) T N tmps:=
 ⟨b.size,λi v a=>by
  have⟨V,d,c⟩:=b.jb i v a
  refine⟨V,?_,c⟩
  rw[wD (jJ h i v a)]
  exact d⟩
theorem agJ{o:bF}{obj:Obj}(h:noO o=I)(k:bN P ν o obj):bN P (ν.at u) o obj:=by
 cases o<;>cases obj<;>simp only[bN]at k⊢<;>try exact k
 case cells.cells l t c arr Gz fz=>
  have⟨f,b,L,R,a,i,y⟩:=k
  exact⟨f,b,L,R,by rw[qx (by simpa[noO]using h)];exact a,i,y⟩
 case map.map es clock arr z=>
  refine⟨k.1,?_⟩
  have Iz:∀e∈es,DD e.1=I/\DD e.2.1=I:=λe F=>by
   have:=cm.1 (show(es.all λe=>DD e.1&&DD e.2.1)=I from h) e F
   simpa using this
  have key:∀{es:List (AV×AV×Nat)}{l:List bQ},(∀e∈es,DD e.1=I/\DD e.2.1=I)->cJ (oD ν) es l->cJ (oD (ν.at u)) es l:=by
   intro es
   induction es with
   |nil=>intro l _ h;cases l with
    |nil=>trivial
    |cons _ _=>cases h
   |cons e es ih=>intro l J h;cases l with
    |nil=>cases h
    |cons m l=>
     have⟨⟨V,U,Q⟩,Oz⟩:=h
     have⟨p,n⟩:=J e (aU ..)
     exact⟨⟨by rw[wD p];exact V,by rw[wD n];exact U,Q⟩,ih (λe F=>J e (aS _ F)) Oz⟩
  grind
 case loop.loop st H T N ps d key r=>
  have⟨w,v,s,q⟩:=k
  exact⟨w,v,Gk h s,q⟩
 case row.cells t e c arr Gz fz=>
  have⟨f,b,d,L,R,a,i,y,x⟩:=k
  exact⟨f,b,d,L,R,by rw[eU (by simpa[noO]using h)];exact a,i,y,x⟩
 case dmap.map Zz M t W arr clock=>
  have⟨xs,f,b,a,i⟩:=k
  simp only[noO,ay]at h
  cases W with
  |none=>exact⟨xs,by rw[eU h.1];exact f,b,a,trivial⟩
  |some _=>cases h.2
 case lh.cells t e c it cs arr Gz fz=>
  have⟨f,b,xs,L,R,kk,vs,a,i,y,x⟩:=k
  simp[noO]at h
  have⟨⟨p,n⟩,C⟩:=h
  exact⟨f,b,xs,L,R,kk,vs,by rw[eU p];exact a,i,by rw[eU n];exact y,x.1,by rw[qx C];exact x.2.1,x.2.2⟩
 case g_.map Zz M t c B S last arr clock=>
  have⟨xs,K,bs,ys,w,v,s,q,D,k6,k7,k8,k9,E,k11⟩:=k
  simp only[noO,ay]at h
  have⟨⟨⟨⟨p,n⟩,C⟩,Y⟩,X⟩:=h
  cases last with
  |none=>exact⟨xs,K,bs,ys,by rw[eU p];exact w,v,s,by rw[eU n];exact q,by rw[eU C];exact D,by rw[eU Y];exact k6,k7,k8,k9,E,trivial⟩
  |some _=>cases X
 case jk.mapIter m c B m' A seen j=>
  have⟨g,w,v,s,q,D⟩:=k
  simp[noO]at h
  exact⟨g,w,v,by rw[eU h.1];exact s,q,by rw[eU h.2];exact D⟩
theorem adY{o:bF}(h:noO o=I)(k:iU P ν o):iU P (ν.at u) o:=by cases o<;>simp only[iU]at k⊢;have⟨d,b,a⟩:=k;exact⟨d,by rw[eU (by simpa[noO]using h)];exact b,a⟩
theorem akp{t:Tm}{b:Bool}(h:xL t=I)(k:bh ν t b):bh (ν.at u) t b:=by have⟨n,c,a⟩:=k;exact⟨n,by rw[eU h];exact c,a⟩
theorem Nm.le.at{a:Nm}(h:Nm.le ν a)(u:Int):Nm.le (ν.at u) (a.at u):=⟨h.f,h.x,rfl,h.xe,h.z,h.q⟩
theorem QZ:∀{l:List AV},Dv l=I->∀{i:Nat}{v:AV},l[i]? =O v->DD v=I|[],_,i,v,h=>by simp at h|a::l,h,i,v,b=>by simp[Dv]at h;cases i with|zero=>simp_all|succ i=>exact QZ h.2 (by simpa using b)
theorem aL.at{w0 w:aj}{A:en}{s:St}(h:aL P w0 A ν s w)(e:afH s=I)(u:Int):aL P w0 (A.at u) (ν.at u) s w:=by simp only[afH,ay]at e;have⟨⟨k,r⟩,q⟩:=e;refine⟨h.pos,h.dz,h.top,λi o f=> ?_,h.inj,h.ext.at u,h.xb,h.same,h.sT,h.nv,h.own,⟨λg l p i v n=> ?_,λt b j=> ?_⟩,h.mu,h.lq,h.nU,h.kR,h.kS⟩;obtain⟨g,d,⟨a,c⟩|⟨obj,a,c,m⟩⟩:=h.fX i o f;exact⟨g,d,.inl ⟨a,adY (jJ k i o f) c⟩⟩;exact⟨g,d,.inr ⟨obj,a,c,agJ (jJ k i o f) m⟩⟩;have⟨V,d,a⟩:=h.ctx.gl g l p i v n;grind[wD,QZ];exact akp (cm.1 q _ j) (h.ctx.pc t b j)
end
theorem adZ{x y:Int}(h:x<=y):gH .leq .i64 x y=O (.n 1):=by rw[bI (q:=decide (x<=y)) rfl,decide_eq_true h];rfl
theorem nj.at{u:Int}{M:List Nat}{ds:List Deferred}(h:nj D ν M ds):nj D (ν.at u) M ds:=h
theorem RR.at{u:Int}{r a:Option Nat}(h:RR ν r a):RR (ν.at u) r a:=h
theorem OI(hDe:oL)(hm:P.follows .mixedOrders=I)(hN:mU P=I){pr:Pr}(W:∀U,S_ P U pr){E:List VK}(hE:si E){lm:List fV}(hL:oW lm){m:Tm}{n:Nat}{e:lk}(h:tw P pr E lm m n e=I):∀U,rK P (cE P U) U (e::pr.lt):=by unfold tw at h;simp only[ay]at h;have⟨⟨⟨⟨⟨h1,h2⟩,h3⟩,h4⟩,h5⟩,h6⟩:=h;intro U x hx c K;rcases aO.1 hx with rfl|hx;rw[K]at h6;simp only at h6;split at h6;rename_i Y ho;(have key:∀(k:Nat){D:List Deferred}(U:Int)(w0:aj)(A:en)(ν:Nm)(w:aj)(C:Option Nat)(a:Act)(j:Int),ν.u=U->aL P w0 A ν x.s w->eG ν x.T x.N a.tmps->nj D ν [] a.defers->RR ν x.r C->ai ν m=O (.n j)->j.toNat<=k->(Code.loop c).wpIn (fz C) 0 P (kC D P w0 A ν x.N x.outs) a w/\∀b,Code.loop c=.loop b->pC (fz C) 0 P b (kC D P w0 A ν x.N x.outs) a w:=by intro k;induction k using Nat.strongRecOn with|_ k ih=>intro D U w0 A ν w C a j hU B X hM hR hj hjk;(have sO:rK P (cE P j) j (eLt m x::pr.lt):=by intro y hy d F;rcases aO.1 hy with rfl|hy;have F:oG P x.z.1 x.z.2=O (.loop d):=F;rw[K]at F;injection F with F;injection F with F;subst F;intro hz D w0 A ν w C a hU B X hM hR;have Iz:=B.ctx.pc;have⟨n1,k1,k2⟩:=Iz (.bin .lss .i64 m lim) I (aU ..);have⟨n2,k3,k4⟩:=Iz (.bin .leq .i64 (.c 0) m) I (aS _ (aU ..));have⟨p,q,k5,S,k7⟩:=dq.1 k1;have⟨p2,q2,Q,Oz,k10⟩:=dq.1 k3;rw[k5]at Oz;injection Oz with Oz;injection Oz with Oz;subst Oz;have k6':ai ν lim=O (.n ν.u):=rfl;rw[k6']at S;injection S with S;injection S with S;have k8':ai ν (.c 0)=O (.n 0):=rfl;rw[k8']at Q;injection Q with Q;injection Q with Q;subst Q S;(have sO:p<ν.u:=by by_cases hh:p<ν.u;exact hh;rw[bI (q:=decide (p<ν.u)) rfl,decide_eq_false hh]at k7;simp_all);(have hge:0<=p:=by by_cases hh:0<=p;exact hh;rw[bI (q:=decide (0<=p)) rfl,decide_eq_false hh]at k10;simp_all);have Sx:aL P w0 A ν x.s w:=B.swap (x:=x.s.x) ⟨B.ctx.gl,λt b Zz=>Iz t b (aS _ (aS _ Zz))⟩;exact ih p.toNat (by omega) j w0 A ν w C a p hU Sx X hM hR k5 (ba _);exact(W j).LT y hy d F);have hPj:S_ P j {pr with lt:=eLt m x::pr.lt}:=⟨(W j).R,(W j).L,(W j).T,(W j).PT,sO⟩;have hs:=qJ hm hN hPj n _ _ ho;have l:aL P w0 (A.at j) (ν.at j) (alw m x.s) w:=(B.at h1 j).swap (x:=⟨x.s.x.gl,(.bin .leq .i64 m lim,I)::x.s.x.pc⟩) ⟨(B.at h1 j).ctx.gl,λt b Zz=>by rcases aO.1 Zz with e|Zz;simp only[Prod.mk.injEq]at e;obtain⟨rfl,rfl⟩:=e;exact⟨1,dq.2 ⟨j,j,by rw[eU h3];exact hj,rfl,adZ (ft _)⟩,rfl⟩;exact(B.at h1 j).ctx.pc t b Zz⟩;have⟨s1,s2⟩:=hs K w0 (A.at j) (ν.at j) w C a rfl l (Gk h2 X) hM.at hR.at;(have back:∀ex a' w',kC D P w0 (A.at j) (ν.at j) x.N Y ex a' w'->kC D P w0 A ν x.N x.outs ex a' w':=λex a' w' Gz=>by have⟨o,ho,ed,l1,l2,l3,l4,l5⟩:=Gz;have Ez:=cm.1 h6 o ho;have⟨p,Gz,K⟩:=List.any_eq_true.1 Ez;simp only[ay]at K;have⟨hgl,H⟩:=K;have⟨ν2,r1,r2,r3,r4⟩:=Hg hPj.L (n0:=x.s.n) (p:=p) (o:={o with v:=jN}) l3 (AF (ν:=ed)) l4;have re:(s_ P pr.lm x.s.n p {o with v:=jN}).e=o.e:=rfl;have rM:(s_ P pr.lm x.s.n p {o with v:=jN}).M=o.M:=rfl;generalize s_ P pr.lm x.s.n p {o with v:=jN}=o2 at hgl H r2 r3 r4 re rM;have⟨m1,m2,m3,cD,m4,m5,m6,m7⟩:=Me hDe hE hL H (l1.trans r1) l.top l.kR l.kS l.ext (by rw[<-pw hgl];exact l.ctx.gl) r2 ⟨_,r3⟩ (λi v hv=>by have⟨V,h,_⟩:=r4.jb i v hv;grind);rw[re]at m1;rw[rM]at m3;have J:=cm.1 h4 p Gz;rw[ay]at J;(have hA:(A.at j).at ν.u=A:=by show(⟨A.h,⟨A.ν.f,A.ν.x,ν.u,A.ν.z,A.ν.q⟩,A.w⟩:en)=A;rw[B.ext.u]);refine⟨p,Gz,cD.at ν.u,m4.at ν.u,by rw[m1];exact l2,hA▸m5.at J.1 ν.u,Gk J.2 ⟨l4.size,λi v hv=> ?_⟩,?_⟩;have⟨v',q1,q2⟩:=m7 i v hv;have⟨V,q3,q4⟩:=r4.jb i v' q1;simp_all;rw[m2];rw[m3]at l5;have⟨fr,e1,e2⟩:=l5;cases fr with|nil=>exact⟨[],e1,trivial⟩|cons _ _=>exact e2.elim);exact⟨wpIn_mono s1 back,λb hb=>(s2 b hb).mono back⟩);intro hz D w0 A ν w C a hU B X hM hR;(have⟨VS,hVS⟩:∃VS,bw ν ((cG x.T 1 0 []).map (·.2))=O VS:=qH λp Gz=>by have⟨i,v⟩:=p;have⟨V,h1,_⟩:=X.jb i v (fL.1 Gz);grind);have⟨j,hj⟩:=lW (ν:=ν) (ic hVS (tR (P:=P) (λp Gz=>by have⟨i,ob⟩:=p;obtain⟨g,_,⟨_,k⟩|⟨obj,_,_,k⟩⟩:=B.fX i ob (fL.1 Gz);exact .inl k;exact .inr ⟨obj,k⟩) λ_ h=>by cases h)) h5;exact key j.toNat U w0 A ν w C a j hU B X hM hR hj (ba _);cases h6;exact(W U).LT x hx c K
end
section
open RowKit
section
variable(P:aw)
def EC(e:sR):Prop:=∀U,cy P (cE P U) U 0 e.outs (.call e.f e.args e.s)
def Le(e:lk):Prop:=∀U,rK P (cE P U) U [e]
def xA:List sR->Prop|[]=>True|e::l=>EC P e/\xA l
def rO:List lk->Prop|[]=>True|e::l=>Le P e/\rO l
structure KA(nh:List (Nat×Nat×Nat))(eH:List Dl):Prop where
 de:oL
 mix:P.follows .mixedOrders=I
 names:mU P=I
 amY:pD P nh
 pt:Bw P eH
end
section
variable{P:aw}{nh:List (Nat×Nat×Nat)}{eH:List Dl}
theorem xA.tab:∀{l:List sR},xA P l->∀U,E_ P (cE P U) U l|[],_,_,_,a=>by cases a|_::_,h,U,x,a=>by rcases aO.1 a with rfl|a;(·exact h.1 U);·exact xA.tab h.2 U x a
theorem rO.lt:∀{l:List lk},rO P l->∀U,rK P (cE P U) U l|[],_,_,_,a=>by cases a|_::_,h,U,x,a=>by rcases aO.1 a with rfl|a;(·exact h.1 U x (aU ..));·exact rO.lt h.2 U x a
theorem oW.ok{b:List fV}(h:oW b):bS b:=λe d ν a n c=>by have⟨m,f,g⟩:=h e d ν a;rw[c]at f;simp_all
theorem T5(b:oL){k:Nat}{F:bq}(a:qR.get k=O F):oW (O5 k F):=Vh b a
theorem oW.append{l m:List fV}(c:oW l)(b:oW m):oW (l++m):=λe a=>by rcases dx.1 a with a|a;exact c e a;exact b e a
theorem tD:si []:=λ_ h=>by cases h
theorem iD:oW []:=λ_ h=>by cases h
theorem KA.pr(B:KA P nh eH){tab:List sR}{a:List fV}{lt:List lk}(c:xA P tab)(d:rO P lt)(b:oW a){rt:List ag}(U:Int):S_ P U ⟨nh,tab,eH,a,lt,rt⟩:=⟨B.amY.of,b.ok,c.tab U,B.pt,d.lt U⟩
theorem X9(B:KA P nh eH){tab:List sR}{lt:List lk}{rt:List ag}{n:Nat}{e:sR}{E:List VK}{c a:List fV}(i:si E)(d:oW c)(b:oW a)(f:xA P tab)(g:rO P lt)(h:rN P ⟨nh,tab,eH,c,lt,rt⟩ E a n e=I):EC P e:=λU=>RS B.de B.mix B.names (B.pr f g d U) i b h (tab:=[]) (λ_ h=>by cases h) e (aU ..)
theorem ab2(B:KA P nh eH){tab:List sR}{lt:List lk}{rt:List ag}{n:Nat}{m:Tm}{e:lk}{E:List VK}{c a:List fV}(j:si E)(f:oW c)(b:oW a)(g:xA P tab)(i:rO P lt)(h:tw P ⟨nh,tab,eH,c,lt,rt⟩ E a m n e=I):Le P e:=λU x d=>by rw[aR]at d;subst d;exact OI B.de B.mix B.names (λU=>B.pr g i f U) j b h U x (aU ..)
theorem ZE(B:KA P nh eH){k:Nat}{F:bq}(c:qR.get k=O F){tab:List sR}{lt:List lk}{rt:List ag}{n:Nat}{e:sR}(a:xA P tab)(b:rO P lt)(h:rN P ⟨nh,tab,eH,O5 k F,lt,rt⟩ [] [] n e=I):EC P e:=X9 B tD (T5 B.de c) iD a b h
theorem amZ(B:KA P nh eH){k:Nat}{F:bq}(c:qR.get k=O F){tab:List sR}{lt:List lk}{rt:List ag}{n:Nat}{m:Tm}{e:lk}(a:xA P tab)(b:rO P lt)(h:tw P ⟨nh,tab,eH,O5 k F,lt,rt⟩ [] [] m n e=I):Le P e:=ab2 B tD (T5 B.de c) iD a b h
theorem Mt:pD P []:=λg k t a=>by cases a
end
end
def eH:List Dl:=[⟨6,[],[],.bool I⟩]
def nh:List (Nat×Nat×Nat):=[(35,(6,69)),(141,(6,128)),(146,(7,9634033))]
def rt:List ag:=bX 0 5++bX 7 277++bX 286 7
def ajU:sR:=⟨4,((dpr 41 1 0)::((dpr 4 3 2)::((.sym .u8 (.x 4))::[]))),⟨(hp []),0,[],⟨[],(sfT 137 [(sy 0),(sy 2),(.x 4)]::[])⟩⟩,[⟨.ret,(.iI (.x 1000000)),.e,[],⟨(hp []),1,[],⟨[],(ftT 137 [(sy 0),(sy 2),(.x 4),(.c 0),(.x 1000000)]::[])⟩⟩⟩]⟩
def e73:sR:=dE 73 0x826a3c8e1995278c0f5d48e38d64b42c0ae477628609c4969ef446886cd39925d
def es:List (sR⊕lk):=[.inr (dL 0 0x96e1a92a662255e1c32607e8629d74c2f6724c2c1540db19b48),.inl (dE 1 0xff1932ce75f84f8cadc7),.inl (dE 2 0xf1acf2cde7abe18590bc59405d114f7d70dbb1e4f37fd402d2),.inl (dE 3 0x241c1746846ba6cae9cf81213dc9710ae151941b8491009049),.inl (dE 4 0xe33a245a5b66a5e5379158d47ec5fdd60568a018205281ea05bbc09ef52da6cf9c066),.inr (dL 5 0x42457ba260f59457004fd5504c75a76f7ff74fd8a3f4f563b6f825ec31e7df92f1798bb68f65f),.inl (dE 6 0x2747f27472c8baf85aaf30ffd89c7c2319f02c417d),.inl (dE 7 0x9c724f1c497d2951ac938ffdf9bd85f4fb4e97981e8dbf801756c55),.inl (dE 8 0x7bc661b4cbc3cd5a6a04adcca8b8d9),.inl (dE 9 0x4d82e708da561a454e53),.inl (dE 10 0x16d496dbba5565151f3),.inl (dE 11 0x8a48718c56edc1d0d7),.inr (dL 12 0x931b5b69a32b03e1ca7c919c3a138aeff1708a73b00d403e6d85523a8a31f04d),.inl (dE 13 0x3e03836efd4d677f625b),.inl (dE 14 0x35e81720a422b7fb7c6d43cbf0bca38937030cef2b979ecb977ddcc6fe5b6d2ca6c3def12944949fba9a372a901aa87ac2d3660),.inl (dE 15 0x2f359cc49d68724c6ad72f0eb3d1ae4264ba7dde482f4e930b3b6b871398598e8081cea465c5ca99e5d52a328fc524f8ce7b1650ec7ddc),.inr (dL 16 0xfc7b3fa299fd84d60174b0b1539c2b5589a321ec8c977ff00349e13ba2aab0e131f565133efd3737da2df57f57700379a4ec875400d63f523c02ce955e785dfd12b24118c84c5b4d5fc014f803c11bbe9b887bc4d32c2d6e8),.inl (dE 17 0x28f3cbc4b4085672d2005126e1899e35c891812a428a363181bd25844e302af2afdc02cde2d302b2e849d6d73),.inl (dE 18 0x20979cf8b296840ad937107eed797d86c9ee9bef3),.inr (dL 19 0x1e686978e767c5969b842b7be0306130798d22a16241520606a06d70f137be2d292676a55b24313a27aeb1c4b),.inl (dE 20 0x2c359f9dcd397458d0a4852650fa48f35cbd4c435f9e8914a4cf22d18c7f35589c0148022ca31842dc976e8cc),.inl (dE 21 0x26b0ad8e60d94985209a97ba64c3a4e),.inl (dE 22 0x7e29bde6ff86b7f90291b7d0132a44821dfb83d67caa1c7161839d8b05d3f350d9e8fb19010c52f4a859182877),.inr (dL 23 0x14a4344c192f145a4609308d7fed4a46c06ba4124719cda3e2ee028d1dceacc09cd6dd02c6ec3ef0f786928ad022a21aa4d337bb1f394c2dd49bf5b4d6660d54460cbf58),.inl (dE 24 0x1220dbf0e6c5f23a9077acd331271f5bd49e03333e192e38b65a0b70cba83c3569093f75687e),.inr (dL 25 0xa646be237693cb9c258f5608b4c33c77d7be1d24b6cc8d97d83abcead784d57df140e52fbc0caf448ba7977d472a93e1def48f4ba924e45475),.inl (dE 26 0x41a1948ed832a4334204d3a5a7d5d876111fe0eaa0c4a71275dfa4903282dd20ca5661da11adc),.inl (dE 27 0xb72993ff1240af43aac061685c52b7c3166b67fe8657001dc),.inl (dE 28 0x5517f4b25f57ab1a865a7333dab149f1ed72fea299a5791928dfe5e663753c51dc500d0d560cd6c5896ddc),.inl (dE 29 0x8c2e7ed33ad256f81e84baed46b1b1742a8ae83e16c012650b00f299732a907f2e15253b4e72be5c1e1),.inl (dE 30 0xd3e0d46bc5034dd2dee5),.inl (dE 31 0x11674e92bbad2b0c2cedf1301f4db94e),.inl (dE 32 0xa424258274eb740999d37751691b0dfc06f67b8b38cef32faf7ea73bfd4f5e242c45ffe42acf643952d0c46a463fd8afdf4),.inl (dE 33 0x5cb07457944b8edda95637904736837aedfed602af7251493446f3b93d65dfb1fe705100ff01f57de8cc26789bc65dd896cadbf53d92fbd39a870d43c3b19e4e8bd95e01c96501db055),.inr (dL 34 0x279e9697abb7e27f6ba5c595e831fb490649d75cd2f39a6c501221dbc2dd4df0a0cfe8f42d31279eed8398e483569265032612911cc825f4d35e3a55923d2f2e7400e29f338ec9caa279bc37a3f944dde7203df5300cdf4fe9104e56d010c09b3920aaf0846905aa0500d2cd7d0a85200c6dd5),.inl (dE 35 0x3c7f5249eb89e75dbc6e169f43fbf5f7c7bd528994754dd91271f43105e2d415c6cd7591751819c1444feb706d8bedd2),.inl (dE 36 0x37d23e44b0bffddb9736ec36c34c4d21dbbbde5fac5835ea2c9f43e3c18b0999939b58d90689b2b0c2ad493557f74ae39273cffb72c5bd05615b25ebddb5f58603e5fc),.inr (dL 37 0x62c3002c142777c424e5bfb79ebb2096ef8cb34c948ee68c80dd662082179498c70196fff556f3fb32e666b8f006f94d4786f93cff640f5ca68e25c6a475890e1f28d45b28034d5a2430eef57cf5e2fafefc914d2fa11d105a670b62da5e7125c2f28cf82ef),.inl (dE 38 0x14a5e38728e87c5840f3f23d10cca0da8fb8bfee096f92866dda99068543eac377283f39ea209df29dc1eb9a4e30bdc2f20d9786ac633260b98eb50),.inr (dL 39 0x12ae02a1f0a89578bc841e06a0df581bb06039fa828cece35367cfc7e4a01e79d2e96112ff6972e1753972a8b427397041f0398b713077cc297d6cb901f9f86237b7cad6d641f34bc014cd54b9857),.inl (dE 40 0x348d093204dbd541ddfd5dff407e227ea6d3503547210a0c77e52658b5bd1a19aaab1eb1f3fe14c1b0c77405d1fdf446034ec63101e9075f8b2664df),.inr (dL 41 0x1499008065cecb19752aa74bd13a42de803af9115143abbc48908d475899385d184d9c74e981458ec76e3d692fb7b10a1a057d68f1a71e6d0288b0f591d8cb5dee8a5f64290d2),.inl (dE 42 0x41a4250a406ece117b6bb1878cd5939f8985c18974b1633a2f7b0603fe),.inl (dE 43 0x8c66186951c1eea0cf186150999affe),.inl (dE 44 0x90da1eab216a2bf30aa85ae343552),.inl (dE 45 0x5eca760338941424a0987cb7f878fcd7),.inl (dE 46 0x7ebedad5e032675d42d41027fc572),.inr (dL 47 0x7c1bdeffd7db6bad2a911da244e554f0bc819c3aae03b02e0ee61acab61f51aa5befeaf4d3841b7b55864ce246200a87b3f6df0339a2b10e5f02a475693ed619947f7be33bbd416a46b695cd48b5b88bf03cfdfae0984bf3e17ee50d08cb46396c7d19c9b479ab56d7ffecdcc67acc12bad783eb6027bef6446c91f43a0450d1),.inl (dE 48 0x9bffa958aefba4d9b03760504e56c69),.inr (dL 49 0x2b91d9a6906a73094b8ab1239aad2bdff5768aa67e518fd12b46b8340dcc7826fcff9212241955e5e3d483fe8ba26018d33d44abccbbe4a71a67b81a6aa059865761e20ed2d41baa89a79fa638b6c59460555daa140ab69835ad510244d2710b50787a5813f62e504a1351f893be39fae330d58de69004ae3fc4be44378bc2ce5d6668bfff4c55f80df988e7c032652f0120351cf960a1906b9442ad65b0354e354724e09c9b9b05300eb9dff2f8894caa10aa556cf2161c20b8b37c8ea0fea34600371fae5f5),.inr (dL 50 0xd4eb53a20af6f92d6c69391a8f1b6fd94505748ef518a55e4f1a10567920db335f4bbae42963752260132ca61a5bb00957022c29321e060e03dff21c995b10e54b8dc5e2e646ffd348333a512362149ff1a9a13462b51cb037cdb0339cc9c40633a5c79ceeefdc0f840c0d3d3aad035b8d4796e65511a3f2c79d0aabe0e81cd),.inl (dE 51 0x220dceceab188abd8c57fb01c6d298038bfadcc33711780c0b73b051dab3f87a2e138a7fe2a0f2804b1ba8eacd955d4),.inl (dE 52 0x608205f31214a9c87d859f72f67e11479ce438f413700969b5898f089738e31255),.inr (dL 53 0xe78eb9057e06430df11aa64308d4b97250340bb696d001db8cad578d0aa57aa04a1973e61ba41a3570fb78),.inl (dE 54 0x222ce99b219dfc63845d381ade3b116d5f0470e64),.inl (dE 55 0xdb0c4adefa84f80722af8465fc86715bcf6498bc46ebf4106e9b8484c27ac320d3b073eb5b),.inr (dL 56 0xfd566d40f020005cbbe0258166d0965e14d1ebdc81063ed27fb6d22bfa871e92abc4a690d7396ee6bfb3d0555d3ae549021faff243d2fd74f3b01e3cae69b96056eef7b8cdf967f398cafdb31a443fb08702e657ef8fdedeab426c1383b389b157f5f086603aa114d281c51),.inl (dE 57 0x1a0d7422ef73249f3aa1e14352fa63f913d54cb0d905910f45ea7340ddf018993fe12194fbae6c150382ff5c2f7ba333d30937db827d9006d9c2c3678ae9d4c3c7ddc6aa32d42cba795ea),.inl (dE 58 0x18fbf03034de8b497d57b111c90cab2af95df994ea6d3b3fda9dee7a588a07dba91f277f412a659),.inr (dL 59 0xa2d94ccfaa0bebe6e7fec613ce2c1d4da51103dc3e8ba19287e6a4418d9460e09d0ece16b),.inl (dE 60 0x4f208050cab34b72f773138b61cc1ebc39e0860),.inl (dE 61 0x2cf0304499bf7ea44ef1ef55971482c4732e06954164a8bca94e4),.inl (dE 62 0x534317f79c580e4dcc999d50baf9fce3178998ce6ce5426a76828b6c4045731a52932d49e8315cfc30d524da660),.inl (dE 63 0xa456197bb461c3293bb39725050a3ae844b0ce25561511222d41504f78314d688d0d33e1552c2c9cca8bab244875c68e47fb),.inl (dE 64 0x16f3c2ceb00ed20534eb51f833f40f2f8d904145ab83094d0),.inr (dL 65 0x11ad5a78806b7627755c6efa5c880624238280b8e5650199857dfa7fae747cc60d1dcd0376d7552b941935b79cfa899a8a46e8e36c3356d166a698ad72c00f5103bfac8603b261849c507fb927ed4848dbcd7aad42b25cce547e0aa497638644c07ed927b2b038594968a6fa07029db035f43353a3ce1d0c51334e547726ca4baa224ae57e099a434fd930895ef9d6d0cf2c7941690fb56f74dec514c4d18dd60090747decb5fc31e2932d3d48c99516b1201e4ea7b9377025515a746cfcb37c909c8bb82d8484bd55f22378641a8f14de),.inr (dL 66 0xad5414f2c4a27da06ecb5cace43d2d8825ee7cea4352912d2de9968ade46bada96a78c34fc998f0c1086cf5c8d4676564b24ecc4902db77009a9ec08f1b8f0b40b5248e789f9325c69ff449f1462f7b9c46d75df151b7b49fe3bac2d8800acc202119e00e5772c8ef14de3f435e273b79881c1d51998ce),.inl (dE 67 0x41441a551239d193b3a2acfdd4a8d2706ee09eeddcb59f6b19ecc4232e17437025599a54918e8dcc646b69c9af9201a689963ce3da),.inr (dL 68 0x2f4e108d5cbaddac4e86168d0707da95ce835c02135688bf6cc13d8e133b4e6d9510f147f6fd877),.inl (dE 69 0x26619b0c41371331937baf104224c5bf519fb67d),.inl (dE 70 0xa3d0a2a2b47d2228092273057e8160dece69a8c39e8c5da17fa6a9f782d96a338b0f46dd2fce0ff7edec),.inr (dL 71 0x12cf2f5c9682edb8a76f226f2480d0eeba6aa3c9d32493d0d5ee7d80c9d22dc57366d7b3dc1082b981318cc3233e74a2c9b3e7b574c121d726f1c4eba6a3ea33fdd6a7b0579b4734390f50b17690ee67266f095eceba3d271895fff7b74bd6ac45f02838cc50046b814e30f8de1230a6b6abcb904b674df61bb89121d118b7a390f3),.inl (dE 72 0x8af90fe41843e9e70f1966e0b7045f10f1d48a796de8d47f1b9b3daaba3ef48d8d39c2719f340054dd7a),.inl e73,.inr (dL 74 0x149d51d54ca7e06b9df61d5b59dc084919d6b2c24a591fa8238013c7106d16329dabf3f5d69479cf6f0deedd84bf39201c273edda),.inl (dE 75 0x3ac042bfeb0cf87c20d8a04cf7325adf05a4b7c1fb85d52c21c23fcf951a6901641f1a3c9f2c8f24d132f427fefbcf4bfb91a7b91aff3965f082c5fef4f8d88a26f),.inl (dE 76 0x1de4b325f192565543986afe61324627e35496939d4449927e240480fc56be0796ccf8c530b5f617e8308afb0a556e32e4026f87fb75c0d9ac5b25bbe2b642e1914ac42aeb8fb3a67441bc1b4435ff0751b431ba471c7ff869632382ddf11c7444d27fa8389ef957c952e91ccd33f99076904d70b17bc0a39f7ce06ec3e6a9e6fe2cc879e041e5b871f3bca4eb),.inl (dE 77 0x351bccd486c36059e1e62aceed76d7d918642f05514654101dd678e5cce9776bff451ff6b8b9a42ec033fd0bd08cddb73e72b60b7ad139ccea05bb6ee20f76f757e3613443488081f9226d693836e37ec0772fe4e2b9b84eb7b9f54bb244e793de16baffcb8553cd830a6b6a88485a0eff837517995210601338ea6d879c8efaace1870bf9788249dc26ae5a8e26ba79affc),.inr (dL 78 0xc0a9db8dab86f287da848adb093ff87768cd214b13321eab3fa3daf874db18fe1bdfe9),.inl (dE 79 0x2810c655c1eb3ad3cd00a501ebaceb6a3b342f79614168faf761a6fb1e4975d7f061ef6eedfbb6fe0b91cd6d00ee061fba5c4d1c70a7a),.inl (dE 80 0xe09f6c596af95542f9e9d3e6f4fdfd7870b2265406d250),.inl (dE 81 0xd6c2875683d47e663dddb1308c703fcb9a3919511936c1eb8f1651b664eaa37ef3177),.inl (dE 82 0x12ca9f0ac52297dc2569cc4dd9169f2e9d7e989d7f01975e361ec0bff59673d9e1136b),.inl (dE 83 0x12ca9f0ac52297dc2569cc4dd9169f2e9d7e989d7f01975e361ec0bff598cb18f2c07c),.inl (dE 84 0x6b6143ab41ea3f331eeed89846381fe5cd1c8ca88c9b60f5c78b28db32397fc98b678),.inl (dE 85 0x6c1040e5845a3b4aacc6413a43e78f14b6a1f1a8d68129a2c6903603f9e8e34b1fd466a82a71d7c150fb90dc5db2858e27c28d9),.inl (dE 86 0x28f521f39e200f7bb3b8e2520be16f5710437690f9ddacf28f4eb700f2823c84edab55ab0a352da2545b783ed1460fe39807fa9ce7332f91e8852),.inl (dE 87 0x3a728c3393aab97d193ceb551d420a347e73989ead73967f94c06578874fc6de5eae7ad1c43fda65569c89f47213b637fea00aa9c6f8a97687359256),.inl (dE 88 0x8671191266c30d3072),.inr (dL 89 0x4837bb885aadec43d6d20d6f127036ba6ab204122eb3c47c330978586e4ed28b4204f),.inl (dE 90 0xde69738734ac4f11da2a1260d5fb),.inl (dE 91 0xaaeb7616b2887604bb701ae715f7a6a),.inl (dE 92 0x1976c53172743c19a24669ef78f78957e010e68c6468b30aedd7de27a4b4ecfd8050a362a5ff1b4397583015f4140527f43d90cd7138bb7d0052dcb56debbd0ed7a275),.inl (dE 93 0x87fb300abbd5950f9ef9716e4235c6e9a42b2d91c1fc95ddb239f00b7b189a76823c4e58435178c0702037b293e1050138e7a2fc755128307b0092ce10b0829ed7),.inl (dE 94 0x1697c9076508b869a1345935cfd9653d07c2fc28fa11899bc3dc48734e26c98819aa42f8b7f3b7c5cc8863146a60df5183217352e83b03ec033e3b209ea6df4f893ed1dca91fa),.inl (dE 95 0x1e94cfb4695a9a60e254063103a077ca59d7e8417dc29add79655c5ae24e6034da42f5548c4749bcd3d7a23c63388ba25b0c35f61931031c8d54e8aea070c90d7d86c6b68462b8725ac2de28e5d41153963e4c34f8968c37fc99ab620f85ea680ccc82fe41b0b975efe731c7dc832ffbd8dce9cc820530581a487ef),.inl (dE 96 0x48f13a4151679e25b285a9c2bbc989883b1756f3833f899cc05b22ea15064e3b4bb03992b8f2),.inl (dE 97 0xb18eb2fa6f3035df8bc7af980093269abae9dcc53db5ace3c9a8b1b53342f9d6725a0cab727c521adcf87858c9d76cbb0a5640a25c88a1eae66a0960bec7e8441c8ae12bc08f8e096cee810339624c748e250d8c8ce26bf2a6e82456931a872b1aa41ce22c27829f2ca1192fac79d9e3f8712ab5108f457ba215365ed351f2),.inl (dE 98 0x4bf830d6c78b9523b969b15304577c467e8d8f18db193eea0a631167cb5fa59cb9584559a0b3faca11a29aacb0f42449b73dcd7f99006871377d6483a5b879d996b259d0afad28603bddd2573f8a6c9c1d725911399bbc84107d331b16941db9b7031dfe688ed9e9970c06cdde86ab394a66),.inl (dE 99 0xa35cc68fffbedd4),.inl (dE 100 0x1d6778683a35995f47b9cf042912a372ac846a95cbf1d4ce),.inl (dE 101 0x3e0e910da1c4e2afbb9866201e5fbf1bae8e90974c6f3235fa8724676cbcf589647b52f3edb165df406ce7d67a0b1579f80b0ce2e17caa3400de532c26893468ba9b569de6157df4),.inl (dE 102 0x600249f57b160efe9199ab3584f8259498119d6783930a47aa90344b8078be921f63ed052ed90a4f377cd3b1a9d89261ca8cbefe86d5),.inl (dE 103 0x2ff144ae26a6141169a147cb4e05665bc8a09fba763316bad90ab26f8d9658f50b555),.inl (dE 104 0xbce0e7f5709d77cfda5d4e79bcce53dba8d1404d21e4f2e1baa106810da80ee700cbcaeb6873e48b92f3a599a60dfdede89d911684e81ddee9e43f168b7e53df90794e0258b27fda9764964af533d1351f4),.inl (dE 105 0x6d15ad5f56565a33777a11cc1dd9146e1c4d77507367102d2c97ef0578d07648453474f0b0ab530dee15243405632e87b4de156e2b805f44bb06546fa6a33b652f38b1a407c6c8ed6a7312a9a9b7b827b36d80c453),.inl (dE 106 0x1ab36fe1d6888221c342680bbb39e140a7ee329fb16a13aa6b586917df3baf39992f6333e85d6b5005ea1d8afca71eb313a3d46ff4bc3266fd81fa765df09cc6bd16ddbb8cf04f573d7),.inr (dL 107 0xad99a935f83a4b4d49939344f25d525a3c25c5192aa9cfc4c7c720148640c8decab0a98022e526fd5b3494ee6212272b606846de07cd068c96000b30e47f6f74261e8d6cfd031f108ca8d71d24face642f9f049db18287cb1d94c54074a3d523e863997a3e4b5af773287c7ec18cd9769ffca64),.inr (dL 108 0x6d3ae91f3fa15a59ce740a831875e4f5cd926052d4ab41242727451e94bf1beef94c3eb169521f825181835ca9b875877f3fbb64ed740f7f5ceacbf54007c5671ddb4577f597707f9e4dffa621773c1bd3f62bd0922cab790a9423f26f3be9607768350fa959d93b8e54496ff3),.inl (dE 109 0x747789fa12dd575e89d23e4d5d3e51db8b000b466fe16f7304a554c0184eadbd16142260212a5b5fd67fb53a10cd),.inl (dE 110 0x4aad90b17e0fe4b9338c73fc3494bef73e039e69167401905cfb849259f041881ffc0aa0eec92cd7ccf4cea8e834f17a4fb694741c4c08be80e7bb1b59a3ca6c0f90f8c17af161cb413b34a),.inl (dE 111 0xf8cfcf2434d80ee5528b8f64),.inl (dE 112 0x72d9da0cbe8b5fc02ce91b78f2977ffb30a9cbdaa2ec53e76c130681a2a8fa21417f00081ee6e5cddb41aa72b2f6a952ef),.inr (dL 113 0x43028a9529bada6ba9eec6b83f7ed1fd0da3aabd3e1a075b4b4472dd87238e8cb3e2b4557f5c3c6d0c825b1a8d233be7d67a0884619d1518b55dbfa5de3b7960ff202ff5934031d428871abfd9de53dc737142ab1222dcca49f70172fce1ac4b7b27038336573607447e209a71b443273453141593771629ea1802903304dc70cadd7a7a4f374d74d20d31fd42870f51e6ad0882504cc0feb3f76ec3d7b314905a359ed00eda1dea676fd981e084f73a7b00f53ef504e1fd7323c5b1c7414ba2),.inr (dL 114 0xb7840c45a8bd970ee50a7639ebc25f3a17db14b4815284dd4de9d2c58db1efafb7a7d0c82ff4168f192ef),.inl (dE 115 0x307fcf48fee2c4b319409f1137db77831030c332f0782466fe1e2bb70a880c03b8dab33e1455428e70c545e),.inl (dE 116 0x297f7fa0df6daddede737e168d106aa43b7f95ed79e452f3b6b74474e07d7f35c5a1d75f10894c1508c59260fe11f60cf292028f5e),.inl (dE 117 0x73042390d3613a34ecc00cdd4ed89a4de1131ab2b35150b811d30cce2b9c78af43ee65713b7c54aaecbdfd5cd83eb2c4fa5f4d371115d5b9c130a2438af98559c6f31986ed1),.inl (dE 118 0x10ed4bee48b98a31375d94c78ec64cd2),.inl (dE 119 0x14a46df93bb037577f52b3356769f11f718fbe2047cc2e1b5c6c976f63885fb252ebc85545a430008bb63468329fca26848ebe016d080e7b92fcb4323ac48b7c8e642),.inl (dE 120 0x1d2bfee2db61e5a),.inl (dE 121 0x7c4f3050288dd828c09bb53),.inr (dL 122 0x1d6e7e9ac3a0a79e89b0f7cff4a14eb62d9d56ac7fa54ebc6f93c0459),.inl (dE 123 0x12689be4adac0240b97a561881d7),.inl (dE 124 0x8662099ddbf06a47dcf8bf200436a43c14fa19a01aa663371225289aec67c5889ce52),.inr (dL 125 0x1c8860f183d93251a125a9acad3a532ad10a012cdb982b5d7a0f13b5fd032bb79aff2),.inl (dE 126 0x2448be0d35693b840878e145be7d3abb714d34d),.inr (dL 127 0x5aff59c6f04bb6d212e34a360ecdb155e420d86ffa6c926703d72134d681e6d),.inl (dE 128 0x3cc0886f9cc8f14011c549cc93bfedde78de),.inr (dL 129 0xb7f2974746ac179edc920cd3b8f02bf29d175db61dc92c19b95b724da),.inl (dE 130 0x730dce553d730e14873c9a19a75b),.inr (dL 131 0xe7b6947553eaeb7a8290c5a2edc22500269da5045a15ad12977bf73c9df013e91d12d83ef8f8ab0e894bc7cd350),.inl (dE 132 0x269c34b609bd8002a633f8168e1eef56ca0838bf6c61fc5e3dda),.inr (dL 133 0x32be55f9e8764eaf0576be72116721e1f6700543d4a4ebd5abb80b41369c3e607e1a41c055ff8ac4e78a4ff58757cbfbd40490fc39693192dc7442c5a2e82822b8fc86b9117f7f57339958),.inl (dE 134 0x14a2a8eeccf4616f3ffb6dc2da50ac4c8dfec32d8eaf79548f09283bcfadfe64989907dd01641704d557e72bdac8286454ad037b87f),.inr (dL 135 0x29994d9cc59ef47d4a76885339f7a134e750ac7997825417b102a312d9e945a),.inl (dE 136 0x1bc5bab6ae12b76dc2b2c98b65098ad960e3),.inl ajU]
section
open RowKit
def lT:Way->List Nat->List Nat|.ite _ a b,r=>lT a (lT b r)|.aW _ a,r=>lT a r|.call k _ _ _ a b,r=>(match(lT a (lT b r)).any (ae k)with|I=>lT a (lT b r)|Z=>k::lT a (lT b r))|_,r=>r
section
variable(P:aw)(nh:List (Nat×Nat×Nat))(eH:List Dl)(rt:List ag)(es:List (sR⊕lk))
def WB(l:List Nat):List sR:=l.filterMap λ(k:Nat)=>match es[k]? with|O (.inl e)=>O e|_=>G
def WC(l:List Nat):List lk:=l.filterMap λ(k:Nat)=>match es[k]? with|O (.inr e)=>O e|_=>G
def j7(k:Nat):Bool:=match qR.get k,es[k]? with|O F,O x=>(lT F.jL []).all (λj=>aF (j+1) k)&&(match x with|.inl e=>rN P ⟨nh,WB es (lT F.jL []),eH,O5 k F,WC es (lT F.jL []),rt⟩ [] [] 20000 e|.inr e=>tw P ⟨nh,WB es (lT F.jL []),eH,O5 k F,WC es (lT F.jL []),rt⟩ [] [] (.f (uA k 91) (match e.s.x.pc with|(.f _ A,_)::_=>A|_=>[])) 20000 e)|_,_=>Z
def VM(k:Nat):Prop:=match es[k]? with|O (.inl e)=>EC P e|O (.inr e)=>Le P e|G=>True
variable{P nh eH rt es}
theorem Gl:∀{l:List Nat},(∀j∈l,VM P es j)->xA P (WB es l)|[],_=>trivial|k::l,h=>by have a:=Gl (l:=l) λj d=>h j (.tail _ d);have b:=h k (.head _);unfold VM at b;unfold WB;rw[List.filterMap_cons];cases c:es[k]? with|none=>exact a|some x=>cases x with|inl e=>rw[c]at b;exact⟨b,a⟩|inr e=>exact a
theorem Gm:∀{l:List Nat},(∀j∈l,VM P es j)->rO P (WC es l)|[],_=>trivial|k::l,h=>by have a:=Gm (l:=l) λj d=>h j (.tail _ d);have b:=h k (.head _);unfold VM at b;unfold WC;rw[List.filterMap_cons];cases c:es[k]? with|none=>exact a|some x=>cases x with|inr e=>rw[c]at b;exact⟨b,a⟩|inl e=>exact a
theorem agK(B:KA P nh eH){k:Nat}(h:j7 P nh eH rt es k=I)(d:∀j,j<k->VM P es j):VM P es k:=by unfold j7 at h;unfold VM;split at h;(·rename_i F x c f;rw[f];have b:=Bool.and_eq_true_iff.1 h;have a:∀j∈lT F.jL [],VM P es j:=λj a=>d j (bz (cm.1 b.1 j a));cases x with|inl e=>exact ZE B c (Gl a) (Gm a) b.2|inr e=>exact amZ B c (Gl a) (Gm a) b.2);·cases h
theorem cS(B:KA P nh eH){a:Nat}(n:Nat)(h:(bX a n).all (j7 P nh eH rt es)=I)(c:∀j,j<a->VM P es j):∀j,j<a+n->VM P es j:=by intro j;induction j using Nat.strongRecOn with|ind j e=>intro d;rcases eu j a with b|b;exact c j b;exact agK B (cm.1 h j (List.mem_range'_1.2 ⟨b,d⟩)) λi f=>e i f (by omega)
theorem agL{a:Nat}(h:VM P es a)(b:∀j,j<a->VM P es j):∀j,j<a+1->VM P es j:=λj c=>by rcases Nat.lt_or_eq_of_le (Nat.le_of_lt_succ c)with d|rfl;exact b j d;exact h
end
end
section
open RowKit
namespace Hd
def h0:sR:=dH 0x2a2420a16c550e718e53875c3395e19b689ad9e3da6ae8f55e72eeeccf028bb500566ae407ba90ca7a7abfee47c7de29c1825690e1e1cf7089bd916293d93b1d939aaf87dea2700cad92f28711c7ebd8383c45bf95655ba87a
def h1:sR:=dH 0x23dc096b2e299feb0681cc620746d83ab5581730ee3c54a22284a9a53fcd10a3f35f39b1b9640514051d45c589047c0ab47c8ce6bb99c7a9e8cf20110bce911fad7c758593c6336bc8157b3c0702d912e307dd66c96dd0c80aecedb20ac05a92d3f14ef9bd93771ce7e7ebdbe0af9a9828f1f2987d71f66c0fe4c855102b34620eacea0695c87ae2495bc2b8bde07a63cd5e732e444589c3071f63bb3315d46925f56888f410bd35631bb09fe94ded98a3af1cfbc54ce51ddeede2d54fe8996c9ddfd70f0065ecff485e143237fc4c19e8ee684bec9a8d8a60ec13368c8073408d5479958e80c6dbc4a2e2ed3dde1f0fba1534b2ee777ca331c8dca168fb875b3f2fff6c87afffea1601e6a548fd354f63d23b7d4611db0cc864ae54a7608481045c03fad425f7351d292b51e8b1fc900ca65c7951acae713af5a8b2769dbfabea18e8a306ba131bb76755fd6e7715eaf7cb020a569141ab14d089cf6d76
def h2:sR:=dH 0x1cf73e52c90c5515c23a5f979f635441bd413a5b75e0e5c864d83ca6784be1c5a2bcf258dc77e36dcff1778c6ad7313ad63f3a30da1e4fa3a3adb4b929d14a3cbd8a1504643a27d71ccf35e1cd422e70bee44650c1d53574dcd24000e0727702bd2ac7bef99dfbd4adaff46c03308f9ebbb2f3ffc5a15718c24086099396cf362210c4b7146fd6fa1359e0cda3246db00dc582a4d7089853942f3609a588a9a3838020270994d121e8d6f65485b0565860119c7da1d707fa74e17ae2910909c6a724214617f68493a6fe01bc91f750b178a4690d6fd79e2128c37391f27600edc8adbffca05e7f2347179d03174d6d968f5ed35b6c5246f2db55e8e1cdc050ba4c28d4632c561b0db3a1bea588c5606ca6c83d7d92aa01d77cf6ac2dcda7b426189c6c1fd09e9cfd74361f97beb153eb68683f1246461a7ad2f20685a88952c138e1052de2ede25fa3819dcf6bf7887ef7f72c07d96a40e6f37f710b29ac48c50f97801700f1ddd21e10ead898c6dcbe880de877c97185cab190a70196f25c81d527ec2d7652616d2881bc4e3cdaba4ebace8c37b77d
def h3:sR:=dH 0x22e4c454c55c46fa0f815b33d392fb1d6a3db2f025d3e5a6952288c6e19f2acf45020d24b2d3f46ec9b4d1189a89b8f66eeaa4add726cdeeb5b639ec8490d026a574db0a039cfe82cb4e61a26c0377fcbe71e6c34b6c537877fe17eb24a0b12779958475d261b80d0c3a10995a3d48a7d83129f92044a779e26a5933916b25e1b641ab40fb238c34b48b9414a949d5e585ce8d8c53f7682dcddf51488ca7c446676f886c556eae511b44fe545c9ba3b66491ca10c6dc77970a77601323ea57f423e8e4afa974fbd031a9325b1c20572eca7d6afc561e681ddc83f3ff8b8757f2da8e5d209fc2ebbceca5156b45698e8d31d61d90a8a10ec00180de42123a99a1c1220041dd976482dd58733ba56071a8b636edf32831805d8a89e464fa6300dd9f6b5eec221330ccf4b68496e4
theorem c0:rN Tryz.prog ⟨[],[],[],[],[],[]⟩ [] [] 20000 h0=I:=by kernel_rfl
theorem c1:rN Tryz.prog ⟨[],[h0],[],[],[],[]⟩ [] [] 20000 h1=I:=by kernel_rfl
theorem c2:rN Tryz.prog ⟨[],[h0,h1],[],[],[],[]⟩ [] [] 20000 h2=I:=by kernel_rfl
theorem c3:rN Tryz.prog ⟨[],[h0,h1,h2],[],[],[],[]⟩ [] [] 20000 h3=I:=by kernel_rfl
theorem c:N_ Tryz.prog ⟨[],[h0,h1,h2,h3],[],[],[],[]⟩ 20000 ⟨6,[],[],.bool I⟩=I:=by kernel_rfl
end Hd
open Hd
theorem akq(i:oL)(e: Tryz.prog.follows .mixedOrders=I)(f:mU Tryz.prog=I):Bw Tryz.prog eH:=by have B:KA Tryz.prog [] []:=⟨i,e,f,Mt,λ_ h=>by cases h⟩;have a:EC Tryz.prog h0:=X9 B tD iD iD (tab:=[]) (lt:=[]) trivial trivial c0;have b:EC Tryz.prog h1:=X9 B tD iD iD (tab:=[h0]) (lt:=[]) ⟨a,trivial⟩ trivial c1;have d:EC Tryz.prog h2:=X9 B tD iD iD (tab:=[h0,h1]) (lt:=[]) ⟨a,b,trivial⟩ trivial c2;have g:EC Tryz.prog h3:=X9 B tD iD iD (tab:=[h0,h1,h2]) (lt:=[]) ⟨a,b,d,trivial⟩ trivial c3;exact OD (U:=0) e f (B.pr (tab:=[h0,h1,h2,h3]) (lt:=[]) ⟨a,b,d,g,trivial⟩ trivial iD 0) c (λ_ h=>by cases h)
end
end Go.Proofs.YtinknfobdleeeaaGreat
