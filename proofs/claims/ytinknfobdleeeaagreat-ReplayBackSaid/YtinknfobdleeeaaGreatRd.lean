/- Part of the proof of a law: no condition. -/
import Derived.Test.YtinknfobdleeeaaGreatRc
import Derived.Laws.Externs
import GoSem.Extern.Table
import Derived.OpenShut
import Derived.LaidMore
import GoSem.ClaimJoined
import Derived.FnData
import Derived.MakeChecks
import Derived.Test.YtinknfobdleeeaaGreatRb
import Derived.Test.YtinknfobdleeeaaGreatRa
set_option linter.all false
open Nat renaming eq_of_beq_eq_true→an,beq→ae,le_of_ble_eq_true→bz,le_refl→ba,ble_eq_true_of_le→fe,le_trans→dU,one_mul→fG,lt_or_ge→eu,add_zero→pB,mul_le_mul_right→cV,add_mul→df,zero_le→dy,zero_add→ew,ble→aF,lt_of_lt_of_le→jU,ne_of_beq_eq_false→fQ
open Bool renaming and_eq_true→ay,or_eq_true→bW
open List renaming mem_cons_of_mem→aS,mem_cons_self→aU,mem_singleton→aR,mem_cons→aO,mem_map→cA,length_take→bD,length_drop→dZ,getElem?_drop→fw,getElem?_take→eT,length_eq_zero_iff→jv,all_eq_true→cm,mem_append→dx,mem_append_left→jw,mem_append_right→i6,getElem?_eq_getElem→aZ,getElem?_map→dg,take_append_drop→kJ,length_map→fR,append_assoc→i7,append_nil→i_,mem_of_getElem?→bE,length_cons→ij,mem_reverse→D7,getElem?_eq_some_iff→cj,range'→bX,cons_append→fU,nil_append→fT
open Option renaming isSome_iff_exists→fu,bind_eq_some_iff→kI,map_eq_some_iff→bZ
open Option.some renaming injEq→aG,inj→bB
open Int renaming eq_ofNat_of_zero_le→gR,le_trans→pb,ofNat→cq,natCast_nonneg→bO,toNat_natCast→ei,le_refl→ft
open Array renaming getElem?_eq_some_iff→ef,getElem?_toList→fI,getD_eq_getD_getElem?→wB
open Go renaming Value→aa,TypeId→ag,World→aj,Program→aw,IntKind→bu,MapEntry→bQ,Operand→fh,Oper→aY,Ending→tf,Func→D2
namespace Go.Proofs.YtinknfobdleeeaaGreat
set_option maxRecDepth 100000
open Option renaming some→O,none→G
open Bool renaming true→I,false→Z
section
open RowKit
variable{a b:bF}{A:en}{lg:List Nat}{j n0:Nat}{ν:Nm}{o p:Out}{P:aw}{s:St}{w w0:aj}
theorem tP:∀{a b:List UInt8},iW a b=I->a=b|[],[],_=>rfl|[],_::_,h=>by cases h|_::_,[],h=>by cases h|a::x,b::y,h=>by unfold iW at h;split at h;rename_i c;rw[tP h,UInt8.toNat_inj.1 (an c)];cases h
theorem agq{a b:OL}(h:aiT a b=I):a=b:=by cases a<;>cases b<;>simp only[aiT]at h<;>first|rw[an h]|cases h
mutual
theorem vb:∀{a b:AV},ux a b=I->a=b|.bool a,b,h=>by (cases b<;>simp only[ux]at h<;>try(cases h;done));rw[eq_of_beq h]|.int k a,b,h=>by (cases b<;>simp only[ux,ay]at h<;>try(cases h;done));rw[iw h.1,h_ h.2]|.str a,b,h=>by (cases b<;>simp only[ux]at h<;>try(cases h;done));rw[tP h]|.kv,b,h=>(by cases b<;>simp only[ux]at h<;>first|rfl|cases h)|.ptr i n,b,h=>by (cases b<;>simp only[ux,ay]at h<;>try(cases h;done));rw[an h.1,an h.2]|.cQ,b,h=>(by cases b<;>simp only[ux]at h<;>first|rfl|cases h)|.slice i n l c,b,h=>by (cases b<;>simp only[ux,ay]at h<;>try(cases h;done));grind[an,vx]|.lf,b,h=>(by cases b<;>simp only[ux]at h<;>first|rfl|cases h)|.map i,b,h=>by (cases b<;>simp only[ux]at h<;>try(cases h;done));rw[an h]|.func f a c,b,h=>by (cases b<;>simp only[ux,ay]at h<;>try(cases h;done));rw[agq h.1.1,mV h.1.2,mV h.2]|.iq,b,h=>(by cases b<;>simp only[ux]at h<;>first|rfl|cases h)|.iface t a,b,h=>by (cases b<;>simp only[ux,ay]at h<;>try(cases h;done));rw[an h.1,vb h.2]|.gP,b,h=>(by cases b<;>simp only[ux]at h<;>first|rfl|cases h)|.agg a,b,h=>by (cases b<;>simp only[ux]at h<;>try(cases h;done));rw[mV h]|.il a,b,h=>by (cases b<;>simp only[ux]at h<;>try(cases h;done));rw[mV h]|.ext i,b,h=>by (cases b<;>simp only[ux]at h<;>try(cases h;done));rw[an h]|.mw i n,b,h=>by (cases b<;>simp only[ux,ay]at h<;>try(cases h;done));rw[an h.1,an h.2]|.sym k t,b,h=>by (cases b<;>simp only[ux,ay]at h<;>try(cases h;done));rw[iw h.1,bj h.2]|.iI t,b,h=>by (cases b<;>simp only[ux]at h<;>try(cases h;done));rw[bj h]|.tail i x y l c m,b,h=>by (cases b<;>simp only[ux,ay]at h<;>try(cases h;done));simp_all|.iJ t,b,h=>by (cases b<;>simp only[ux]at h<;>try(cases h;done));rw[bj h]|.deep e t,b,h=>by (cases b<;>simp only[ux,ay]at h<;>try(cases h;done));rw[an h.1,bj h.2]|.mn e z t i o,b,h=>by (cases b<;>simp only[ux,ay]at h<;>try(cases h;done));rw[an h.1.1.1.1,an h.1.1.1.2,bj h.1.1.2,bj h.1.2,an h.2]|.bK i t c,b,h=>by (cases b<;>simp only[ux,ay]at h<;>try(cases h;done));rw[an h.1.1,bj h.1.2,vx h.2]|.jM i e z t o,b,h=>by (cases b<;>simp only[ux,ay]at h<;>try(cases h;done));rw[an h.1.1.1.1,an h.1.1.1.2,an h.1.1.2,bj h.1.2,an h.2]|.gZ i e z t u c,b,h=>by (cases b<;>simp only[ux,ay]at h<;>try(cases h;done));rw[an h.1.1.1.1.1,an h.1.1.1.1.2,an h.1.1.1.2,bj h.1.1.2,bj h.1.2,vx h.2]
theorem mV:∀{a b:List AV},zB a b=I->a=b|[],b,h=>by grind[zB]|a::l,b,h=>by cases b<;>simp only[zB]at h;cases h;split at h;rename_i ha;rw[vb ha,mV h];cases h
end
theorem W7:∀{a b:List (AV×AV×Nat)},aeL a b=I->a=b|[],[],_=>rfl|[],_::_,h=>by cases h|_::_,[],h=>by cases h|(a,b,c)::l,(x,y,z)::m,h=>by unfold aeL at h;split at h;rename_i d;simp only[ay]at d;rw[vb d.1.1,vb d.1.2,an d.2,W7 h];cases h
theorem n_:∀{a b:List Nat},Bf a b=I->a=b|[],[],_=>rfl|[],_::_,h=>by cases h|_::_,[],h=>by cases h|a::l,b::m,h=>by unfold Bf at h;split at h;rename_i c;rw[an c,n_ h];cases h
theorem D3{a b:Option Nat}(h:XK a b=I):a=b:=by cases a<;>cases b<;>simp only[XK]at h<;>first|rfl|simp_all|cases h
theorem Ag{c:Type}{f:c->c->Bool}(d:∀a b,f a b=I->a=b):∀{x y:Tr c},O0 f x y=I->x=y|.e,.e,_=>rfl|.e,.n ..,h=>by cases h|.n ..,.e,h=>by cases h|.n l v r,.n m w s,h=>by simp[O0]at h;have⟨⟨g,k⟩,j⟩:=h;(have i:v=w:=by cases v<;>cases w<;>simp only at g<;>first|rfl|grind|cases g);rw[i,Ag d k,Ag d j]
theorem wz:∀{a b:List Bool},SI a b=I->a=b|[],[],_=>rfl|[],_::_,h=>by cases h|I::_,[],h=>by cases h|Z::_,[],h=>by cases h|I::l,I::m,h=>by rw[wz (a:=l) (b:=m) h]|Z::l,Z::m,h=>by rw[wz (a:=l) (b:=m) h]|I::_,Z::_,h=>by cases h|Z::_,I::_,h=>by cases h
theorem Gb(h:Px a b=I):a=b:=by unfold Px at h;split at h;simp only[ay]at h;rw[an h.1.1,D3 h.1.2,mV h.2];simp only[ay]at h;rw[an h.1,W7 h.2];simp only[ay]at h;rw[D3 h.1.1.1,an h.1.1.2,an h.1.2,n_ h.2];rfl;simp only[ay]at h;rw[bj h.1.1,an h.1.2,D3 h.2];simp only[ay]at h;rw[bj h.1.1.1.1,an h.1.1.1.2,D3 h.1.1.2,bj h.1.2,mV h.2];simp only[ay]at h;rw[an h.1.1.1.1.1,an h.1.1.1.1.2,bj h.1.1.1.2,bj h.1.1.2,bj h.1.2,bj h.2];simp only[ay]at h;rw[an h.1.1,bj h.1.2,bj h.2];simp only[ay]at h;have⟨d,e⟩:=h;(have:∀{p q:Option (Tm×Nat)},(match p,q with|G,G=>I|O (x,m),O (y,n)=>dF x y&&ae m n|_,_=>Z)=I->p=q:=by intro p q c;split at c;rfl;rw[ay]at c;rw[bj c.1,an c.2];cases c);rw[an d.1.1,an d.1.2,bj d.2,this e];simp only[ay]at h;rw[Ag (λ_ _=>vb) h.1.1.1.1.1,an h.1.1.1.1.2,n_ h.1.1.1.2,an h.1.1.2,an h.1.2,wz h.2];cases h
theorem D4:∀{a b:List (Tm×Bool)},XJ a b=I->a=b|[],[],_=>rfl|[],_::_,h=>by cases h|_::_,[],h=>by cases h|(a,x)::l,(b,y)::m,h=>by unfold XJ at h;split at h;rename_i ha;simp only[ay]at ha;rw[bj ha.1,eq_of_beq ha.2,D4 h];cases h
theorem UT(h:NF o p=I):o.e=p.e/\o.v=p.v/\o.T=p.T/\o.M=p.M/\o.s.h=p.s.h/\o.s.x.pc=p.s.x.pc:=by unfold NF at h;split at h;grind[vb,Ag,n_,Gb,D4];cases h
def qn(p o:Out):Prop:=p.e=o.e/\p.v=o.v/\p.T=o.T/\p.M=o.M/\p.s.h=o.s.h/\o.s.n<=p.s.n/\p.s.x.pc=o.s.x.pc/\∀x∈o.s.log,x∈p.s.log
theorem qn.self(o:Out):qn o o:=⟨rfl,rfl,rfl,rfl,rfl,ba _,rfl,λ_ h=>h⟩
theorem qn.trans{a b c:Out}(h:qn a b)(k:qn b c):qn a c:=by have⟨v,u,t,s,r,q,p,o⟩:=h;have⟨m,l,j,i,g,f,e,d⟩:=k;exact⟨v.trans m,u.trans l,t.trans j,s.trans i,r.trans g,dU f q,p.trans e,λx n=>o x (d x n)⟩
theorem W8(a b:Nat):a<=SJ a b/\b<=SJ a b:=by unfold SJ;split;rename_i h;exact⟨bz h,ba _⟩;grind[fe]
theorem CY(o:Out):∀(l:List Out),(∃p∈Bl o l,qn p o)/\∀q∈l,∃p∈Bl o l,qn p q|[]=>⟨⟨o,aR.2 rfl,.self o⟩,λq a=>by simp at a⟩|p::r=>by unfold Bl;split;rename_i f;have⟨u,t,m,k,j,i⟩:=UT f;have⟨d,c⟩:=W8 o.s.n p.s.n;(have v:qn {p with s:={p.s with n:=SJ o.s.n p.s.n,log:=match Bf o.s.log p.s.log with|I=>p.s.log|Z=>o.s.log++p.s.log}} p:=by refine⟨rfl,rfl,rfl,rfl,rfl,c,rfl,λx e=> ?_⟩;grind);refine⟨⟨_,aU ..,u.symm,t.symm,m.symm,k.symm,j.symm,d,i.symm,λx e=> ?_⟩,λq a=> ?_⟩;grind[n_];rcases aO.1 a with rfl|a;grind;exact⟨q,aS _ a,.self q⟩;have⟨⟨b,h,g⟩,w⟩:=CY o r;refine⟨⟨b,aS _ h,g⟩,λq a=> ?_⟩;rcases aO.1 a with rfl|a;exact⟨q,aU ..,.self q⟩;simp_all
theorem G6:∀{l:List Out},∀o∈l,∃p∈VZ l,qn p o|[],o,c=>by simp at c|[a],o,c=>⟨o,c,.self o⟩|a::b::l,o,c=>by have d:=G6 (l:=b::l);have⟨j,i⟩:=CY a (VZ (b::l));show∃p∈Bl a _,qn p o;rcases aO.1 c with rfl|c;exact j;have⟨q,e,h⟩:=d o c;have⟨p,f,g⟩:=i q e;exact⟨p,f,g.trans h⟩
theorem aL.more(h:aL P w0 A ν s w)(c:∀x∈s.log,x∈lg):aL P w0 A ν ⟨s.h,s.n,lg,s.x⟩ w:=⟨h.pos,h.dz,h.top,h.fX,h.inj,h.ext,h.xb,λi o d a=>h.same i o d λb=>a (c i b),h.sT,h.nv,h.own,h.ctx,h.mu,h.lq,h.nU,h.kR,h.kS⟩
theorem aL.swap(h:aL P w0 A ν s w){x:Ctx}(a:zS ν x w0):aL P w0 A ν ⟨s.h,s.n,s.log,x⟩ w:=⟨h.pos,h.dz,h.top,h.fX,h.inj,h.ext,h.xb,h.same,h.sT,h.nv,h.own,a,h.mu,h.lq,h.nU,h.kR,h.kS⟩
theorem aL.later(h:aL P w0 A ν s w){n':Nat}(b:s.n<=n'):aL P w0 A ν ⟨s.h,n',s.log,s.x⟩ w:=⟨h.pos,h.dz,λi a=>h.top i (dU b a),h.fX,h.inj,h.ext,h.xb,h.same,h.sT,h.nv,h.own,h.ctx,h.mu,h.lq,h.nU,λi a=>h.kR i (dU b a),λi a=>h.kS i (dU b a)⟩
theorem aL.abU(h:aL P w0 A ν s w)(m:∀i o,A.h.get i=O o->i<n0){c:Tr bF}(b:∀j o,c.get j=O o->s.h.get j=O o)(u:∀j,j<n0->c.get j=s.h.get j)(p:∀x∈s.log,x<n0->x∈lg):aL P w0 A ν ⟨c,s.n,lg,s.x⟩ w:=
 ⟨h.pos,h.dz,h.top,λi o a=>h.fX i o (b i o a),λi j o d a l=>h.inj i j o d (b i o a) (b j d l),h.ext,h.xb,λi o a f=>by
  have⟨⟨q,t⟩,r⟩:=h.same i o a λk=>f (p i k (m i o a))
  simp_all,h.sT,h.nv,λi o a=>h.own i o (b i o a),h.ctx,λg ob e=>⟨(h.mu g ob e).1,λi o a=>(h.mu g ob e).2 i o (b i o a)⟩,h.lq,h.nU,h.kR,h.kS⟩
theorem aL.old(h:aL P w0 A ν s w):∀i o,A.h.get i=O o->i<s.n:=λi o c=>by have⟨g,d⟩:=h.xb i o c;have:=h.ext _ _ d;rcases eu i s.n with a|b;exact a;rw[h.top i b]at this;cases this
theorem qG(n0:Nat):∀(l acc:List Nat),(∀x∈l,x<n0->x∈zP n0 l acc)/\∀x∈acc,x∈zP n0 l acc|[],acc=>⟨λx a=>by simp at a,λx a=>a⟩|i::l,acc=>by unfold zP;split;have⟨c,b⟩:=qG n0 l (i::acc);simp_all;rename_i d;have⟨c,b⟩:=qG n0 l acc;grind[fe,an]
theorem vK(m:Tr Unit):∀(k i:Nat)(h:Tr bF),(∀j o,(xW m k i h).get j=O o->h.get j=O o)/\∀j,j<i->(xW m k i h).get j=h.get j|0,_,_=>⟨λ_ _ h=>h,λ_ _=>rfl⟩|k+1,i,h=>by unfold xW;(have f:∀(e:Tr bF),(∀j o,e.get j=O o->h.get j=O o)->(∀j,j<i->e.get j=h.get j)->(∀j o,(xW m k (i+1) e).get j=O o->h.get j=O o)/\∀j,j<i->(xW m k (i+1) e).get j=h.get j:=λe a b=>by have⟨c,d⟩:=vK m k (i+1) e;grind);split;exact f h (λ_ _ h=>h) λ_ _=>rfl;split;refine f _ (λj o g=> ?_) λj g=> ?_;rw[Tr.bJ]at g;simp_all;rw[Tr.bJ,if_neg (by omega)];exact f h (λ_ _ h=>h) λ_ _=>rfl
theorem pw:∀{a b:List (Nat×List AV)},Kn a b=I->a=b|[],[],_=>rfl|[],_::_,h=>by cases h|_::_,[],h=>by cases h|(a,x)::l,(b,y)::m,h=>by unfold Kn at h;split at h;rename_i c;simp only[ay]at c;rw[an c.1,mV c.2,pw h];cases h
mutual
theorem ja(f f':Nat->Option Nat)(x:Nat->Option ah)(u:Int)(z:Nat->Option Obj)(q q':Nat->Option aa):∀t,ai ⟨f,x,u,z,q⟩ t=ai ⟨f',x,u,z,q'⟩ t|.c _=>rfl|.x _=>rfl|.bin o k a b=>by simp[ai];rw[ja f f' x u z q q' a,ja f f' x u z q q' b]|.conv k a=>by simp[ai];rw[ja f f' x u z q q' a]|.f o l=>by simp[ai];rw[W9 f f' x u z q q' l]
theorem W9(f f':Nat->Option Nat)(x:Nat->Option ah)(u:Int)(z:Nat->Option Obj)(q q':Nat->Option aa):∀l,bA ⟨f,x,u,z,q⟩ l=bA ⟨f',x,u,z,q'⟩ l|[]=>rfl|t::l=>by simp[bA];rw[ja f f' x u z q q' t,W9 f f' x u z q q' l]
end
section
variable{σ:Nat->Option Nat}{f f':Nat->Option Nat}{x:Nat->Option ah}{u:Int}{z:Nat->Option Obj}{q q':Nat->Option aa}
theorem dp{i:Nat}(h:Kd σ j i=I):σ j=O i:=by grind[Kd,an]
theorem BZ(a:∀j i,σ j=O i->f' j=f i/\q' j=q i){c d:zj}(h:xq σ c d=I):cX ⟨f',x,u,z,q'⟩ c=cX ⟨f,x,u,z,q⟩ d:=by (cases c<;>cases d<;>simp only[xq,ay]at h<;>try(cases h;done));rw[an h];rfl;grind[cX,dp,an]
theorem agr(a:∀j i,σ j=O i->f' j=f i/\q' j=q i){c d:OL}(h:XM σ c d=I):lM ⟨f',x,u,z,q'⟩ c=lM ⟨f,x,u,z,q⟩ d:=by (cases c<;>cases d<;>simp only[XM]at h<;>try(cases h;done));rw[an h];rfl;grind[lM,dp]
mutual
theorem Ah(hσ:∀j i,σ j=O i->f' j=f i/\q' j=q i):∀{a b:AV},xi σ a b=I->den ⟨f',x,u,z,q'⟩ a=den ⟨f,x,u,z,q⟩ b|.bool a,b,h=>by (cases b<;>simp only[xi]at h<;>try(cases h;done));rw[eq_of_beq h];rfl|.int k a,b,h=>by (cases b<;>simp only[xi,ay]at h<;>try(cases h;done));rw[iw h.1,h_ h.2];rfl|.str a,b,h=>by (cases b<;>simp only[xi]at h<;>try(cases h;done));rw[tP h];rfl|.kv,b,h=>(by cases b<;>simp only[xi]at h<;>first|rfl|cases h)|.ptr i n,b,h=>by (cases b<;>simp only[xi,ay]at h<;>try(cases h;done));grind[den,dp,an]|.cQ,b,h=>(by cases b<;>simp only[xi]at h<;>first|rfl|cases h)|.slice i n l c,b,h=>by (cases b<;>simp only[xi,ay]at h<;>try(cases h;done));grind[den,dp,BZ,an]|.lf,b,h=>(by cases b<;>simp only[xi]at h<;>first|rfl|cases h)|.map i,b,h=>by (cases b<;>simp only[xi]at h<;>try(cases h;done));grind[den,dp]|.func g a c,b,h=>by (cases b<;>simp only[xi,ay]at h<;>try(cases h;done));simp[den];rw[agr hσ h.1.1,wA hσ h.1.2,wA hσ h.2]|.iq,b,h=>(by cases b<;>simp only[xi]at h<;>first|rfl|cases h)|.iface t a,b,h=>by (cases b<;>simp only[xi,ay]at h<;>try(cases h;done));simp[den];rw[Ah hσ h.2,an h.1]|.gP,b,h=>(by cases b<;>simp only[xi]at h<;>first|rfl|cases h)|.agg a,b,h=>by (cases b<;>simp only[xi]at h<;>try(cases h;done));simp[den];rw[wA hσ h]|.il a,b,h=>by (cases b<;>simp only[xi]at h<;>try(cases h;done));simp[den];rw[wA hσ h]|.ext i,b,h=>by (cases b<;>simp only[xi]at h<;>try(cases h;done));rw[an h];rfl|.mw i n,b,h=>by (cases b<;>simp only[xi,ay]at h<;>try(cases h;done));rw[an h.1,an h.2];rfl|.sym k t,b,h=>by (cases b<;>simp only[xi,ay]at h<;>try(cases h;done));rw[iw h.1,bj h.2];grind[den,ja]|.iI t,b,h=>by (cases b<;>simp only[xi]at h<;>try(cases h;done));rw[bj h];grind[den,ja]|.tail i a y l c m,b,h=>by (cases b<;>simp only[xi,ay]at h<;>try(cases h;done));grind[den,cX,dp,an]|.iJ t,b,h=>by (cases b<;>simp only[xi]at h<;>try(cases h;done));rw[bj h];grind[den,ja]|.deep e t,b,h=>by (cases b<;>simp only[xi,ay]at h<;>try(cases h;done));rw[an h.1,bj h.2];grind[den,ja]|.mn e y t i o,b,h=>by (cases b<;>simp only[xi,ay]at h<;>try(cases h;done));rw[an h.1.1.1.1,an h.1.1.1.2,bj h.1.1.2,bj h.1.2,an h.2];grind[den,ja]|.bK i t c,b,h=>by (cases b<;>simp only[xi,ay]at h<;>try(cases h;done));grind[den,dp,BZ,bj,ja]|.jM i e y t o,b,h=>by (cases b<;>simp only[xi,ay]at h<;>try(cases h;done));grind[den,dp,bj,ja,an]|.gZ i e y t v c,b,h=>by (cases b<;>simp only[xi,ay]at h<;>try(cases h;done));grind[den,dp,BZ,bj,ja,an]
theorem wA(hσ:∀j i,σ j=O i->f' j=f i/\q' j=q i):∀{a b:List AV},isL σ a b=I->bw ⟨f',x,u,z,q'⟩ a=bw ⟨f,x,u,z,q⟩ b|[],b,h=>(by cases b<;>simp only[isL]at h<;>first|rfl|cases h)|a::l,b,h=>by cases b<;>simp only[isL]at h;cases h;split at h;rename_i ha;simp[bw];rw[Ah hσ ha,wA hσ h];cases h
end
theorem QC(d:∀j i,σ j=O i->f' j=f i/\q' j=q i):∀{a b:List (AV×AV×Nat)}{l:List bQ},aeO σ a b=I->cJ (oD ⟨f,x,u,z,q⟩) b l->cJ (oD ⟨f',x,u,z,q'⟩) a l|[],[],[],_,_=>trivial|[],[],_::_,_,h=>h.elim|[],_::_,_,h,_=>by cases h|_::_,[],_,h,_=>by cases h|_::_,_::_,[],_,k=>k.elim|(a,b,c)::l,(r,p,c')::m,e::es,h,k=>by unfold aeO at h;split at h;rename_i g;simp only[ay]at g;have⟨n,o⟩:=k;refine⟨⟨?_,?_,?_⟩,QC d h o⟩;rw[Ah d g.1.1];exact n.1;rw[Ah d g.1.2];exact n.2.1;simp only;rw[an g.2];exact n.2.2;cases h
theorem YP(o:∀j i,σ j=O i->f' j=f i/\q' j=q i){obj:Obj}(h:isObj σ a b=I)(k:bN P ⟨f,x,u,z,q⟩ b obj):bN P ⟨f',x,u,z,q'⟩ a obj:=by (cases a<;>cases b<;>simp only[isObj,ay]at h<;>try(cases h;done));rename_i l t c m Gz d;(cases obj<;>simp only[bN]at k⊢<;>try exact k.elim);grind[an,wA,zC,dp];(cases obj<;>simp only[bN]at k⊢<;>try exact k.elim);grind[an,QC];rename_i m a l b w N J M;(cases obj<;>simp only[bN]at k⊢<;>try exact k.elim);have⟨⟨⟨p,C⟩,B⟩,A⟩:=h;refine⟨?_,by rw[an C];exact k.2.1,by rw[n_ A];exact k.2.2.1,by rw[an B];exact k.2.2.2⟩;(cases m<;>cases w<;>simp only[zC]at p<;>try(cases p;done));exact k.1;have⟨g,E,D⟩:=k.1;exact⟨g,((o _ _ (dp p)).1).trans E,D⟩;(cases obj<;>simp only[bN]at k⊢<;>try exact k.elim);exact k;rename_i t e c Iz L d;(cases obj<;>simp only[bN]at k⊢<;>try exact k.elim);grind[bj,ja,zC,an,dp];rename_i K F H v y r s n;(cases obj<;>simp only[bN]at k⊢<;>try exact k.elim);(cases v<;>cases n<;>simp only[isObj,ay]at h<;>try(cases h;done));grind[an,bj,ja]
end
section
variable{σ:Nat->Option Nat}{f f':Nat->Option Nat}{x:Nat->Option ah}{u:Int}{z:Nat->Option Obj}{q q':Nat->Option aa}
theorem UU(g:∀j i,σ j=O i->f' j=f i/\q' j=q i)(h:isObj σ a b=I)(k:iU P ⟨f,x,u,z,q⟩ b):iU P ⟨f',x,u,z,q'⟩ a:=by cases b<;>simp only[iU]at k;obtain⟨d,p,o,n,c',m,rfl,l⟩:=k;(cases a<;>simp only[isObj,ay]at h<;>try(cases h;done));rename_i t e c;have r:=an h.1.2;subst r;cases c with|none=>cases h.2|some c=>exact⟨d,by rw[bj h.1.1,ja f' f x u z q' q];exact p,o,n,c,m,rfl,(g _ _ (dp h.2)).1.trans l⟩
end
theorem jJ{α:Type}{p:Nat->α->Bool}:∀{t:Tr α}{a b:Nat},zD p t a b=I->∀k v,t.get k=O v->p (a*k+b) v=I|.e,_,_,_,k,v,hv=>by cases hv|.n l w r,a,b,h,k,v,hv=>by simp[zD]at h;rw[Tr.qW]at hv;split at hv;simp_all;rename_i hk;split at hv;have:=jJ h.1.2 _ v hv;(have e:2*a*(k/2)+(a+b)=a*k+b:=by (have:k=2*(k/2)+1:=by omega);grind);rwa [e]at this;have:=jJ h.2 _ v hv;(have e:2*a*(k/2 - 1)+(2*a+b)=a*k+b:=by (have:k=2*(k/2 - 1)+2:=by omega);grind);rwa [e]at this
def xQ(n0:Nat)(p o:Out):Prop:=p.e=o.e/\p.s.x.gl=o.s.x.gl/\∀(P:aw)(w0 w:aj)(A:en)(ν0 ν:Nm),Nm.le ν0 ν->(∀i,n0<=i->ν0 i=G/\ν0.q i=G)->Nm.le A.ν ν0->nC ν0 o.s.x.gl w0->aL P w0 A ν o.s w->∃ed,Nm.le ν0 ed/\aL P w0 A ed p.s w/\den ed p.v=den ν o.v
theorem xQ.self(n0:Nat)(o:Out):xQ n0 o o:=⟨rfl,rfl,λ_ _ _ _ _ ν a _ _ _ h=>⟨ν,a,h,rfl⟩⟩
theorem xQ.trans{a b c:Out}(h:xQ n0 a b)(k:xQ n0 b c):xQ n0 a c:=by have⟨i,g,l⟩:=h;have⟨f,e,j⟩:=k;refine⟨i.trans f,g.trans e,λP w0 w A d ν a1 a2 a3 a4 a5=> ?_⟩;grind
theorem xQ.alZ(h:xQ n0 p o){n:Nat}(c:p.s.n<=n)(d:∀x∈p.s.log,x∈lg):xQ n0 {p with s:={p.s with n:=n,log:=lg}} o:=by have⟨g,f,e⟩:=h;refine⟨g,f,λP w0 w A a ν a1 a2 a3 a4 a5=> ?_⟩;have⟨b,k,j,i⟩:=e P w0 w A a ν a1 a2 a3 a4 a5;exact⟨b,k,(j.more d).later c,i⟩
theorem CZ(h:Fj o=I):o.e=.ret:=by grind[Fj]
theorem Nk{a:Nat}{m:Tr Nat}{i:Nat}(h:rC n0 a m j=O i):j<n0/\i=j∨n0<=j/\j<a:=by grind[rC,fe,bz]
theorem rb{a:Nat}{m:Tr Nat}(h:j<n0):rC n0 a m j=O j:=by unfold rC;rw[fe h]
theorem UW(h:aay n0 o p=I)(hl:∀x∈o.s.log,x<n0->x∈lg):xQ n0 {p with s:={p.s with log:=lg}} o:=by
 unfold aay at h
 split at h
 ·rename_i K
  simp only[ay]at K h
  have⟨⟨K,hn⟩,H⟩:=K
  have hn:=bz hn
  have H:=bz H
  have⟨⟨X,Oz⟩,h⟩:=h
  generalize Py n0 p.s.h o.s.h 1000000 _ .e .e=c at h
  simp[okI]at h
  have⟨⟨hv,M⟩,L⟩:=h
  refine⟨(CZ K.2).trans (CZ K.1).symm,(pw Oz).symm,λP w0 w A S ν a1 a2 a3 a4 y=> ?_⟩
  have d:∀j i,rC n0 p.s.n c.1 j=O i->(λj=>(rC n0 p.s.n c.1 j).bind ν.f) j=ν.f i/\(λj=>(rC n0 p.s.n c.1 j).bind ν.q) j=ν.q i:=λj i C=>by simp_all
  refine⟨⟨λj=>(rC n0 p.s.n c.1 j).bind ν.f,ν.x,ν.u,ν.z,λj=>(rC n0 p.s.n c.1 j).bind ν.q⟩,⟨λi g D=> ?_,a1.x,a1.u,a1.xe,a1.z,λi v D=> ?_⟩,?_,Ah d hv⟩
  ·have m:i<n0:=by
    grind
   show(rC n0 p.s.n c.1 i).bind ν.f=O g
   rw[rb m]
   exact a1 i g D
  ·have m:i<n0:=by
    grind
   show(rC n0 p.s.n c.1 i).bind ν.q=O v
   rw[rb m]
   exact a1.q i v D
  ·have live:∀j ob,p.s.h.get j=O ob->∃i a,rC n0 p.s.n c.1 j=O i/\o.s.h.get i=O a/\isObj (rC n0 p.s.n c.1) ob a=I/\(j<n0∨n0<=i/\c.2.get i=O j):=λj ob C=>by
    have:=jJ M j ob C
    rw[fG,pB]at this
    unfold okJ at this
    split at this
    ·rename_i i D
     simp at this
     have⟨r,B⟩:=this
     split at r
     ·rename_i a R
      refine⟨i,a,D,R,r,?_⟩
      split at B
      ·rename_i hb
       exact .inl (bz hb)
      ·simp only[ay]at B
       have⟨h4,h5⟩:=B
       split at h5
       ·simp_all
       ·cases h5
     ·cases r
    ·cases this
   have N:Nm.le S (⟨λj=>(rC n0 p.s.n c.1 j).bind ν.f,ν.x,ν.u,ν.z,λj=>(rC n0 p.s.n c.1 j).bind ν.q⟩:Nm):=⟨λi g D=>by
    have m:i<n0:=by
     grind
    show(rC n0 p.s.n c.1 i).bind ν.f=O g
    rw[rb m]
    exact a1 i g D,a1.x,a1.u,a1.xe,a1.z,λi v D=>by
    have m:i<n0:=by
     grind
    show(rC n0 p.s.n c.1 i).bind ν.q=O v
    rw[rb m]
    exact a1.q i v D⟩
   refine⟨y.pos,y.dz,λj C=> ?_,λj ob C=> ?_,λj k ob F C hk e0 e=> ?_,a3.trans N,y.xb,λi ob D Y=> ?_,y.sT,y.nv,λj ob C g E g0=> ?_,?_,λg ob E=>⟨(y.mu g ob E).1,λj F C g0 e=> ?_⟩,y.lq,y.nU,λi D=>y.kR i (dU H D),λj C=> ?_⟩
   ·show(rC n0 p.s.n c.1 j).bind ν.f=G
    cases W:rC n0 p.s.n c.1 j with
    |none=>rfl
    |some i=>
     obtain⟨r,_⟩|⟨_,B⟩:=Nk W
     ·have:p.s.n<=j:=C
      omega
     grind
   ·have⟨i,a,r,B,R,_⟩:=live j ob C
    obtain⟨g,Iz,⟨Gz,T⟩|⟨obj,Gz,T,k4⟩⟩:=y.fX i a B
    ·exact⟨g,(d j i r).1.trans Iz,.inl ⟨Gz,UU d R T⟩⟩
    ·exact⟨g,(d j i r).1.trans Iz,.inr ⟨obj,Gz,T,YP d R k4⟩⟩
   ·have⟨i,a,r,B,_,h4⟩:=live j ob C
    have⟨Q,J,Kc,OQ,_,Eh⟩:=live k F hk
    have e2:i=Q:=y.inj i Q a J B OQ (λe'=>e0 ((d j i r).1.trans e')) (by
     have e1:ν.f i=ν.f Q:=(d j i r).1.symm.trans ((show(rC n0 p.s.n c.1 j).bind ν.f=(rC n0 p.s.n c.1 k).bind ν.f from e).trans (d k Q Kc).1)
     exact e1)
    grind[rb]
   ·have m:i<n0:=by
     have⟨g,E⟩:=y.xb i ob D
     have:=a3 _ _ E
     grind
    have⟨⟨o2,r⟩,B⟩:=y.same i ob D λhm=>Y (hl i hm m)
    refine⟨?_,B⟩
    have:=jJ L i o2 r
    rw[fG,pB,fe m]at this
    exact fu.1 this
   ·have⟨i,a,r,B,_,_⟩:=live j ob C
    exact y.own i a B g ((d j i r).1.symm.trans E) g0
   ·refine⟨?_,λt b hb=> ?_⟩
    ·rw[<-pw Oz]
     intro g l E i v U
     have⟨V,Iz,Gz⟩:=a4 g l E i v U
     exact⟨V,cY N v V Iz,Gz⟩
    ·have Zz:(t,b)∈o.s.x.pc:=by rw[D4 X];exact hb
     have⟨n,Iz,Gz⟩:=y.ctx.pc t b Zz
     refine⟨n,?_,Gz⟩
     have e:=ja (λj=>(rC n0 p.s.n c.1 j).bind ν.f) ν.f ν.x ν.u ν.z (λj=>(rC n0 p.s.n c.1 j).bind ν.q) ν.q t
     exact e.trans Iz
   ·have⟨i,a,r,B,_,_⟩:=live j F C
    exact(y.mu g ob E).2 i a B g0 ((d j i r).1.symm.trans e)
   ·show(rC n0 p.s.n c.1 j).bind ν.q=G
    cases W:rC n0 p.s.n c.1 j with
    |none=>rfl
    |some i=>
     obtain⟨r,_⟩|⟨_,B⟩:=Nk W
     ·have:p.s.n<=j:=C
      omega
     grind
 ·cases h
theorem AZ(n0:Nat)(o:Out):∀(l:List Out),(∃p∈wh n0 o l,xQ n0 p o)/\∀q∈l,∃p∈wh n0 o l,xQ n0 p q|[]=>⟨⟨o,aR.2 rfl,.self n0 o⟩,λq a=>by simp at a⟩|p::r=>by unfold wh;split;rename_i d;refine⟨⟨_,aU ..,UW d λx c _=> ?_⟩,λq a=> ?_⟩;grind[n_];rcases aO.1 a with rfl|a;refine⟨_,aU ..,(xQ.self n0 q).alZ (W8 o.s.n q.s.n).2 λx c=> ?_⟩;grind;exact⟨q,aS _ a,.self n0 q⟩;have⟨⟨b,f,e⟩,g⟩:=AZ n0 o r;refine⟨⟨b,aS _ f,e⟩,λq a=> ?_⟩;rcases aO.1 a with rfl|a;exact⟨q,aU ..,.self n0 q⟩;simp_all
theorem C0(n0:Nat):∀{l:List Out},∀o∈l,∃p∈M6 n0 l,xQ n0 p o|[],o,c=>by simp at c|[a],o,c=>⟨o,c,.self n0 o⟩|a::b::l,o,c=>by have d:=C0 n0 (l:=b::l);have⟨j,i⟩:=AZ n0 a (M6 n0 (b::l));show∃p∈wh n0 a _,xQ n0 p o;rcases aO.1 c with rfl|c;exact j;have⟨q,e,h⟩:=d o c;have⟨p,f,g⟩:=i q e;exact⟨p,f,g.trans h⟩
theorem RG{u:List (Nat×List AV)}{x:oC}{b:List Out}(h:TD u n0 x=O b):∃l,x=O l/\∀o∈l,∃p∈b,p.e=o.e/\∀(P:aw)(w0 w:aj)(A:en)(a ν:Nm),Nm.le a ν->(∀i,n0<=i->a i=G/\a.q i=G)->Nm.le A.ν a->(∀i ob,A.h.get i=O ob->i<n0)->nC a u w0->aL P w0 A ν o.s w->∃c,Nm.le a c/\aL P w0 A c p.s w/\den c p.v=den ν o.v:=by unfold TD at h;split at h;cases h;rename_i l;refine⟨l,rfl,?_⟩;split at h;rename_i o;split at h;simp at h;subst h;intro p d;rw[aR]at d;subst d;refine⟨_,aR.2 rfl,rfl,λP w0 w A a ν f _ _ m _ k=>⟨ν,f,?_,rfl⟩⟩;obtain⟨t,r⟩:=vK (Bm p.s.h n0 1000000 (uX p.v (M5 p.s.h (zP n0 p.s.log []) [])) .e) (p.s.n - n0) n0 p.s.h;exact k.abU m t r (qG n0 p.s.log []).1;injection h with h;subst h;intro p d;rw[aR]at d;subst d;exact⟨_,aR.2 rfl,rfl,λP w0 w A a ν f _ _ m _ k=>⟨ν,f,k.abU m (λ_ _ h=>h) (λ_ _=>rfl) (qG n0 p.s.log []).1,rfl⟩⟩;injection h with h;subst h;intro o B;obtain⟨p,d,Iz,J,H⟩:=C0 n0 _ (cA.2 ⟨o,B,rfl⟩);refine⟨p,d,Iz,λP w0 w A a ν f E D m j k=> ?_⟩;(have y:aL P w0 A ν (Fi n0 o).s w:=by obtain⟨t,r⟩:=vK (Bm o.s.h n0 1000000 (uX o.v (M5 o.s.h (zP n0 o.s.log []) [])) .e) (o.s.n - n0) n0 o.s.h;exact k.abU m t r (qG n0 o.s.log []).1);exact H P w0 w A a ν f E D j (y.swap (x:=⟨u,(Fi n0 o).s.x.pc⟩) ⟨λg l C i v z=>by obtain⟨V,Gz,F⟩:=j g l C i v z;exact⟨V,cY f v V Gz,F⟩,y.ctx.pc⟩)
end
section
open RowKit
variable{D:List Deferred}
theorem C1{f:Out->oC}:∀{l c:List Out},DI f l=O c->∀o∈l,∃os,f o=O os/\∀x∈os,x∈c|[],_,_,o,d=>by simp at d|p::l,c,h,o,d=>by simp[DI]at h;split at h;cases h;rename_i a g;split at h;cases h;rename_i b e;simp at h;subst h;rcases aO.1 d with rfl|d;simp_all;have⟨os,j,i⟩:=C1 e o d;simp_all
theorem iQ{x:oC}{f:Out->oC}{a:List Out}(h:ue x f=O a):∃l,x=O l/\∀o∈l,∃os,f o=O os/\∀y∈os,y∈a:=by unfold ue at h;grind[C1]
def yb(F:Fence)(n:Nat)(P:aw)(c x:Code)(Q:Exit->Act->aj->Prop)(a:Act)(w:aj):Prop:=∀(b:Frame)(k:List Item)(cs:List Frame),b.roundOf=F.round->F.fn b.fn->F.room (cs.length+1+n)->∃e a' w',Q e a' w'/\ArrivesIn (Machine.fenced P F) P (lone (b.atR a (.code x::.inScope c::k)) cs w) b k cs e a' w'
def pC(F:Fence)(n:Nat)(P:aw)(c:Code)(Q:Exit->Act->aj->Prop)(a:Act)(w:aj):Prop:=∀(b:Frame)(k:List Item)(cs:List Frame),b.roundOf=F.round->F.fn b.fn->F.room (cs.length+1+n)->∃e a' w',Q e a' w'/\ArrivesIn (Machine.fenced P F) P (lone (b.atR a (.code c::.inLoop c::k)) cs w) b k cs e a' w'
theorem KF{F:Fence}{n:Nat}{P:aw}{c:Code}{Q:Exit->Act->aj->Prop}{a:Act}{w:aj}(h:c.wpIn F n P (Exit.then (pC F n P c Q) Q) a w):pC F n P c Q a w:=by intro b k cs p t s;have⟨e,g,f,m,d⟩:=h b (.inLoop c::k) cs p t s;cases e with|normal=>have⟨q,r,o,j,i⟩:=m b k cs p t s;exact⟨q,r,o,j,.of_steps (StepsIn.trans d (.one (fenced_calm t s rfl) stepR_inLoop)) i⟩|exit id=>exact⟨_,g,f,m,.pass rfl (λ_ _=>.inl (by simp)) d⟩|goto l=>exact⟨_,g,f,m,.pass rfl (λ_ _=>.inl (by simp)) d⟩|ret=>exact⟨_,g,f,m,.pass rfl (λ_ _=>.inl (by simp)) d⟩|panic u=>exact⟨_,g,f,m,.pass rfl (λ_ _=>.inl (by simp)) d⟩|outgrown=>exact⟨_,g,f,m,.pass rfl (λ_ _=>.inl (by simp)) d⟩
theorem UX{F:Fence}{n:Nat}{P:aw}{c:Code}{Q:Exit->Act->aj->Prop}{a:Act}{w:aj}(h:pC F n P c Q a w):(Code.loop c).wpIn F n P Q a w:=by intro b k cs f i g;have⟨e,l,w',j,d⟩:=h b k cs f i g;exact⟨e,l,w',j,.of_steps (.one (fenced_calm i g rfl) stepR_loop) d⟩
theorem pC.mono{F:Fence}{n:Nat}{P:aw}{c:Code}{Q Q':Exit->Act->aj->Prop}{a:Act}{w:aj}(h:pC F n P c Q a w)(g:∀e a w,Q e a w->Q' e a w):pC F n P c Q' a w:=λb k cs d i f=>let⟨e,j,w',q,r⟩:=h b k cs d i f;⟨e,j,w',g _ _ _ q,r⟩
def ui(P:aw)(z:Loc)(c:Code):Prop:=match z with|G=>True|O (f,p)=>oG P f p=O c
theorem ui.go{P:aw}{z:Loc}{c d:Code}(h:ui P z c)(b:Bool)(a:akM b c=O d):ui P (z.go b) d:=by cases z with|none=>trivial|some z=>have⟨f,p⟩:=z;show oG P f _=O d;unfold oG;rw[show oG P f p=O c from h];exact a
def cy(P:aw)(cE:sQ->List Out->Prop)(U:Int)(n:Nat)(outs:List Out):sQ->Prop|.code z r c T N M s=>ui P z c->∀{D:List Deferred}(w0:aj)(A:en)(ν:Nm)(w:aj)(ro:Option Nat)(a:Act),ν.u=U->aL P w0 A ν s w->eG ν T N a.tmps->nj D ν M a.defers->RR ν r ro->c.wpIn (fz ro) 0 P (kC D P w0 A ν N outs) a w/\∀b,c=.loop b->pC (fz ro) 0 P b (kC D P w0 A ν N outs) a w|.ops r ops l T N M s=>∀{D:List Deferred}(w0:aj)(A:en)(ν:Nm)(w:aj)(ro:Option Nat)(a:Act),ν.u=U->aL P w0 A ν s w->eG ν T N a.tmps->nj D ν M a.defers->RR ν r ro->wpListIn (fz ro) 0 P ops (kC D P w0 A ν N outs) l a w|.one r o T s=>∀(w0:aj)(A:en)(ν:Nm)(w:aj)(ro:Option Nat)(a:Act)(N:Nat),ν.u=U->aL P w0 A ν s w->eG ν T N a.tmps->RR ν r ro->alY P ro o a w w0 A ν outs|.draw r ops T N M s _=>∀{D:List Deferred}(w0:aj)(A:en)(ν:Nm)(w:aj)(ro:Option Nat)(a:Act)(id:Nat),ν.u=U->aL P w0 A ν s w->eG ν T N a.tmps->nj D ν M a.defers->RR ν r ro->(Code.region id ops I).wpIn (fz ro) 0 P (kC D P w0 A ν N outs) a w|.any r ops listed T N M s z=>cE (.any r ops listed T N M s z) outs|.call f args s=>(∀(VS:Array aa)(w:aj),(callFunc f VS).run P w=.ok (.enter f VS) w)/\∀(w0:aj)(A:en)(ν:Nm)(w:aj)(VS:List aa),ν.u=U->aL P w0 A ν s w->bw ν args=O VS->Calls P f VS.toArray w (zW P w0 A ν outs)|.round l args s=>∀(w0:aj)(A:en)(ν:Nm)(w:aj)(lg:Nat)(VS:List aa)(ro:Option Nat),ν.u=U->aL P w0 A ν s w->ν l=O lg->bw ν args=O VS->∃fn tmps assign body,(Instr.yield lg VS.toArray).run P w=.ok (.round lg fn tmps assign body) w/\RoundIn (fz ro) 0 P lg fn tmps assign body w (zW P w0 A ν outs)|.SG z r c x T N M s=>ui P z x->∀{D:List Deferred}(w0:aj)(A:en)(ν:Nm)(w:aj)(ro:Option Nat)(a:Act),ν.u=U->aL P w0 A ν s w->eG ν T N a.tmps->nj D ν M a.defers->RR ν r ro->yb (fz ro) 0 P c x (kC D P w0 A ν N outs) a w
def E_(P:aw)(cE:sQ->List Out->Prop)(U:Int)(tab:List sR):Prop:=∀e∈tab,cy P cE U 0 e.outs (.call e.f e.args e.s)
def rK(P:aw)(cE:sQ->List Out->Prop)(U:Int)(lt:List lk):Prop:=∀e∈lt,∀c,oG P e.z.1 e.z.2=O (.loop c)->cy P cE U 0 e.outs (.code (O e.z) e.r (.loop c) e.T e.N [] e.s)
def Bw(P:aw)(eH:List Dl):Prop:=∀e∈eH,mM e.args=I/\tj e.v=I/\(∀(VS:Array aa)(w:aj),(callFunc e.f VS).run P w=.ok (.enter e.f VS) w)/\∀(ν:Nm)(w:aj)(VS:List aa),0<w.heap.size->nC ν e.gl w->bw ν e.args=O VS->Calls P e.f VS.toArray w λx w'=>Below w.heap.size w w'/\∃V,den ν e.v=O V/\x=.returned V
theorem gV{F:Fence}{n:Nat}{P:aw}{ops:Array aY}{Q Q':Exit->Act->aj->Prop}(b:∀e a w,Q e a w->Q' e a w):∀(l:List aY)(a:Act)(w:aj),wpListIn F n P ops Q l a w->wpListIn F n P ops Q' l a w|[],_,_,h=>b _ _ _ h|o::l,a,w,h=>by unfold wpListIn at h⊢;split;(·rename_i g;rw[if_pos g]at h;refine⟨h.1,?_⟩;have h:=h.2;generalize(o.semAt F.round a.eval).run P w=i at*;cases i with|ok x w'=>(cases x<;>simp only[Oper.uponIn]at h⊢;(case value=>exact gV b l _ _ h);(case skip=>exact gV b l _ _ h);(case defer=>exact gV b l _ _ h);(case enter f args=>refine⟨h.1,CallsIn.mono h.2 λe d c=> ?_⟩;cases e with|returned u=>exact gV b l _ _ c|panicked j=>grind|outgrown=>have⟨a,w,h⟩:=c;exact⟨a,w,b _ _ _ h⟩);(case row row args=>exact⟨h.1,RowsIn.mono h.2 λu d c=>gV b l _ _ c⟩);case round k f tmps as m=>refine⟨h.1,RoundIn.mono h.2 λe d c=> ?_⟩;cases e with|returned u=>exact gV b l _ _ c|panicked j=>grind|outgrown=>have⟨a,w,h⟩:=c;exact⟨a,w,b _ _ _ h⟩)|halt x w'=>cases x<;>simp only[Oper.uponIn]at h⊢;grind);·rename_i g;rw[if_neg g]at h;exact⟨h.1,gV b l _ _ h.2⟩
section
variable{P:aw}{w0 w:aj}{A:en}{ν:Nm}{s:St}{T:Tr AV}{N:Nat}{M:List Nat}{a:Act}{r ro:Option Nat}
theorem sL{b:List Out}(c:aL P w0 A ν s w)(e:eG ν T N a.tmps)(d:nj D ν M a.defers)(h:zO T M s=O b):kC D P w0 A ν N b .normal a w:=by simp[zO]at h;subst h;exact⟨_,aR.2 rfl,ν,Nm.le.refl _,trivial,c,e,d⟩
theorem gM{ops:Array aY}{o:aY}{b:Bool}(f:eG ν T N a.tmps)(h:gg ops T o=O b):Region.wanted o (yielded ops a.tmps)=b:=by unfold gg at h;unfold Region.wanted;split at h;simp_all;rename_i j e g;rw[g];split at h;rename_i d m;split at h;rename_i n c;simp at h;have⟨V,k,i⟩:=f.jb d _ c;grind[den,aG,yielded];rename_i l c;injection h with h;subst h;have⟨V,k,i⟩:=f.jb d _ c;grind[yielded,wq];cases h;cases h
theorem AF:den ν jN=O undef:=rfl
theorem aL.turn(h:aL P w0 A ν s w){g:Nat}{obj:Obj}{w':aj}(t:ν.z g=G)(y:w0.heap.size<=g)(m:∀i o,s.h.get i=O o->ν i≠O g)(l:A.w.heap.size<=g∨∃j o,A.h.get j=O o/\A.ν j=O g)(a:Dd w g obj w'):aL P w0 A ν s w':=by refine⟨h.pos,⟨a.os.trans h.dz.os,a.tape.trans h.dz.tape,a.output.trans h.dz.output,by rw[a.size];exact h.dz.size,λk b d=> ?_⟩,h.top,λj o p=> ?_,h.inj,h.ext,h.xb,λj o p d=> ?_,λk b d=> ?_,by rw[a.size];exact h.nv,h.own,h.ctx,λk ob b=>⟨(a.rest k λe=>by rw[e,t]at b;cases b).trans (h.mu k ob b).1,(h.mu k ob b).2⟩,h.lq,h.nU,h.kR,h.kS⟩;rw[a.rest k (by omega)];exact h.dz.block k b d;obtain⟨q,c,n|⟨f,n,x,v⟩⟩:=h.fX j o p;simp_all;exact⟨q,c,.inr ⟨f,n,by rw[a.rest q λe=>m j o p (e▸c)];exact x,v⟩⟩;have⟨⟨u,c⟩,n⟩:=h.same j o p d;refine⟨⟨u,c⟩,λq r=> ?_⟩;rw[a.rest q λe=>m j u c (e▸h.ext _ _ r)];grind;rw[a.rest k ?_];exact h.sT k b d;rintro rfl;rcases l with c|⟨j,o,c,n⟩;omega;exact d j o c (by have:=h.pos;omega) n
theorem aL.QD(h:aL P w0 A ν s w){i g:Nat}{o:bF}{obj:Obj}{w':aj}(b:s.h.get i=O o)(c:ν i=O g)(d:g≠0)(l:Dd w g obj w'):aL P w0 A ν (cw s i) w':=by have⟨_,m,_⟩:=h.Cx b c d;refine(h.kill i).turn (h.zT b c d) m (λj k a e=> ?_) (h.own i o b g c d) l;simp[cw]at a;rw[Tr.bJ]at a;split at a;cases a;rename_i f;exact f (h.inj j i k o a b (λn=>d (bB (e.symm.trans n))) (e.trans c.symm))
theorem B4{f:List fV}{o:aY}(l:bS f)(e:∀t b,(t,b)∈s.x.pc->bh ν t b)(c:∀i d,ν.x i=O d->ch P ν.z d)(j:eG ν T N a.tmps)(k:fC P o.op=2){v:AV}(h:Cp P f s T o.op=O v):∃V,den ν v=O V/\∀w,(execOp a.eval o).run P w=.ok (.value V) w:=by unfold Cp at h;split at h;rename_i u g;simp at h;subst h;exact Lx j (Dz k g) g;exact Yy l e c j h
theorem sM{c:List fV}{o:aY}(p:bS c)(m:my P ν s (λ_=>True) w)(j:∀t b,(t,b)∈s.x.pc->bh ν t b)(l:∀g o,ν.z g=O o->w.heap[g]? =O o)(e:∀i d,ν.x i=O d->ch P ν.z d)(n:eG ν T N a.tmps)(k:fC P o.op=1){v:AV}(h:Cq P c s T o.op=O v):∃V,den ν v=O V/\(execOp a.eval o).run P w=.ok (.value V) w:=by unfold Cq at h;split at h;rename_i u f;simp at h;subst h;exact TV n k m ⟨λ_ _=>trivial,λ_ _=>trivial⟩ f;grind[YF]
theorem Ov{b:List fV}{o:aY}{r:AV×St}(a:Z' P b s T o.op=O r)(c:Call):o.op≠.defer c:=λe=>by rw[e]at a;cases a
theorem Ow{b:List fV}{o:aY}{r:AV×St}(a:aeQ P b s T o.op=O r)(c:Call):o.op≠.defer c:=λe=>by rw[e]at a;cases a
theorem UY(xs:List ah)(a b:Nat):j_ ((xs.drop a).take b)=((j_ xs).drop a).take b:=by simp[dR]
theorem ags{z:Nat->Option Obj}{e k:Nat}{a:Option Addr}{C l hh:Nat}{m:Option Nat}{xs:List ah}(A:di P e=O k)(p:ch P z (.r e (.slice a xs.length C) xs))(Q:l<=hh)(D:hh<=xs.length)(Oz:hh<=m.getD C)(N:m.getD C<=C):ch P z (.r e (.slice (if m.getD C=l then a else a.map (·.add (l*k))) (hh - l) (m.getD C - l)) ((xs.drop l).take (hh - l))):=by obtain⟨s,rfl⟩|⟨g,off,cap,size,arr,fz,ts,u,s,Iz,t,H,Gz,T,S,F,R⟩:=kE.1 p;grind[kE];injection s with x K w;subst x w;by_cases q:m.getD C=l;(have E:hh=l:=by omega);subst E;rw[if_pos q,Nat.sub_self];grind[kE];rw[if_neg q];have⟨y,f,n⟩:=ee A;rw[f]at t;simp at t;(have o:size=k:=by omega);subst o;(have b:((xs.drop l).take (hh - l)).length=hh - l:=by rw[bD,dZ];omega);refine kE.2 (.inr ⟨g,off+l*size,m.getD C - l,size,arr,fz,ts,u,?_,Iz,by rw[f];simp[n],H,Gz,?_,?_,λi d h=> ?_,λi j d c J v h B M L=> ?_⟩);rw[b];simp[gO];rw[b];(have:l*size+(hh - l)*size=hh*size:=by rw[<-df];congr 1;omega);have:hh*size<=xs.length*size:=cV _ D;omega;rw[b];omega;rw[eT]at h;split at h;rw[fw]at h;exact F _ d h;cases h;grind
theorem adE{lm:List fV}(hL:bS lm)(h:aL P w0 A ν s w){t e:ag}{x v:AV}{X:aa}{lo hi mx:Option AV}{LO HI MX:Option aa}{s':St}(hu:P.underlying t=O (.slice e))(hx:den ν x=O X)(h1:lu ν lo LO)(h2:lu ν hi HI)(h3:lu ν mx MX)(k:ai5 P lm s e x lo hi mx=O (v,s')):∃d V,Nm.le ν d/\aL P w0 A d s' w/\den d v=O V/\(Instr.sliceAt t X LO HI MX).run P w=.ok V w:=by unfold ai5 at k;split at k;rename_i e' Y;split at k;rename_i Zz i j hb B Gz F;split at k;rename_i p;simp only[ay]at hb p;have:=an hb.1;subst this;(have⟨a0,c0,Oz⟩:∃a c,bi 22 Y=O (a,c):=by grind);have⟨xs,h4,uv⟩:=lA hx;have y:=mP h.nU h4;have o:=cM h4 (n:=xs.length) rfl;(have N:ai ν (xO Y)=O (.l (j_ xs)):=by unfold xO;rw[Oz];simp only;rw[fq Oz]at h4;grind[mQ,dR,dr]);(have⟨a,C,hX⟩:∃a C,X=.slice a xs.length C:=by grind[sJ]);subst hX;(have q:xs.length<=C:=by obtain⟨hV|⟨a',cap,hV⟩,rfl⟩|⟨g,off,cap,hV,hle⟩:=sJ y;exact dy _;exact dy _;simp_all);have⟨m1,S,_⟩:=ss (show ai ν (.c 0)=O (.n 0)from rfl) h1 Gz;have⟨m2,L,_⟩:=ss o h2 F;have g1:=nQ hL h.ctx.pc S p.1.1;have g2:=iG hL h.ctx.pc S L p.1.2;have g3:=iG hL h.ctx.pc L o p.2;obtain⟨l,rfl⟩:=gR g1;obtain⟨hh,rfl⟩:=gR (pb g1 g2);(have main:∀(m:Option Nat),(Instr.sliceAt t (.slice a xs.length C) LO HI MX).run P w=.ok (.slice (if m.getD C=l then a else a.map (·.add (l*Zz))) (hh - l) (m.getD C - l)) w->hh<=m.getD C->m.getD C<=C->∃d,Nm.le ν d/\aL P w0 A d {s with n:=s.n+1} w/\den d (.deep e (.f 22 [.x (bm+s.n),.f 26 [xO Y,i,j]]))=O (.slice (if m.getD C=l then a else a.map (·.add (l*Zz))) (hh - l) (m.getD C - l))/\ai d (.x (bm+s.n))=O (.r e (.slice (if m.getD C=l then a else a.map (·.add (l*Zz))) (hh - l) (m.getD C - l)) ((xs.drop l).take (hh - l))):=λm hr W U=>by have hd:=ags (l:=l) (hh:=hh) (m:=m) B y (by omega) (by omega) W U;have⟨d,K,M,T,_,_⟩:=h.newAtom hd;refine⟨d,K,M,N7 (dr.2 ⟨T,?_⟩) rfl,T⟩;rw[mQ,<-dR,UY];refine(et rfl (by simp) λ_=>rfl).2 ⟨_,_,_,aX K _ _ N,aX K _ _ S,aX K _ _ L,?_⟩;simp_all[r_,dR]);split at k;injection k with k;injection k with Iz H;subst Iz H;have⟨lo',hi2,mx',p1,p2,p3,J⟩:=wO h1 h2 h3 (show ai ν (.c 0)=O (.n 0)from rfl) o Gz F (l:=l) (h:=hh) S L (by omega) (by omega) q (.inl rfl);have⟨r,i1,W,U⟩:=pL (P:=P) hu B (a:=a) p1 p2 p3 J q w;grind;rename_i mv;split at k;rename_i mt hv hm hm0;split at k;rename_i D;injection k with k;injection k with Iz H;subst Iz H;have⟨MV,R,Q⟩:=h3;have⟨kk,jm,dm,hMV⟩:=nE hm R;have E:=kK D dm L;simp at E;subst E;have⟨lo',hi2,mx',p1,p2,p3,J⟩:=wO (mx:=O mv) h1 h2 ⟨MV,R,Q⟩ (show ai ν (.c 0)=O (.n 0)from rfl) o Gz F (l:=l) (h:=hh) S L (by omega) (by omega) q (.inr ⟨⟨hv,rfl⟩,kk,⟨_,rfl,by rw[Q,hMV]⟩,mv,rfl⟩);have⟨r,i1,W,U⟩:=pL (P:=P) hu B (a:=a) p1 p2 p3 J q w;have⟨d,K,M,T,k4⟩:=main (O hh) r W U;refine⟨d,_,K,M.swap (x:=⟨s.x.gl,_::s.x.pc⟩) ⟨M.ctx.gl,λu b z=> ?_⟩,T,r⟩;rcases aO.1 z with e1|z;injection e1 with e1 e2;subst e1 e2;refine⟨1,(lB rfl (by simp) λ_=>rfl).2 ⟨_,k4,?_⟩,rfl⟩;simp only[PE,Option.getD_some];simp;rfl;exact M.ctx.pc u b z;cases k;cases k;cases k;cases k;cases k
theorem adF{m:List fV}{o:aY}(Gz:bS m)(h:aL P w0 A ν s w)(g:eG ν T N a.tmps){v:AV}{f:St}(c:aeQ P m s T o.op=O (v,f)):zV P w0 A ν f v ((execOp a.eval o).run P w):=by (cases d:o.op<;>rw[d]at c<;>simp only[aeQ]at c<;>try(cases c;done));rename_i t x l n mx;(have fin:∀{b:Nm}{V:aa},Nm.le ν b->aL P w0 A b f w->den b v=O V->(Instr.sliceAt t (a.eval x) (l.map a.eval) (n.map a.eval) (mx.map a.eval)).run P w=.ok V w->zV P w0 A ν f v ((execOp a.eval o).run P w):=λ{b V} C B z y=>by refine⟨b,V,w,C,B,z,.inl ?_⟩;(have e:execOp a.eval o=Sem.bind (Instr.sliceAt t (a.eval x) (l.map a.eval) (n.map a.eval) (mx.map a.eval)) λv=>Sem.pure (Next.value v):=by unfold execOp;rw[d];rfl);rw[e];exact lD y);split at c;rename_i e u r F q E D j k i;have J:=po g j;have Iz:=po g k;have H:=po g i;split at c;(first|contradiction|simp_all|grind|omega);have⟨p,V,Oz,M,L,K⟩:=adE Gz h E (g.evA D) J Iz H c;grind;cases c
theorem RH{b:List fV}{o:aY}{r:List (AV×St)}(a:M9 P b s T o.op=O r)(c:Call):o.op≠.defer c:=λe=>by rw[e]at a;cases a
theorem RI(h:aL P w0 A ν s w){x:AV}{X:aa}{c:Tm}(b:M8 P s x=O c)(r:den ν x=O X):∃(a:Option Addr)(n cap:Nat),X=.slice a n cap/\(a=G->n=0/\cap=0/\ai ν c=O (.l [])):=by unfold M8 at b;split at b;rename_i e t;split at b;rename_i z c' o;simp at b;subst b;have⟨xs,y,_⟩:=lA r;have C:=mP h.nU y;rw[fq o]at y;grind[mQ,dr,sJ];cases b;rename_i i n c';split at b;rename_i t e Iz f;split at b;rename_i u;simp at u;simp at b;subst b;obtain⟨p,B,_,⟨z,rfl⟩,_⟩|⟨g,m,cap,p,Gz,B,F,E,rfl⟩:=ek r;have⟨d,k,j,q,_⟩:=h.Ey f p;refine⟨z,0,0,rfl,λ_=>⟨rfl,rfl,?_⟩⟩;(have D:d=.l []:=by (cases d<;>simp only[bT]at j<;>try exact j.elim);cases (jB u.1) j.1;rename_i x;simp only[bM,aG]at q;rw[jv.1 q]);subst D;unfold xO;split;rename_i a J o;rw[fq o]at k;have⟨H,v⟩:=dr.1 k;rw[bd]at v;exact v;exact k;grind;cases b;cases b;cases b
theorem UZ(h:aL P w0 A ν s w){x y:AV}{X Y:aa}{c:Tm}(b:aaJ P s x y=O c)(e:den ν x=O X)(d:den ν y=O Y):∃(a:Option Addr)(n cap:Nat),((X=.slice G 0 0/\Y=.slice a n cap)∨(X=.slice a n cap/\Y=.slice G 0 0))/\(a=G->n=0/\cap=0/\ai ν c=O (.l [])):=by unfold aaJ at b;grind[den,RI]
theorem YQ{op:BinOp}{t:ag}{X Y:aa}{a:Option Addr}{n cap:Nat}(f:aaK P t=I)(c:(X=.slice G 0 0/\Y=.slice a n cap)∨(X=.slice a n cap/\Y=.slice G 0 0)){b:Bool}(i:(match op with|.eql=>O I|.neq=>O Z|_=>G)=O b)(x y:fh)(w:aj):(Sem.bind (eqGuard op t x y X Y) λ_=>binOp op t X Y).run P w=.ok (.bool (a.isNone==b)) w:=by unfold aaK at f;split at f;rename_i e k;(have m:P.eqGuardType P.depth t=Z:=by simpa using f);(have d:(eqGuard op t x y X Y).run P w=.ok () w:=by rcases CO (w:=w) (op:=op) (x:=x) (y:=y) (X:=X) (Y:=Y) m with d|⟨d,_⟩;exact d;rcases c with⟨rfl,rfl⟩|⟨rfl,rfl⟩<;>cases d);(have go:∀{s:TypeDesc->Sem Bool}{r:Bool},(s (.slice e)).run P w=.ok r w->(Sem.bind (underlying t) s).run P w=.ok r w:=λl=>by rw[run_bind,run_underlying k];exact l);(have o:(Op.equal t X Y).run P w=.ok a.isNone w:=by obtain⟨rfl,rfl⟩|⟨rfl,rfl⟩:=c;exact go rfl;cases a with|none=>exact go rfl|some a=>exact go rfl);(have h:tr X=I:=by rcases c with⟨rfl,rfl⟩|⟨rfl,rfl⟩<;>rfl);(have g:tr Y=I:=by rcases c with⟨rfl,rfl⟩|⟨rfl,rfl⟩<;>rfl);have⟨j,p⟩:=xF h g o;rw[run_bind,d];(cases op<;>simp only[aG]at i<;>try(cases i;done));subst i;rw[show(a.isNone==I)=a.isNone by cases a<;>rfl];exact j;simp_all;cases f
theorem U0{lm:List fV}{o:aY}(hL:bS lm)(h:aL P w0 A ν s w)(hF:eG ν T N a.tmps){l:List (AV×St)}(hm:M9 P lm s T o.op=O l):∃p∈l,∃V,den ν p.1=O V/\aL P w0 A ν p.2 w/\(execOp a.eval o).run P w=.ok (.value V) w:=by (cases Sw:o.op<;>rw[Sw]at hm<;>simp only[M9]at hm<;>try(cases hm;done));rename_i op t x y t2;split at hm;(·rename_i b u v hb hu hv;split at hm;(·rename_i c hc;split at hc;(·rename_i ht;have⟨a',n,cap,h1,h2⟩:=UZ h hc (hF.evA hu) (hF.evA hv);have zL:=YQ (P:=P) ht h1 hb x y w;(have fin:∀{V:aa},(Sem.bind (eqGuard op t x y (a.eval x) (a.eval y)) λ_=>binOp op t (a.eval x) (a.eval y)).run P w=.ok V w->(execOp a.eval o).run P w=.ok (.value V) w:=λhV=>by (have e:execOp a.eval o=Sem.bind (Sem.bind (eqGuard op t x y (a.eval x) (a.eval y)) λ_=>binOp op t (a.eval x) (a.eval y)) λv=>Sem.pure (Next.value v):=by unfold execOp;rw[Sw];rfl);rw[e];exact lD hV);split at hm;(·first|contradiction|simp_all|grind|omega);·simp at hm;subst hm;cases ha:a' with|none=>have⟨_,_,h3⟩:=h2 ha;refine⟨_,aU ..,_,rfl,h.ot ⟨1,?_,rfl⟩,fin ?_⟩;(·refine(dn rfl (by simp)).2 ⟨_,aP.2 ⟨_,_,h3,aP.2 ⟨.l [],[],(jd (.inl rfl)).2 ⟨[],rfl,rfl⟩,rfl,rfl⟩,rfl⟩,?_⟩;show O _=_;rw[eD.2 rfl];rfl);simp_all|some a2=>refine⟨_,aS _ (aR.2 rfl),_,rfl,h,fin ?_⟩;rw[ha]at zL;rw[zL];grind);·cases hc);·cases hm);·cases hm
theorem eG.lS(h:eG ν T N a.tmps){d:Nat}{v:AV}{V:aa}(c:den ν v=O V)(e:a.tmps[d]? =O V):eG ν (T.put d (O v)) N a.tmps:=
 ⟨h.size,λi u b=>by
  rw[Tr.bJ]at b
  split at b
  ·simp_all
  ·exact h.jb i u b⟩
theorem C2{f:Nat->oC}:∀{n j:Nat}{a:List Out},M7 f n j=O a->∀k,k<n->∃os,f (j+k)=O os/\∀o∈os,o∈a|0,_,_,_,k,c=>by omega|n+1,j,a,h,k,c=>by unfold M7 at h;split at h;(·rename_i x y d b;simp at h;subst h;cases k with|zero=>simp_all|succ k=>have⟨os,g,e⟩:=C2 b k (by omega);grind);·cases h
theorem Ox{op:Op}{d n:Nat}{k:bu}{u:Tm}(h:NL P T op=O (d,k,u,n)):T.get d=O (.sym k u)/\∀c,op≠.defer c:=by unfold NL at h;grind
theorem Oy{bk:Pr}{o:aY}{r:AV×St}(a:aeS P bk s T o.op=O r)(c:Call):o.op≠.defer c:=λe=>by rw[e]at a;cases a
theorem YR{cE:sQ->List Out->Prop}{U:Int}{bk:Pr}{n:Nat}{rec:sQ->oC}(hN:mU P=I)(hP:TX P bk)(F:bS bk.lm)(ih:∀q C,rec q=O C->cy P cE U n C q){o:aY}{C:List Out}(h:fk P bk rec (.one r o T s)=O C):cy P cE U (n+1) C (.one r o T s):=by intro w0 A ν w ro a N hU z H hR K Q L;unfold fk at h;simp only at h;unfold ahb at h;split at h;(·rename_i S;split at h;(·rename_i v X;injection h with h;subst h;obtain⟨V,i,y⟩:=B4 F z.ctx.pc z.nU H S X;obtain⟨p,Iz,Oz,J,_⟩:=sK F z i;exact jg (qF (s:=s) (T:=T) (.inl (by rw[S];decide))) (.inl (y w)) (L _ (cA.2 ⟨p,Iz,rfl⟩) ν V w (Nm.le.refl _) J Oz));·split at h;(·rename_i d k u n hs;obtain⟨Oz,_⟩:=Ox hs;split at h;(·rename_i hb;rw[ay]at hb;obtain⟨V,i,y⟩:=H.jb d _ Oz;simp only[den]at i;split at i;(·rename_i m Gz;injection i with i;subst i;have g1:=ea F z.ctx.pc Gz (show ai ν (.c 0)=O (.n 0)from rfl) rfl hb.1;have g2:=ea F z.ctx.pc Gz (show ai ν (.c (.ofNat n))=O (.n (.ofNat n))from rfl) rfl hb.2;simp only[decide_eq_true_eq]at g1 g2;obtain⟨j,rfl⟩:=gR g1;(have hj:j<n:=by simpa using g2);(have hq:ai ν (.bin .eql .i64 u (.c (.ofNat j)))=O (.n 1):=by refine dq.2 ⟨_,_,Gz,rfl,?_⟩;rw[bI (q:=I) (by simp[Dr])];rfl);obtain⟨os,k1,k2⟩:=C2 h j hj;rw[ew]at k1;split at k1;(·rename_i hc;have:=ib F z.ctx.pc hc hq;simp at this);·exact ih _ _ k1 w0 A ν w ro a N hU (z.ot ⟨1,hq,rfl⟩) (H.lS (by rfl) y) hR K Q λo ho=>L o (k2 o ho));·cases i);·cases h);·split at h;(·rename_i v s' Gz;injection h with h;subst h;obtain⟨b,V,w',i,y,D,M⟩:=adF F z H Gz;exact jg (Ow Gz) M (L _ (aR.2 rfl) b V w' i y D));·split at h;(·rename_i l hl;injection h with h;subst h;obtain⟨p,Iz,V,i,y,D⟩:=U0 F z H hl;exact jg (RH hl) (.inl D) (L _ (cA.2 ⟨p,Iz,rfl⟩) ν V w (Nm.le.refl _) y i));·cases h);(·rename_i S;split at h;(·rename_i v X;injection h with h;subst h;obtain⟨V,i,y⟩:=sM F z.Ph z.ctx.pc (λg o hg=>(z.mu g o hg).1) z.nU H S X;obtain⟨p,Iz,Oz,J,_⟩:=sK F z i;exact jg (qF (s:=s) (T:=T) (.inl (by rw[S];decide))) (.inl y) (L _ (cA.2 ⟨p,Iz,rfl⟩) ν V w (Nm.le.refl _) J Oz));·cases h);(·rename_i S;split at h;(·rename_i obj f X;injection h with h;subst h;obtain⟨b,V,w',i,y,D,M⟩:=YO z (tK H X);exact jg (qF (s:=s) (T:=T) (.inl (by rw[S];decide))) (.inl M) (L _ (aR.2 rfl) b V w' i y D));·split at h;(·rename_i v s' Gz;injection h with h;subst h;obtain⟨b,V,w',i,y,D,M⟩:=QB F z H Gz;exact jg (Ov Gz) M (L _ (aR.2 rfl) b V w' i y D));·cases h);(·rename_i S;split at h;(·rename_i g args hc;obtain⟨Oz,VS,R,E⟩:=G5 H hc;split at h;(·rename_i k t Iz;split at h;(·rename_i v s' hpr;injection h with h;subst h;refine adD Oz E (hP g k t Iz _ F w0 A ν s w args v s' VS hpr z R) λV w' hR=> ?_;obtain⟨b,i,y,D⟩:=hR;exact L _ (aR.2 rfl) b V w' i y D);·cases h);·split at h;(·rename_i anx Y;injection h with h;subst h;have B:=ih _ _ Y;have Kf:=B.1 VS.toArray w;have B:=B.2 w0 A ν w VS hU z R;refine LW Oz ((E w).trans Kf) (B.mono λe w' he=> ?_);obtain⟨out,ho,b,V,i,y,D,M⟩:=he;obtain⟨p,Iz,hpd,J,_⟩:=sK F y D;exact⟨V,M,L _ (G3 out ho p Iz) b V w' i J hpd⟩);·cases h);(·rename_i l args hc;obtain⟨Oz,lg,VS,hlg,R,E⟩:=G5 H hc;obtain⟨fn,tmps,assign,body,i,y⟩:=ih _ _ h w0 A ν w lg VS ro hU z hlg R;refine YN Oz (E w) ⟨fn,tmps,assign,body,i,y.mono λe w' he=> ?_⟩;obtain⟨out,ho,b,V,i,y,D,M⟩:=he;grind);·cases h);·split at h;(·rename_i it Zz;split at h;(·rename_i l hl;injection h with h;subst h;obtain⟨x,hx,hx2⟩:=kI.1 hl;(have W:o.op=.next it Z:=by unfold M3 at Zz;split at Zz;(·rename_i W;rw[W];simpa using Zz);·cases Zz);obtain⟨p,Iz,b,V,w',i,y,D,M⟩:=YJ z hx2 (H.evA hx) o.type;refine jg (V:=V) (w':=w') (λc e=>by rw[W]at e;cases e) (.inl ?_) (L _ (cA.2 ⟨p,Iz,rfl⟩) b V w' i y D);simp_all[execOp]);·cases h);(·cases h);·rename_i Zz;split at h;(·rename_i v s' Gz;injection h with h;subst h;obtain⟨b,V,w',i,y,D,M⟩:=adC F z H Gz;exact jg (Oy Gz) M (L _ (aR.2 rfl) b V w' i y D));·cases h
end
end
section
open RowKit
variable{D:List Deferred}
theorem wT{α c:Type}{f:α->Option c}:∀{l:List α}{m:List c},ji f l=O m->(∀x∈l,∃y∈m,f x=O y)|[],_,_,x,b=>by cases b|a::l,m,h,x,b=>by simp[ji]at h;split at h;cases h;rename_i y e;split at h;cases h;rename_i r d;simp at h;subst h;rcases aO.1 b with rfl|b;simp_all;have⟨z,i,g⟩:=wT d x b;simp_all
section
variable{φ:Fit}{np na:Nat}{cD fj:Nm}
theorem LY(ν:Nm)(k:bu)(t:Tm):den ν (aaz k t)=den ν (.sym k t):=by cases t<;>first|rfl|simp[aaz,den,ai]
theorem A0(ν:Nm):∀{l:List Tm}{a:List UInt8},vh l=O a->∃ds,bA ν l=O ds/\kX ds=O a|[],a,h=>by simp only[vh,aG]at h;subst h;exact⟨[],rfl,rfl⟩|t::l,a,h=>by unfold vh at h;split at h;simp_all;rename_i n e heq;obtain⟨rfl,rfl⟩:=heq;split at h;rename_i r b c;have b:=bz b;simp at h;subst h;have⟨ds,d,f⟩:=A0 ν c;refine⟨.n (.ofNat n)::ds,by simp[bA,ai,d],?_⟩;(have:(decide (0<=cq n)&&decide (cq n<256))=I:=by simp only[ay,decide_eq_true_eq,Int.ofNat_eq_natCast];omega);simp_all[kX];cases h;cases h
theorem G7(ν:Nm)(t:Tm):den ν (TE t)=den ν (.iJ t):=by unfold TE;split;rename_i l b;split;rename_i e a;have⟨ds,d,c⟩:=A0 ν a;rw[q_ b];simp[den];rw[Ft.2 ⟨ds,e,d,c,rfl⟩];rfl;rfl
theorem U1(ν:Nm)(e:ag)(t:Tm){V:aa}(h:den ν (.deep e t)=O V):den ν (Fl e t)=O V:=by unfold Fl;split;rename_i a d;split;rename_i n b;split;rename_i c;have:=h_ c;subst this;rw[fq d,tn b]at h;have⟨xs,g,_⟩:=lA h;have f:=(dr.1 g).1;have:=DU.1 f;injection this with _ this;rw[this];rfl;exact h;exact h;exact h
theorem RJ(ν:Nm)(e:ag)(t:Tm){V:aa}(h:den ν (Fl e t)=O V):den ν (.deep e t)=O V:=by unfold Fl at h;split at h;rename_i a g;split at h;rename_i n b;split at h;rename_i d;have:=h_ d;subst this;rw[fq g,tn b];simp[den]at h;subst h;have i:ai ν (.f 22 [.f 14 [.c (.ofNat e)],.f 11 []])=O (.r e (.slice G 0 0) []):=dr.2 ⟨DU.2 rfl,(dn rfl (by decide)).2 ⟨[],rfl,rfl⟩⟩;simp only[den,i];rw[if_pos ⟨trivial,rfl⟩];exact h;exact h;exact h
mutual
theorem fE(hx:∀j u d,Sq φ np na j=O u->cD.x j=O d->ai fj u=O d):∀{t u:Tm}{d:ah},rV φ np na t=O u->ai cD t=O d->ai fj u=O d|.c n,u,d,h,hd=>by simp[rV]at h;subst h;exact hd|.x j,u,d,h,hd=>hx j u d (by simpa[rV]using h) (by simpa[ai]using hd)|.bin o k a b,u,d,h,hd=>by simp[rV]at h;split at h;(·rename_i a' b' ha hb;simp at h;subst h;simp[ai]at hd⊢;cases h1:ai cD a with|none=>rw[h1]at hd;cases hd|some x=>cases h2:ai cD b with|none=>rw[h1,h2]at hd;cases x<;>cases hd|some y=>rw[h1,h2]at hd;rw[fE hx ha h1,fE hx hb h2];exact hd);·cases h|.conv k a,u,d,h,hd=>by simp[rV]at h;split at h;(·rename_i a' ha;simp at h;subst h;simp[ai]at hd⊢;cases h1:ai cD a with|none=>rw[h1]at hd;cases hd|some x=>rw[h1]at hd;rw[fE hx ha h1];exact hd);·cases h|.f o l,u,d,h,hd=>by simp[rV]at h;split at h;(·rename_i a' MQ ha;(have key:ai fj (.f o a')=O d:=by simp[ai,MQ]at hd⊢;cases h1:bA cD l with|none=>rw[h1]at hd;cases hd|some x=>rw[h1]at hd;rw[W_ hx ha h1];exact hd);grind[bj,an,nX,du]);·cases h
theorem W_(hx:∀j u d,Sq φ np na j=O u->cD.x j=O d->ai fj u=O d):∀{t u:List Tm}{d:List ah},O2 φ np na t=O u->bA cD t=O d->bA fj u=O d|[],u,d,h,hd=>by simp only[O2,aG]at h;subst h;exact hd|t::l,u,d,h,hd=>by simp[O2]at h;split at h;(·rename_i a' b' ha hb;simp at h;subst h;simp[bA]at hd⊢;cases h1:ai cD t with|none=>rw[h1]at hd;cases hd|some x=>cases h2:bA cD l with|none=>rw[h1,h2]at hd;cases hd|some y=>rw[h1,h2]at hd;rw[fE hx ha h1,W_ hx hb h2];exact hd);·cases h
end
mutual
theorem dK(hx:∀j u d,Sq φ np na j=O u->ai fj u=O d->cD.x j=O d):∀{t u:Tm}{d:ah},rV φ np na t=O u->ai fj u=O d->ai cD t=O d|.c n,u,d,h,hd=>by simp[rV]at h;subst h;exact hd|.x j,u,d,h,hd=>by simp_all[ai,rV]|.bin o k a b,u,d,h,hd=>by simp[rV]at h;split at h;(·rename_i a' b' ha hb;simp at h;subst h;simp[ai]at hd⊢;cases h1:ai fj a' with|none=>rw[h1]at hd;cases hd|some x=>cases h2:ai fj b' with|none=>rw[h1,h2]at hd;cases x<;>cases hd|some y=>rw[h1,h2]at hd;rw[dK hx ha h1,dK hx hb h2];exact hd);·cases h|.conv k a,u,d,h,hd=>by simp[rV]at h;split at h;(·rename_i a' ha;simp at h;subst h;simp[ai]at hd⊢;cases h1:ai fj a' with|none=>rw[h1]at hd;cases hd|some x=>rw[h1]at hd;rw[dK hx ha h1];exact hd);·cases h|.f o l,u,d,h,hd=>by simp[rV]at h;split at h;(·rename_i a' MQ ha;(have key:∀d,ai fj (.f o a')=O d->ai cD (.f o l)=O d:=λd hd=>by simp[ai,MQ]at hd⊢;cases h1:bA fj a' with|none=>rw[h1]at hd;cases hd|some x=>rw[h1]at hd;rw[LZ hx ha h1];exact hd);grind[bj,an,nX,du]);·cases h
theorem LZ(hx:∀j u d,Sq φ np na j=O u->ai fj u=O d->cD.x j=O d):∀{t u:List Tm}{d:List ah},O2 φ np na t=O u->bA fj u=O d->bA cD t=O d|[],u,d,h,hd=>by simp only[O2,aG]at h;subst h;exact hd|t::l,u,d,h,hd=>by simp[O2]at h;split at h;(·rename_i a' b' ha hb;simp at h;subst h;simp[bA]at hd⊢;cases h1:ai fj a' with|none=>rw[h1]at hd;cases hd|some x=>cases h2:bA fj b' with|none=>rw[h1,h2]at hd;cases hd|some y=>rw[h1,h2]at hd;rw[dK hx ha h1,LZ hx hb h2];exact hd);·cases h
end
structure To(φ:Fit)(np na:Nat)(cD fj:Nm):Prop where
 f:∀j i g,nT φ np na j=O i->cD.f j=O g->fj.f i=O g
 x:∀j u d,Sq φ np na j=O u->cD.x j=O d->ai fj u=O d
 v:∀j v V,inE φ j=O v->cD.x j=O (.v V)->den fj v=O V
 u:cD.u=fj.u
 z:cD.z=fj.z
 q:∀j i v,nT φ np na j=O i->cD.q j=O v->fj.q i=O v
structure Kz(φ:Fit)(np na:Nat)(cD fj:Nm):Prop where
 f:∀j i g,nT φ np na j=O i->fj.f i=O g->cD.f j=O g
 x:∀j u d,Sq φ np na j=O u->ai fj u=O d->cD.x j=O d
 v:∀j v V,inE φ j=O v->den fj v=O V->cD.x j=O (.v V)
 u:cD.u=fj.u
 z:cD.z=fj.z
 q:∀j i v,nT φ np na j=O i->fj.q i=O v->cD.q j=O v
theorem Nl(H:To φ np na cD fj){c d:zj}{n:Nat}(h:ZJ φ np na c=O d)(a:cX cD c=O n):cX fj d=O n:=by cases c with|k m=>simp[ZJ]at h;subst h;exact a|u c m=>simp[ZJ]at h;split at h;(·rename_i i e;simp at h;subst h;simp[cX]at a⊢;cases b:cD.f c with|none=>rw[b]at a;cases a|some g=>rw[b]at a;rw[H.f c i g e b];exact a);·cases h
theorem AG(H:Kz φ np na cD fj){c d:zj}{n:Nat}(h:ZJ φ np na c=O d)(a:cX fj d=O n):cX cD c=O n:=by cases c with|k m=>simp[ZJ]at h;subst h;exact a|u c m=>simp[ZJ]at h;split at h;(·rename_i i e;simp at h;subst h;simp[cX]at a⊢;cases b:fj.f i with|none=>rw[b]at a;cases a|some g=>rw[b]at a;rw[H.f c i g e b];exact a);·cases h
theorem agt(H:To φ np na cD fj){c d:OL}{n:Fn}(h:SK φ np na c=O d)(a:lM cD c=O n):lM fj d=O n:=by cases c with|func m=>simp[SK]at h;subst h;exact a|yield c=>simp[SK]at h;split at h;(·rename_i i e;simp at h;subst h;simp[lM]at a⊢;cases b:cD.f c with|none=>rw[b]at a;cases a|some g=>rw[b]at a;rw[H.f c i g e b];exact a);·cases h
theorem YT(H:Kz φ np na cD fj){c d:OL}{n:Fn}(h:SK φ np na c=O d)(a:lM fj d=O n):lM cD c=O n:=by cases c with|func m=>simp[SK]at h;subst h;exact a|yield c=>simp[SK]at h;split at h;(·rename_i i e;simp at h;subst h;simp[lM]at a⊢;cases b:fj.f i with|none=>rw[b]at a;cases a|some g=>rw[b]at a;rw[H.f c i g e b];exact a);·cases h
mutual
theorem Bx(H:To φ np na cD fj):∀{p a:AV}{V:aa},k_ φ np na p=O a->den cD p=O V->den fj a=O V
 |.bool b,a,V,h,hd=>by
  simp[k_]at h
  subst h
  exact hd
 |.int k n,a,V,h,hd=>by
  simp[k_]at h
  subst h
  exact hd
 |.str s,a,V,h,hd=>by
  simp[k_]at h
  subst h
  exact hd
 |.kv,a,V,h,hd=>by
  simp[k_]at h
  subst h
  exact hd
 |.cQ,a,V,h,hd=>by
  simp[k_]at h
  subst h
  exact hd
 |.lf,a,V,h,hd=>by
  simp[k_]at h
  subst h
  exact hd
 |.iq,a,V,h,hd=>by
  simp[k_]at h
  subst h
  exact hd
 |.gP,a,V,h,hd=>by
  simp[k_]at h
  subst h
  exact hd
 |.mw g o,a,V,h,hd=>by
  simp[k_]at h
  subst h
  exact hd
 |.ptr j off,a,V,h,hd=>by
  simp[k_]at h
  split at h
  ·rename_i i hi
   simp at h
   subst h
   simp[den]at hd⊢
   cases hc:cD.f j with
   |none=>rw[hc]at hd;cases hd
   |some g=>rw[hc]at hd;rw[H.f j i g hi hc];exact hd
  ·cases h
 |.slice j off n c,a,V,h,hd=>by
  simp[k_]at h
  split at h
  ·rename_i i c' hi Sl
   simp at h
   subst h
   simp[den]at hd⊢
   cases hc:cD.f j with
   |none=>rw[hc]at hd;cases hd
   |some g=>
    rw[hc]at hd
    cases hk:cX cD c with
    |none=>rw[hk]at hd;cases hd
    |some m=>rw[hk]at hd;rw[H.f j i g hi hc,Nl H Sl hk];exact hd
  ·cases h
 |.map j,a,V,h,hd=>by
  simp[k_]at h
  split at h
  ·rename_i i hi
   simp at h
   subst h
   simp[den]at hd⊢
   cases hc:cD.f j with
   |none=>rw[hc]at hd;cases hd
   |some g=>rw[hc]at hd;rw[H.f j i g hi hc];exact hd
  ·cases h
 |.func f x y,a,V,h,hd=>by
  simp[k_]at h
  split at h
  ·rename_i f' x' y' hf hx hy
   simp at h
   subst h
   simp[den]at hd⊢
   cases h1:lM cD f with
   |none=>rw[h1]at hd;cases hd
   |some g=>
    rw[h1]at hd
    cases h2:bw cD x with
    |none=>rw[h2]at hd;cases hd
    |some A=>
     rw[h2]at hd
     cases h3:bw cD y with
     |none=>rw[h3]at hd;cases hd
     |some B=>rw[h3]at hd;rw[agt H hf h1,vc H hx h2,vc H hy h3];exact hd
  ·cases h
 |.iface t v,a,V,h,hd=>by
  simp[k_]at h
  split at h
  ·rename_i v' hv
   simp at h
   subst h
   simp[den]at hd⊢
   cases h1:den cD v with
   |none=>rw[h1]at hd;cases hd
   |some U=>rw[h1]at hd;rw[Bx H hv h1];exact hd
  ·cases h
 |.agg l,a,V,h,hd=>by
  simp[k_]at h
  split at h
  ·rename_i l' hl
   simp at h
   subst h
   simp[den]at hd⊢
   cases h1:bw cD l with
   |none=>rw[h1]at hd;cases hd
   |some U=>rw[h1]at hd;rw[vc H hl h1];exact hd
  ·cases h
 |.il l,a,V,h,hd=>by
  simp[k_]at h
  split at h
  ·rename_i l' hl
   simp at h
   subst h
   simp[den]at hd⊢
   cases h1:bw cD l with
   |none=>rw[h1]at hd;cases hd
   |some U=>rw[h1]at hd;rw[vc H hl h1];exact hd
  ·cases h
 |.ext j,a,V,h,hd=>by
  simp[k_]at h
  split at h
  ·rename_i v hv
   split at h
   ·simp at h
    subst h
    simp[den]at hd
    split at hd
    ·rename_i U hU
     split at hd
     ·simp at hd
      subst hd
      exact H.v j _ _ hv hU
     ·cases hd
    ·cases hd
   ·cases h
  ·cases h
 |.sym k t,a,V,h,hd=>by
  simp[k_]at h
  split at h
  ·rename_i u hu
   simp at h
   subst h
   rw[LY]
   simp[den]at hd⊢
   cases h1:ai cD t with
   |none=>rw[h1]at hd;cases hd
   |some d=>rw[h1]at hd;rw[fE H.x hu h1];exact hd
  ·cases h
 |.iI t,a,V,h,hd=>by
  simp[k_]at h
  split at h
  ·rename_i u hu
   simp at h
   subst h
   rw[yE]
   simp only[den]at hd⊢
   cases h1:ai cD t with
   |none=>rw[h1]at hd;cases hd
   |some d=>rw[h1]at hd;rw[fE H.x hu h1];exact hd
  ·cases h
 |.tail j x y l c m,a,V,h,hd=>by
  simp[k_]at h
  split at h
  ·rename_i i c' hi Sl
   simp at h
   subst h
   simp[den]at hd⊢
   cases hc:cD.f j with
   |none=>rw[hc]at hd;cases hd
   |some g=>
    rw[hc]at hd
    cases hk:cX cD (.u c m)with
    |none=>rw[hk]at hd;cases hd
    |some q=>rw[hk]at hd;rw[H.f j i g hi hc,Nl (c:=.u c m) (d:=.u c' m) H (by simp[ZJ,Sl]) hk];exact hd
  ·cases h
 |.iJ t,a,V,h,hd=>by
  simp[k_]at h
  split at h
  ·rename_i u hu
   simp at h
   subst h
   rw[G7]
   simp[den]at hd⊢
   cases h1:ai cD t with
   |none=>rw[h1]at hd;cases hd
   |some d=>rw[h1]at hd;rw[fE H.x hu h1];exact hd
  ·cases h
 |.deep e t,a,V,h,hd=>by
  simp[k_]at h
  split at h
  ·rename_i u hu
   simp at h
   subst h
   refine U1 _ _ _ ?_
   simp[den]at hd⊢
   cases h1:ai cD t with
   |none=>rw[h1]at hd;cases hd
   |some d=>rw[h1]at hd;rw[fE H.x hu h1];exact hd
  ·cases h
 |.mn e z t i off,a,V,h,hd=>by
  simp[k_]at h
  split at h
  ·rename_i t' i' ht hi
   simp at h
   subst h
   simp only[den]at hd⊢
   cases h1:ai cD t with
   |none=>rw[h1]at hd;cases hd
   |some d=>
    cases h2:ai cD i with
    |none=>rw[h1,h2]at hd;simp_all
    |some e=>rw[h1,h2]at hd;rw[fE H.x ht h1,fE H.x hi h2];exact hd
  ·cases h
 |.bK j t c,a,V,h,hd=>by
  simp[k_]at h
  split at h
  ·rename_i i t' c' hi ht Sl
   simp at h
   subst h
   simp only[den]at hd⊢
   split at hd
   ·rename_i g n m h1 h2 h3
    rw[H.f j i g hi h1,fE H.x ht h2,Nl H Sl h3]
    simp only
    split at hd
    ·rename_i g0
     rw[if_pos g0]
     exact ma (λv hv=>H.q j i v hi hv) hd
    simp_all
   ·cases hd
  ·cases h
 |.jM j e z t o,a,V,h,hd=>by
  simp[k_]at h
  split at h
  ·rename_i i t' hi ht
   simp at h
   subst h
   simp[den]at hd⊢
   split at hd
   ·rename_i g n h1 h2
    rw[H.f j i g hi h1,fE H.x ht h2]
    exact hd
   ·cases hd
  ·cases h
 |.gZ j e z t u c,a,V,h,hd=>by
  simp[k_]at h
  split at h
  ·rename_i i t' u' c' hi ht hu Sl
   simp at h
   subst h
   simp only[den]at hd⊢
   split at hd
   ·rename_i g n m k h1 h2 h3 h4
    rw[H.f j i g hi h1,fE H.x ht h2,fE H.x hu h3,Nl H Sl h4]
    simp only
    split at hd
    ·rename_i g0
     rw[if_pos g0]
     exact ma (λv hv=>H.q j i v hi hv) hd
    simp_all
   ·cases hd
  ·cases h
theorem vc(H:To φ np na cD fj):∀{p a:List AV}{V:List aa},Sr φ np na p=O a->bw cD p=O V->bw fj a=O V
 |[],a,V,h,hd=>by
  simp only[Sr,aG]at h
  subst h
  exact hd
 |v::l,a,V,h,hd=>by
  simp[Sr]at h
  split at h
  ·rename_i v' l' hv hl
   simp at h
   subst h
   obtain⟨U,R,h1,h2,rfl⟩:=cd hd
   exact eQ (Bx H hv h1) (vc H hl h2)
  ·cases h
end
theorem Xa(H:To φ np na cD fj):∀{p a:List (AV×AV×Nat)}{l:List bQ},O3 φ np na p=O a->cJ (oD cD) p l->cJ (oD fj) a l|[],a,l,h,k=>(by simp only[O3,aG]at h;subst h;cases l with|nil=>trivial|cons _ _=>cases k)|(x,y,c)::p,a,l,h,k=>by simp[O3]at h;split at h;(·rename_i x' y' g d b f;simp at h;subst h;cases l with|nil=>cases k|cons e l=>exact⟨⟨Bx H d k.1.1,Bx H b k.1.2.1,k.1.2.2⟩,Xa H f k.2⟩);·cases h
mutual
theorem sw(H:Kz φ np na cD fj):∀{p a:AV}{V:aa},k_ φ np na p=O a->den fj a=O V->den cD p=O V
 |.bool b,a,V,h,hd=>by
  simp[k_]at h
  subst h
  exact hd
 |.int k n,a,V,h,hd=>by
  simp[k_]at h
  subst h
  exact hd
 |.str s,a,V,h,hd=>by
  simp[k_]at h
  subst h
  exact hd
 |.kv,a,V,h,hd=>by
  simp[k_]at h
  subst h
  exact hd
 |.cQ,a,V,h,hd=>by
  simp[k_]at h
  subst h
  exact hd
 |.lf,a,V,h,hd=>by
  simp[k_]at h
  subst h
  exact hd
 |.iq,a,V,h,hd=>by
  simp[k_]at h
  subst h
  exact hd
 |.gP,a,V,h,hd=>by
  simp[k_]at h
  subst h
  exact hd
 |.mw g o,a,V,h,hd=>by
  simp[k_]at h
  subst h
  exact hd
 |.ptr j off,a,V,h,hd=>by
  simp[k_]at h
  split at h
  ·rename_i i hi
   simp at h
   subst h
   simp[den]at hd⊢
   cases hc:fj.f i with
   |none=>rw[hc]at hd;cases hd
   |some g=>rw[hc]at hd;rw[H.f j i g hi hc];exact hd
  ·cases h
 |.slice j off n c,a,V,h,hd=>by
  simp[k_]at h
  split at h
  ·rename_i i c' hi Sl
   simp at h
   subst h
   simp[den]at hd⊢
   cases hc:fj.f i with
   |none=>rw[hc]at hd;cases hd
   |some g=>
    rw[hc]at hd
    cases hk:cX fj c' with
    |none=>rw[hk]at hd;cases hd
    |some m=>rw[hk]at hd;rw[H.f j i g hi hc,AG H Sl hk];exact hd
  ·cases h
 |.map j,a,V,h,hd=>by
  simp[k_]at h
  split at h
  ·rename_i i hi
   simp at h
   subst h
   simp[den]at hd⊢
   cases hc:fj.f i with
   |none=>rw[hc]at hd;cases hd
   |some g=>rw[hc]at hd;rw[H.f j i g hi hc];exact hd
  ·cases h
 |.func f x y,a,V,h,hd=>by
  simp[k_]at h
  split at h
  ·rename_i f' x' y' hf hx hy
   simp at h
   subst h
   simp[den]at hd⊢
   cases h1:lM fj f' with
   |none=>rw[h1]at hd;cases hd
   |some g=>
    rw[h1]at hd
    cases h2:bw fj x' with
    |none=>rw[h2]at hd;cases hd
    |some A=>
     rw[h2]at hd
     cases h3:bw fj y' with
     |none=>rw[h3]at hd;cases hd
     |some B=>rw[h3]at hd;rw[YT H hf h1,mZ H hx h2,mZ H hy h3];exact hd
  ·cases h
 |.iface t v,a,V,h,hd=>by
  simp[k_]at h
  split at h
  ·rename_i v' hv
   simp at h
   subst h
   simp[den]at hd⊢
   cases h1:den fj v' with
   |none=>rw[h1]at hd;cases hd
   |some U=>rw[h1]at hd;rw[sw H hv h1];exact hd
  ·cases h
 |.agg l,a,V,h,hd=>by
  simp[k_]at h
  split at h
  ·rename_i l' hl
   simp at h
   subst h
   simp[den]at hd⊢
   cases h1:bw fj l' with
   |none=>rw[h1]at hd;cases hd
   |some U=>rw[h1]at hd;rw[mZ H hl h1];exact hd
  ·cases h
 |.il l,a,V,h,hd=>by
  simp[k_]at h
  split at h
  ·rename_i l' hl
   simp at h
   subst h
   simp[den]at hd⊢
   cases h1:bw fj l' with
   |none=>rw[h1]at hd;cases hd
   |some U=>rw[h1]at hd;rw[mZ H hl h1];exact hd
  ·cases h
 |.ext j,a,V,h,hd=>by
  simp[k_]at h
  split at h
  ·rename_i v hv
   split at h
   ·rename_i ho
    simp at h
    subst h
    simp[den]
    rw[H.v j _ _ hv hd]
    simp only
    rw[if_pos (one_den ho hd).1]
   ·cases h
  ·cases h
 |.sym k t,a,V,h,hd=>by
  simp[k_]at h
  split at h
  ·rename_i u hu
   simp at h
   subst h
   rw[LY]at hd
   simp[den]at hd⊢
   cases h1:ai fj u with
   |none=>rw[h1]at hd;cases hd
   |some d=>rw[h1]at hd;rw[dK H.x hu h1];exact hd
  ·cases h
 |.iI t,a,V,h,hd=>by
  simp[k_]at h
  split at h
  ·rename_i u hu
   simp at h
   subst h
   rw[yE]at hd
   simp only[den]at hd⊢
   cases h1:ai fj u with
   |none=>rw[h1]at hd;cases hd
   |some d=>rw[h1]at hd;rw[dK H.x hu h1];exact hd
  ·cases h
 |.tail j x y l c m,a,V,h,hd=>by
  simp[k_]at h
  split at h
  ·rename_i i c' hi Sl
   simp at h
   subst h
   simp[den]at hd⊢
   cases hc:fj.f i with
   |none=>rw[hc]at hd;cases hd
   |some g=>
    rw[hc]at hd
    cases hk:cX fj (.u c' m)with
    |none=>rw[hk]at hd;cases hd
    |some q=>rw[hk]at hd;rw[H.f j i g hi hc,AG (c:=.u c m) (d:=.u c' m) H (by simp[ZJ,Sl]) hk];exact hd
  ·cases h
 |.iJ t,a,V,h,hd=>by
  simp[k_]at h
  split at h
  ·rename_i u hu
   simp at h
   subst h
   rw[G7]at hd
   simp[den]at hd⊢
   cases h1:ai fj u with
   |none=>rw[h1]at hd;cases hd
   |some d=>rw[h1]at hd;rw[dK H.x hu h1];exact hd
  ·cases h
 |.deep e t,a,V,h,hd=>by
  simp[k_]at h
  split at h
  ·rename_i u hu
   simp at h
   subst h
   have hd:=RJ _ _ _ hd
   simp[den]at hd⊢
   cases h1:ai fj u with
   |none=>rw[h1]at hd;cases hd
   |some d=>rw[h1]at hd;rw[dK H.x hu h1];exact hd
  ·cases h
 |.mn e z t i off,a,V,h,hd=>by
  simp[k_]at h
  split at h
  ·rename_i t' i' ht hi
   simp at h
   subst h
   simp only[den]at hd⊢
   cases h1:ai fj t' with
   |none=>rw[h1]at hd;cases hd
   |some d=>
    cases h2:ai fj i' with
    |none=>rw[h1,h2]at hd;simp_all
    |some e=>rw[h1,h2]at hd;rw[dK H.x ht h1,dK H.x hi h2];exact hd
  ·cases h
 |.bK j t c,a,V,h,hd=>by
  simp[k_]at h
  split at h
  ·rename_i i t' c' hi ht Sl
   simp at h
   subst h
   simp only[den]at hd⊢
   split at hd
   ·rename_i g n m h1 h2 h3
    rw[H.f j i g hi h1,dK H.x ht h2,AG H Sl h3]
    simp only
    split at hd
    ·rename_i g0
     rw[if_pos g0]
     exact ma (λv hv=>H.q j i v hi hv) hd
    simp_all
   ·cases hd
  ·cases h
 |.jM j e z t o,a,V,h,hd=>by
  simp[k_]at h
  split at h
  ·rename_i i t' hi ht
   simp at h
   subst h
   simp[den]at hd⊢
   split at hd
   ·rename_i g n h1 h2
    rw[H.f j i g hi h1,dK H.x ht h2]
    exact hd
   ·cases hd
  ·cases h
 |.gZ j e z t u c,a,V,h,hd=>by
  simp[k_]at h
  split at h
  ·rename_i i t' u' c' hi ht hu Sl
   simp at h
   subst h
   simp only[den]at hd⊢
   split at hd
   ·rename_i g n m k h1 h2 h3 h4
    rw[H.f j i g hi h1,dK H.x ht h2,dK H.x hu h3,AG H Sl h4]
    simp only
    split at hd
    ·rename_i g0
     rw[if_pos g0]
     exact ma (λv hv=>H.q j i v hi hv) hd
    simp_all
   ·cases hd
  ·cases h
theorem mZ(H:Kz φ np na cD fj):∀{p a:List AV}{V:List aa},Sr φ np na p=O a->bw fj a=O V->bw cD p=O V
 |[],a,V,h,hd=>by
  simp only[Sr,aG]at h
  subst h
  exact hd
 |v::l,a,V,h,hd=>by
  simp[Sr]at h
  split at h
  ·rename_i v' l' hv hl
   simp at h
   subst h
   obtain⟨U,R,h1,h2,rfl⟩:=cd hd
   exact eQ (sw H hv h1) (mZ H hl h2)
  ·cases h
end
theorem L3(H:Kz φ np na cD fj):∀{p a:List (AV×AV×Nat)}{l:List bQ},O3 φ np na p=O a->cJ (oD fj) a l->cJ (oD cD) p l|[],a,l,h,k=>(by simp only[O3,aG]at h;subst h;cases l with|nil=>trivial|cons _ _=>cases k)|(x,y,c)::p,a,l,h,k=>by simp[O3]at h;split at h;(·rename_i x' y' g d b f;simp at h;subst h;cases l with|nil=>cases k|cons e l=>exact⟨⟨sw H d k.1.1,sw H b k.1.2.1,k.1.2.2⟩,L3 H f k.2⟩);·cases h
end
section
variable{α:Type}
theorem wU:∀(t:Tr α)(a b:Nat)(acc:List (Nat×α)),∀p∈acc,p∈cG t a b acc|.e,_,_,_,_,h=>h|.n l v r,a,b,acc,p,h=>by refine wU l _ _ _ p (wU r _ _ _ p ?_);grind
theorem B5:∀{t:Tr α}{a b:Nat}{acc:List (Nat×α)}{k:Nat}{v:α},t.get k=O v->(a*k+b,v)∈cG t a b acc|.e,_,_,_,_,_,h=>by cases h|.n l w r,a,b,acc,k,v,h=>by unfold cG;rw[Tr.qW]at h;split at h;grind[wU];rename_i hk;split at h;have:=B5 (a:=2*a) (b:=a+b) (acc:=cG r (2*a) (2*a+b) (match w with|O x=>(b,x)::acc|G=>acc)) h;(have e:2*a*(k/2)+(a+b)=a*k+b:=by (have:k=2*(k/2)+1:=by omega);grind);rwa [e]at this;refine wU l _ _ _ _ ?_;have:=B5 (a:=2*a) (b:=2*a+b) (acc:=match w with|O x=>(b,x)::acc|G=>acc) h;(have e:2*a*(k/2 - 1)+(2*a+b)=a*k+b:=by (have:k=2*(k/2 - 1)+2:=by omega);grind);rwa [e]at this
theorem B6:∀{t:Tr α}{a b:Nat}{acc:List (Nat×α)}{p:Nat×α},p∈cG t a b acc->p∈acc∨∃k,t.get k=O p.2/\p.1=a*k+b|.e,_,_,_,_,h=>.inl h|.n l w r,a,b,acc,p,h=>by unfold cG at h;rcases B6 h with h|⟨k,c,d⟩;(·rcases B6 h with h|⟨k,c,d⟩;(·cases w with|none=>exact .inl h|some x=>rcases aO.1 h with rfl|h;(·refine .inr ⟨0,?_,by simp⟩;rw[Tr.qW,if_pos rfl]);grind);·refine .inr ⟨2*k+2,?_,?_⟩;(·rw[Tr.qW,if_neg (by omega),if_neg (by omega)];rw[show(2*k+2)/2 - 1=k by omega];exact c);grind);·refine .inr ⟨2*k+1,?_,?_⟩;(·rw[Tr.qW,if_neg (by omega),if_pos (by omega)];rw[show(2*k+1)/2=k by omega];exact c);grind
end
theorem fL{α:Type}{t:Tr α}{j:Nat}{ob:α}:(j,ob)∈cG t 1 0 []↔t.get j=O ob:=by constructor;intro h;rcases B6 h with h|⟨k,h1,h2⟩;cases h;simp_all;intro h;have:=B5 (a:=1) (b:=0) (acc:=[]) h;rwa [fG,pB]at this
theorem A3{φ:Fit}{np na:Nat}:∀{l:List (Nat×AV)}{T T':Tr AV},jS φ np na l T=O T'->∀i v,T'.get i=O v->(∃p∈l,p.1=i/\k_ φ np na p.2=O v)∨T.get i=O v|[],T,T',h,i,v,a=>by simp_all[jS]|(j,q)::l,T,T',h,i,v,a=>by unfold jS at h;split at h;rename_i u d;obtain⟨p,b,c⟩|b:=A3 h i v a;exact .inl ⟨p,aS _ b,c⟩;grind[Tr.bJ,aU];cases h
theorem C3{φ:Fit}{np na:Nat}:∀{l:List (Nat×AV)}{T T':Tr AV},jS φ np na l T=O T'->∀p∈l,∃q∈l,∃u,q.1=p.1/\k_ φ np na q.2=O u/\T'.get p.1=O u|[],_,_,_,p,b=>by cases b|(j,q)::l,T,T',h,p,b=>by unfold jS at h;split at h;rename_i u k;by_cases f:∃q∈l,q.1=p.1;have⟨g,m,w⟩:=f;have⟨r,t,v,s,o,n⟩:=C3 h g m;grind;rcases aO.1 b with rfl|b;refine⟨_,aU ..,u,rfl,k,?_⟩;(have dz:∀{l:List (Nat×AV)}{T T':Tr AV},jS φ np na l T=O T'->(∀q∈l,q.1≠j)->T'.get j=T.get j:=by intro l;induction l with|nil=>intro T T' h _;simp[jS]at h;rw[h]|cons a l i=>intro T T' h d;have⟨x,y⟩:=a;unfold jS at h;split at h;rw[i h λq c=>d q (aS _ c),Tr.bJ,if_neg];exact λe=>d _ (aU ..) e.symm;cases h);rw[dz h λq c e=>f ⟨q,c,e⟩,Tr.bJ,if_pos rfl];simp_all;cases h
section
variable{φ:Fit}{np na:Nat}{cD fj:Nm}
theorem QE(H:To φ np na cD fj){T T':Tr AV}(h:jS φ np na (cG T 1 0 []) .e=O T'){N:Nat}{tmps:Array aa}(b:eG cD T N tmps):eG fj T' N tmps:=
 ⟨b.size,λi v d=>by
  obtain⟨p,a,c,k⟩|a:=A3 h i v d
  ·have⟨j,q⟩:=p
   simp only at c
   subst c
   have⟨V,g,f⟩:=b.jb j q (fL.1 a)
   exact⟨V,Bx H k g,f⟩
  ·cases a⟩
theorem U2(H:Kz φ np na cD fj){T T':Tr AV}(h:jS φ np na (cG T 1 0 []) .e=O T'){N:Nat}{tmps:Array aa}(b:eG fj T' N tmps):eG cD T N tmps:=
 ⟨b.size,λi v a=>by
  have⟨q,l,u,c,k,g⟩:=C3 h (i,v) (fL.2 a)
  have⟨j,q⟩:=q
  simp only at c
  subst c
  have:=fL.1 l
  rw[a]at this
  simp at this
  subst this
  have⟨V,f,d⟩:=b.jb j u g
  exact⟨V,sw H k f,d⟩⟩
theorem ako{P:aw}(H:To φ np na cD fj){p a:bF}{obj:Obj}(h:nk φ np na p=O a)(k:bN P cD p obj):bN P fj a obj:=by cases p with|cells l t c=>(cases c with|none=>simp[nk]at h;split at h;rename_i Oz F;simp at h;subst h;(cases obj<;>simp only[bN]at k⊢<;>try exact k.elim);grind[vc];cases h|some c=>simp[nk]at h;split at h;rename_i Oz c' F v;simp at h;subst h;(cases obj<;>simp only[bN]at k⊢<;>try exact k.elim);have⟨n,b,L,R,j,o,cap,i,r,A,w⟩:=k;exact⟨n,b,L,R,vc H F j,o,cap,i,H.f _ _ _ v r,A,w⟩;cases h)|map es c=>simp[nk]at h;split at h;rename_i nS K;simp at h;subst h;(cases obj<;>simp only[bN]at k⊢<;>try exact k.elim);exact⟨k.1,Xa H K k.2⟩;cases h|iter m x l y=>(cases m with|none=>simp[nk]at h;subst h;(cases obj<;>simp only[bN]at k⊢<;>try exact k.elim);exact k|some m=>simp[nk]at h;split at h;rename_i Y J;simp at h;subst h;(cases obj<;>simp only[bN]at k⊢<;>try exact k.elim);have⟨⟨g,g1,g2⟩,b⟩:=k;exact⟨⟨g,H.f _ _ _ J g1,g2⟩,b⟩;cases h)|loop V W T N ps dd key=>(cases V<;>cases W<;>simp only[nk]at h<;>try(cases h;done));split at h;rename_i T' d' hT hd;simp at h;subst h;(cases obj<;>simp only[bN]at k⊢<;>try exact k.elim);exact⟨k.1,k.2.1,QE H hT k.2.2.1,k.2.2.2.1,k.2.2.2.2.1,H.f _ _ _ hd k.2.2.2.2.2⟩;cases h|oR=>simp[nk]at h;subst h;(cases obj<;>simp only[bN]at k⊢<;>try exact k.elim);exact k|g_ Zz U t c B S last=>(cases last with|some q=>cases h|none=>simp[nk]at h;split at h;rename_i E c' B' S' u v M hS;simp at h;subst h;(cases obj<;>simp only[bN]at k⊢<;>try exact k.elim);have⟨xs,Q,bs,ys,n,b,j,o,s,r,A,w,Gz,C,D⟩:=k;exact⟨xs,Q,bs,ys,fE H.x u n,by rw[<-H.z];exact b,j,fE H.x v o,fE H.x M s,fE H.x hS r,A,by rw[<-H.z];exact w,Gz,C,trivial⟩;cases h)|jk m c B=>simp[nk]at h;split at h;rename_i Y c' B' J v M;simp at h;subst h;(cases obj<;>simp only[bN]at k⊢<;>try exact k.elim);have⟨g,n,b,j,o,s⟩:=k;exact⟨g,H.f _ _ _ J n,b,fE H.x v j,o,fE H.x M s⟩;cases h|lh t e c q l=>(cases c with|none=>cases h|some c=>simp[nk]at h;split at h;rename_i E c' q' Oz u v hq F;simp at h;subst h;(cases obj<;>simp only[bN]at k⊢<;>try exact k.elim);have⟨n,b,xs,L,R,kk,vs,j,o,s,r,A,w,Gz,cap,i,C,D,Iz⟩:=k;exact⟨n,b,xs,L,R,kk,vs,fE H.x u j,by rw[<-H.z];exact o,fE H.x hq s,r,vc H F A,w,Gz,cap,i,H.f _ _ _ v C,D,Iz⟩;cases h)|dmap Zz U t X=>(cases X<;>simp only[nk]at h<;>try(cases h;done));split at h;rename_i E u;simp at h;subst h;(cases obj<;>simp only[bN]at k⊢<;>try exact k.elim);have⟨xs,n,b,j,o⟩:=k;exact⟨xs,fE H.x u n,by rw[<-H.z];exact b,j,trivial⟩;cases h|row t e c=>cases c with|none=>simp[nk]at h;split at h;rename_i E u;simp at h;subst h;(cases obj<;>simp only[bN]at k⊢<;>try exact k.elim);have⟨n,b,d,L,R,j,o,s,r⟩:=k;exact⟨n,b,d,L,R,fE H.x u j,by rw[<-H.z];exact o,s,r⟩;cases h|some c=>simp[nk]at h;split at h;rename_i E c' u v;simp at h;subst h;(cases obj<;>simp only[bN]at k⊢<;>try exact k.elim);have⟨n,b,d,L,R,j,o,s,cap,i,r,A,w⟩:=k;exact⟨n,b,d,L,R,fE H.x u j,by rw[<-H.z];exact o,s,cap,i,H.f _ _ _ v r,A,w⟩;cases h
theorem QF{P:aw}(H:Kz φ np na cD fj){p a:bF}{obj:Obj}(h:nk φ np na p=O a)(k:bN P fj a obj):bN P cD p obj:=by cases p with|cells l t c=>(cases c with|none=>simp[nk]at h;split at h;rename_i Oz F;simp at h;subst h;(cases obj<;>simp only[bN]at k⊢<;>try exact k.elim);grind[mZ];cases h|some c=>simp[nk]at h;split at h;rename_i Oz c' F v;simp at h;subst h;(cases obj<;>simp only[bN]at k⊢<;>try exact k.elim);have⟨n,b,L,R,j,o,cap,i,r,A,w⟩:=k;exact⟨n,b,L,R,mZ H F j,o,cap,i,H.f _ _ _ v r,A,w⟩;cases h)|map es c=>simp[nk]at h;split at h;rename_i nS K;simp at h;subst h;(cases obj<;>simp only[bN]at k⊢<;>try exact k.elim);exact⟨k.1,L3 H K k.2⟩;cases h|iter m x l y=>(cases m with|none=>simp[nk]at h;subst h;(cases obj<;>simp only[bN]at k⊢<;>try exact k.elim);exact k|some m=>simp[nk]at h;split at h;rename_i Y J;simp at h;subst h;(cases obj<;>simp only[bN]at k⊢<;>try exact k.elim);have⟨⟨g,g1,g2⟩,b⟩:=k;exact⟨⟨g,H.f _ _ _ J g1,g2⟩,b⟩;cases h)|loop V W T N ps dd key=>(cases V<;>cases W<;>simp only[nk]at h<;>try(cases h;done));split at h;rename_i T' d' hT hd;simp at h;subst h;(cases obj<;>simp only[bN]at k⊢<;>try exact k.elim);exact⟨k.1,k.2.1,U2 H hT k.2.2.1,k.2.2.2.1,k.2.2.2.2.1,H.f _ _ _ hd k.2.2.2.2.2⟩;cases h|oR=>simp[nk]at h;subst h;(cases obj<;>simp only[bN]at k⊢<;>try exact k.elim);exact k|g_ Zz U t c B S last=>(cases last with|some q=>cases h|none=>simp[nk]at h;split at h;rename_i E c' B' S' u v M hS;simp at h;subst h;(cases obj<;>simp only[bN]at k⊢<;>try exact k.elim);have⟨xs,Q,bs,ys,n,b,j,o,s,r,A,w,Gz,C,D⟩:=k;exact⟨xs,Q,bs,ys,dK H.x u n,by rw[H.z];exact b,j,dK H.x v o,dK H.x M s,dK H.x hS r,A,by rw[H.z];exact w,Gz,C,trivial⟩;cases h)|jk m c B=>simp[nk]at h;split at h;rename_i Y c' B' J v M;simp at h;subst h;(cases obj<;>simp only[bN]at k⊢<;>try exact k.elim);have⟨g,n,b,j,o,s⟩:=k;exact⟨g,H.f _ _ _ J n,b,dK H.x v j,o,dK H.x M s⟩;cases h|lh t e c q l=>(cases c with|none=>cases h|some c=>simp[nk]at h;split at h;rename_i E c' q' Oz u v hq F;simp at h;subst h;(cases obj<;>simp only[bN]at k⊢<;>try exact k.elim);have⟨n,b,xs,L,R,kk,vs,j,o,s,r,A,w,Gz,cap,i,C,D,Iz⟩:=k;exact⟨n,b,xs,L,R,kk,vs,dK H.x u j,by rw[H.z];exact o,dK H.x hq s,r,mZ H F A,w,Gz,cap,i,H.f _ _ _ v C,D,Iz⟩;cases h)|dmap Zz U t X=>(cases X<;>simp only[nk]at h<;>try(cases h;done));split at h;rename_i E u;simp at h;subst h;(cases obj<;>simp only[bN]at k⊢<;>try exact k.elim);have⟨xs,n,b,j,o⟩:=k;exact⟨xs,dK H.x u n,by rw[H.z];exact b,j,trivial⟩;cases h|row t e c=>cases c with|none=>simp[nk]at h;split at h;rename_i E u;simp at h;subst h;(cases obj<;>simp only[bN]at k⊢<;>try exact k.elim);have⟨n,b,d,L,R,j,o,s,r⟩:=k;exact⟨n,b,d,L,R,dK H.x u j,by rw[H.z];exact o,s,r⟩;cases h|some c=>simp[nk]at h;split at h;rename_i E c' u v;simp at h;subst h;(cases obj<;>simp only[bN]at k⊢<;>try exact k.elim);have⟨n,b,d,L,R,j,o,s,cap,i,r,A,w⟩:=k;exact⟨n,b,d,L,R,dK H.x u j,by rw[H.z];exact o,s,cap,i,H.f _ _ _ v r,A,w⟩;cases h
theorem RK{P:aw}(H:To φ np na cD fj){p a:bF}(h:nk φ np na p=O a)(k:iU P cD p):iU P fj a:=by cases p with|row t e c=>(cases c with|none=>simp[nk]at h;split at h;simp at h;subst h;have⟨_,_,_,_,_,_,g,_⟩:=k;cases g;cases h|some c=>simp[nk]at h;split at h;rename_i D c' A g;simp at h;subst h;have⟨d,w,v,u,C,m,b,s⟩:=k;simp at b;subst b;exact⟨d,fE H.x A w,by rw[<-H.z];exact v,u,_,m,rfl,H.f _ _ _ g s⟩;cases h)|cells l t c=>cases c<;>(simp[nk]at h;split at h<;>first|(cases h;done)|(exact k.elim))|map es c=>(simp[nk]at h;split at h<;>first|(cases h;done)|(exact k.elim))|iter m x l y=>(cases m<;>simp only[nk]at h<;>first|(injection h with h;cases k)|(split at h<;>first|(cases h;done)|(exact k.elim)))|loop j n T N ps E key=>((cases j<;>cases n<;>simp only[nk]at h<;>try(cases h;done));split at h<;>first|(cases h;done)|(exact k.elim))|oR=>exact k.elim|g_ r i t c B S last=>(cases last<;>simp only[nk]at h<;>first|(cases h;done)|(split at h<;>first|(cases h;done)|(exact k.elim)))|jk m c B=>(simp[nk]at h;split at h<;>first|(cases h;done)|(exact k.elim))|lh t e c q l=>(cases c<;>simp only[nk]at h<;>first|(cases h;done)|(split at h<;>first|(cases h;done)|(exact k.elim)))|dmap r i t o=>cases o<;>simp only[nk]at h<;>first|(cases h;done)|(split at h<;>first|(cases h;done)|(exact k.elim))
theorem xH{P:aw}(H:Kz φ np na cD fj){p a:bF}(h:nk φ np na p=O a)(k:iU P fj a):iU P cD p:=by cases p with|row t e c=>(cases c with|none=>simp[nk]at h;split at h;simp at h;subst h;have⟨_,_,_,_,_,_,g,_⟩:=k;cases g;cases h|some c=>simp[nk]at h;split at h;rename_i D c' A g;simp at h;subst h;have⟨d,w,v,u,C,m,b,s⟩:=k;simp at b;subst b;exact⟨d,dK H.x A w,by rw[H.z];exact v,u,_,m,rfl,H.f _ _ _ g s⟩;cases h)|cells l t c=>cases c<;>(simp[nk]at h;split at h<;>first|(cases h;done)|(simp at h;subst h;cases k))|map es c=>(simp[nk]at h;split at h<;>first|(cases h;done)|(simp at h;subst h;cases k))|iter m x l y=>(cases m<;>simp only[nk]at h<;>first|(injection h with h;subst h;cases k)|(split at h<;>first|(cases h;done)|(simp at h;subst h;cases k)))|loop j n T N ps E key=>((cases j<;>cases n<;>simp only[nk]at h<;>try(cases h;done));split at h<;>first|(cases h;done)|(simp at h;subst h;cases k))|oR=>simp[nk]at h;subst h;cases k|g_ r i t c B S last=>(cases last<;>simp only[nk]at h<;>first|(cases h;done)|(split at h<;>first|(cases h;done)|(simp at h;subst h;cases k)))|jk m c B=>(simp[nk]at h;split at h<;>first|(cases h;done)|(simp at h;subst h;cases k))|lh t e c q l=>(cases c<;>simp only[nk]at h<;>first|(cases h;done)|(split at h<;>first|(cases h;done)|(simp at h;subst h;cases k)))|dmap r i t o=>cases o<;>simp only[nk]at h<;>first|(cases h;done)|(split at h<;>first|(cases h;done)|(simp at h;subst h;cases k))
end
mutual
theorem tQ(ν ed:Nm):∀v:AV,tj v=I->den ν v=den ed v|.bool _,_=>rfl|.int _ _,_=>rfl|.str _,_=>rfl|.kv,_=>rfl|.cQ,_=>rfl|.lf,_=>rfl|.iq,_=>rfl|.gP,_=>rfl|.agg l,h=>by simp[den];rw[rp ν ed l h]|.il l,h=>by simp[den];rw[rp ν ed l h]|.ptr _ _,h=>by cases h|.slice ..,h=>by cases h|.map _,h=>by cases h|.func ..,h=>by cases h|.iface ..,h=>by cases h|.ext _,h=>by cases h|.mw ..,h=>by cases h|.sym ..,h=>by cases h|.iI _,h=>by cases h|.tail ..,h=>by cases h|.iJ _,h=>by cases h|.deep ..,h=>by cases h|.mn ..,h=>by cases h|.bK ..,h=>by cases h|.jM ..,h=>by cases h|.gZ ..,h=>by cases h
theorem rp(ν ed:Nm):∀l:List AV,mM l=I->bw ν l=bw ed l|[],_=>rfl|v::l,h=>by simp[mM]at h;simp[bw];rw[tQ ν ed v h.1,rp ν ed l h.2]
end
section
variable{φ:Fit}{np na:Nat}
theorem G8:∀{l:List (Nat×bF)}{h:Tr bF}{i:Nat}{ob:bF},(xu φ np na l h).get i=O ob->h.get i=O ob/\∀p∈l,nT φ np na p.1≠O i|[],_,_,_,k=>⟨k,λp a=>by cases a⟩|(j,o)::l,h,i,ob,k=>by unfold xu at k;have⟨c,b⟩:=G8 k;grind[Tr.bJ]
theorem G9:∀{l:List (Nat×bF)}{h:Tr bF}{i:Nat}{ob:bF},h.get i=O ob->(∀p∈l,nT φ np na p.1≠O i)->(xu φ np na l h).get i=O ob|[],_,_,_,k,_=>k|(j,o)::l,h,i,ob,k,b=>by unfold xu;refine G9 ?_ λp a=>b p (aS _ a);split;rename_i d c;rw[Tr.bJ,if_neg];exact k;grind[aU];exact k
theorem L4:∀{l:List (Nat×bF)}{h a:Tr bF}{i:Nat}{ob:bF},zE φ np na l h=O a->a.get i=O ob->(∃p∈l,nT φ np na p.1=O i/\nk φ np na p.2=O ob)∨h.get i=O ob|[],h,a,i,ob,e,k=>by simp_all[zE]|(j,o)::l,h,a,i,ob,e,k=>by unfold zE at e;split at e;rename_i f d m g;obtain⟨p,b,c⟩|b:=L4 e k;exact .inl ⟨p,aS _ b,c⟩;grind[Tr.bJ,aU];cases e
theorem wV:∀{l:List (Nat×bF)}{h b:Tr bF}{i:Nat}{ob:bF},zE φ np na l h=O b->h.get i=O ob->∃c,b.get i=O c|[],h,b,i,ob,e,k=>by simp_all[zE]|(j,o)::l,h,b,i,ob,e,k=>by unfold zE at e;split at e;rename_i f d m g;by_cases a:i=f;exact wV e (by rw[Tr.bJ,if_pos a]);exact wV (ob:=ob) e (by rw[Tr.bJ,if_neg a];exact k);cases e
theorem QG:∀{l:List (Nat×bF)}{h f:Tr bF}{i:Nat}{p:Nat×bF},zE φ np na l h=O f->p∈l->nT φ np na p.1=O i->∃c,f.get i=O c|[],_,_,_,_,_,a,_=>by cases a|(j,o)::l,h,f,i,p,e,a,b=>by unfold zE at e;split at e;rename_i k g d m;rcases aO.1 a with rfl|a;rw[d]at b;simp at b;subst b;exact wV e (by rw[Tr.bJ,if_pos rfl]);exact QG e a b;cases e
theorem QH:∀{l m:List (Tm×Bool)},MJ φ np na l=O m->∀t b,(t,b)∈m->∃d,(d,b)∈l/\rV φ np na d=O t|[],m,h,t,b,a=>by simp_all[MJ]|(u,c)::l,m,h,t,b,a=>by unfold MJ at h;split at h;rename_i g i j f;simp at h;subst h;rcases aO.1 a with e|a;simp_all;have⟨d,n,k⟩:=QH f t b a;grind;cases h
end
theorem qH{ν:Nm}:∀{l:List (Nat×AV)},(∀p∈l,∃V,den ν p.2=O V)->∃VS,bw ν (l.map (·.2))=O VS|[],_=>⟨[],rfl⟩|p::l,h=>by have⟨V,c⟩:=h p (aU ..);have⟨VS,b⟩:=qH λq a=>h q (aS _ a);exact⟨V::VS,eQ c b⟩
section
variable{ν:Nm}
def VJ(ν:Nm)(t:Tm):Prop:=∃n,ai ν t=O (.n n)
mutual
theorem U3:∀{v:AV}{V:aa}{l:List Tm},den ν v=O V->(∀t∈l,VJ ν t)->∀t∈ag_ v l,VJ ν t
 |.sym k u,V,l,h,hl,t,ht=>by
  rcases aO.1 ht with rfl|ht
  ·have⟨n,h1,_⟩:=pa h
   exact⟨n,h1⟩
  grind
 |.iI u,V,l,h,hl,t,ht=>by
  rcases aO.1 ht with rfl|ht
  ·have⟨n,h1,_⟩:=vn h
   exact⟨n,h1⟩
  grind
 |.iJ u,V,l,h,hl,t,ht=>by
  rcases aO.1 ht with rfl|ht
  ·have⟨m,h1,_⟩:=u_ (u:=u) rfl h
   exact⟨_,WZ h1⟩
  grind
 |.deep e u,V,l,h,hl,t,ht=>by
  have⟨xs,h1,_⟩:=lA h
  rcases aO.1 ht with rfl|ht
  ·exact⟨_,cM h1 rfl⟩
  grind
 |.bK i n c,V,l,h,hl,t,ht=>by
  rcases aO.1 ht with rfl|ht
  ·simp only[den]at h
   split at h
   ·exact⟨_,‹_›⟩
   ·cases h
  grind
 |.jM i e z n o,V,l,h,hl,t,ht=>by
  rcases aO.1 ht with rfl|ht
  ·simp[den]at h
   split at h
   ·exact⟨_,‹_›⟩
   ·cases h
  grind
 |.agg vs,V,l,h,hl,t,ht=>by
  have⟨L,h1,_⟩:=gB h
  exact ic h1 hl t ht
 |.il vs,V,l,h,hl,t,ht=>by
  have⟨L,h1,_⟩:=wq h
  exact ic h1 hl t ht
 |.func f a b,V,l,h,hl,t,ht=>by
  have⟨fn,FZ,CS,_,h2,h3,_⟩:=qt h
  exact ic h2 (λt ht=>ic h3 hl t ht) t ht
 |.bool _,_,_,_,hl,t,ht|.int _ _,_,_,_,hl,t,ht|.str _,_,_,_,hl,t,ht|.kv,_,_,_,hl,t,ht|.ptr _ _,_,_,_,hl,t,ht|.cQ,_,_,_,hl,t,ht|.slice _ _ _ _,_,_,_,hl,t,ht|.lf,_,_,_,hl,t,ht|.map _,_,_,_,hl,t,ht|.iq,_,_,_,hl,t,ht
 |.iface _ _,_,_,_,hl,t,ht|.gP,_,_,_,hl,t,ht|.ext _,_,_,_,hl,t,ht|.mw _ _,_,_,_,hl,t,ht|.tail _ _ _ _ _ _,_,_,_,hl,t,ht|.mn _ _ _ _ _,_,_,_,hl,t,ht|.gZ _ _ _ _ _ _,_,_,_,hl,t,ht=>hl t ht
theorem ic:∀{vs:List AV}{VS:List aa}{l:List Tm},bw ν vs=O VS->(∀t∈l,VJ ν t)->∀t∈qT vs l,VJ ν t|[],_,_,_,hl,t,ht=>hl t ht|v::vs,VS,l,h,hl,t,ht=>by obtain⟨V,R,h1,h2,rfl⟩:=cd h;exact U3 h1 (λt ht=>ic h2 hl t ht) t ht
end
def abV(P:aw)(ν:Nm)(o:bF):Prop:=iU P ν o∨∃obj,bN P ν o obj
theorem U4{P:aw}{o:bF}{l:List Tm}(h:abV P ν o)(g:∀t∈l,VJ ν t):∀t∈aaA o l,VJ ν t:=by intro t a;(cases o<;>simp only[aaA]at a<;>try exact g t a);(case cells vs w c=>rcases h with h|⟨obj,h⟩;cases h;(cases obj<;>simp only[bN]at h<;>try exact h.elim);grind[ic]);(case row u e c=>rcases aO.1 a with rfl|a;rcases h with h|⟨obj,h⟩;have⟨d,b,_,f,_⟩:=h;exact⟨_,cM b f⟩;(cases obj<;>simp only[bN]at h<;>try exact h.elim);have⟨_,_,d,L,R,b,f,_⟩:=h;(cases d<;>simp only[bT]at f<;>try exact f.elim);exact⟨_,cM b rfl⟩;exact⟨_,cM b rfl⟩;grind);(case g_ m k u c B S last=>rcases h with h|⟨obj,h⟩;cases h;(cases obj<;>simp only[bN]at h<;>try exact h.elim);have⟨xs,s,C,ys,b,_,_,_,_,f,_⟩:=h;rcases aO.1 a with rfl|a;exact⟨_,cM b rfl⟩;rcases aO.1 a with rfl|a;exact⟨_,cM f rfl⟩;exact g t a);(case lh u e c q vs=>rcases h with h|⟨obj,h⟩;cases h;(cases obj<;>simp only[bN]at h<;>try exact h.elim);have⟨_,_,xs,L,R,A,us,b,_,f,_,r,_⟩:=h;rcases aO.1 a with rfl|a;exact⟨_,cM b rfl⟩;rcases aO.1 a with rfl|a;exact⟨_,f⟩;exact ic r g t a);(case dmap m k u z=>rcases aO.1 a with rfl|a;rcases h with h|⟨obj,h⟩;cases h;(cases obj<;>simp only[bN]at h<;>try exact h.elim);have⟨xs,b,_⟩:=h;exact⟨_,cM b rfl⟩;grind);case loop x y T N ps d key=>rcases h with h|⟨obj,h⟩;cases h;(cases obj<;>simp only[bN]at h<;>try exact h.elim);(have⟨VS,j⟩:∃VS,bw ν ((cG T 1 0 []).map (·.2))=O VS:=qH λp n=>by have⟨i,v⟩:=p;have⟨V,b,_⟩:=h.2.2.1.jb i v (fL.1 n);grind);exact ic j g t a
theorem tR{P:aw}:∀{l:List (Nat×bF)}{r:List Tm},(∀p∈l,abV P ν p.2)->(∀t∈r,VJ ν t)->∀t∈EO l r,VJ ν t|[],_,_,b,t,a=>b t a|(j,o)::l,r,h,b,t,a=>by exact U4 (h _ (aU ..)) (λt a=>tR (λp c=>h p (aS _ c)) b t a) t a
theorem PW{D:List Tm}(a:∀t∈D,VJ ν t){t:Tm}(h:D.any (dF t)=I):VJ ν t:=by grind[bj]
theorem OA{o:BinOp}(h:NG o=I)(k:bu)(x y:Int):∃n,gH o k x y=O (.n n):=by cases o<;>simp only[NG]at h<;>first|(cases h;done)|exact⟨_,rfl⟩
theorem YU{o:Nat}{l:List Tm}(h:ai3 o l=I){ds:List ah}(b:bA ν l=O ds):∃n:Int,dD o ds=O (.n n)/\oU o=Z/\o<100:=by unfold ai3 at h;split at h;obtain⟨x,r,_,c,rfl⟩:=aP.1 b;have:=eX.1 c;subst this;simp only[bW]at h;(have ap:∀g:ah->ah,∃n:Int,oH g x=O (.n n):=λg=>by unfold oH;split<;>exact⟨_,rfl⟩);rcases h with h|h<;>have h:=an h<;>subst h;have⟨n,a⟩:=ap qe;exact⟨n,a,rfl,by decide⟩;have⟨n,a⟩:=ap qQ;exact⟨n,a,rfl,by decide⟩;obtain⟨x,r,_,c,rfl⟩:=aP.1 b;obtain⟨y,e,_,d,rfl⟩:=aP.1 c;obtain⟨u,i,_,f,rfl⟩:=aP.1 d;have:=eX.1 f;subst this;have h:=an h;subst h;(have:∃n:Int,uZ x y u=O (.n n):=by unfold uZ;split;split;split<;>exact⟨_,rfl⟩;exact⟨_,rfl⟩;exact⟨_,rfl⟩);have⟨n,a⟩:=this;exact⟨n,a,rfl,by decide⟩;obtain⟨x,r,_,c,rfl⟩:=aP.1 b;obtain⟨y,e,_,d,rfl⟩:=aP.1 c;have:=eX.1 d;subst this;simp only[bW]at h;rcases h with((h|h)|h)|h<;>have h:=an h<;>subst h;(have:∃n:Int,Cr x y=O (.n n):=by unfold Cr;split;split<;>exact⟨_,rfl⟩;exact⟨_,rfl⟩);have⟨n,a⟩:=this;exact⟨n,a,rfl,by decide⟩;(have:∃n:Int,Ct x y=O (.n n):=by unfold Ct;split;split<;>exact⟨_,rfl⟩;exact⟨_,rfl⟩);have⟨n,a⟩:=this;exact⟨n,a,rfl,by decide⟩;(have:∃n:Int,Cu x y=O (.n n):=by unfold Cu;split;split<;>exact⟨_,rfl⟩;exact⟨_,rfl⟩);have⟨n,a⟩:=this;exact⟨n,a,rfl,by decide⟩;(have:∃n:Int,uY x y=O (.n n):=by unfold uY;split;split<;>exact⟨_,rfl⟩;exact⟨_,rfl⟩);have⟨n,a⟩:=this;exact⟨n,a,rfl,by decide⟩;cases h
mutual
theorem lW{D:List Tm}(hD:∀t∈D,VJ ν t):∀{t:Tm},uf D t=I->VJ ν t|.c n,_=>⟨n,rfl⟩|.bin o k a b,h=>(by simp only[uf,bW,ay]at h;obtain⟨⟨h1,h2⟩,h3⟩|h:=h;(·have⟨x,hx⟩:=lW hD h2;have⟨y,hy⟩:=lW hD h3;have⟨n,hn⟩:=OA h1 k x y;exact⟨n,dq.2 ⟨x,y,hx,hy,hn⟩⟩);·exact PW hD h)|.conv k a,h=>(by simp only[uf,bW]at h;rcases h with h|h;(·have⟨x,hx⟩:=lW hD h;exact⟨_,ov.2 ⟨x,hx,rfl⟩⟩);·exact PW hD h)|.x i,h=>by grind[uf,PW]|.f o l,h=>by simp only[uf,bW,ay]at h;rcases h with((⟨h1,h2⟩|⟨⟨h1,h2⟩,h3⟩)|⟨h1,h3⟩)|h;(·have:=an h1;subst this;cases l with|nil=>exact⟨ν.u,rfl⟩|cons _ _=>cases h2);(·have⟨ds,kQ⟩:=vL hD h3;have⟨n,hn⟩:=Yo h2 ds;(have MQ:oU o=Z:=by have:=bz h1;grind[oU,an]);exact⟨n,(lR MQ).2 ⟨ds,kQ,hn⟩⟩);(·have⟨ds,kQ⟩:=vL hD h3;have⟨c,hc,MQ,amQ⟩:=YU h1 kQ;exact⟨_,(dn MQ amQ).2 ⟨ds,kQ,hc⟩⟩);·exact PW hD h
theorem vL{D:List Tm}(hD:∀t∈D,VJ ν t):∀{l:List Tm},Fm D l=I->∃ds,bA ν l=O ds|[],_=>⟨[],rfl⟩|t::l,h=>by simp only[Fm,ay,bW]at h;have⟨ds,kQ⟩:=vL hD h.2;(have⟨d,hd⟩:∃d,ai ν t=O d:=by rcases h.1 with h|h;(·have⟨n,hn⟩:=PW hD h;have⟨d,_,h1,_⟩:=jO.1 hn;exact⟨d,h1⟩);·have⟨n,hn⟩:=lW hD h;exact⟨_,hn⟩);simp_all[bA]
end
end
section
variable{φ:Fit}{np na:Nat}{cD fj:Nm}
theorem YV(c:∀j u d,Sq φ np na j=O u->ai fj u=O d->cD.x j=O d)(i:cD.u=fj.u){t u:Tm}{d:ah}(h:Z4 φ np na t=O u)(g:ai fj u=O d):ai cD t=O d:=by unfold Z4 at h;split at h;rename_i o k a;split at h;rename_i q l;simp at h;subst h;have⟨x,y,p,b,m⟩:=dq.1 g;refine dq.2 ⟨x,y,dK c l p,?_,m⟩;have e:ai fj (.f 50 [])=O (.n fj.u):=rfl;rw[e]at b;injection b with b;simp at b;show O _=_;rw[i,b];cases h;exact dK c h g
theorem agu(c:∀j u d,Sq φ np na j=O u->cD.x j=O d->ai fj u=O d)(i:cD.u=fj.u){t u:Tm}{d:ah}(h:Z4 φ np na t=O u)(g:ai cD t=O d):ai fj u=O d:=by unfold Z4 at h;split at h;rename_i o k a;split at h;rename_i q l;simp at h;subst h;have⟨x,y,p,b,m⟩:=dq.1 g;refine dq.2 ⟨x,y,fE c l p,?_,m⟩;have e:ai cD (.f 50 [])=O (.n cD.u):=rfl;rw[e]at b;injection b with b;simp at b;show O _=_;rw[<-i,b];cases h;exact fE c h g
theorem C4{lm:List fV}(hL:bS lm){D:List Tm}{pc:List (Tm×Bool)}(rW:∀t b,(t,b)∈pc->bh fj t b)(hD:∀t∈D,VJ cD t)(hf:∀j u d,Sq φ np na j=O u->ai fj u=O d->cD.x j=O d)(ht:∀j u d,Sq φ np na j=O u->cD.x j=O d->ai fj u=O d)(hu:cD.u=fj.u):∀{l:List (Tm×Bool)},KZ φ np na lm D pc l=I->∀t b,(t,b)∈l->bh cD t b|[],_,t,b,hm=>by cases hm|(t',b')::l,h,t,b,hm=>by simp[KZ]at h;rcases aO.1 hm with e|hm;(·simp at e;obtain⟨rfl,rfl⟩:=e;have h1:=h.1;split at h1;(·rename_i u hi;split at h1;(·rename_i c hc;have⟨n,h2,h3⟩:=jy hc rW;exact⟨n,YV hf hu hi h2,by rw[h3,eq_of_beq h1]⟩);·split at h1;(·rename_i c hc;simp only[ay]at h1;have⟨n,h2⟩:=lW hD h1.2;exact⟨n,h2,by rw[ib hL rW hc (agu ht hu hi h2),eq_of_beq h1.1]⟩);·cases h1);·cases h1);·exact C4 hL rW hD hf ht hu h.2 t b hm
end
theorem Xb{φ:Fit}{np na j i:Nat}(h:nT φ np na j=O i)(a:j<np):i<na:=by grind[nT,fe,bz]
theorem D5{φ:Fit}{np na j:Nat}(a:np<=j):nT φ np na j=O (na+(j - np)):=by unfold nT;(have:aF (j+1) np=Z:=by cases h:aF (j+1) np with|false=>rfl|true=>have:=bz h;omega);rw[this]
theorem adG{g k:List (Nat×List AV)}{ν cD:Nm}{w:aj}(h:PA g k=I)(f:nC ν k w):nC cD g w:=by unfold PA at h;split at h;intro g l j;cases j;simp only[ay]at h;intro a l e i v d;have c:mM l=I:=cm.1 h.2 _ e;have⟨V,n,m⟩:=f a l (by rw[<-pw h.1];exact e) i v d;refine⟨V,?_,m⟩;(have b:∀{l:List AV}{i:Nat}{v:AV},mM l=I->l[i]? =O v->tj v=I:=by intro l;induction l with|nil=>simp_all|cons x l o=>intro i v c h;simp[mM]at c;grind);rw[tQ cD ν v (b c d)];exact n
structure abW(P:aw)(w0:aj)(A:en)(ν:Nm)(s:St)(w:aj)(φ:Fit)(es:St)(cD:Nm):Prop where
 F:Kz φ es.n s.n cD ν
 pf:∀j i,nT φ es.n s.n j=O i->j<es.n->cD.f j=O ((ν.f i).getD 0)
 px:∀j u,Sq φ es.n s.n j=O u->j<bm->cD.x j=ai ν u
 pn:∀j,bm<=j->cD.x j=G
 pv:∀j v,inE φ j=O v->cD.x j=(den ν v).map .v/\j<bm
 pu:cD.u=ν.u
 pz:cD.z=ν.z
 place:∀j ob g,es.h.get j=O ob->cD.f j=O g->∃i ob2,nT φ es.n s.n j=O i/\s.h.get i=O ob2/\ν.f i=O g
 fX:∀j ob,es.h.get j=O ob->abV P cD ob
 pq:∀j i,nT φ es.n s.n j=O i->j<es.n->cD.q j=O ((ν.q i).getD undef)
 W:(∀t b,(t,b)∈es.x.pc->bh cD t b)->aL P w0 ⟨es.h,cD,w⟩ cD es w
theorem Nn{φ:Fit}{np na j:Nat}{u:Tm}(h:Sq φ np na j=O u):(j<bm/\φ.v.get j=G/\φ.x.get j=O u)∨(bm+np<=j/\u=.x (bm+(na+(j - (bm+np))))):=by unfold Sq at h;split at h;rename_i a;refine .inl ⟨bz a,?_⟩;grind;split at h;simp_all;cases h
theorem acx{P:aw}{w0 w:aj}{A:en}{ν:Nm}{s es:St}{φ:Fit}(y:aL P w0 A ν s w)(hgl:PA es.x.gl s.x.gl=I)(Iz:zD (okF φ es.n s.n s.h) es.h 1 0=I):∃cD,abW P w0 A ν s w φ es cD:=by
 generalize m:(⟨λj=>match aF (j+1) es.n with
  |I=>(nT φ es.n s.n j).map λi=>(ν.f i).getD 0
  |Z=>G,λj=>match aF (j+1) bm with
  |I=>(match φ.v.get j with
   |O v=>(den ν v).map .v
   |G=>match φ.x.get j with
    |O t=>ai ν t
    |G=>G)
  |Z=>G,ν.u,ν.z,λj=>match aF (j+1) es.n with
  |I=>(nT φ es.n s.n j).map λi=>(ν.q i).getD undef
  |Z=>G⟩:Nm)=cD
 have ajK:∀{a b:Nat},a<b->aF (a+1) b=I:=λh=>fe h
 have ajL:∀{a b:Nat},b<=a->aF (a+1) b=Z:=λ{a b} h=>by
  grind[bz]
 have T:∀j i,nT φ es.n s.n j=O i->j<es.n->cD.f j=O ((ν.f i).getD 0):=λj i C l=>by
  rw[<-m]
  grind
 have pq:∀j i,nT φ es.n s.n j=O i->j<es.n->cD.q j=O ((ν.q i).getD undef):=λj i C l=>by
  rw[<-m]
  grind
 have R:∀j,es.n<=j->cD.q j=G:=λj l=>by
  rw[<-m]
  simp_all
 have S:∀j,es.n<=j->cD.f j=G:=λj l=>by
  rw[<-m]
  simp_all
 have px:∀j u,Sq φ es.n s.n j=O u->j<bm->cD.x j=ai ν u:=λj u W l=>by
  obtain⟨_,B,r⟩|⟨B,_⟩:=Nn W
  ·rw[<-m]
   grind
  ·omega
 have pn:∀j,bm<=j->cD.x j=G:=λj l=>by
  rw[<-m]
  simp_all
 have pv:∀j v,inE φ j=O v->cD.x j=(den ν v).map .v/\j<bm:=λj v M=>by
  unfold inE at M
  split at M
  ·rename_i hb
   refine⟨?_,bz hb⟩
   rw[<-m]
   grind
  ·cases M
 have pu:cD.u=ν.u:=by rw[<-m]
 have pz:cD.z=ν.z:=by rw[<-m]
 have F:Kz φ es.n s.n cD ν:=by
  refine⟨λj i g C p=> ?_,λj u d W hd=> ?_,λj v V M hV=>by rw[(pv j v M).1,hV];rfl,pu,pz,λj i v C p=> ?_⟩
  ·rcases eu j es.n with l|l
   ·rw[T j i C l,p];rfl
   ·rw[D5 l]at C
    simp at C
    rw[y.top i (by omega)]at p
    cases p
  ·obtain⟨B,_,_⟩|⟨B,rfl⟩:=Nn W
   ·simp_all
   ·simp[ai]at hd
    rw[y.kR _ (by omega)]at hd
    cases hd
  ·rcases eu j es.n with l|l
   ·rw[pq j i C l,p];rfl
   ·rw[D5 l]at C
    simp at C
    rw[y.kS i (by omega)]at p
    cases p
 have matched:∀j ob,es.h.get j=O ob->j<es.n/\∃i c,nT φ es.n s.n j=O i/\s.h.get i=O c/\nk φ es.n s.n ob=O c/\φ.b.get i=O j:=λj ob l=>by
  have:=jJ Iz j ob l
  rw[fG,pB]at this
  simp only[okF,ay]at this
  have⟨B,r⟩:=this
  refine⟨bz B,?_⟩
  split at r
  ·grind[an,Gb]
  ·cases r
 have place:∀j ob g,es.h.get j=O ob->cD.f j=O g->∃i c,nT φ es.n s.n j=O i/\s.h.get i=O c/\ν.f i=O g:=λj ob g l p=>by
  have⟨D,i,c,B,r,_,_⟩:=matched j ob l
  refine⟨i,c,B,r,?_⟩
  rw[T j i B D]at p
  have⟨g',H,_⟩:=y.fX i c r
  simp_all
 refine⟨cD,F,T,px,pn,pv,pu,pz,place,λj ob l=> ?_,pq,λX=> ?_⟩
 ·have⟨D,i,c,B,r,J,_⟩:=matched j ob l
  obtain⟨g,H,⟨_,K⟩|⟨obj,K,U,k4⟩⟩:=y.fX i c r
  ·exact .inl (xH F J K)
  ·exact .inr ⟨obj,QF F J k4⟩
 ·refine⟨y.pos,y.dz,S,λj ob l=> ?_,λj k ob Gz l hk hj0 Y=> ?_,Nm.le.refl _,λj ob l=> ?_,λj ob l _=>⟨⟨ob,l⟩,λ_ _=>rfl⟩,λ_ _ _=>rfl,ba _,λj ob l g p _=>.inr ⟨j,ob,l,p⟩,⟨adG hgl y.ctx.gl,X⟩,λg ob p=>⟨(y.mu g ob (by rw[<-pz];exact p)).1,λj Gz l g0 Zz=> ?_⟩,λ_ _ p _=>.inl p,λj d l=> ?_,λj _=>pn _ (by omega),R⟩
  ·have⟨D,i,c,B,r,J,_⟩:=matched j ob l
   obtain⟨g,H,⟨K,U⟩|⟨obj,K,U,k4⟩⟩:=y.fX i c r
   ·exact⟨g,F.f j i g B H,.inl ⟨K,xH F J U⟩⟩
   grind[QF]
  ·have⟨D,i,c,B,r,J,h4⟩:=matched j ob l
   have⟨ali,Oz,E,Kc,N,OR,Eh⟩:=matched k Gz hk
   have⟨g,H,_⟩:=y.fX i c r
   have⟨g',L,_⟩:=y.fX Oz E N
   have e1:cD.f j=O g:=F.f j i g B H
   have e2:cD.f k=O g':=F.f k Oz g' Kc L
   have Q:cD.f j=cD.f k:=Y
   rw[e1,e2]at Q
   simp at Q
   subst Q
   have:=y.inj i Oz c E r N (λe=>hj0 (e1.trans (H.symm.trans e))) (Eq.trans (show ν.f i=O g from H) (show ν.f Oz=O g from L).symm)
   simp_all
  ·grind
  ·have⟨i,c,B,r,J⟩:=place j Gz g l Zz
   exact(y.mu g ob (by rw[<-pz];exact p)).2 i c r g0 J
  ·rw[pz]
   have o:(match aF (j+1) bm with
    |I=>(match φ.v.get j with
     |O v=>(den ν v).map .v
     |G=>match φ.x.get j with
      |O t=>ai ν t
      |G=>G)
    |Z=>G)=O d:=by rw[<-m]at l;exact l
   split at o
   ·split at o
    ·rw[bZ]at o
     obtain⟨V,_,rfl⟩:=o
     trivial
    ·split at o
     ·exact mP y.nU o
     ·cases o
   ·cases o
theorem acy{P:aw}{w0 w:aj}{A:en}{ν cD:Nm}{s es:St}{φ:Fit}{f:List fV}(m:bS f)(l:aL P w0 A ν s w)(a:abW P w0 A ν s w φ es cD){vs:List AV}{VS:List aa}(c:bw cD vs=O VS)(h:KZ φ es.n s.n f (qT vs (EO (cG es.h 1 0 []) [])) s.x.pc es.x.pc=I):∀t b,(t,b)∈es.x.pc->bh cD t b:=by refine C4 m l.ctx.pc (ic c (tR (P:=P) (λp k=> ?_) λ_ h=>by cases h)) a.F.x (λj u d g e=> ?_) a.pu h;(·have⟨j,ob⟩:=p;exact a.fX j ob (fL.1 k));·obtain⟨i,_,_⟩|⟨i,_⟩:=Nn g;(·rw[<-a.px j u g i];exact e);·rw[a.pn j (by omega)]at e;cases e
theorem Xc{P:aw}{w0 w w':aj}{A:en}{ν cD C:Nm}{s es os:St}{φ:Fit}(H:aL P w0 A ν s w)(hI:abW P w0 A ν s w φ es cD)(l1:Nm.le cD C)(Oz:aL P w0 ⟨es.h,cD,w⟩ C os w'){h':Tr bF}{lg:List Nat}{pc:List (Tm×Bool)}(hh':zE φ es.n s.n (cG os.h 1 0 []) (xu φ es.n s.n (cG es.h 1 0 []) s.h)=O h')(hlg:ji (nT φ es.n s.n) os.log=O lg)(ajM:MJ φ es.n s.n os.x.pc=O pc):∃fj,Nm.le ν fj/\To φ es.n s.n C fj/\aL P w0 A fj ⟨h',s.n+(os.n - es.n),lg++s.log,⟨s.x.gl,pc++s.x.pc⟩⟩ w':=by have⟨F,pf,px,pn,pv,pu,pz,place,_,pq,_⟩:=hI;have ajK:∀{a b:Nat},a<=b->aF a b=I:=λh=>fe h;(have ajL:∀{a b:Nat},b<a->aF a b=Z:=λ{a b} h=>by grind[bz]);(generalize J:(⟨λi=>match aF (i+1) s.n with|I=>O ((ν.f i).getD 0)|Z=>C.f (es.n+(i - s.n)),λj=>match aF (bm+s.n) j with|I=>C.x (bm+(es.n+(j - (bm+s.n))))|Z=>ν.x j,C.u,C.z,λi=>match aF (i+1) s.n with|I=>O ((ν.q i).getD undef)|Z=>C.q (es.n+(i - s.n))⟩:Nm)=fj);(have ax:∀j,j<bm+s.n->fj.x j=ν.x j:=λj Iz=>by rw[<-J];simp_all);(have ax2:∀j,bm+s.n<=j->fj.x j=C.x (bm+(es.n+(j - (bm+s.n)))):=λj Iz=>by rw[<-J];grind);(have au:fj.u=C.u:=by rw[<-J]);(have az:fj.z=C.z:=by rw[<-J]);(have af:∀i,i<s.n->fj.f i=O ((ν.f i).getD 0):=λi Gz=>by rw[<-J];grind);(have af2:∀i,s.n<=i->fj.f i=C.f (es.n+(i - s.n)):=λi Gz=>by rw[<-J];grind);(have aq:∀i,i<s.n->fj.q i=O ((ν.q i).getD undef):=λi Gz=>by rw[<-J];grind);(have aq2:∀i,s.n<=i->fj.q i=C.q (es.n+(i - s.n)):=λi Gz=>by rw[<-J];grind);(have amR:∀{j d},ν.x j=O d->j<bm+s.n:=λ{j d} Iz=>by rcases eu j (bm+s.n)with h|h;(·exact h);·have:=H.kR (j - bm) (by omega);rw[show bm+(j - bm)=j by omega,Iz]at this;cases this);(have N:Nm.le ν fj:=by refine⟨λi g Gz=> ?_,λi d hd=>by rw[ax i (amR hd)];exact hd,by rw[au,l1.u,pu],λj Iz=>ax j (by omega),λg o D=>by rw[az];exact l1.z g o (by rw[pz];exact D),λi v Gz=> ?_⟩;(·(have sO:i<s.n:=by rcases eu i s.n with h|h;(·exact h);·rw[H.top i h]at Gz;cases Gz);simp_all);·(have sO:i<s.n:=by rcases eu i s.n with h|h;(·exact h);·rw[H.kS i h]at Gz;cases Gz);rw[aq i sO,Gz];rfl);(have T:To φ es.n s.n C fj:=by refine⟨λj i g Gz D=> ?_,λj u d hu hd=> ?_,λj v V hv hV=> ?_,au.symm,az.symm,λj i v Gz D=> ?_⟩;(·rcases eu j es.n with Iz|Iz;(·have r:=pf j i Gz Iz;have E:C.f j=O ((ν.f i).getD 0):=l1.f j _ r;rw[E]at D;rw[af i (Xb Gz Iz)];exact D);grind[D5]);(·obtain⟨r,_,_⟩|⟨r,rfl⟩:=Nn hu;(·rw[l1.xe j r,px j u hu r]at hd;exact aX N u d hd);grind[ai]);(·rw[l1.xe j (pv j v hv).2,(pv j v hv).1]at hV;cases hd:den ν v with|none=>rw[hd]at hV;cases hV|some V'=>rw[hd]at hV;grind[cY]);·rcases eu j es.n with Iz|Iz;(·have r:=pq j i Gz Iz;have E:C.q j=O ((ν.q i).getD undef):=l1.q j _ r;rw[E]at D;rw[aq i (Xb Gz Iz)];exact D);grind[D5]);(have live:∀i ob,h'.get i=O ob->(∃j c,os.h.get j=O c/\nT φ es.n s.n j=O i/\nk φ es.n s.n c=O ob)∨(s.h.get i=O ob/\∀j c,es.h.get j=O c->nT φ es.n s.n j≠O i):=λi ob Gz=>by obtain⟨p,r,E,B⟩|r:=L4 hh' Gz;(·grind[fL]);·have⟨E,B⟩:=G8 r;exact .inr ⟨E,λj c Iz=>B _ (fL.2 Iz)⟩);(have sT:∀i ob g,s.h.get i=O ob->(∀j c,es.h.get j=O c->nT φ es.n s.n j≠O i)->ν.f i=O g->g≠0->(∀j c,es.h.get j=O c->cD.f j≠O g)/\g<w.heap.size/\w'.heap[g]? =w.heap[g]?:=λi ob g Gz hn D K=>by (have ZA:∀j c,es.h.get j=O c->cD.f j≠O g:=λj c Iz hjg=>by have⟨i',U,r,E,B⟩:=place j c g Iz hjg;have:=H.inj i' i U ob E Gz (λe=>K (bB (B.symm.trans e))) (Eq.trans (show ν.f i'=O g from B) (show ν.f i=O g from D).symm);simp_all);have sO:=H.lt Gz D;exact⟨ZA,sO,Oz.sT g sO λj o Iz _=>ZA j o Iz⟩);have anE:w'.heap[0]? =w.heap[0]?:=(Oz.dz.block 0 H.pos (by simp)).trans (H.dz.block 0 H.pos (by simp)).symm;refine⟨fj,N,T,H.pos,Oz.dz,λi Gz=> ?_,λi ob Gz=> ?_,λi k ob L Gz hk hi0 Y=> ?_,H.ext.trans N,H.xb,λi ob Gz hnl=> ?_,λg D hn=> ?_,dU H.nv Oz.nv,λi ob Gz g D K=> ?_,⟨λg l D i v hv=> ?_,λt b hb=> ?_⟩,λg ob D=>⟨(Oz.mu g ob (by rw[<-az];exact D)).1,λi L Gz K R=> ?_⟩,λg ob D K=> ?_,λj d Iz=> ?_,λj Iz=> ?_,λj Iz=> ?_⟩;(·have hi':s.n+(os.n - es.n)<=i:=Gz;show fj.f i=G;rw[af2 i (by omega)];exact Oz.top _ (by omega));(·obtain⟨j,c,r,E,B⟩|⟨r,E⟩:=live i ob Gz;(·obtain⟨g,M,⟨W,k3⟩|⟨obj,W,k3,k4⟩⟩:=Oz.fX j c r;(·exact⟨g,T.f j i g E M,.inl ⟨W,RK T B k3⟩⟩);·exact⟨g,T.f j i g E M,.inr ⟨obj,W,k3,ako T B k4⟩⟩);·obtain⟨g,M,⟨W,k3⟩|⟨obj,W,k3,k4⟩⟩:=H.fX i ob r;(·exact⟨g,N i g M,.inl ⟨W,k3.mono N⟩⟩);·exact⟨g,N i g M,.inr ⟨obj,W,(sT i ob g r E M (by have:=H.pos;omega)).2.2.trans k3,k4.mono N⟩⟩);(·(have X:∀i ob,h'.get i=O ob->(∃j c g,os.h.get j=O c/\nT φ es.n s.n j=O i/\C.f j=O g/\fj.f i=O g)∨(∃g,s.h.get i=O ob/\(∀j c,es.h.get j=O c->nT φ es.n s.n j≠O i)/\ν.f i=O g/\fj.f i=O g):=λi ob Gz=>by obtain⟨j,c,r,E,B⟩|⟨r,E⟩:=live i ob Gz;(·have⟨g,M,_⟩:=Oz.fX j c r;exact .inl ⟨j,c,g,r,E,M,T.f j i g E M⟩);·have⟨g,M,_⟩:=H.fX i ob r;exact .inr ⟨g,r,E,M,N i g M⟩);have Y:fj.f i=fj.f k:=Y;(have mixed:∀(k:Nat)(L:bF)(j:Nat)(c:bF)(g:Nat),os.h.get j=O c->C.f j=O g->s.h.get k=O L->(∀j c,es.h.get j=O c->nT φ es.n s.n j≠O k)->ν.f k=O g->g≠0->False:=λk L j c g r E B Q h5 K=>by have⟨n1,n2,_⟩:=sT k L g B Q h5 K;rcases Oz.own j c r g E K with h6|⟨j',o',h6,h7⟩;(·have h6:w.heap.size<=g:=h6;omega);simp_all);rcases X i ob Gz with⟨j,c,g,r,E,B,Q⟩|⟨g,r,E,B,Q⟩<;>rcases X k L hk with⟨j',alk,S,Kc,OQ,OR,Eh⟩|⟨S,Kc,OQ,OR,Eh⟩<;>(have K:g≠0:=λe=>hi0 (e▸Q))<;>rw[Q,Eh]at Y<;>injection Y with Y<;>subst Y;(·have:=Oz.inj j j' c alk r Kc (λe=>K (bB (B.symm.trans e))) (Eq.trans (show C.f j=O g from B) (show C.f j'=O g from OR).symm);simp_all);(·exact(mixed k L j c g r B Kc OQ OR K).elim);(·exact(mixed i ob j' alk g Kc OR r E B K).elim);·exact H.inj i k ob L r Kc (λe=>K (bB (B.symm.trans e))) (Eq.trans (B) (OR).symm));(·have amS:i∉lg:=λZz=>hnl (jw _ Zz);have⟨⟨o2,r⟩,E⟩:=H.same i ob Gz λZz=>hnl (i6 _ Zz);by_cases Zz:∃j c,es.h.get j=O c/\nT φ es.n s.n j=O i;(·have⟨j,c,m1,m2⟩:=Zz;have Iz:j∉os.log:=λZz=>amS (by have⟨y,y1,y2⟩:=wT hlg j Zz;rw[m2]at y2;simp_all);have⟨⟨o3,B⟩,Q⟩:=Oz.same j c m1 Iz;refine⟨QG hh' (fL.2 B) m2,λg D=> ?_⟩;have hg':ν.f i=O g:=H.ext _ _ D;exact(Q g (F.f j i g m2 hg')).trans (E g D));·have Zz:∀j c,es.h.get j=O c->nT φ es.n s.n j≠O i:=λj c B Q=>Zz ⟨j,c,B,Q⟩;refine⟨wV hh' (G9 r λp hp=>Zz p.1 p.2 (fL.1 hp)),λg D=> ?_⟩;by_cases K:g=0;(·simp_all);·exact(sT i o2 g r Zz (H.ext _ _ D) K).2.2.trans (E g D));(·refine(Oz.sT g (jU D H.nv) λj c Iz K hjg=> ?_).trans (H.sT g D hn);have⟨i,U,r,E,B⟩:=place j c g Iz hjg;rcases H.own i U E g B K with Q|⟨k,o',Q,h5⟩;(·omega);simp_all);(·have D:fj.f i=O g:=D;obtain⟨j,c,r,E,B⟩|⟨r,E⟩:=live i ob Gz;(·have⟨S,M,_⟩:=Oz.fX j c r;have W:=T.f j i S E M;rw[W]at D;simp at D;subst D;rcases Oz.own j c r S M K with Q|⟨k,o',Q,h5⟩;(·exact .inl (dU H.nv Q));·have⟨i',U,m1,m2,m3⟩:=place k o' S Q h5;exact H.own i' U m2 S m3 K);·have⟨S,M,_⟩:=H.fX i ob r;have W:fj.f i=O S:=N i S M;rw[W]at D;simp at D;subst D;exact H.own i ob r S M K);(·have⟨V,r,E⟩:=H.ctx.gl g l D i v hv;exact⟨V,cY N v V r,E⟩);(·rcases dx.1 hb with hb|hb;(·have⟨t0,r,E⟩:=QH ajM t b hb;have⟨m,B,Q⟩:=Oz.ctx.pc t0 b r;exact⟨m,fE T.x E B,Q⟩);·have⟨m,B,Q⟩:=H.ctx.pc t b hb;exact⟨m,aX N t _ B,Q⟩);(·have R:fj.f i=O g:=R;(have D:C.z g=O ob:=by rwa[<-az]);obtain⟨j,c,r,E,B⟩|⟨r,E⟩:=live i L Gz;(·have⟨S,M,_⟩:=Oz.fX j c r;have W:=T.f j i S E M;rw[W]at R;simp at R;subst R;exact(Oz.mu S ob D).2 j c r K M);·have⟨S,M,_⟩:=H.fX i L r;have W:fj.f i=O S:=N i S M;rw[W]at R;simp at R;subst R;have⟨n1,n2,_⟩:=sT i L S r E M K;rcases Oz.lq S ob D K with B|B|⟨j,o',B,Q⟩;(·have B:cD.z S=O ob:=B;rw[pz]at B;exact(H.mu S ob B).2 i L r K M);(·have B:w.heap.size<=S:=B;omega);simp_all);(·(have D:C.z g=O ob:=by rwa[<-az]);rcases Oz.lq g ob D K with B|B|⟨j,o',B,Q⟩;(·have B:cD.z g=O ob:=B;rw[pz]at B;exact H.lq g ob B K);(·exact .inr (.inl (dU H.nv B)));·have⟨i,U,h5,h6,h7⟩:=place j o' g B Q;exact .inr (H.own i U h6 g h7 K));(·rw[az];rcases eu j (bm+s.n)with h|h;(·rw[ax j h]at Iz;exact(H.nU j d Iz).mono λg o D=>l1.z g o (by rw[pz];exact D));·rw[ax2 j h]at Iz;exact Oz.nU _ d Iz);(·have Iz:s.n+(os.n - es.n)<=j:=Iz;show fj.x _=G;rw[ax2 _ (by omega)];exact Oz.kR _ (by omega));·have Iz:s.n+(os.n - es.n)<=j:=Iz;rw[aq2 _ (by omega)];exact Oz.kS _ (by omega)
theorem YW{φ:Fit}{e:sR}{s:St}{o a:Out}(h:ai2 φ e s o=O a):∃v b lg pc,k_ φ e.s.n s.n o.v=O v/\zE φ e.s.n s.n (cG o.s.h 1 0 []) (xu φ e.s.n s.n (cG e.s.h 1 0 []) s.h)=O b/\ji (nT φ e.s.n s.n) o.s.log=O lg/\MJ φ e.s.n s.n o.s.x.pc=O pc/\a=⟨.ret,v,.e,[],⟨b,s.n+(o.s.n - e.s.n),lg++s.log,⟨s.x.gl,pc++s.x.pc⟩⟩⟩:=by grind[ai2]
theorem QI{ν:Nm}{d:List fV}(e:bS d){pc:List (Tm×Bool)}(a:∀t b,(t,b)∈pc->bh ν t b):∀{l:List (Tm×Bool)},(∀t b,(t,b)∈l->bh ν t b)->PB d pc l=I|[],_=>rfl|(t,b)::l,h=>by have f:=QI e a λt b m=>h t b (aS _ m);have⟨n,i,j⟩:=h t b (aU ..);unfold PB;split;rename_i c g;have:=ib e a g i;simp_all;exact f
theorem QJ{ν:Nm}{a:List fV}(d:bS a){o:Out}{pc0 pc:List (Tm×Bool)}(c:o.s.x.pc=pc++pc0)(h:∀t b,(t,b)∈pc++pc0->bh ν t b):aaB a pc0 o=I:=by refine QI d (λt b m=>h t b (i6 _ m)) λt b m=>h t b ?_;rw[<-c];simp_all
theorem L5{P:aw}{cE:sQ->List Out->Prop}{U:Int}{lm:List fV}(hL:bS lm){φ:Fit}{e:sR}{args:List AV}{s:St}{outs:List Out}{n:Nat}(he:cy P cE U 0 e.outs (.call e.f e.args e.s))(h:DK lm φ e args s=O outs):cy P cE U n outs (.call e.f args s):=by unfold DK at h;split at h;cases h;rename_i alm;simp only[ay]at alm;have⟨⟨⟨⟨PS,_⟩,hgl⟩,rW⟩,abT⟩:=alm;refine⟨he.1,λw0 A ν w VS hU hW hVS=> ?_⟩;have⟨cD,hI⟩:=acx hW hgl abT;(have aln:bw cD e.args=O VS:=by split at PS;rename_i l hl;exact mZ hI.F hl (by rw[mV PS];exact hVS);cases PS);refine Calls.mono (he.2 w0 ⟨e.s.h,cD,w⟩ cD w VS (hI.pu.trans hU) (hI.W (acy hL hW hI aln rW)) aln) λx w' hx=> ?_;have⟨o,ho,ed,V,l1,l2,l3,l4⟩:=hx;split at h;(case h_2=>cases h);rename_i os hos;simp at h;subst h;have⟨o',ho',hof⟩:=wT hos o ho;obtain⟨v,h',lg,pc,hv,hh',hlg,ajM,rfl⟩:=YW hof;have⟨fj,k1,k2,k3⟩:=Xc hW hI l1 l2 hh' hlg ajM;exact⟨_,List.mem_filter.2 ⟨ho',QJ hL rfl k3.ctx.pc⟩,fj,V,k1,k3,Bx k2 hv l3,l4⟩
theorem pN{P:aw}{cE:sQ->List Out->Prop}{U:Int}{i:List fV}(d:bS i){f:Nat}{args:List AV}{s:St}{a:List Out}{n:Nat}:∀{tab:List sR},E_ P cE U tab->Bn i f args s tab=O a->cy P cE U n a (.call f args s)|[],_,h=>by cases h|e::r,c,h=>by unfold Bn at h;split at h;exact pN d (λx b=>c x (aS _ b)) h;rename_i j;split at h;exact pN d (λx b=>c x (aS _ b)) h;split at h;rename_i os g;simp at h;subst h;rw[<-an j];exact L5 d (c e (aU ..)) g;exact pN d (λx b=>c x (aS _ b)) h
theorem A4{φ:Fit}{np na:Nat}{T:Tr AV}:∀{l:List (Nat×AV)},DM φ np na T l=I->∀p∈l,∃u,k_ φ np na p.2=O u/\T.get p.1=O u|[],_,p,a=>by cases a|(i,q)::l,h,p,a=>by simp[DM]at h;rcases aO.1 a with rfl|a;grind[vb];exact A4 h.2 p a
theorem U5{o:Out}(h:aaE o=I):o.v=jN/\o.M=[]:=by unfold aaE at h;split at h<;>first|(cases h;done)|(rename_i c b a;exact⟨b,a⟩)
theorem YX{φ:Fit}{e:lk}{s:St}{o a:Out}(h:ai8 φ e s o=O a):∃T b lg pc,o.v=jN/\o.M=[]/\jS φ e.s.n s.n (cG o.T 1 0 []) .e=O T/\zE φ e.s.n s.n (cG o.s.h 1 0 []) (xu φ e.s.n s.n (cG e.s.h 1 0 []) s.h)=O b/\ji (nT φ e.s.n s.n) o.s.log=O lg/\MJ φ e.s.n s.n o.s.x.pc=O pc/\a=⟨o.e,jN,T,[],⟨b,s.n+(o.s.n - e.s.n),lg++s.log,⟨s.x.gl,pc++s.x.pc⟩⟩⟩:=by grind[ai8,U5]
theorem G'{P:aw}{cE:sQ->List Out->Prop}{U:Int}{lm:List fV}(hL:bS lm){φ:Fit}{e:lk}{c:Code}{r:Option Nat}{T:Tr AV}{s:St}{l:List Out}{n:Nat}(he:cy P cE U 0 e.outs (.code (O e.z) e.r (.loop c) e.T e.N [] e.s))(h:Ap lm φ e r T s=O l):cy P cE U n l (.code (O e.z) r (.loop c) T e.N [] s):=by unfold Ap at h;split at h;cases h;rename_i q;simp only[ay]at q;have⟨⟨⟨⟨⟨m,d⟩,_⟩,Oz⟩,Gz⟩,t⟩:=q;intro hz D w0 A ν w ro a hU R hF hM hR;have⟨cD,y⟩:=acx R Oz t;have C:eG cD e.T e.N a.tmps:=⟨hF.size,λi v hv=>by have⟨u,E,h2⟩:=A4 m (i,v) (fL.2 hv);have⟨V,h3,h4⟩:=hF.jb i u h2;exact⟨V,sw y.F E h3,h4⟩⟩;(have⟨VS,S⟩:∃VS,bw cD ((cG e.T 1 0 []).map (·.2))=O VS:=qH λp H=>by have⟨i,v⟩:=p;have⟨V,E,_⟩:=C.jb i v (fL.1 H);grind);have Q:=y.W (acy hL R y S Gz);(have Zz:nj D cD [] a.defers:=by have⟨fr,e1,e2⟩:=hM;cases fr with|nil=>exact⟨[],e1,trivial⟩|cons _ _=>cases e2);(have Y:RR cD e.r ro:=by unfold WI at d;split at d;rename_i heq;rw[heq];exact hR;rename_i j i heq;rw[heq];split at d;rename_i k hk;have:=an d;subst this;have⟨g,E,h2⟩:=hR;exact⟨g,y.F.f j k g hk E,h2⟩;cases d;grind);(have hQ:∀x a' w',kC D P w0 ⟨e.s.h,cD,w⟩ cD e.N e.outs x a' w'->kC D P w0 A ν e.N l x a' w':=λx a' w' H=>by have⟨o,ho,ed,l1,l2,l3,l4,l5⟩:=H;split at h;(case h_2=>cases h);rename_i os Iz;simp at h;subst h;have⟨o',K,J⟩:=wT Iz o ho;obtain⟨T',h',lg,pc,q1,q2,X,M,L,B,rfl⟩:=YX J;have⟨fj,k1,k2,k3⟩:=Xc R y l1 l3 M L B;refine⟨_,List.mem_filter.2 ⟨K,QJ hL rfl k3.ctx.pc⟩,fj,k1,l2,k3,QE k2 X l4,?_⟩;rw[q2]at l5;have⟨fr,e1,e2⟩:=l5;cases fr with|nil=>exact⟨[],e1,trivial⟩|cons _ _=>cases e2);have⟨s1,s2⟩:=he hz w0 ⟨e.s.h,cD,w⟩ cD w ro a (y.pu.trans hU) Q C Zz Y;exact⟨wpIn_mono s1 hQ,λb hb=>(s2 b hb).mono hQ⟩
theorem rS{P:aw}{cE:sQ->List Out->Prop}{U:Int}{q:List fV}(j:bS q){f:Nat}{p:List Bool}{c:Code}{r:Option Nat}{T:Tr AV}{N:Nat}{s:St}{a:List Out}{n:Nat}(b:ui P (O (f,p)) (.loop c)):∀{lt:List lk},rK P cE U lt->zZ q f p r T N s lt=O a->cy P cE U n a (.code (O (f,p)) r (.loop c) T N [] s)|[],_,h=>by cases h|e::l,i,h=>by unfold zZ at h;split at h;(·exact rS j b (λx d=>i x (aS _ d)) h);·rename_i t;simp only[ay]at t;have⟨⟨o,m⟩,k⟩:=t;have o:=an o;have m:=wz m;have k:=an k;subst o m k;split at h;(·rename_i os g;simp at h;subst h;exact G' j (i e (aU ..) c b) g);·exact rS j b (λx d=>i x (aS _ d)) h
end
section
open RowKit
variable{D:List Deferred}
section
variable{P:aw}{w0 w:aj}{A:en}{ν:Nm}{s:St}{lm:List fV}
theorem YY(h:aL P w0 A ν s w){e:ag}(c:uN P e=I)(a:Option Addr):∃b,Nm.le ν b/\aL P w0 A b (aaD P s e).2 w/\den b (aaD P s e).1=O (.slice a 0 0):=Qm h (AE ν e) (LH c) rfl a
theorem B7{i:Nat}{t a:Tm}{c:zj}(h:ai ν a=ai ν t):den ν (.bK i a c)=den ν (.bK i t c):=by simp only[den];rw[h]
theorem U6(T:bS lm)(h:aL P w0 A ν s w){i c':Nat}{e:ag}{t n u:Tm}{c:zj}{V:aa}(v:s.h.get i=O (.row t e (O c')))(j:MH lm s t n=O u)(b:mN P e=I)(Gz:den ν (.bK i n c)=O V):aL P w0 A ν {s with h:=s.h.put i (O (.row u e (O c')))} w/\den ν (.bK i (jY u) c)=O V:=by have b:=jB b;obtain⟨o,q,_,_,_⟩|⟨g,m,cap,o,E,q,Y,X,_⟩:=ek Gz;have⟨d,S,r,F,c2,m,C,Q⟩:=h.Ey v o;simp at C;subst C;(have B:∃x:List ah,d=.l x:=by (cases d<;>simp only[bT]at r<;>try exact r.elim);cases b r.1;simp_all);obtain⟨x,rfl⟩:=B;simp only[bM,aG]at F;have:x=[]:=jv.1 F;subst this;(have p:ai ν u=O (.l []):=by unfold MH at j;split at j;simp_all;split at j;simp at j;subst j;exact pW S q (dy _);cases j);refine⟨h.wy v o (.inl ⟨rfl,_,p,r,rfl,_,m,rfl,Q⟩),?_⟩;rw[B7 (t:=n) ((cM p rfl).trans q.symm)];exact Gz;have⟨obj,M,y⟩:=h.VH v o E;(cases obj<;>simp only[bN]at y<;>try exact y.elim);rename_i arr D fz;obtain⟨rfl,z,W,L,R,K,k,J,Iz⟩:=y;(have f:∃a,P.info? D=O a:=by (cases W<;>simp only[bT]at k<;>try exact k.elim);cases b k.1;have⟨_,ts,size,_,H,_⟩:=k;cases hh:P.info? D with|none=>rw[hh]at H;cases H|some a=>exact⟨a,rfl⟩);have⟨a,f⟩:=f;have⟨U,Oz,N,p3,Zz⟩:=su T h.ctx.pc f j K k q (.inl b);refine⟨h.lS v o E M ?_,?_⟩;simp only[bN];exact⟨trivial,z,U,_,L.drop (m*a.size)++R,Oz,N,by rw[<-i7,kJ];exact J,Iz⟩;grind[B7,cM]
theorem C5(hL:bS lm)(h:aL P w0 A ν s w){i:Nat}{V it:Tm}{e:ag}{c:Option Nat}{cs:List AV}{X:St}(hi:s.h.get i=O (.lh V e c it cs))(b:DL P lm s i V e c it cs=O X):∃q,Nm.le ν q/\aL P w0 A q X w:=by unfold DL at b;simp only at b;split at b;(·rename_i ts z Q Y;split at b;(·rename_i l hc hl;simp only[ay]at hc;have⟨⟨⟨⟨c1,c2⟩,c3⟩,c4⟩,c5⟩:=hc;have c1:=an c1;have c2:=bz c2;split at b;(·rename_i U;injection b with b;subst b;have⟨g,obj,q1,q2,q3,M⟩:=h.real hi;(cases obj<;>simp only[bN]at M<;>try exact M.elim);rename_i arr W fz;obtain⟨rfl,T,xs,L,R,k,vs,r3,K,r5,r6,r7,Gz,r9,y⟩:=M;rw[Y]at Gz;injection Gz with Gz;have⟨p,m,Oz,k3⟩:=qu hL h r7;have⟨p1,p2,a,N,p4⟩:=kq hL Oz.ctx.pc Oz.nU hl k3;(have hcd:a.length=ts.length:=by have:=lZ N;omega);have⟨inf,E,ajI⟩:=ee Y;(have C:(P.info? W).map (·.size)=O z:=by rw[E];simp_all);have r:=K;simp only[bT]at r;have⟨q0,ts',size,d1,J,d3,d4,d5,d6⟩:=r;rw[C]at J;injection J with J;subst J;have⟨x,f⟩:∃x,xs[k]? =O x:=⟨_,aZ r6⟩;have B:=d5 k x f;obtain⟨ds,rfl,kQ⟩:=AD B (by omega);(have F:∀j:Nat,(ds.take 0++a++ds.drop (0+a.length))[j]? =a[j]?:=λj=>by grind);(have o:(ds.take 0++a++ds.drop (0+a.length)).length=z:=by simp_all);(have Zz:bT P p.z W (.l (xs.set k (.l (ds.take 0++a++ds.drop (0+a.length))))) (bx L (k*z+0) vs):=by refine LS (K.mono m.z) Q C f ?_ (by omega) (λj c tc v Iz h2 h3 h4 h5=> ?_) λj c Iz h2=> ?_;(·rcases BU (ds:=ds.take 0++a++ds.drop (0+a.length))with hh|hh;(·rw[o]at hh;exact hh);·omega);(·simp only[dQ]at Iz;rw[F]at Iz;exact p4 j tc c v h2 Iz h5);simp_all[dQ]);have D:=aX m _ _ r5;have S:=aX m _ _ r3;refine⟨p,m,Oz.lS U (m _ _ q1) (by have:=h.pos;omega) q3 ⟨rfl,T,_,_,R,?_,Zz,by rw[pB,Gz];exact r9,?_⟩⟩;(·refine pZ c4 S (λu H=> ?_) (λu H=> ?_) λhf=>⟨by rw[bd,iR hf (K.mono m.z)],by rw[bd,iR hf Zz]⟩;(·refine(dn rfl (by decide)).2 ⟨_,aP.2 ⟨_,_,H,aP.2 ⟨_,_,D,aP.2 ⟨_,_,rfl,N,rfl⟩,rfl⟩,rfl⟩,?_⟩;show om (.l xs::.n (cq k)::.n (.ofNat 0)::a)=_;simp only[om];rw[if_pos ⟨bO _,bO _⟩,show(cq k).toNat=k from rfl,f];simp only[uq];rw[show(cq 0).toNat=0 from rfl,if_pos (by omega)]);·rw[bd]at H⊢;refine(dn rfl (by decide)).2 ⟨_,aP.2 ⟨_,_,H,aP.2 ⟨_,_,D,aP.2 ⟨_,_,rfl,nM (λt _ d hd=>du hd) N,rfl⟩,rfl⟩,rfl⟩,?_⟩;show om (.l (xs.map strip)::.n (cq k)::.n (.ofNat 0)::a.map strip)=_;simp only[om];rw[if_pos ⟨bO _,bO _⟩,show(cq k).toNat=k from rfl,dg,f];simp only[Option.map_some,bd,uq];rw[show(cq 0).toNat=0 from rfl,if_pos (by simp only[fR];omega)];grind[List.map_set,bd]);·cases c with|none=>exact y|some c=>have⟨cap,i,h6,h7,h8⟩:=y;exact⟨cap,i,m _ _ h6,h7,h8⟩);·cases b);·cases b);·cases b
theorem agv(h:aL P w0 A ν s w){i:Nat}{u n:Tm}{e:ag}{c':Option Nat}{c:zj}{V:aa}(l:s.h.get i=O (.row u e c'))(o:ns n (jY u)=I)(k:den ν (.bK i n c)=O V):den ν (.bK i (jY u) c)=O V:=by (have j:∃m,ai ν n=O (.n m):=by obtain⟨_,q,_⟩|⟨_,m,_,_,_,q,_⟩:=ek k;exact⟨_,q⟩;exact⟨_,q⟩);have⟨m,j⟩:=j;(have p:∃d,ai ν (jY u)=O d:=by obtain⟨g,r,⟨_,a⟩|⟨obj,_,_,a⟩⟩:=h.fX i _ l;have⟨d,f,_,b,_⟩:=a;exact⟨_,cM f b⟩;(cases obj<;>simp only[bN]at a<;>try exact a.elim);have⟨_,_,d,L,R,f,b,_⟩:=a;(cases d<;>simp only[bT]at b<;>try exact b.elim);exact⟨_,cM f rfl⟩;exact⟨_,cM f rfl⟩);grind[kK,B7]
theorem ej(f:bS lm)(h:aL P w0 A ν s w){k:Tr bF}{p v u:AV}{V:aa}{e:St}(a:ai6 P lm k s p v=O (u,e))(c:den ν v=O V):∃b,Nm.le ν b/\aL P w0 A b e w/\den b u=O V:=by unfold ai6 at a;split at a;split at a;split at a;split at a;rename_i m;simp at a;simp[den]at c;subst c;have:=YY h m G;rw[a]at this;exact this;cases a;split at a;rename_i l;split at a;cases a;split at a;rename_i j d;obtain⟨rfl,rfl⟩:=a;have⟨i,g⟩:=U6 f h l j d c;exact⟨ν,Nm.le.refl _,i,g⟩;cases a;grind[C5,agv,cY];cases a;cases a;cases a;exact Qp f h a c;cases a
mutual
theorem Gc(hL:bS lm){k:Tr bF}:∀{p v:AV}{s:St}{ν:Nm}{V:aa},aL P w0 A ν s w->den ν v=O V->∃ed,Nm.le ν ed/\aL P w0 A ed (ky P lm k p v s).2 w/\den ed (ky P lm k p v s).1=O V|.agg ps,v,s,ν,V,h,hv=>by unfold ky;split;(·obtain⟨L,h1,rfl⟩:=gB hv;obtain⟨ed,k1,k2,k3⟩:=sA hL (ps:=ps) h h1;exact⟨ed,k1,k2,by simp[den,k3]⟩);·exact⟨ν,Nm.le.refl _,h,hv⟩|.il ps,v,s,ν,V,h,hv=>by unfold ky;split;(·obtain⟨L,h1,rfl⟩:=wq hv;obtain⟨ed,k1,k2,k3⟩:=sA hL (ps:=ps) h h1;exact⟨ed,k1,k2,by simp[den,k3]⟩);·exact⟨ν,Nm.le.refl _,h,hv⟩|.bool _,v,s,ν,V,h,hv=>by grind[ky,ej,Nm.le.refl]|.int _ _,v,s,ν,V,h,hv=>by grind[ky,ej,Nm.le.refl]|.str _,v,s,ν,V,h,hv=>by grind[ky,ej,Nm.le.refl]|.kv,v,s,ν,V,h,hv=>by grind[ky,ej,Nm.le.refl]|.ptr _ _,v,s,ν,V,h,hv=>by grind[ky,ej,Nm.le.refl]|.cQ,v,s,ν,V,h,hv=>by grind[ky,ej,Nm.le.refl]|.slice _ _ _ _,v,s,ν,V,h,hv=>by grind[ky,ej,Nm.le.refl]|.lf,v,s,ν,V,h,hv=>by grind[ky,ej,Nm.le.refl]|.map _,v,s,ν,V,h,hv=>by grind[ky,ej,Nm.le.refl]|.func _ _ _,v,s,ν,V,h,hv=>by grind[ky,ej,Nm.le.refl]|.iq,v,s,ν,V,h,hv=>by grind[ky,ej,Nm.le.refl]|.iface _ _,v,s,ν,V,h,hv=>by grind[ky,ej,Nm.le.refl]|.gP,v,s,ν,V,h,hv=>by grind[ky,ej,Nm.le.refl]|.ext _,v,s,ν,V,h,hv=>by grind[ky,ej,Nm.le.refl]|.mw _ _,v,s,ν,V,h,hv=>by grind[ky,ej,Nm.le.refl]|.sym _ _,v,s,ν,V,h,hv=>by grind[ky,ej,Nm.le.refl]|.iI _,v,s,ν,V,h,hv=>by grind[ky,ej,Nm.le.refl]|.tail _ _ _ _ _ _,v,s,ν,V,h,hv=>by grind[ky,ej,Nm.le.refl]|.iJ _,v,s,ν,V,h,hv=>by grind[ky,ej,Nm.le.refl]|.deep _ _,v,s,ν,V,h,hv=>by grind[ky,ej,Nm.le.refl]|.mn _ _ _ _ _,v,s,ν,V,h,hv=>by grind[ky,ej,Nm.le.refl]|.bK _ _ _,v,s,ν,V,h,hv=>by grind[ky,ej,Nm.le.refl]|.jM _ _ _ _ _,v,s,ν,V,h,hv=>by grind[ky,ej,Nm.le.refl]|.gZ _ _ _ _ _ _,v,s,ν,V,h,hv=>by grind[ky,ej,Nm.le.refl]
theorem sA(hL:bS lm){k:Tr bF}:∀{ps l:List AV}{s:St}{ν:Nm}{L:List aa},aL P w0 A ν s w->bw ν l=O L->∃ed,Nm.le ν ed/\aL P w0 A ed (Eo P lm k ps l s).2 w/\bw ed (Eo P lm k ps l s).1=O L|[],l,s,ν,L,h,hl=>⟨ν,Nm.le.refl _,by exact h,by exact hl⟩|p::ps,l,s,ν,L,h,hl=>by unfold Eo;split;(·rename_i v l;obtain⟨V,R,h1,h2,rfl⟩:=cd hl;obtain⟨ν1,k1,k2,k3⟩:=Gc hL (p:=p) (k:=k) h h1;obtain⟨ν2,k4,k5,k6⟩:=sA hL (ps:=ps) k2 (fo k1 _ _ h2);exact⟨ν2,k1.trans k4,k5,eQ (cY k4 _ _ k3) k6⟩);·exact⟨ν,Nm.le.refl _,h,hl⟩
end
theorem vy(e:bS lm){k:Tr bF}{N:Nat}{a:Act}:∀{l:List (Nat×AV)}{T:Tr AV}{s:St}{ν:Nm},aL P w0 A ν s w->eG ν T N a.tmps->∃b,Nm.le ν b/\aL P w0 A b (xf P lm k l T s).2 w/\eG b (xf P lm k l T s).1 N a.tmps|[],T,s,ν,h,c=>⟨ν,Nm.le.refl _,h,c⟩|(i,p)::l,T,s,ν,h,c=>by unfold xf;split;rename_i v r;obtain⟨V,u,t⟩:=c.jb i v r;obtain⟨g,f,q,o⟩:=Gc e (p:=p) (k:=k) h u;obtain⟨d,n,m,j⟩:=vy e (l:=l) q ((c.mono f).lS o t);exact⟨d,f.trans n,m,j⟩;exact vy e h c
theorem adH(K:bS lm)(h:aL P w0 A ν s w){k:Tr bF}(j i:Nat):∃f,Nm.le ν f/\aL P w0 A f (ai7 P lm k s j i) w:=by unfold ai7;split;(·rename_i ps _ _ l t c F o;simp only;split;(·rename_i U u;have⟨g,obj,q,D,p,b⟩:=h.real o;(cases obj<;>simp only[bN]at b<;>try exact b.elim);obtain⟨rfl,B,L,R,Iz,H,Gz⟩:=b;have⟨f,n,x,v⟩:=sA K (k:=k) (ps:=ps) h Iz;refine⟨f,n,x.lS u (n _ _ q) (by have:=h.pos;omega) p ⟨rfl,B,L,R,v,H,?_⟩⟩;cases c with|none=>exact Gz|some c=>have⟨cap,i,Q,Oz,M⟩:=Gz;exact⟨cap,i,n _ _ Q,Oz,M⟩);·exact⟨ν,Nm.le.refl _,h⟩);(·rename_i E _ _ _ _ X pe T N ps d key F o;(show∃f,Nm.le ν f/\aL P w0 A f (match(xf P lm k (cG E 1 0 []) T s).2.h.get i with|O _=>{(xf P lm k (cG E 1 0 []) T s).2 with h:=(xf P lm k (cG E 1 0 []) T s).2.h.put i (O (.loop X pe (xf P lm k (cG E 1 0 []) T s).1 N ps d key))}|G=>s) w);split;(·rename_i U u;have⟨g,obj,q,D,p,b⟩:=h.real o;(cases obj<;>simp only[bN]at b<;>try exact b.elim);rename_i r;have⟨a1,a2,a3,a4,a5,a6⟩:=b;have⟨f,n,x,v⟩:=vy K (k:=k) (l:=cG E 1 0 []) (a:={tmps:=r.tmps,defers:=[]}) h a3;exact⟨f,n,x.lS u (n _ _ q) (by have:=h.pos;omega) p ⟨a1,a2,v,a4,a5,n _ _ a6⟩⟩);·exact⟨ν,Nm.le.refl _,h⟩);(·rename_i kt e _ _ F o;split;(·rename_i hf;have⟨g,obj,q,D,p,b⟩:=h.real o;(cases obj<;>simp only[bN]at b<;>try exact b.elim);rename_i arr clock;(have y:arr.toList=[]:=by cases ha:arr.toList with|nil=>rfl|cons _ _=>rw[ha]at b;cases b.2);refine⟨ν,Nm.le.refl _,h.lS o q (by have:=h.pos;omega) p ?_⟩;simp only[bN];refine⟨[],AE ν e,⟨⟨[],List.Perm.refl _,by rw[y];trivial⟩,List.nodup_nil,λm V=> ?_,?_⟩,hf,trivial⟩;(·rw[y]at V;cases V);simp_all);·exact⟨ν,Nm.le.refl _,h⟩);(·rename_i F o;have⟨g,obj,q,D,p,b⟩:=h.real o;(cases obj<;>simp only[bN]at b<;>try exact b.elim);have⟨xs,S,W,ys,n,x,v,_⟩:=b;exact⟨ν,Nm.le.refl _,h.lS o q (by have:=h.pos;omega) p ⟨xs,n,x,v,trivial⟩⟩);(·rename_i F o;have⟨g,obj,q,D,p,b⟩:=h.real o;(cases obj<;>simp only[bN]at b<;>try exact b.elim);have⟨xs,S,W,ys,n,x,v,k4,k5,k6,k7,k8,k9,J,_⟩:=b;exact⟨ν,Nm.le.refl _,h.lS o q (by have:=h.pos;omega) p ⟨xs,S,W,ys,n,x,v,k4,k5,k6,k7,k8,k9,J,trivial⟩⟩);(·grind[C5,Nm.le.refl]);(·rename_i _ _ _ _ ps t e c it cs F o;simp only;split;(·rename_i U u;have⟨g,obj,q,D,p,b⟩:=h.real o;(cases obj<;>simp only[bN]at b<;>try exact b.elim);rename_i arr t' fz;obtain⟨rfl,B,xs,L,R,kk,vs,Iz,H,Gz,r6,r7,Zz,Y,C⟩:=b;have⟨f,n,x,v⟩:=sA K (k:=k) (ps:=ps) h r7;refine⟨f,n,x.lS u (n _ _ q) (by have:=h.pos;omega) p ⟨rfl,B,xs,L,R,kk,vs,aX n _ _ Iz,H.mono n.z,aX n _ _ Gz,r6,v,Zz,Y,?_⟩⟩;cases c with|none=>exact C|some c=>have⟨cap,i,Q,Oz,M⟩:=C;exact⟨cap,i,n _ _ Q,Oz,M⟩);·exact⟨ν,Nm.le.refl _,h⟩);·exact⟨ν,Nm.le.refl _,h⟩
theorem AH(c:bS lm){k:Tr bF}:∀{l:List (Nat×Nat)}{s:St}{ν:Nm},aL P w0 A ν s w->∃a,Nm.le ν a/\aL P w0 A a (Z6 P lm k l s) w|[],s,ν,h=>⟨ν,Nm.le.refl _,h⟩|(j,i)::l,s,ν,h=>by have⟨d,m,g⟩:=adH c h (k:=k) j i;have⟨b,f,e⟩:=AH c (k:=k) (l:=l) g;exact⟨b,m.trans f,e⟩
end
theorem KG{P:aw}{cE:sQ->List Out->Prop}{U:Int}{lm:List fV}(i:bS lm){e:sR}{f:Nat}{args:List AV}{s:St}{a:List Out}{n:Nat}(h:cy P cE U n a (.call f (NI P lm e args s).1 (NI P lm e args s).2)):cy P cE U n a (.call f args s):=by refine⟨h.1,λw0 A ν w VS v t d=> ?_⟩;have⟨j,q,p,o⟩:=sA i (k:=e.s.h) (ps:=e.args) t d;have⟨c,g,m⟩:=AH i (k:=e.s.h) (l:=Bo (Ko e.s.h (Eo P lm e.s.h e.args args s).2.h 100000 (En e.args (Eo P lm e.s.h e.args args s).1 ⟨.e,.e,.e,.e,[]⟩)) (cG e.s.h 1 0 [])) p;have b:=q.trans g;exact Calls.mono (h.2 w0 A c w VS (b.u.trans v) m (fo g _ _ o)) λx w' r=>zW.mono b (λ_ h=>h) r
theorem rT{P:aw}{cE:sQ->List Out->Prop}{U:Int}{lm:List fV}(b:bS lm){f:Nat}{args:List AV}{s:St}{a:List Out}{n:Nat}:∀{tab:List sR},E_ P cE U tab->z7 P lm f args s tab=O a->cy P cE U n a (.call f args s)|[],_,h=>by cases h|e::r,g,h=>by unfold z7 at h;split at h;exact rT b (λx c=>g x (aS _ c)) h;rename_i i;simp only at h;split at h;rename_i os d;simp at h;subst h;rw[<-an i];exact KG b (L5 b (g e (aU ..)) d);exact rT b (λx c=>g x (aS _ c)) h
theorem KH{P:aw}{cE:sQ->List Out->Prop}{U:Int}{lm:List fV}(o:bS lm){e:lk}{z:Loc}{c:Code}{r:Option Nat}{T:Tr AV}{N:Nat}{s:St}{d:List Out}{n:Nat}(h:cy P cE U n d (.code z r c (NH P lm e r T s).1 N [] (NH P lm e r T s).2)):cy P cE U n d (.code z r c T N [] s):=by intro F D w0 A ν w v a J Iz M L K;have⟨p,E,C,B⟩:=vy o (k:=e.s.h) (l:=cG e.T 1 0 []) Iz M;have⟨g,j,y⟩:=AH o (k:=e.s.h) (l:=Bo (Ko e.s.h (xf P lm e.s.h (cG e.T 1 0 []) T s).2.h 100000 (qp (xf P lm e.s.h (cG e.T 1 0 []) T s).1 (cG e.T 1 0 []) (aeR e.r r))) (cG e.s.h 1 0 [])) C;have f:=E.trans j;have⟨t,q⟩:=h F w0 A g w v a (f.u.trans J) y (B.mono j) (L.mono f) (K.mono f);have m:∀x i w',kC D P w0 A g N d x i w'->kC D P w0 A ν N d x i w':=λx i w' Gz=>kC.mono f (λ_ h=>h) Gz;exact⟨wpIn_mono t m,λb H=>(q b H).mono m⟩
theorem qN{P:aw}{cE:sQ->List Out->Prop}{U:Int}{lm:List fV}(b:bS lm){f:Nat}{p:List Bool}{c:Code}{r:Option Nat}{T:Tr AV}{N:Nat}{s:St}{a:List Out}{n:Nat}(d:ui P (O (f,p)) (.loop c)):∀{lt:List lk},rK P cE U lt->vi P lm f p r T N s lt=O a->cy P cE U n a (.code (O (f,p)) r (.loop c) T N [] s)|[],_,h=>by cases h|e::l,j,h=>by unfold vi at h;split at h;(·exact qN b d (λx g=>j x (aS _ g)) h);·rename_i q;simp only[ay]at q;have⟨⟨o,m⟩,k⟩:=q;have o:=an o;have m:=wz m;have k:=an k;subst o m k;simp only at h;split at h;(·rename_i os i;simp at h;subst h;exact KH b (G' b (j e (aU ..) c d) i));·exact qN b d (λx g=>j x (aS _ g)) h
theorem Ci{P:aw}{cE:sQ->List Out->Prop}{U:Int}{bk:Pr}(e:bS bk.lm)(b:rK P cE U bk.lt){z:Loc}{c:Code}{r:Option Nat}{T:Tr AV}{N:Nat}{s:St}{a:List Out}{n:Nat}(d:ui P z (.loop c))(h:yf P bk z r T N s=O a):cy P cE U n a (.code z r (.loop c) T N [] s):=by unfold yf at h;grind[rS,qN]
theorem DA{P:aw}{cE:sQ->List Out->Prop}{U:Int}{bk:Pr}(Q:bS bk.lm)(k:rK P cE U bk.lt){z:Loc}{c:Code}{r:Option Nat}{T:Tr AV}{N:Nat}{M:List Nat}{s:St}{d:List Out}{n:Nat}(E:ui P z (.loop c))(h:BB P bk z r T N M s=O d):cy P cE U n d (.code z r (.loop c) T N M s):=by unfold BB at h;split at h;rename_i os j;split at h;rename_i e;simp at h;subst h;have S:=Ci (n:=n) Q k E j;intro i D w0 A ν w v a K J R Oz L;(have q:∀x f w',kC a.defers P w0 A ν N os x f w'->kC D P w0 A ν N (os.map λo=>{o with M:=M}) x f w':=λx f w' F=>by have⟨o,p,g,m,C,B,y,l⟩:=F;have Gz:o.M=[]:=List.isEmpty_iff.1 (cm.1 e o p);rw[Gz]at l;have⟨V,X,W⟩:=l;(have H:f.defers=a.defers:=by cases V with|nil=>simpa using X|cons _ _=>cases W);exact⟨_,cA.2 ⟨o,p,rfl⟩,g,m,C,B,y,by rw[H];exact Oz.mono m⟩);have⟨u,t⟩:=S i w0 A ν w v a K J R ⟨[],rfl,trivial⟩ L;exact⟨wpIn_mono u q,λb Iz=>(t b Iz).mono q⟩;cases h;cases h
end
section
open RowKit
variable{c x:Code}{Q:Exit->Act->aj->Prop}{F:Fence}{U:Int}{outs:List Out}{z:Loc}{n:Nat}{bk:Pr}{cE:sQ->List Out->Prop}{rec:sQ->oC}
variable{D:List Deferred}
theorem G_{P:aw}{i:Nat}{v:AV}:∀(l:List aY)(T:Tr AV),(M4 P l T).get i=O v->T.get i=O v|[],_,h=>h|o::l,T,h=>by unfold M4 at h;have h:=G_ l _ h;grind[Tr.bJ]
section
variable{P:aw}{w0 w:aj}{A:en}{ν:Nm}{s:St}{T:Tr AV}{N:Nat}{M:List Nat}{a:Act}{r ro:Option Nat}
theorem YZ(g:∀q outs,rec q=O outs->cy P cE U n outs q){ops:Array aY}{l:List aY}(h:fk P bk rec (.ops r ops l T N M s)=O outs):cy P cE U (n+1) outs (.ops r ops l T N M s):=by intro D w0 A ν w ro a m k d t p;unfold fk at h;simp only at h;unfold aha at h;split at h;exact sL k d t h;rename_i o rest;split at h;cases h;rename_i c;split at c;rename_i i;refine wpListIn_step λK v=> ?_;rw[if_neg (by rw[gM d c];decide)];exact⟨λ_ _=>trivial,v _ _ (g _ _ h w0 A ν w ro _ m k (d.qd i AF) (by cases o.dst<;>exact t) p)⟩;cases c;rename_i c;split at c;rename_i i;refine wpListIn_step λK v=> ?_;rw[if_pos (gM d c)];have⟨F,E,C⟩:=iQ h;refine g _ _ E w0 A ν w ro a N m k d p K _ λout x f V w' b j y=> ?_;have⟨os,B,z⟩:=C out x;refine v _ _ (gV (λe a w=>kC.mono b z) _ _ _ (g _ _ B w0 A f w' ro _ (b.u.trans m) j ((d.mono b).qd i y) ?_ (p.mono b)));have:=t.mono b;cases o.dst<;>exact this;cases c
theorem nG{l:List Out}{e:Exit}(h:kC D P w0 A ν N l e a w){f:Out->oC}(g:∀o∈l,∃os,f o=O os/\∀y∈os,y∈outs){Q:Prop}(d:∀o b os,Nm.le ν b->oK o.e e->aL P w0 A b o.s w->eG b o.T N a.tmps->nj D b o.M a.defers->f o=O os->(∀y∈os,y∈outs)->Q):Q:=by have⟨o,c,b,n,m,k,j,i⟩:=h;grind
theorem fp{o:Out}{b:Nm}{e:Exit}(c:Nm.le ν b)(f:oK o.e e)(g:aL P w0 A b o.s w)(j:eG b o.T N a.tmps)(i:nj D b o.M a.defers){os:List Out}(h:O [o]=O os)(d:∀y∈os,y∈outs):kC D P w0 A ν N outs e a w:=by simp at h;subst h;exact⟨o,d o (aR.2 rfl),b,c,f,g,j,i⟩
theorem Y0(i:aL P w0 A ν s w)(y:nj D ν M a.defers){t:St}{M1:List Nat}{d:Nat}
 (b:(match r with
  |G=>O (s.n,s.n::M,oh s .oR)
  |O u=>match s.h.get u with
   |O (.loop _ _ _ _ _ d _)=>O (d,M,s)
   |_=>G)=O (d,M1,t)) (x:RR ν r ro) (ps:Array Tmp) (assign body:Code):
 ∃c j z mark,Nm.le ν c/\aL P w0 A c t j/\c d=O z/\nj D c M1 (mark++a.defers)/\∀e,(Instr.enterLoop e a.tmps ps assign body ro).run P w=
  .ok (j.heap.size,mark) (j.alloc (.loop {state:=.ready,pending:=G,fn:=e,tmps:=a.tmps,params:=ps,assign,body,defers:=z})):=by
 split at b
 ·injection b with b
  injection b with g b
  injection b with f q
  subst g f q
  cases x
  have v:=i.top s.n (ba _)
  have k:=Nm.fP v w.heap.size
  have C:aL P w0 A (ν.set s.n w.heap.size) (oh s .oR) (w.alloc (.deferred (O []))):=i.alloc (o:=.oR) (n':=s.n+1) v (by omega) (by omega) (show bN P _ .oR (.deferred (O []))from rfl)
  have E:nj D (ν.set s.n w.heap.size) (s.n::M) ([{target:=.collected w.heap.size,args:= #[]}]++a.defers):=by
   have⟨Gz,g,f⟩:=y.mono k
   exact⟨{target:=.collected w.heap.size,args:= #[]}::Gz,by rw[g];rfl,⟨w.heap.size,Nm.cx _ _ _,rfl⟩,f⟩
  grind[run_enterLoop_outer,World.size_alloc,Nm.cx]
 ·rename_i u
  split at b
  ·rename_i N L K J Iz d' H l
   injection b with b
   injection b with g b
   injection b with f q
   subst g f q
   obtain⟨Oz,m,rfl⟩:=x
   have⟨obj,F,p⟩:=i.at_ l m
   cases obj<;>simp only[bN]at p<;>try exact p.elim
   rename_i B
   exact⟨ν,w,B.defers,[],Nm.le.refl _,i,p.2.2.2.2.2,y,λe=>run_enterLoop_inner F e _ _ _ _⟩
  ·cases b
theorem bN.agw{a:LoopState}{b:Option Code}{f:fh}{ps:Array Tmp}{assign body:Code}{d:Nat}{key:Nat×List Bool}{rec:Loop}(c:ui P (O key) (.rangeFunc f ps assign body))(l:rec.state=a)(k:rec.pending=b)(j:eG ν T N rec.tmps)(i:rec.params=ps)(h:rec.assign=assign)(g:rec.body=body)(e:ν d=O rec.defers):bN P ν (.loop a b T N ps.toList d key) (.loop rec):=by subst i h g;simp only[bN];exact⟨l,k,j,trivial,⟨f,_,c⟩,e⟩
theorem L6{ν:Nm}{T:Tr AV}{N:Nat}{tmps:Array aa}(h:eG ν T N tmps):∀{l:List Nat}{acc:Tr AV},eG ν acc N tmps->eG ν (V6 T l acc) N tmps|[],_,b=>b|i::l,acc,b=>by refine L6 h (l:=l) ?_;split;rename_i v c;refine⟨b.size,λj u a=> ?_⟩;rw[Tr.bJ]at a;split at a;rename_i e;subst e;simp at a;subst a;exact h.jb _ _ c;exact b.jb j u a;exact b
theorem DB(ih:∀q outs,rec q=O outs->cy P cE U n outs q)(hU:ν.u=U)(hW:aL P w0 A ν s w)(K:eG ν T N a.tmps)(hM:nj D ν M a.defers)(hR:RR ν r ro){f:fh}{ps:Array Tmp}{assign body:Code}(hz:ui P z (.rangeFunc f ps assign body))(h:fk P bk rec (.code z r (.rangeFunc f ps assign body) T N M s)=O outs):(Code.rangeFunc f ps assign body).wpIn (fz ro) 0 P (kC D P w0 A ν N outs) a w:=by unfold fk at h;simp only at h;unfold TL at h;simp only at h;unfold WJ at h;split at h;(rename_i g first cap key hf);have⟨fn,FZ,CS,h1,h2,h3,hev⟩:=qt (K.evA hf);simp[lM]at h1;subst h1;split at h;cases h;rename_i d M1 B hd;have⟨Gz,c,gd,mark,k,Iz,hgd,hM1,j⟩:=Y0 hW hM hd hR ps assign body;have hk:=Iz.top B.n (ba _);have b:=Nm.fP hk c.heap.size;have⟨l,k1,k2⟩:=iQ h;have⟨Kf,C⟩:=ih _ _ k1;refine wpIn_rangeFunc λL _=> ?_;have⟨W2,Oz⟩:∃W2,c.alloc (.loop {state:=.ready,pending:=G,fn:=L,tmps:=a.tmps,params:=ps,assign,body,defers:=gd})=W2:=⟨_,rfl⟩;have j:=j L;rw[Oz]at j;have hW2:aL P w0 A (Gz.set B.n c.heap.size) (oh B (.loop .ready G (V6 T (gW assign (gW body [])) .e) N ps.toList d key)) W2:=Oz▸Iz.alloc (n':=B.n+1) hk (by omega) (by omega) (bN.agw hz rfl rfl (L6 (K.mono (k.trans b)) ⟨(K.mono (k.trans b)).size,λi v hv=>by cases hv⟩) rfl rfl rfl (b _ _ hgd));(have H:den (Gz.set B.n c.heap.size) (.func (.yield B.n) [] [])=O (.func (.yield c.heap.size) #[] #[]):=by simp[den,lM,bw,Nm.cx]);have E:=iE (iE (fo (k.trans b) _ _ h2) (eQ H (show bw _ []=O []from rfl))) (fo (k.trans b) _ _ h3);have hC:=C w0 A _ _ _ ((k.trans b).u.trans hU) hW2 E;refine⟨c.heap.size,mark,W2,{target:=.fn (.func g) CS.toArray,args:=FZ.toArray++ #[.func (.yield c.heap.size) #[] #[]]},W2,g,(FZ++[Value.func (Fn.yield c.heap.size) #[] #[]]++CS).toArray,W2,j,?_,λ_ _=>trivial,?_,λh=>(by cases h),?_⟩;simp only[resolve,hev,Deferred.ofValue,pure];rw[show Array.map a.eval #[Operand.const (Value.func (Fn.yield c.heap.size) #[] #[])]= #[Value.func (Fn.yield c.heap.size) #[] #[]] by simp[Act.eval]];rfl;show(callFunc g _).run P _=_;rw[show(FZ.toArray++ #[Value.func (Fn.yield c.heap.size) #[] #[]]++CS.toArray)=(FZ++[Value.func (Fn.yield c.heap.size) #[] #[]]++CS).toArray by simp];exact Kf _ _;refine ab_ (hC.mono ?_);intro e w3 hp;obtain⟨o,ho,p,V,X,R,m3,rfl⟩:=hp;have⟨os,t,m5⟩:=k2 o ho;split at t;rename_i st aeU q1 q2 q3 q4 q5 S;have W:p B.n=O c.heap.size:=X _ _ (Nm.cx _ _ _);have⟨obj,n1,Q⟩:=R.at_ S W;(cases obj<;>simp only[bN]at Q<;>try exact Q.elim);rename_i x;have m:Nm.le ν p:=(k.trans b).trans X;have Zz:=R.lt S W;(have Y:x.state≠.busy:=λe=>by rw[Q.1]at e;rw[e]at t;cases t);have y:=run_endLoop (P:=P) n1 Y;have F:=R.QD S W (R.nz S W) (Dd.obj (.loop {x with state:=.exhausted}) Zz);have J:nj D p M1 (mark++a.defers):=hM1.mono (b.trans X);refine⟨_,_,y,?_⟩;clear y;generalize w3.putObj c.heap.size _=W4 at F⊢;rw[Q.2.1];split at t;cases t;split at t;exact kC.mono m m5 (sL F (K.mono m) J t);exact wpIn_mono (ih _ _ t trivial w0 A p _ ro {a with defers:=mark++a.defers} (m.u.trans hU) F (K.mono m) J (hR.mono m)).1 λ_ _ _=>kC.mono m m5;cases t;cases h
theorem RL{b:Frame}{k:List Item}{cs:List Frame}:step P (lone (b.atR a (.code (.scope c)::k)) cs w)=.next (lone (b.atR a (.code c::.inScope c::k)) cs w):=step_lone_go (by rfl)
theorem KI{b:Frame}{k:List Item}{cs:List Frame}:step P (lone (b.atR a (.inScope c::k)) cs w)=.next (lone (b.atR a k) cs w):=step_lone_go (by rfl)
theorem adI(h:yb F n P c c Q a w):(Code.scope c).wpIn F n P Q a w:=by intro b k cs i l j;have⟨e,g,d,m,f⟩:=h b k cs i l j;exact⟨e,g,d,m,.of_steps (.one (fenced_calm l j rfl) RL) f⟩
def Ge(F:Fence)(n:Nat)(P:aw)(c:Code)(Q:Exit->Act->aj->Prop):Exit->Act->aj->Prop|.goto l,a,w=>(match findLabel c l with|O y=>yb F n P c y Q a w|G=>Q (.goto l) a w)|e,a,w=>Q e a w
theorem Y3(h:x.wpIn F n P (Ge F n P c Q) a w):yb F n P c x Q a w:=by intro b k cs s B A;have⟨e,g,f,j,d⟩:=h b (.inScope c::k) cs s B A;cases e with|normal=>exact⟨.normal,g,f,j,StepsIn.trans d (.one (fenced_calm B A rfl) KI)⟩|exit id=>(have r:exitTo id (.inScope c::k)=exitTo id k:=by rfl);exact⟨.exit id,g,f,j,λz p=>d.1 z (by rw[r];exact p),λm p=>d.2 m (by rw[r];exact p)⟩|goto l=>(simp[Ge]at j;cases v:findLabel c l with|some y=>rw[v]at j;(have C:gotoIn l (.inScope c::k)=O (.code y::.inScope c::k):=by simp[gotoIn,v]);have⟨t,u,q,o,i⟩:=j b k cs s B A;exact⟨t,u,q,o,.of_steps (d.1 _ C) i⟩|none=>rw[v]at j;(have r:gotoIn l (.inScope c::k)=gotoIn l k:=by simp[gotoIn,v]);exact⟨.goto l,g,f,j,λz p=>d.1 z (by rw[r];exact p),λm p=>d.2 m (by rw[r];exact p)⟩)|ret=>exact⟨_,g,f,j,d⟩|panic D=>exact⟨_,g,f,j,d⟩|outgrown=>exact⟨_,g,f,j,d⟩
theorem yb.mono{Q':Exit->Act->aj->Prop}(h:yb F n P c x Q a w)(g:∀e a w,Q e a w->Q' e a w):yb F n P c x Q' a w:=λb k cs d i f=>let⟨e,j,w',q,r⟩:=h b k cs d i f;⟨e,j,w',g _ _ _ q,r⟩
theorem OB(v:∀q outs,rec q=O outs->cy P cE U n outs q)(h:fk P bk rec (.SG z r c x T N M s)=O outs):cy P cE U (n+1) outs (.SG z r c x T N M s):=by intro E D w0 A ν w ro a B Gz Iz H C;unfold fk at h;simp only at h;unfold aci at h;refine Y3 ?_;have⟨l,K,J⟩:=iQ h;refine wpIn_mono (v _ _ K E w0 A ν w ro a B Gz Iz H C).1 λe L w' F=> ?_;refine nG F J λo p os d m k j i b g=> ?_;cases e<;>cases f:o.e<;>rw[f]at m<;>simp only[oK]at m<;>simp only[f]at b;exact fp d (by rw[f];trivial) k j i b g;exact fp d (by rw[f];exact m) k j i b g;subst m;simp[Ge];split at b;rename_i y t;rw[t];exact(v _ _ b trivial w0 A p w' ro L (d.u.trans B) k j i (C.mono d)).mono λ_ _ _=>kC.mono d g;rename_i t;rw[t];exact fp d (by rw[f];rfl) k j i b g;exact fp d (by rw[f];trivial) k j i b g
theorem U7(hL:bS bk.lm)(Zz:rK P cE U bk.lt)(J:∀q outs,rec q=O outs->cy P cE U n outs q) 
 (h:fk P bk rec (.code z r c T N M s)=O outs):cy P cE U (n+1) outs (.code z r c T N M s):=by
 intro K D w0 A ν w ro a C m d B E
 unfold fk at h
 simp only at h
 unfold TL at h
 split at h
 ·grind[wpIn_skip,sL]
 ·grind[wpIn_label,sL]
 ·exact⟨wpIn_ret (fp (o:=⟨.ret,jN,T,M,s⟩) (Nm.le.refl _) trivial m d B h λ_ h=>h),λ_ e=>(by grind)⟩
 ·rename_i id
  exact⟨wpIn_exit (fp (o:=⟨.exit id,jN,T,M,s⟩) (Nm.le.refl _) rfl m d B h λ_ h=>h),λ_ e=>(by grind)⟩
 ·rename_i l
  exact⟨wpIn_goto (fp (o:=⟨.goto l,jN,T,M,s⟩) (Nm.le.refl _) rfl m d B h λ_ h=>h),λ_ e=>(by grind)⟩
 ·exact⟨adI (J _ _ h (K.go Z rfl) w0 A ν w ro a C m d B E),λ_ e=>(by grind)⟩
 ·exact⟨wpIn_region_list (J _ _ h w0 A ν w ro a C m d B E),λ_ e=>(by grind)⟩
 ·rename_i id ops
  exact⟨J _ _ h w0 A ν w ro a id C m ⟨d.size,λi v hv=>d.jb i v (G_ _ _ hv)⟩ B E,λ_ e=>(by grind)⟩
 ·rename_i x y
  refine⟨wpIn_seq ?_,λ_ e=>(by grind)⟩
  have⟨l,Q,Oz⟩:=iQ h
  refine wpIn_mono (J _ _ Q (K.go Z rfl) w0 A ν w ro a C m d B E).1 λe X w' V=> ?_
  refine nG V Oz λo R os k L Iz H Gz g F=> ?_
  cases e<;>cases b:o.e<;>rw[b]at L<;>simp only[oK]at L<;>simp only[b]at g
  ·exact wpIn_mono (J _ _ g (K.go I rfl) w0 A R w' ro X (k.u.trans C) Iz H Gz (E.mono k)).1 λ_ _ _=>kC.mono k F
  ·exact fp k (by rw[b];exact L) Iz H Gz g F
  ·exact fp k (by rw[b];exact L) Iz H Gz g F
  ·exact fp k (by rw[b];trivial) Iz H Gz g F
 ·rename_i c x y
  refine⟨?_,λ_ e=>(by grind)⟩
  split at h
  ·rename_i W
   have:=d.evA W
   simp[den]at this
   exact wpIn_cond_true this.symm (J _ _ h (K.go Z rfl) w0 A ν w ro a C m d B E).1
  ·rename_i W
   have:=d.evA W
   simp[den]at this
   exact wpIn_cond_false this.symm (J _ _ h (K.go I rfl) w0 A ν w ro a C m d B E).1
  ·rename_i t W
   have⟨n',Q,Oz⟩:=vn (d.evA W)
   split at h
   ·rename_i Y
    have:=ib hL m.ctx.pc Y Q
    rw[this]at Oz
    exact wpIn_cond_true Oz (J _ _ h (K.go Z rfl) w0 A ν w ro a C m d B E).1
   ·rename_i Y
    have:=ib hL m.ctx.pc Y Q
    rw[this]at Oz
    exact wpIn_cond_false Oz (J _ _ h (K.go I rfl) w0 A ν w ro a C m d B E).1
   ·split at h
    ·cases h
    ·rename_i p V
     split at h
     ·cases h
     ·rename_i q hq
      simp at h
      subst h
      cases S:decide (n'≠0)with
      |true=>
       rw[S]at Oz
       exact wpIn_cond_true Oz (wpIn_mono (J _ _ V (K.go Z rfl) w0 A ν w ro a C (m.ot ⟨n',Q,S⟩) d B E).1 λ_ _ _=>kC.mono (Nm.le.refl _) λo b=>jw _ b)
      |false=>
       rw[S]at Oz
       exact wpIn_cond_false Oz (wpIn_mono (J _ _ hq (K.go I rfl) w0 A ν w ro a C (m.ot ⟨n',Q,S⟩) d B E).1 λ_ _ _=>kC.mono (Nm.le.refl _) λo b=>i6 _ b)
  ·cases h
 ·rename_i id c
  refine⟨wpIn_block ?_,λ_ e=>(by grind)⟩
  have⟨l,Q,Oz⟩:=iQ h
  refine wpIn_mono (J _ _ Q (K.go Z rfl) w0 A ν w ro a C m d B E).1 λe X w' V=> ?_
  refine nG V Oz λo R os k L Iz H Gz g F=> ?_
  cases e<;>cases b:o.e<;>rw[b]at L<;>simp only[oK]at L<;>simp only[b]at g
  ·exact fp k (by rw[b];trivial) Iz H Gz g F
  ·rename_i j i
   subst L
   simp[Exit.inBlock]
   split at g
   ·rename_i S
    rw[if_pos (an S)]
    exact kC.mono k F (sL Iz H Gz g)
   ·rename_i S
    rw[if_neg (λe=>by rw[e]at S;simp_all)]
    exact fp k (by rw[b];rfl) Iz H Gz g F
  ·exact fp k (by rw[b];exact L) Iz H Gz g F
  ·exact fp k (by rw[b];trivial) Iz H Gz g F
 ·rename_i c
  split at h
  ·rename_i os hk
   simp at h
   subst h
   exact DA (n:=n+1) hL Zz K hk K w0 A ν w ro a C m d B E
  ·have key:pC (fz ro) 0 P c (kC D P w0 A ν N outs) a w:=by
    refine KF ?_
    have⟨l,Q,Oz⟩:=iQ h
    refine wpIn_mono (J _ _ Q (K.go Z rfl) w0 A ν w ro a C m d B E).1 λe X w' V=> ?_
    refine nG V Oz λo R os k L Iz H Gz g F=> ?_
    cases e<;>cases b:o.e<;>rw[b]at L<;>simp only[oK]at L<;>simp only[b]at g
    ·exact((J _ _ g K w0 A R w' ro X (k.u.trans C) Iz H Gz (E.mono k)).2 c rfl).mono λ_ _ _=>kC.mono k F
    ·exact fp k (by rw[b];exact L) Iz H Gz g F
    ·exact fp k (by rw[b];exact L) Iz H Gz g F
    ·exact fp k (by rw[b];trivial) Iz H Gz g F
   grind[UX]
 ·exact⟨DB (bk:=bk) J C m d B E K h,λ_ e=>(by grind)⟩
 ·cases h
end
end
section
open RowKit
variable{args:List AV}{outs:List Out}{f:Nat}{s:St}
variable{D:List Deferred}
def Fy(tmps:Array aa):ResultVar->Sem aa|.tmp t=>pure (tmps.getD t undef)|.cell x t=>do loadVar t (<-asAddr (tmps.getD x undef))
def yG:List aa->aa|[v]=>v|vs=>.tuple vs.toArray
section
variable{P:aw}{w0 w:aj}{A:en}{ν:Nm}{s:St}{T:Tr AV}{N:Nat}{M:List Nat}{a:Act}{r ro:Option Nat}
theorem adJ(j:aL P w0 A ν s w)(b:eG ν T N a.tmps){x:ResultVar}{v:AV}(h:XI P T s x=O v):∃V,den ν v=O V/\(Fy a.tmps x).run P w=.ok V w:=by cases x with|tmp t=>have⟨V,d,c⟩:=b.jb t v h;simp_all[Fy]|cell x t=>simp[XI]at h;split at h;rename_i i off e;have⟨V,d,c⟩:=b.jb x _ e;obtain⟨g,f,rfl⟩:=jT d;have⟨V,l,k⟩:=acw j.Ph trivial h f;refine⟨V,l,?_⟩;simpa[Fy,c];cases h
theorem QK(b:aL P w0 A ν s w)(c:eG ν T N a.tmps):∀{rs:List ResultVar}{vs:List AV},ji (XI P T s) rs=O vs->∃VS,bw ν vs=O VS/\(rs.mapM (Fy a.tmps)).run P w=.ok VS w|[],vs,h=>by simp only[ji,aG]at h;subst h;exact⟨[],rfl,rfl⟩|x::rs,vs,h=>by simp[ji]at h;split at h;cases h;rename_i v d;split at h;cases h;rename_i m e;simp at h;subst h;have⟨V,g,j⟩:=adJ b c d;have⟨VS,f,i⟩:=QK b c e;refine⟨V::VS,eQ g f,?_⟩;rw[List.mapM_cons];simp_all
theorem adK{vs:List AV}{VS:List aa}(h:bw ν vs=O VS):den ν (Z3 vs)=O (yG VS):=by match vs with|[]=>rw[gu h];rfl|[v]=>obtain⟨V,R,b,a,rfl⟩:=cd h;rw[gu a];exact b|u::v::l=>grind[Z3,yG,den,bw]
theorem RM(hW:aL P w0 A ν s w)(hF:eG ν T N a.tmps){fn:D2}{vs:List AV}(h:ji (XI P T s) fn.results.toList=O vs):∃V,den ν (Z3 vs)=O V/\(results fn a.tmps).run P w=.ok V w:=by have⟨VS,h1,h2⟩:=QK hW hF h;refine⟨yG VS,adK h1,?_⟩;show(Sem.bind (Array.mapM (Fy a.tmps) fn.results) _).run P w=_;rw[show fn.results=fn.results.toList.toArray by simp,List.mapM_toArray,run_bind];(have hm:∀(s:Sem (List aa)),s.run P w=.ok VS w->(Functor.map List.toArray s).run P w=.ok VS.toArray w:=λs hs=>by rw[<-bind_pure_comp];simp_all);rw[hm _ h2];show Result.ok _ w=_;congr 1;match VS with|[]=>rfl|[v]=>rfl|v::u::l=>rfl
theorem L7:∀{args:List AV}{VS:List aa}{i:Nat}{T:Tr AV}{tmps:Array aa},bw ν args=O VS->eG ν T N tmps->(∀j,(h:j<VS.length)->tmps[i+j]? =O VS[j])->eG ν (Pq args i T) N tmps|[],_,_,_,_,_,h,_=>h|v::args,VS,i,T,tmps,d,h,b=>by obtain⟨V,R,g,f,rfl⟩:=cd d;unfold Pq;refine L7 f ⟨h.size,λk u a=> ?_⟩ λj c=> ?_;rw[Tr.bJ]at a;split at a;rename_i e;subst e;simp at a;subst a;exact⟨V,g,b 0 (by simp)⟩;exact h.jb k u a;have:=b (j+1) (by simp;omega);rw[show i+1+j=i+(j+1) by omega];grind
theorem Ha:∀{ps:List Nat}{args:List AV}{VS:List aa}{T T1:Tr AV}{tmps:Array aa},Fg N ps args T=O T1->bw ν args=O VS->eG ν T N tmps->VS.length=ps.length/\eG ν T1 N ((ps.zip VS).foldl (λtmps (t,a)=>tmps.setIfInBounds t a) tmps)|[],[],_,_,_,_,h,b,c=>by simp[Fg]at h;subst h;rw[gu b];simp_all|p::ps,v::args,VS,T,T1,tmps,h,b,c=>by obtain⟨V,R,f,e,rfl⟩:=cd b;simp[Fg]at h;split at h;rename_i d;have⟨i,g⟩:=Ha h e (c.put (bz d) f);simp_all;cases h|[],_::_,_,_,_,_,h,_,_=>by cases h|_::_,[],_,_,_,_,h,_,_=>by cases h
theorem Hb{fn:D2}{tmps:Array aa}{R:tf->aj->Prop}:∀{M:List Nat}{ds:List Deferred}{s:St}{w:aj},aic ν M ds->aL P w0 A ν s w->(∀i∈M,s.h.get i=O .oR)->distinct M=I->(∀w',aL P w0 A ν (we M s) w'->∃v,(results fn tmps).run P w'=.ok v w'/\R (.returned v) w')->LeavesInM (fz G) 0 P fn tmps R ds .returning w|[],ds,s,w,b,a,_,_,l=>(by cases ds with|nil=>exact l w a|cons _ _=>cases b)|i::M,ds,s,w,b,a,e,c,l=>by cases ds with|nil=>cases b|cons d ds=>obtain⟨⟨g,k,rfl⟩,b⟩:=b;have f:=e i (aU ..);have⟨obj,o,m⟩:=a.at_ f k;(cases obj<;>simp only[bN]at m<;>try exact m.elim);subst m;simp only[distinct,ay,Bool.not_eq_true']at c;refine⟨by simp,.inl ⟨g,_,rfl,run_takeDeferred o,Hb b (a.QD f k (a.nz f k) (Dd.obj _ (a.lt f k))) (λj n=> ?_) c.2 l⟩⟩;simp[cw];rw[Tr.bJ,if_neg];exact e j (aS _ n);grind[Nat.beq_refl]
theorem agx{a b:St}(h:ai0 a b=I):a=b:=by simp only[ai0,ay]at h;have⟨⟨⟨⟨g,f⟩,e⟩,d⟩,c⟩:=h;have⟨p,n,o,⟨q,ap⟩⟩:=a;have⟨l,j,k,⟨m,i⟩⟩:=b;grind[an,n_,D4,pw,Ag,Gb]
theorem yH:∀{tab:List sR},Pz f args s tab=O outs->⟨f,args,s,outs⟩∈tab|[],h=>by cases h|e::r,h=>by unfold Pz at h;split at h;exact aS _ (yH h);rename_i b;split at h;rename_i a;simp at a;simp at h;have⟨d,g,es,c⟩:=e;grind[an,mV,agx];exact aS _ (yH h)
theorem vM{v:AV}:∀{tab:List Dl},Fk f args s tab=O v->⟨f,s.x.gl,args,v⟩∈tab|[],h=>by cases h|e::r,h=>by unfold Fk at h;split at h;exact aS _ (vM h);rename_i b;split at h;rename_i a;simp at a;simp at h;have⟨d,c,g,ev⟩:=e;grind[an,mV,pw];exact aS _ (vM h)
theorem aL.grow{P:aw}{w0 w w':aj}{A:en}{ν:Nm}(h:aL P w0 A ν s w)(b:Below w.heap.size w w'):aL P w0 A ν s w':=
 ⟨h.pos,h.dz.trans (rF.acL b),h.top,λi o d=>by
  obtain⟨g,c,e|⟨obj,e,m,l⟩⟩:=h.fX i o d
  ·simp_all
  ·exact⟨g,c,.inr ⟨obj,e,(b.block g (h.lt d c)).trans m,l⟩⟩,h.inj,h.ext,h.xb,λi o d j=>by
  have⟨⟨f,c⟩,e⟩:=h.same i o d j
  exact⟨⟨f,c⟩,λg a=>(b.block g (h.lt c (h.ext _ _ a))).trans (e g a)⟩,λg a k=>(b.block g (jU a h.nv)).trans (h.sT g a k),dU h.nv b.size,h.own,h.ctx,λg ob a=>⟨(b.block g (ef.1 (h.mu g ob a).1).1).trans (h.mu g ob a).1,(h.mu g ob a).2⟩,h.lq,h.nU,h.kR,h.kS⟩
theorem U8{cE:sQ->List Out->Prop}{U:Int}{bk:Pr}{n:Nat}{rec:sQ->oC}(hN:mU P=I)(hL:bS bk.lm)(hT:E_ P cE U bk.tab)(Oz:Bw P bk.eH)(ih:∀q outs,rec q=O outs->cy P cE U n outs q) 
 (h:fk P bk rec (.call f args s)=O outs):cy P cE U (n+1) outs (.call f args s):=by
 unfold fk at h
 simp only at h
 unfold ach at h
 split at h
 ·rename_i v H
  simp at h
  subst h
  have⟨_,_,h3,h4⟩:=Oz _ (vM H)
  refine⟨h3,λw0 A ν w VS _ g m=> ?_⟩
  refine(h4 ν w VS g.X4 g.mw m).mono λe w' N=> ?_
  obtain⟨z,V,hV,rfl⟩:=N
  exact⟨_,aR.2 rfl,ν,V,Nm.le.refl _,g.grow z,hV,rfl⟩
 split at h
 ·rename_i os H
  simp at h
  subst h
  exact hT _ (yH H)
 split at h
 ·grind[pN]
 split at h
 ·grind[rT]
 split at h
 ·cases h
 ·rename_i fn L
  split at h
  ·cases h
  ·rename_i c z
   split at h
   ·cases h
   ·rename_i t
    have t:=bz t
    have⟨b,h,J⟩:=RG h
    refine⟨λVS w=>Ou hN L z VS w,λw0 A ν w VS hU g m=> ?_⟩
    have⟨l,h1,h2⟩:=iQ h
    have k:∀e w',zW P w0 A ν b e w'->zW P w0 A ν outs e w':=λe w' N=>by
     have⟨o,D,u,V,F,E,j3,j4⟩:=N
     have⟨p,Iz,_,e3⟩:=J o D
     have⟨x,Zz,Y,X⟩:=e3 P w0 w' A ν u F (λi K=>⟨g.top i K,g.kS i K⟩) g.ext g.old g.ctx.gl E
     exact⟨p,Iz,x,V,Zz,Y,X.trans j3,j4⟩
    refine Calls.mono ?_ k
    have hl:=fK m
    have hF:eG ν (Pq args 0 .e) fn.ntmps (VS.toArray++Array.replicate (fn.ntmps - VS.toArray.size) undef):=
     L7 m ⟨by simp;omega,λi v hv=>by cases hv⟩ λj W=>by
      rw[ew,Array.getElem?_append_left (by simpa using W)]
      simp
    refine afR (r:=G) (n:=0) (callsIn_of_wp_marks L z trivial (wpIn_mono (ih _ _ h1 (show oG P f []=O c by unfold oG;rw[L];exact z) w0 A ν w G {tmps:=_,defers:=[]} hU g hF (⟨[],rfl,trivial⟩:nj [] ν [] []) rfl).1 λe Q w' Iz=> ?_))
    refine nG Iz h2 λo u os k1 R k3 k4 k5 d C=> ?_
    have fin:∀os,(match(o.M.all λi=>match o.s.h.get i with|O .oR=>I|_=>Z)&&distinct o.M with
     |Z=>G
     |I=>match ji (XI P o.T (we o.M o.s)) fn.results.toList with
      |O vs=>O [(⟨.ret,Z3 vs,.e,[],we o.M o.s⟩:Out)]
      |G=>G)=O os->(∀y∈os,y∈b)->LeavesInM (fz G) 0 P fn Q.tmps (zW P w0 A ν b) Q.defers .returning w':=λos d C=>by
     split at d
     ·cases d
     ·rename_i S
      simp only[ay]at S
      split at d
      ·rename_i vs Gz
       simp at d
       subst d
       have⟨fr,e1,e2⟩:=k5
       rw[e1,i_]
       refine Hb e2 k3 (λi K=> ?_) S.2 λw2 B=> ?_
       ·grind
       ·have⟨V,F,E⟩:=RM (a:=Q) B k4 Gz
        exact⟨V,E,_,C _ (aR.2 rfl),u,V,k1,B,F,rfl⟩
      ·cases d
    cases e<;>cases D:o.e<;>rw[D]at R<;>simp only[oK]at R<;>simp only[D]at d
    ·exact fin os d C
    ·cases d
    ·cases d
    ·exact fin os d C
theorem aL.set(h:aL P w0 A ν s w){i g:Nat}{o0 o:bF}{obj:Obj}{w':aj}(c:s.h.get i=O o0)(d:ν i=O g)(f:g≠0)(e:bN P ν o obj)(b:Dd w g obj w'):aL P w0 A ν (lK s i o) w':=h.write c d e b (λ_ a=>aS _ a) (λ_ _=>aU ..) f
theorem RN{cE:sQ->List Out->Prop}{U:Int}{bk:Pr}{n:Nat}{rec:sQ->oC}(ih:∀q outs,rec q=O outs->cy P cE U n outs q){l:Nat}(h:fk P bk rec (.round l args s)=O outs):cy P cE U (n+1) outs (.round l args s):=by intro w0 A ν w lg VS ro hU hW C S;unfold fk at h;simp only at h;unfold WK at h;split at h;rename_i T N ps d cf ck hl;have⟨obj,h1,X⟩:=hW.at_ hl C;(cases obj<;>simp only[bN]at X<;>try exact X.elim);rename_i b;have⟨a1,a2,a3,a4,⟨cfo,cqs,a5⟩,a7⟩:=X;subst a4;split at h;(case h_2=>cases h);rename_i assign body i;rw[a5]at i;obtain⟨rfl,rfl,rfl,rfl⟩:=i;have v:ui P (O (cf,ck)) (.rangeFunc cfo cqs b.assign b.body):=a5;split at h;cases h;rename_i T1 hb;have⟨hlen,W⟩:=Ha hb S a3;have⟨l1,h3,h4⟩:=iQ h;refine⟨_,_,_,_,run_yield h1 (by omega),roundIn_of_wpIn trivial ?_⟩;(have hz:(b.params.zip VS.toArray).foldl (λtmps (t,a)=>tmps.setIfInBounds t a) b.tmps=(b.params.toList.zip VS).foldl (λtmps (t,a)=>tmps.setIfInBounds t a) b.tmps:=by rw[<-Array.foldl_toList,Array.toList_zip]);rw[hz];refine wpIn_mono (ih _ _ h3 (v.go Z rfl) w0 A ν w _ {tmps:=_,defers:=[]} hU hW W (⟨[],rfl,trivial⟩) ⟨lg,C,rfl⟩).1 λe a1 w1 Q=> ?_;refine nG Q h4 λo J os Oz k2 Iz k4 k5 z L=> ?_;cases e<;>cases ho:o.e<;>rw[ho]at k2<;>simp only[oK]at k2<;>simp only[ho]at z;split at z;rename_i T2 N2 K d2 rZ r;have j:=Oz _ _ C;have⟨Gz,b1,b2⟩:=Iz.at_ r j;(cases Gz<;>simp only[bN]at b2<;>try exact b2.elim);rename_i E;have⟨c1,c2,c3,c4,c5,c7⟩:=b2;refine⟨_,run_beginRound b1 c1,?_⟩;have⟨l2,d1,d2'⟩:=iQ z;have R:=Iz.set r j (Iz.nz r j) (o:=.loop .busy G T2 N2 K d2 rZ) (obj:=.loop {E with state:=.busy}) (by simp_all[bN]) (Dd.obj _ (Iz.lt r j));refine wpIn_mono (ih _ _ d1 (v.go I rfl) w0 A J _ _ a1 (Oz.u.trans hU) R k4 k5 ⟨lg,j,rfl⟩).1 λe a2 w2 Q=> ?_;refine nG Q d2' λo2 p os2 f1 f2 x f4 f5 g f7=> ?_;have D:Nm.le ν p:=Oz.trans f1;have f:=f1 _ _ j;split at g;rename_i XA pe3 T3 N3 y d3 m c;have⟨F,Zz,Y⟩:=x.at_ c f;(cases F<;>simp only[bN]at Y<;>try exact Y.elim);rename_i k;have⟨q1,q2,q3,q4,q5,q7⟩:=Y;have B:=x.lt c f;cases e<;>cases H:o2.e<;>rw[H]at f2<;>simp only[oK]at f2<;>cases V:o2.M<;>simp only[H,V]at g;simp at g;subst g;exact⟨_,_,run_endRound G Zz,_,L _ (f7 _ (aR.2 rfl)),p,_,D,x.set c f (x.nz c f) (by simp_all[bN]) (Dd.obj _ B),rfl,rfl⟩;cases g;simp at g;subst g;exact⟨_,_,run_endRound _ Zz,_,L _ (f7 _ (aR.2 rfl)),p,_,D,x.set c f (x.nz c f) (by simp_all[bN]) (Dd.obj _ B),rfl,rfl⟩;cases g;cases g;cases g;simp at g;subst g;exact⟨_,_,run_endRound _ Zz,_,L _ (f7 _ (aR.2 rfl)),p,_,D,x.set c f (x.nz c f) (by simp_all[bN]) (Dd.obj _ B),rfl,rfl⟩;cases g;cases g;cases z;cases z;cases z;cases z;cases h
end
end
section
open RowKit
variable{ops:Array aY}{i j:Nat}
section
variable{r:Option Nat}{P:aw}{ops:Array aY}{Q:Exit->Act->aj->Prop}{md:Region.Mode}{S:aj->Prop}{Gz:Nat->aj->aj->Prop}
def mJ(r:Option Nat)(P:aw)(md:Region.Mode)(ops:Array aY)(Q:Exit->Act->aj->Prop)(Gz:Nat->aj->aj->Prop):Nat->Array Bool->Act->aj->Prop|0,listed,a,w=>Region.ready md ops listed=[]/\Q .normal a w|fuel+1,listed,a,w=>(Region.ready md ops listed=[]->Q .normal a w)/\∀i∈Region.ready md ops listed,wpOpIn (fz r) 0 P ops Q i (λa' w'=>Gz i w w'/\mJ r P md ops Q Gz fuel (listed.setIfInBounds i I) a' w') a w
theorem yI:∀(b:Nat)(listed:Array Bool)(a:Act)(w:aj),mJ r P md ops Q Gz b listed a w->wpAnyIn (fz r) 0 P md ops Q b listed a w|0,_,_,_,h=>h|b+1,_,_,_,h=>⟨h.1,λi c=>wpOpIn_mono (λe w' d=>yI b _ e w' d.2) (h.2 i c)⟩
theorem C6{listed:Array Bool}{a:Act}{w:aj}(c:Region.ready md ops listed=[])(h:Q .normal a w):∀b,mJ r P md ops Q Gz b listed a w|0=>⟨c,h⟩|_+1=>⟨λ_=>h,λi d=>by rw[c]at d;cases d⟩
theorem OC(m:Nat){q:aY}{v:aa}(Oz:ops[i]? =O q)(D:∀(j:Nat)(o:aY),ops[j]? =O o->∀c,o.op≠.defer c)(n:∀(j:Nat) (o:aY) cs b,ops[j]? =O o->o.op≠.select cs b)(R:∀c a w,Q (.panic c) (a.put q.dst v) w->Q (.panic c) a w)(W:∀w,Gz i w w):∀(d:Nat)(listed:Array Bool)(a:Act)(w:aj),uT md ops listed->(∀j t,ops[j]? =O t->j≠i->listed.getD j I=Z->waits md ops m j i=Z->q.apart ops t=I/\∀w w',Gz j w w'->S w->S w')->i∈Region.ready md ops listed->YieldsIf P ops S q v a->S w->mJ r P md ops Q Gz d (listed.setIfInBounds i I) (a.put q.dst v) w->mJ r P md ops Q Gz (d+1) listed a w:=by intro d;induction d with|zero=>intro listed a w _ _ s Iz K H;refine⟨λh=>(by rw[h]at s;cases s),λj x=> ?_⟩;by_cases e:j=i;grind[vP];have:=ready_mono x e;rw[H.1]at this;cases this|succ d L=>intro listed a w E f s Iz K H;refine⟨λh=>(by rw[h]at s;cases s),λj x=> ?_⟩;by_cases e:j=i;grind[vP];have U:=H.2 j (ready_mono x e);have⟨p,t,g,J⟩:=mem_ready.1 x;(have u:waits md ops m j i=Z:=by grind[pH,mem_ready]);have⟨F,A⟩:=f j t g e p u;have T:=Rk (D _ _ g) g F (λcs b=>n i q cs b Oz) (λcs b=>n j t cs b g) R Iz U;(have l:∀k ok,ops[k]? =O ok->k≠i->(listed.setIfInBounds j I).getD k I=Z->waits md ops m k i=Z->q.apart ops ok=I/\∀w w',Gz k w w'->S w->S w':=λk ok N B M z=>by refine f k ok N B ?_ z;by_cases C:j=k;subst C;exact p;simp_all);refine wpOpIn_mono (λV w' y=>⟨y.2.1,L (listed.setIfInBounds j I) V w' (E.set x) l (ready_mono s (Ne.symm e)) y.1 (A _ _ y.2.1 K) ?_⟩) T;rw[Array.setIfInBounds_comm _ _ e];exact y.2.2
theorem tS:∀{n m:Nat},n<=m->∀{j:Nat},waits md ops n j i=I->waits md ops m j i=I|0,_,_,_,h=>by cases h|n+1,0,h,_,_=>by omega|n+1,m+1,a,j,h=>by unfold waits at h⊢;split at h;cases h;rename_i d f;simp only[Array.any_eq_true',ay,bW]at h⊢;have⟨e,b,c,h⟩:=h;exact⟨e,b,c,h.imp id λh=>tS (by omega) h⟩
theorem Hc{acc:Array Nat}:∀{es:List Edge},(Pt acc es).testBit i=I->∃e∈es,Region.binds .any e=I/\(e.on=i∨(acc.getD e.on 0).testBit i=I)|[],h=>by simp[Pt]at h|e::es,h=>by unfold Pt at h;rw[Nat.testBit_or,bW]at h;rcases h with h|h;grind;have⟨c,b,a⟩:=Hc h;grind
theorem C7:∀(l:List aY)(acc:Array Nat),(∀k,l[k]? =ops[acc.size+k]?)->(∀j,(acc.getD j 0).testBit i=I->waits .any ops (j+1) j i=I)->∀j,((kW l acc).getD j 0).testBit i=I->waits .any ops (j+1) j i=I|[],acc,_,h=>h|o::l,acc,d,h=>by refine C7 l _ (λk=> ?_) λj a=> ?_;rw[Array.size_push,show acc.size+1+k=acc.size+(k+1) by omega,<-d];rfl;simp[Array.getElem?_push]at a;split at a;rename_i e;subst e;simp at a;have⟨e,m,n,b⟩:=Hc a;(have f:ops[acc.size]? =O o:=by have:=d 0;simpa using this.symm);unfold waits;rw[f];simp only[Array.any_eq_true',ay,bW,beq_iff_eq];refine⟨e,by simpa using m,n,b.imp id λb=> ?_⟩;(have g:e.on<acc.size:=by rcases eu e.on acc.size with c|c;exact c;simp[Array.getElem?_eq_none c]at b);exact tS (by omega) (h e.on b);simp_all
theorem RO(h:((kW ops.toList #[]).getD j 0).testBit i=I):waits .any ops (j+1) j i=I:=C7 ops.toList #[] (λk=>by simp) (λj h=>by simp at h) j h
end
structure Np(A:en):Prop where
 inj:∀i j o o',A.h.get i=O o->A.h.get j=O o'->A.ν i≠O 0->A.ν i=A.ν j->i=j
 lt:∀i o g,A.h.get i=O o->A.ν i=O g->g<A.w.heap.size
section
variable{P:aw}{w0 w w':aj}{A:en}{ν ed:Nm}{s s':St}
theorem aL.anchor(h:aL P w0 A ν s w):aL P w0 ⟨s.h,ν,w⟩ ν {s with log:=[]} w:=
 ⟨h.pos,h.dz,h.top,h.fX,h.inj,Nm.le.refl _,λi o a=>by
  have⟨g,c,_⟩:=h.fX i o a
  grind,λi o a _=>⟨⟨o,a⟩,λg _=>rfl⟩,λ_ _ _=>rfl,ba _,λi o a g b _=>.inr ⟨i,o,a,b⟩,h.ctx,h.mu,λ_ _ b _=>.inl b,h.nU,h.kR,h.kS⟩
theorem aL.acz(h:aL P w0 A ν s w):Np ⟨s.h,ν,w⟩:=⟨h.inj,λi o g a b=>h.lt a b⟩
theorem aL.back(h:aL P w0 A ν s w)(a:aL P w0 ⟨s.h,ν,w⟩ ed s' w'):aL P w0 A ed {s' with log:=s'.log++s.log} w':=by refine⟨h.pos,a.dz,a.top,a.fX,a.inj,h.ext.trans a.ext,h.xb,λi o l k=> ?_,λg c k=> ?_,dU h.nv a.nv,λi o l g c d=> ?_,a.ctx,a.mu,λg o c d=> ?_,a.nU,a.kR,a.kS⟩;simp at k;have⟨⟨n,b⟩,f⟩:=h.same i o l k.2;have⟨q,p⟩:=a.same i n b k.1;exact⟨q,λg c=>(p g (h.ext _ _ c)).trans (f g c)⟩;refine(a.sT g (jU c h.nv) λi o l d e=> ?_).trans (h.sT g c k);rcases h.own i o l g e d with b|⟨j,m,b,f⟩;omega;simp_all;rcases a.own i o l g c d with b|⟨j,m,b,f⟩;exact .inl (dU h.nv b);exact h.own j m b g f d;rcases a.lq g o c d with b|b|⟨j,m,b,f⟩;exact h.lq g o b d;exact .inr (.inl (dU h.nv b));exact .inr (h.own j m b g f d)
theorem aL.al0(h:aL P w0 A ν s w)(obj:Obj):aL P w0 A ν s (w.alloc obj):=by have a:∀g,g<w.heap.size->(w.alloc obj).heap[g]? =w.heap[g]?:=λg b=>Below.heap_alloc _ _ _ b;refine⟨h.pos,h.dz.trans (rF.alloc _ _ _),h.top,λj e i=> ?_,h.inj,h.ext,h.xb,λj e i f=> ?_,λg b m=> ?_,by simp;have:=h.nv;omega,h.own,h.ctx,λg ob b=>⟨(a g (ef.1 (h.mu g ob b).1).1).trans (h.mu g ob b).1,(h.mu g ob b).2⟩,h.lq,h.nU,h.kR,h.kS⟩;obtain⟨n,d,c|⟨k,c,p,o⟩⟩:=h.fX j e i;exact⟨n,d,.inl c⟩;grind;have⟨⟨l,d⟩,c⟩:=h.same j e i f;refine⟨⟨l,d⟩,λg b=> ?_⟩;rw[a g (h.lt d (h.ext _ _ b))];exact c g b;rw[a g (jU b h.nv)];exact h.sT g b m
def Gd(P:aw)(ops:Array aY)(A:en)(lm:List (Nat×Nat))(j:Nat)(w w':aj):Prop:=(∀oj,ops[j]? =O oj->uW (fC P oj.op)=I->w.heap.size<=w'.heap.size/\∀g,g<w.heap.size->w'.heap[g]? =w.heap[g]?)/\∀k o g,A.h.get k=O o->A.ν k=O g->SH lm j k=Z->w'.heap[g]? =w.heap[g]?
theorem Gd.refl{a:List (Nat×Nat)}(w:aj):Gd P ops A a j w w:=⟨λ_ _ _=>⟨ba _,λ_ _=>rfl⟩,λ_ _ _ _ _ _=>rfl⟩
theorem Gd.alloc{a:List (Nat×Nat)}(d:Np A)(c:A.w.heap.size<=w.heap.size)(obj:Obj):Gd P ops A a j w (w.alloc obj):=⟨λ_ _ _=>⟨by simp,λg b=>Below.heap_alloc _ _ _ b⟩,λk o g f e _=>Below.heap_alloc _ _ _ (jU (d.lt k o g f e) c)⟩
theorem Gd.adL{z:An}{c:Nat}(E:Np A)(D:A.h=z.h)(h:aL P w0 A ν s w)(f:aL P w0 ⟨s.h,ν,w⟩ ed s' w')(L:aca z c s s'.log=I)(J:∀y,ops[c]? =O y->uW (fC P y.op)=I->s'.log=[]):Gd P ops A z.lm c w w':=by refine⟨λH K j=>⟨f.nv,λg q=> ?_⟩,λk o g j q M=> ?_⟩;have m:=J H K j;by_cases l:∃i o,s.h.get i=O o/\ν i=O g;have⟨i,o,b,a⟩:=l;exact(f.same i o b (by rw[m];simp)).2 g a;exact f.sT g q λi o b _ e=>l ⟨i,o,b,e⟩;by_cases Gz:g=0;subst Gz;exact(f.dz.block 0 h.pos (by simp)).trans (h.dz.block 0 h.pos (by simp)).symm;have r:=cm.1 L;have v:g<w.heap.size:=jU (E.lt k o g j q) h.nv;cases t:s.h.get k with|some B=>refine(f.same k B t λu=> ?_).2 g (h.ext _ _ q);grind|none=>(have u:k∈s.log:=Classical.byContradiction λu=>by have⟨⟨B,F⟩,_⟩:=h.same k o j u;rw[t]at F;cases F);have x:k∈ND z s:=List.mem_filter.2 ⟨u,by rw[<-D,j,t];rfl⟩;by_cases l:∃i o,s.h.get i=O o/\ν i=O g;have⟨i,Iz,b,a⟩:=l;by_cases p:i∈s'.log;have:=r i p;rw[<-D]at this;split at this;rename_i C n;have⟨N,d⟩:=h.xb i C n;have e:=h.ext _ _ d;rw[a]at e;simp at e;subst e;have:=E.inj i k C o n j (λe=>Gz (bB (d.symm.trans e))) (d.trans q.symm);subst this;rw[t]at b;cases b;simp_all;exact(f.same i Iz b p).2 g a;exact f.sT g v λi o b _ e=>l ⟨i,o,b,e⟩
end
end
section
open RowKit
variable{L:Array Bool}{g i j:Nat}{oi:aY}{V:aa}
variable{D:List Deferred}
def uw:List Bool->Nat|[]=>0|I::l=>uw l|Z::l=>uw l+1
theorem Gf:∀{l:List Bool}{i:Nat},l[i]? =O Z->uw (l.set i I)+1=uw l|[],i,h=>by simp at h|b::l,0,h=>by simp at h;subst h;rfl|b::l,i+1,h=>by have:=Gf (l:=l) (i:=i) (by simpa using h);cases b<;>simp only[List.set_cons_succ,uw]<;>omega
theorem D6:∀l:List Bool,uw l<=l.length|[]=>ba _|I::l=>by have:=D6 l;grind[uw]|Z::l=>by have:=D6 l;simp_all[uw]
theorem Xd(h:L.getD i I=Z):L.toList[i]? =O Z:=by rw[wB]at h;rw[fI];grind
theorem N9{n:Nat}(h:L.getD i I=Z)(a:uw L.toList<=n+1):uw (L.setIfInBounds i I).toList<=n:=by have:=Gf (Xd h);rw[Array.toList_setIfInBounds];omega
theorem Xe(h:L.getD i I=Z):uw L.toList≠0:=by have:=Gf (Xd h);omega
theorem Ww(h:L.getD i Z=I):L.getD i I=I:=by rw[wB]at h⊢;grind
theorem aid(h:L.getD i Z=I):i<L.size:=by rw[wB]at h;grind
theorem TY(h:L.getD i I≠Z)(a:i<L.size):L.getD i Z=I:=by rw[wB]at h⊢;rw[Array.getElem?_eq_getElem a]at h⊢;simpa using h
theorem agy(a:i<L.size):(L.setIfInBounds i I).getD i I≠Z:=by simp
section
variable{P:aw}{ops:Array aY}
structure Wx(P:aw)(w0:aj)(A:en)(ν:Nm)(s:St)(w:aj)(ops:Array aY)(T:Tr AV)(N:Nat)(L:Array Bool)(a:Act)(j g:Nat):Prop where
 ex:∃(oj:aY)(d:Nat)(Ef:Obj)(Vf:Nat->aa),ops[j]? =O oj/\oj.dst=O d/\d<N/\T.get d=G/\fC P oj.op=3/\Region.wanted oj (yielded ops a.tmps)=I/\(∀e∈oj.after,Region.binds .any e=I->L.getD e.on Z=I)/\
  (∀w,(execOp a.eval oj).run P w=.ok (.value (Vf w.heap.size)) (w.alloc Ef))/\w.heap[g]? =O Ef/\a.tmps[d]? =O (Vf g)
 off:L.getD j I=Z
 old:A.w.heap.size<=g
 zero:w0.heap.size<=g
 free:(∀i o,s.h.get i=O o->ν i≠O g)/\ν.z g=G
theorem acA{a:aY}(h:fC P a.op=3)(cs:Array SelectCase)(b:Bool):a.op≠.select cs b:=λe=>by rw[e]at h;cases h
theorem Wx.dz{w0 w w':aj}{A:en}{ν ed:Nm}{s s':St}{T T1:Tr AV}{N:Nat}{L1:Array Bool}{a:Act}(f:Wx P w0 A ν s w ops T N L a j g){dst:Option Nat}(m:∀b,ops[j]? =O b->(∀d,dst=O d->d∉b.looksAt ops)/\∀d,dst=O d->b.dst≠O d)(B:∀d,T.get d=G->(∀d',dst=O d'->d'≠d)->T1.get d=G)(C:L1.getD j I=Z)(n:∀k,L.getD k Z=I->L1.getD k Z=I)(v:w'.heap[g]? =w.heap[g]?)(x:(∀i o,s'.h.get i=O o->ed i≠O g)/\ed.z g=G):Wx P w0 A ed s' w' ops T1 N L1 (a.put dst V) j g:=by have⟨b,d,Ef,Vf,t,r,Iz,H,q,Gz,F,E,D,l⟩:=f.ex;have⟨p,u⟩:=m b t;have c:∀d',dst=O d'->d'≠d:=λd' e J=>u d' e (J▸r);refine⟨⟨b,d,Ef,Vf,t,r,Iz,B d H c,q,?_,λe f y=>n _ (F e f y),?_,v.trans D,?_⟩,C,f.old,f.zero,x⟩;rw[wanted_put b a dst V p];exact Gz;rw[execOp_put b (acA q) a dst V p];exact E;cases dst with|none=>exact l|some d'=>show(a.tmps.setIfInBounds d' V)[d]? =_;rw[Array.getElem?_setIfInBounds_ne (c d' rfl)];exact l
structure iu(D:List Deferred)(P:aw)(w0:aj)(A:en)(ops:Array aY)(N:Nat)(r ro:Option Nat)(M:List Nat)(ν:Nm)(T:Tr AV)(s:St)(L:Array Bool)(a:Act)(w:aj)(L':Array Bool)(E:Nat->Option Nat):Prop where
 S9:Np A
 size:L.size=ops.size
 Lc:L'.size=ops.size
 cl:uT .any ops L
 cl':uT .any ops L'
 rel:∀j,j<ops.size->(L'.getD j I=Z↔L.getD j I=Z/\E j=G)
 early:∀j g,E j=O g->Wx P w0 A ν s w ops T N L a j g
 inj:∀j k g,E j=O g->E k=O g->j=k
 dst:∀j k g g' oj ok d,E j=O g->E k=O g'->j≠k->ops[j]? =O oj->ops[k]? =O ok->oj.dst=O d->ok.dst≠O d
 W:aL P w0 A ν s w
 F:eG ν T N a.tmps
 M:nj D ν M a.defers
 R:RR ν r ro
variable{w0 w w':aj}{A:en}{N:Nat}{r ro:Option Nat}{M:List Nat}{ν ed:Nm}{T:Tr AV}{s s':St}{L L':Array Bool}{a:Act}{E:Nat->Option Nat}
theorem iu.on(h:iu D P w0 A ops N r ro M ν T s L a w L' E){k:Nat}(c:L.getD k Z=I):L'.getD k Z=I:=by have b:k<ops.size:=h.size▸aid c;refine TY (λe=> ?_) (h.Lc▸b);have:=((h.rel k b).1 e).1;rw[Ww c]at this;cases this
theorem iu.ready(h:iu D P w0 A ops N r ro M ν T s L a w L' E)(c:i∈Region.ready .any ops L)(g:E i=G):i∈Region.ready .any ops L':=by have⟨k,o,b,j⟩:=mem_ready.1 c;exact mem_ready.2 ⟨(h.rel i (ef.1 b).1).2 ⟨k,g⟩,o,b,λe d f=>h.on (j e d f)⟩
theorem iu.tT(h:iu D P w0 A ops N r ro M ν T s L a w L' E)(b:E j=O g):j∈Region.ready .any ops L:=by have⟨c,d,Ef,Vf,f,_,_,_,_,_,e,_⟩:=(h.early j g b).ex;exact mem_ready.2 ⟨(h.early j g b).off,c,f,e⟩
theorem iu.TZ(h:iu D P w0 A ops N r ro M ν T s L a w L' E){m:Nat}(e:L.getD i I=Z)(d:j∈Region.ready .any ops L):waits .any ops m j i=Z:=by have⟨_,b,g,f⟩:=mem_ready.1 d;cases c:waits .any ops m j i with|false=>rfl|true=>have:=Ww (pH h.cl m j b g f c);rw[e]at this;cases this
theorem nj.put{d:Option Nat}(h:nj D ν M a.defers):nj D ν M (a.put d V).defers:=by cases d<;>exact h
theorem iu.step(h:iu D P w0 A ops N r ro M ν T s L a w L' E){v:AV}(Gz:ops[i]? =O oi)(n:i∈Region.ready .any ops L)(q:E i=G)(Iz:∀j g l,E j=O g->ops[j]? =O l->oi.apart ops l=I)(b:Nm.le ν ed)(J:aL P w0 A ed s' w')(H:KM N oi.dst=I)(t:den ed v=O V)(m:∀j g,E j=O g->w'.heap[g]? =w.heap[g]?/\(∀i o,s'.h.get i=O o->ed i≠O g)/\ed.z g=G):iu D P w0 A ops N r ro M ed (qd T oi.dst v) s' (L.setIfInBounds i I) (a.put oi.dst V) w' (L'.setIfInBounds i I) E:=by have y:i<ops.size:=(ef.1 Gz).1;refine⟨h.S9,by simp[h.size],by simp[h.Lc],h.cl.set n,h.cl'.set (h.ready n q),λj C=> ?_,λj g f=> ?_,h.inj,h.dst,J,(h.F.mono b).qd H t,(h.M.mono b).put,h.R.mono b⟩;(·by_cases e:i=j;(·simp_all);·rw[getD_set_ne I e,getD_set_ne I e];exact h.rel j C);·(have c:i≠j:=λe=>by rw[<-e,q]at f;cases f);refine(h.early j g f).dz (λl u=> ?_) (λd p c=> ?_) ?_ (λk B=>getD_set_true B) (m j g f).1 (m j g f).2;(·grind[Oper.apart_spec]);(·cases x:oi.dst with|none=>exact p|some d'=>show(T.put d' _).get d=G;rw[Tr.bJ,if_neg λe=>c d' x e.symm];exact p);·rw[getD_set_ne I c];exact(h.early j g f).off
theorem iu.float(h:iu D P w0 A ops N r ro M ν T s L a w L' E){d:Nat}{Ef:Obj}{Vf:Nat->aa}(Iz:ops[i]? =O oi)(Oz:i∈Region.ready .any ops L)(Y:E i=G)(X:∀j g p,E j=O g->ops[j]? =O p->oi.apart ops p=I)(y:oi.dst=O d)(x:d<N)(Q:T.get d=G)(b:fC P oi.op=3)(B:d∉oi.looksAt ops)(S:Region.wanted oi (yielded ops a.tmps)=I)(q:∀w,(execOp a.eval oi).run P w=.ok (.value (Vf w.heap.size)) (w.alloc Ef)):iu D P w0 A ops N r ro M ν T s L (a.put oi.dst (Vf w.heap.size)) (w.alloc Ef) (L'.setIfInBounds i I) λk=>if k=i then O w.heap.size else E k:=by have U:i<ops.size:=(ef.1 Iz).1;(have l:∀d',oi.dst=O d'->d'∉oi.looksAt ops:=λd' e=>by rw[y]at e;simp_all);(have t:∀j g,E j=O g->g<w.heap.size:=λj g f=>by have⟨_,_,_,_,_,_,_,_,_,_,_,_,h9,_⟩:=(h.early j g f).ex;grind);refine⟨h.S9,h.size,by simp[h.Lc],h.cl,h.cl'.set (h.ready Oz Y),λj c=> ?_,λj g f=> ?_,λj k g c b=> ?_,λj k g g' p ok d' c b Gz v C J=> ?_,h.W.al0 _,⟨?_,λk u z=> ?_⟩,h.M.put,h.R⟩;by_cases e:j=i;simp_all;rw[getD_set_ne I (Ne.symm e),if_neg e];exact h.rel j c;by_cases e:j=i;subst e;simp at f;subst f;have⟨K,o,m,Zz⟩:=mem_ready.1 Oz;rw[Iz]at m;simp at m;subst m;refine⟨⟨oi,d,Ef,Vf,Iz,y,x,Q,b,?_,Zz,?_,World.alloc_heap_new _ _,?_⟩,K,h.W.nv,h.W.dz.size,⟨λk o H e=> ?_,h.W.amC⟩⟩;rw[wanted_put oi a oi.dst _ l];exact S;rw[execOp_put oi (acA b) a oi.dst _ l];exact q;rw[y];show(a.tmps.setIfInBounds d _)[d]? =_;simp[h.F.size,x];have:=h.W.lt H e;omega;simp[if_neg e]at f;refine(h.early j g f).dz (λp v=> ?_) (λ_ h _=>h) (h.early j g f).off (λ_ h=>h) (Below.heap_alloc _ _ _ (t j g f)) (h.early j g f).free;grind[Oper.apart_spec];by_cases e:j=i<;>by_cases n:k=i;rw[e,n];grind;grind;simp[if_neg e,if_neg n]at c b;exact h.inj j k g c b;by_cases e:j=i<;>by_cases n:k=i;simp_all;grind[Oper.apart_spec];grind[Oper.apart_spec];simp[if_neg e,if_neg n]at c b;exact h.dst j k g g' p ok d' c b Gz v C J;rw[y];simp[Act.put,h.F.size];have⟨V,K,m⟩:=h.F.jb k u z;refine⟨V,K,?_⟩;rw[y];show(a.tmps.setIfInBounds d _)[k]? =_;rw[Array.getElem?_setIfInBounds_ne λe=>by rw[<-e,Q]at z;cases z];exact m
theorem iu.La(h:iu D P w0 A ops N r ro M ν T s L a w L' E){obj:bF}{f:Nat->AV}(S:ops[i]? =O oi)(z:E i=O g)(hm:xS P T oi.op=O (obj,f)):iu D P w0 A ops N r ro M (ν.set s.n g) (qd T oi.dst (f s.n)) (oh s obj) (L.setIfInBounds i I) a w L' λk=>if k=i then G else E k:=by have Q:i<ops.size:=(ef.1 S).1;have t:=h.early i g z;have⟨o,d,Ef,Vf,H,V,h3,h4,h5,h6,h7,h8,h9,h10⟩:=t.ex;rw[S]at H;simp at H;subst H;have⟨alo,Vf',k1,k2,k3⟩:=tK h.F hm;have q:=h.W.top s.n (ba _);have l:=Nm.fP q g;(have heq:∀w:aj,Vf w.heap.size=Vf' w.heap.size/\w.alloc Ef=w.alloc alo:=λw=>by simp_all);(have hO:Ef=alo:=by grind[World.alloc_heap_new]);(have hV:Vf g=Vf' g:=by have:=(heq {w with heap:=Array.replicate g Ef}).1;grind);subst hO;have hdv:den (ν.set s.n g) (f s.n)=O (Vf g):=hV▸(k2 _ _ _ (Nm.cx _ _ _));have hW:aL P w0 A (ν.set s.n g) (oh s obj) w:=h.W.La (n':=s.n+1) q (by omega) (by omega) h9 t.zero t.free.1 t.free.2 (by have:=h.W.pos;have:=t.zero;omega) (.inl t.old) (k1 _ l);refine⟨h.S9,by simp[h.size],h.Lc,h.cl.set (h.tT z),h.cl',λj b=> ?_,λj x Gz=> ?_,λj k x b q=> ?_,λj k g1 g2 B ok d' b q c Oz K U=> ?_,hW,?_,h.M.mono l,h.R.mono l⟩;by_cases e:j=i;subst e;refine⟨λe=> ?_,λe=>absurd e.1 (agy (h.size▸Q))⟩;have:=((h.rel j b).1 e).2;rw[z]at this;cases this;rw[getD_set_ne I (Ne.symm e),if_neg e];exact h.rel j b;by_cases e:j=i;simp_all;simp[if_neg e]at Gz;have b:=h.early j x Gz;have c:x≠g:=λp=>e (h.inj j i x Gz (p▸z));(have y:(L.setIfInBounds i I).getD j I=Z:=by rw[getD_set_ne I (Ne.symm e)];exact b.off);(have v:∀k o,(oh s obj).h.get k=O o->(ν.set s.n g) k≠O x:=λk o m=>by simp[oh]at m;rw[Tr.bJ]at m;split at m;grind[Nm.cx];rename_i p;simp only[Nm.set,if_neg p];exact b.free.1 k o m);have⟨B,Iz,OJ,Vj,Y,X,q3,q4,q5,q6,q7,q8,Zz,J⟩:=b.ex;refine⟨⟨B,Iz,OJ,Vj,Y,X,q3,?_,q5,q6,λe t hb=>getD_set_true (q7 e t hb),q8,Zz,J⟩,y,b.old,b.zero,⟨v,b.free.2⟩⟩;rw[V];show(T.put d _).get Iz=G;have c:Iz≠d:=λp=>h.dst j i x g B oi Iz Gz z e Y S X (by rw[p];exact V);rw[Tr.bJ,if_neg c];exact q4;by_cases e:j=i;simp_all;by_cases p:k=i;simp_all;simp[if_neg e,if_neg p]at b q;exact h.inj j k x b q;by_cases e:j=i;simp_all;by_cases p:k=i;simp_all;simp[if_neg e,if_neg p]at b q;exact h.dst j k g1 g2 B ok d' b q c Oz K U;rw[V];refine⟨h.F.size,λk u C=> ?_⟩;simp[qd]at C;rw[Tr.bJ]at C;split at C;simp_all;exact(h.F.mono l).jb k u C
end
end
section
open RowKit
variable{v:AV}{b:Array Nat}{B:List Nat}{i j:Nat}{oi:aY}{d:Option Nat}
variable{D:List Deferred}
section
variable{P:aw}{ops:Array aY}{w0 w w':aj}{A:en}{N:Nat}{r ro:Option Nat}{M:List Nat}{ν ed:Nm}{T:Tr AV}{s s':St}{L L':Array Bool}{a:Act}{E:Nat->Option Nat}
theorem iu.ot(h:iu D P w0 A ops N r ro M ν T s L a w L' E)(d:aL P w0 A ν s' w)(hh:s'.h=s.h):iu D P w0 A ops N r ro M ν T s' L a w L' E:=
 ⟨h.S9,h.size,h.Lc,h.cl,h.cl',h.rel,λj g c=>by
  have e:=h.early j g c
  exact⟨e.ex,e.off,e.old,e.zero,⟨λi o b=>e.free.1 i o (hh▸b),e.free.2⟩⟩,h.inj,h.dst,d,h.F,h.M,h.R⟩
theorem iu.pick(h:iu D P w0 A ops N r ro M ν T s L a w L' E){b:Nat}{V:aa}{S:aj->Prop}{Q:Exit->Act->aj->Prop}{q:List (Nat×Nat)}(F:ops[i]? =O oi)(t:i∈Region.ready .any ops L)(B:E i=G)(z:tg ops=I)(x:Region.noSelect ops=I)(d:∀j k,ops[j]? =O k->j≠i->L.getD j I=Z->waits .any ops ops.size j i=Z->oi.apart ops k=I/\∀w w',Gd P ops A q j w w'->S w->S w')(H:YieldsIf P ops S oi V a)(U:S w)(R:KM N oi.dst=I)(J:den ν v=O V)(X:∀c a Y w,Q (.panic c) a w->Q (.panic c) Y w)(Gz:uw L'.toList<=b)(Oz:∀f,iu D P w0 A ops N r ro M ν (qd T oi.dst v) s (L.setIfInBounds i I) (a.put oi.dst V) w (L'.setIfInBounds i I) E->uw (L'.setIfInBounds i I).toList<=f->mJ ro P .any ops Q (Gd P ops A q) f (L'.setIfInBounds i I) (a.put oi.dst V) w):mJ ro P .any ops Q (Gd P ops A q) b L' a w:=by have n:=h.ready t B;have off:=(mem_ready.1 n).1;have m:=(mem_ready.1 t).1;cases b with|zero=>cases (Xe off) (Nat.le_zero.1 Gz)|succ b=>refine OC ops.size F (λj o K c=>Ol z K c) (Region.noSelect_spec x) (λc a w h=>X c _ _ w h) (λw=>Gd.refl w) b L' a w h.cl' (λj k C y p Iz=>d j k C y ((h.rel j (ef.1 C).1).1 p).1 Iz) n H U (Oz b ?_ (N9 off Gz));refine h.step F t B (λj g k l u=> ?_) (Nm.le.refl _) h.W R J λj g l=>⟨rfl,(h.early j g l).free⟩;exact(d j k u (λe=>by rw[e,B]at l;cases l) (h.early j g l).off (h.TZ m (h.tT l))).1
theorem yJ{a:List fV}:∀{rs:List Nat},KW P a ops L T s N rs=O (i,d,v)->i∈rs/\∃o,ops[i]? =O o/\d=o.dst/\KM N o.dst=I/\Region.free .any ops L i=I/\((gg ops T o=O Z/\v=jN)∨(gg ops T o=O I/\fC P o.op=2/\Cp P a s T o.op=O v))|[],h=>by cases h|j::rs,h=>by have rest:∀{h:KW P a ops L T s N rs=O (i,d,v)},i∈j::rs/\∃o,ops[i]? =O o/\d=o.dst/\KM N o.dst=I/\Region.free .any ops L i=I/\((gg ops T o=O Z/\v=jN)∨(gg ops T o=O I/\fC P o.op=2/\Cp P a s T o.op=O v)):=λ{h}=>⟨aS _ (yJ h).1,(yJ h).2⟩;unfold KW at h;split at h;cases h;rename_i o f;split at h;grind;rename_i c;split at h;rename_i b;simp only[ay]at b;split at h;rename_i g e;simp at h;obtain⟨rfl,rfl,rfl⟩:=h;exact⟨aU ..,o,f,rfl,b.2,b.1.2,.inr ⟨c,an b.1.1,e⟩⟩;cases h;simp_all;cases h
theorem yK{z:An}:∀{rs:List Nat},KX P b ops L T s N z rs=O (i,d,v)->i∈rs/\∃o k,ops[i]? =O o/\d=o.dst/\KM N o.dst=I/\gg ops T o=O I/\nW T o.op=O k/\fC P o.op=1/\(z.h.get k).isSome=I/\Pu b ops L z k i=I/\oq P s T o.op=O v|[],h=>by cases h|j::rs,h=>by have rest:∀{h:KX P b ops L T s N z rs=O (i,d,v)},i∈j::rs/\∃o k,ops[i]? =O o/\d=o.dst/\KM N o.dst=I/\gg ops T o=O I/\nW T o.op=O k/\fC P o.op=1/\(z.h.get k).isSome=I/\Pu b ops L z k i=I/\oq P s T o.op=O v:=λ{h}=>⟨aS _ (yK h).1,(yK h).2⟩;unfold KX at h;split at h;cases h;rename_i o f;split at h;rename_i k c g;split at h;rename_i a;simp only[ay]at a;split at h;rename_i l e;simp at h;obtain⟨rfl,rfl,rfl⟩:=h;exact⟨aU ..,o,k,f,rfl,a.1.1.2,c,g,an a.1.1.1,a.1.2,a.2,e⟩;cases h;exact rest (h:=h);simp_all
theorem yL{a:List fV}:∀{rs:List Nat},KY P a b ops L T s N rs=O (i,d,v)->i∈rs/\∃o,ops[i]? =O o/\d=o.dst/\KM N o.dst=I/\gg ops T o=O I/\fC P o.op=1/\Pv P b ops L i=I/\Cq P a s T o.op=O v|[],h=>by cases h|j::rs,h=>by have rest:∀{h:KY P a b ops L T s N rs=O (i,d,v)},i∈j::rs/\∃o,ops[i]? =O o/\d=o.dst/\KM N o.dst=I/\gg ops T o=O I/\fC P o.op=1/\Pv P b ops L i=I/\Cq P a s T o.op=O v:=λ{h}=>⟨aS _ (yL h).1,(yL h).2⟩;unfold KY at h;split at h;cases h;rename_i o g;split at h;rename_i e;split at h;rename_i c;simp only[ay]at c;split at h;rename_i k f;simp at h;obtain⟨rfl,rfl,rfl⟩:=h;exact⟨aU ..,o,g,rfl,c.1.2,e,an c.1.1,c.2,f⟩;cases h;exact rest (h:=h);simp_all
theorem qI{a:aY}(b:ops[j]? =O a)(h:((kW ops.toList #[]).getD j 0).testBit i=I):waits .any ops ops.size j i=I:=tS (ef.1 b).1 (RO h)
theorem U9{k:Nat}{z:An}(e:ops[i]? =O oi)(h:Pu (kW ops.toList #[]) ops L z k i=I)(j:Nat)(b:aY)(c:ops[j]? =O b)(d:j≠i)(a:L.getD j I=Z)(f:waits .any ops ops.size j i=Z):oi.apart ops b=I/\SH z.lm j k=Z:=by unfold Pu at h;rw[e]at h;have:=cm.1 h j (List.mem_range.2 (ef.1 c).1);rw[c]at this;grind[qI,an]
theorem U_(e:ops[i]? =O oi)(h:Pv P (kW ops.toList #[]) ops L i=I)(j:Nat)(b:aY)(c:ops[j]? =O b)(d:j≠i)(a:L.getD j I=Z)(f:waits .any ops ops.size j i=Z):oi.apart ops b=I/\uW (fC P b.op)=I:=by unfold Pv at h;rw[e]at h;have:=cm.1 h j (List.mem_range.2 (ef.1 c).1);rw[c]at this;grind[qI,an]
theorem RP{o:aY}(h:Fh P ops T N o=I):fC P o.op=3/\gg ops T o=O I/\∃d obj f,o.dst=O d/\d<N/\T.get d=G/\d∉o.looksAt ops/\xS P T o.op=O (obj,f):=by simp only[Fh,ay]at h;have⟨⟨⟨⟨j,c⟩,a⟩,k⟩,i⟩:=h;(have e:gg ops T o=O I:=by grind);have⟨⟨obj,f⟩,g⟩:=fu.1 i;split at a;rename_i d b;simp only[ay,Bool.not_eq_true',Option.isNone_iff_eq_none]at a;rw[b]at c;exact⟨an j,e,d,obj,f,b,bz c,a.1,by grind,g⟩;cases a
theorem xI{d:aY}:∀{rs:List Nat},Ao ops d j rs=I->∀k∈rs,k≠j->∀ok,ops[k]? =O ok->d.apart ops ok=I|[],_,k,a,_,_,_=>by simp at a|i::rs,h,k,a,c,ok,b=>by simp only[Ao,ay,bW]at h;rcases aO.1 a with rfl|a;simp_all;exact xI h.2 k a c ok b
theorem acB{l:List Nat}(h:l.any (ae j)=I):j∈l:=by simp_all
theorem yc{rs:List Nat}(h:okB P b ops L T N rs B=I){c:Nat}(e:c∈B):c∈rs/\∃a,ops[c]? =O a/\KM N a.dst=I/\gg ops T a=O I/\True:=by simp only[okB,ay]at h;have:=cm.1 h.1.2 c e;split at this;cases this;rename_i a d;simp only[ay]at this;have⟨⟨g,f⟩,i⟩:=this;refine⟨acB g,a,d,f,?_,trivial⟩;grind
theorem QL{rs:List Nat}(h:okB P (kW ops.toList #[]) ops L T N rs B=I)(j:Nat)(b:aY)(e:ops[j]? =O b)(f:j∉B)(a:L.getD j I=Z):(∃c∈B,waits .any ops ops.size j c=I)∨(j∈rs/\Fh P ops T N b=I/\(∀c∈B,∀d,ops[c]? =O d->d.apart ops b=I)/\∀k∈rs,k≠j->∀ok,ops[k]? =O ok->b.apart ops ok=I):=by simp only[okB,ay]at h;have:=cm.1 h.2 j (List.mem_range.2 (ef.1 e).1);rw[e]at this;grind[acB,qI,xI]
def amT(P:aw)(w0:aj)(A:en)(ops:Array aY)(lm:List (Nat×Nat))(N:Nat)(ro:Option Nat)(ν:Nm)(T:Tr AV)(s:St)(Q:Exit->Act->aj->Prop)(c:Nat)(oc:aY)(Θ:AV->St->Prop):Prop:=∀(a:Act)(w:aj)(K:Act->aj->Prop),aL P w0 A ν s w->eG ν T N a.tmps->(∀v s',Θ v s'->∀ed V w',Nm.le ν ed->aL P w0 A ed s' w'->den ed v=O V->Gd P ops A lm c w w'->(∀g,w0.heap.size<=g->g<w.heap.size->(∀i o,s.h.get i=O o->ν i≠O g)/\ν.z g=G->w'.heap[g]? =w.heap[g]?/\(∀i o,s'.h.get i=O o->ed i≠O g)/\ed.z g=G)->K (a.put oc.dst V) w')->oc.wpIn (fz ro) 0 P a w K Q
theorem iu.x{Q:Exit->Act->aj->Prop}{lm:List (Nat×Nat)}{Θ:Nat->AV->St->Prop}(hB:B≠[])(m:okB P (kW ops.toList #[]) ops L T N (Region.ready .any ops L) B=I)(Y:∀c∈B,∀p,ops[c]? =O p->amT P w0 A ops lm N ro ν T s Q c p (Θ c))(Oz:∀c∈B,∀p,ops[c]? =O p->∀v s',Θ c v s'->∀(ed:Nm)(a':Act)(w':aj)(L2:Array Bool)(E2:Nat->Option Nat)(z:Nat),Nm.le ν ed->iu D P w0 A ops N r ro M ed (qd T p.dst v) s' (L.setIfInBounds c I) a' w' L2 E2->uw L2.toList<=z->mJ ro P .any ops Q (Gd P ops A lm) z L2 a' w'):∀(b:Nat)(L':Array Bool)(E:Nat->Option Nat)(a:Act)(w:aj),iu D P w0 A ops N r ro M ν T s L a w L' E->(∀c∈B,E c=G)->uw L'.toList<=b->mJ ro P .any ops Q (Gd P ops A lm) b L' a w:=by (have⟨c0,Gz⟩:∃c,c∈B:=by cases B with|nil=>simp_all|cons c l=>simp_all);intro b;induction b with|zero=>intro L' E a w h R hf;cases (Xe (mem_ready.1 (h.ready (yc m Gz).1 (R c0 Gz))).1) (Nat.le_zero.1 hf)|succ b ih=>intro L' E a w h R hf;have H:=h.ready (yc m Gz).1 (R c0 Gz);(have n:∀j g C,E j=O g->ops[j]? =O C->j∈Region.ready .any ops L/\(∀c∈B,∀p,ops[c]? =O p->p.apart ops C=I)/\∀k∈Region.ready .any ops L,k≠j->∀ok,ops[k]? =O ok->C.apart ops ok=I:=λj g C q o=>by (have zk:j∉B:=λe=>by rw[R j e]at q;cases q);obtain⟨c,y,S⟩|⟨S,_,h2,h3⟩:=QL m j C o zk (h.early j g q).off;(·rw[h.TZ (mem_ready.1 (yc m y).1).1 (h.tT q)]at S;cases S);grind);refine⟨λe=>(by rw[e]at H;cases H),λi hi=> ?_⟩;by_cases e:i∈B;(·have⟨Zz,p,y,hd,J,_⟩:=yc m e;have Iz:=(mem_ready.1 (h.ready Zz (R i e))).1;unfold wpOpIn;rw[y];simp only;rw[if_pos (gM h.F J)];refine Y i e p y a w _ h.W h.F λv s' hcv ed V w' X hW hV hG hfr=>⟨hG,Oz i e p y v s' hcv ed _ w' _ E b X ?_ (N9 Iz hf)⟩;exact h.step y Zz (R i e) (λj g C q o=>(n j g C q o).2.1 i e p y) X hW hd hV λj g q=>by have he:=h.early j g q;have⟨_,_,_,_,_,_,_,_,_,_,_,_,h9,_⟩:=he.ex;exact hfr g he.zero (ef.1 h9).1 he.free);·have⟨t,oi,u,K⟩:=mem_ready.1 hi;have⟨U,hEi⟩:=(h.rel i (ef.1 u).1).1 t;obtain⟨c,y,S⟩|⟨S,h2,h3,h4⟩:=QL m i oi u e U;(·have:=Ww (pH h.cl' ops.size i oi u K S);rw[(mem_ready.1 (h.ready (yc m y).1 (R c y))).1]at this;cases this);·have⟨k1,k2,d,obj,f,k3,k4,k5,k6,k7⟩:=RP h2;have⟨Ef,Vf,m1,m2,m3⟩:=tK h.F k7;have hw:=gM h.F k2;unfold wpOpIn;rw[u];simp only;rw[if_pos hw];refine jg (qF (s:=s) (T:=T) (.inl (by rw[k1];decide))) (.inl (m3 w)) ⟨Gd.alloc h.S9 h.W.nv Ef,ih _ _ _ _ (h.float u S hEi (λj g C q o=> ?_) k3 k4 k5 k1 k6 hw m3) (λc y=> ?_) (N9 t hf)⟩;(·have⟨n1,n2,n3⟩:=n j g C q o;exact h4 j n1 (λe=>by rw[e,hEi]at q;cases q) C o);grind
end
end
section
open RowKit
variable{ops:Array aY}{outs:List Out}{j n:Nat}{bk:Pr}{P:aw}
variable{D:List Deferred}
def cE(P:aw)(U:Int):sQ->List Out->Prop|.any r ops listed T N M s z,outs=>(∀o∈outs,o.e=.norm)->tg ops=I->Region.noSelect ops=I->∀{D:List Deferred}(w0:aj)(A:en)(ν:Nm)(w:aj)(ro:Option Nat)(a:Act)(L':Array Bool)(E:Nat->Option Nat)(fuel:Nat)(Q:Exit->Act->aj->Prop),ν.u=U->A.h=z.h->iu D P w0 A ops N r ro M ν T s listed a w L' E->uw L'.toList<=fuel->(∀c a a' w,Q (.panic c) a w->Q (.panic c) a' w)->(∀o∈outs,∀ed a' w',Nm.le ν ed->aL P w0 A ed o.s w'->eG ed o.T N a'.tmps->nj D ed o.M a'.defers->Q .normal a' w')->mJ ro P .any ops Q (Gd P ops A z.lm) fuel L' a w|_,_=>True
theorem A5{f:Nat->oC}:∀{B:List Nat}{outs:List Out},DJ f B=O outs->∀c∈B,∃l,f c=O l/\∀o∈l,o∈outs|[],_,_,c,a=>by simp at a|[b],outs,h,c,a=>by simp at a;subst a;exact⟨outs,h,λ_ h=>h⟩|b::d::l,outs,h,c,a=>by unfold DJ at h;split at h;cases h;rename_i x g;split at h;cases h;rename_i y e;simp at h;subst h;rcases aO.1 a with rfl|a;simp_all;have⟨z,j,i⟩:=A5 e c a;simp_all
section
variable{P:aw}{ops:Array aY}{N:Nat}{r ro:Option Nat}{M:List Nat}{T:Tr AV}{s s':St}{L:Array Bool}{U:Int}
theorem Y4{rec:sQ->oC}(hL:bS bk.lm)(ih:∀q outs,rec q=O outs->cy P (cE P U) U n outs q){z:An} 
 (h:fk P bk rec (.any r ops L T N M s z)=O outs):cy P (cE P U) U (n+1) outs (.any r ops L T N M s z):=by
 intro X ZD hns D w0 A ν w ro a L' E fuel Q hU hz b hf hQ1 hQ2
 have pick:∀{i:Nat}{oi:aY}{v:AV}{V:aa}{S:aj->Prop},ops[i]? =O oi->i∈Region.ready .any ops L->E i=G->
  (∀j Oz,ops[j]? =O Oz->j≠i->L.getD j I=Z->waits .any ops ops.size j i=Z->oi.apart ops Oz=I/\∀w w',Gd P ops A z.lm j w w'->S w->S w')->
  YieldsIf P ops S oi V a->S w->KM N oi.dst=I->den ν v=O V->EN (λv s=>rec (.any r ops (L.setIfInBounds i I) (qd T oi.dst v) N M s z)) (uO bk.lm v s)=O outs->mJ ro P .any ops Q (Gd P ops A z.lm) fuel L' a w:=
  λ{i oi v V S} y hr hE m hy hSw hd hv amU=>by
   have⟨p,hp,hpv,Sx,hh,_⟩:=sK hL b.W hv
   have⟨os,C,Iz⟩:=G4 amU p hp
   exact(b.ot Sx hh).pick y hr hE ZD hns m hy hSw hd hpv hQ1 hf λal1 hS' hf'=>
    ih _ _ C (λo ho=>X o (Iz o ho)) ZD hns w0 A ν w ro _ _ E al1 Q hU hz hS' hf' hQ1 λo ho=>hQ2 o (Iz o ho)
 have noE:∀{i:Nat}{oi:aY},ops[i]? =O oi->fC P oi.op≠3∨gg ops T oi=O Z->E i=G:=λ{i oi} y J=>by
  cases hE:E i with
  |none=>rfl
  |some g=>
   have⟨Oz,d,Ef,Vf,C,Iz,h3,h4,h5,h6,_⟩:=(b.early i g hE).ex
   rw[y]at C
   simp at C
   subst C
   rcases J with J|J
   ·simp_all
   ·rw[gM b.F J]at h6
    cases h6
 unfold fk at h
 simp only at h
 unfold ahc at h
 split at h
 ·rename_i hr0
  have hE0:∀j,E j=G:=λj=>by
   cases hE:E j with
   |none=>rfl
   |some g=>
    have:=b.tT hE
    rw[hr0]at this
    cases this
  simp[zO]at h
  subst h
  refine C6 ?_ (hQ2 _ (aR.2 rfl) ν a w (Nm.le.refl _) b.W b.F b.M) fuel
  refine List.eq_nil_iff_forall_not_mem.2 λi y=> ?_
  have⟨C,o,Iz,h3⟩:=mem_ready.1 y
  have alp:i∈Region.ready .any ops L:=mem_ready.2 ⟨((b.rel i (ef.1 Iz).1).1 C).1,o,Iz,λe he hb=>by
   have hon:=h3 e he hb
   have sO:e.on<ops.size:=b.Lc▸aid hon
   refine TY (λH=> ?_) (b.size▸sO)
   have:=(b.rel e.on sO).2 ⟨H,hE0 _⟩
   rw[Ww hon]at this
   cases this⟩
  rw[hr0]at alp
  cases alp
 ·split at h
  ·rename_i i d v hp
   obtain⟨hir,o,y,rfl,hd,m,hw⟩:=yJ hp
   have hfr:∀j Oz,ops[j]? =O Oz->j≠i->L.getD j I=Z->waits .any ops ops.size j i=Z->o.apart ops Oz=I/\∀w w',Gd P ops A z.lm j w w'->(λ_=>True) w->(λ_:aj=>True) w':=λj Oz hj Y H ZN=>by
    refine⟨Region.free_spec y m j Oz hj Y H λe he hb hon=> ?_,λ_ _ _ _=>trivial⟩
    have:waits .any ops 1 j i=I:=by
     unfold waits
     rw[hj]
     simp only[Array.any_eq_true',ay,bW,beq_iff_eq]
     grind
    rw[tS (by grind) this]at ZN
    cases ZN
   obtain⟨hw,rfl⟩|⟨hw,J,hv⟩:=hw
   ·exact pick y hir (noE y (.inr hw)) hfr (.inr ⟨gM b.F hw,rfl⟩) trivial hd AF h
   ·have⟨V,C,Iz⟩:=B4 hL b.W.ctx.pc b.W.nU b.F J hv
    exact pick y hir (noE y (.inl (by rw[J];decide))) hfr (.inl ⟨gM b.F hw,λw _=>Iz w⟩) trivial hd C h
  ·split at h
   ·rename_i i d v hp
    obtain⟨hir,o,k,y,rfl,hd,hw,htg,J,hzk,m,hv⟩:=yK hp
    rw[<-hz]at hzk
    have⟨ok,ZM⟩:=fu.1 hzk
    have⟨g,hg⟩:=b.W.xb k ok ZM
    have aie:¬∀i,i=k:=λh=>by simp_all
    have hr0:my P ν s (λj=>j=k) w:=⟨λj Oz _ hj=>b.W.Ph.f j Oz trivial hj,λh=>absurd h aie⟩
    have hrr:∀w',w'.heap[g]? =w.heap[g]?->my P ν s (λj=>j=k) w':=λw' he=>⟨λj Oz hjk hj=>by
     subst hjk
     have⟨g',C,Iz⟩:=hr0.f j Oz rfl hj
     rw[b.W.ext _ _ hg]at C
     simp at C
     subst C
     rcases Iz with Iz|⟨g0,obj,Iz,h3⟩
     ·exact⟨g,b.W.ext _ _ hg,.inl Iz⟩
     ·exact⟨g,b.W.ext _ _ hg,.inr ⟨g0,obj,he.trans Iz,h3⟩⟩,λh=>absurd h aie⟩
    have hD:(∀k',nW T o.op=O k'->k'=k)/\(nW T o.op=G->∀i,i=k):=⟨λk' e=>by rw[htg]at e;simp_all,λe=>by rw[htg]at e;cases e⟩
    have⟨V,C,Iz⟩:=TV b.F J hr0 hD hv
    refine pick (S:=λw'=>w'.heap[g]? =w.heap[g]?) y hir (noE y (.inl (by rw[J];decide))) (λj Oz hj Y H ZN=> ?_) (.inl ⟨gM b.F hw,λw' he=> ?_⟩) rfl hd C h
    ·have⟨k1,k2⟩:=U9 y m j Oz hj Y H ZN
     exact⟨k1,λw1 w2 hG he=>(hG.2 k ok g ZM hg k2).trans he⟩
    ·have⟨V',h3,h4⟩:=TV b.F J (hrr w' he) hD hv
     rw[C]at h3
     grind
   ·split at h
    ·rename_i i d v hp
     obtain⟨hir,o,y,rfl,hd,hw,J,m,hv⟩:=yL hp
     have hrr:∀w':aj,(w.heap.size<=w'.heap.size/\∀g,g<w.heap.size->w'.heap[g]? =w.heap[g]?)->my P ν s (λ_=>True) w':=λw' he=>⟨λj Oz _ hj=>by
      have⟨g',C,Iz⟩:=b.W.Ph.f j Oz trivial hj
      grind,λ_=>b.W.mw.dz he.2⟩
     have hfz:∀w':aj,(w.heap.size<=w'.heap.size/\∀g,g<w.heap.size->w'.heap[g]? =w.heap[g]?)->∀g o,ν.z g=O o->w'.heap[g]? =O o:=λw' he g o hg=>by
      have:=(b.W.mu g o hg).1
      grind
     have⟨V,C,Iz⟩:=sM hL b.W.Ph b.W.ctx.pc (hfz w ⟨ba _,λ_ _=>rfl⟩) b.W.nU b.F J hv
     refine pick (S:=λw'=>w.heap.size<=w'.heap.size/\∀g,g<w.heap.size->w'.heap[g]? =w.heap[g]?) y hir (noE y (.inl (by rw[J];decide))) (λj Oz hj Y H ZN=> ?_) (.inl ⟨gM b.F hw,λw' he=> ?_⟩) ⟨ba _,λ_ _=>rfl⟩ hd C h
     ·have⟨k1,k2⟩:=U_ y m j Oz hj Y H ZN
      refine⟨k1,λw1 w2 hG he=> ?_⟩
      have⟨q1,q2⟩:=hG.1 Oz hj k2
      grind
     ·have⟨V',h3,h4⟩:=sM hL (hrr w' he) b.W.ctx.pc (hfz w' he) b.W.nU b.F J hv
      rw[C]at h3
      grind
    ·split at h
     ·cases h
     ·rename_i ZM
      have Y:aax P ops T N (Region.ready .any ops L)≠[]:=by
       unfold aax
       split
       ·cases hr:Region.ready .any ops L with
        |nil=>exact absurd hr (by omega)
        |cons c l=>simp
       simp_all
      have Y:Pw P (kW ops.toList #[]) ops L T N (Region.ready .any ops L)≠[]:=by
       grind[Pw]
      generalize Pw P _ ops L T N _=B at h ZM Y
      have OS:=A5 h
      have al2:∀c∈B,∀oc,ops[c]? =O oc->∀v s',(∃t,rec (.any r ops (L.setIfInBounds c I) (qd T oc.dst v) N M s' z)=O t/\∀o∈t,o∈outs)->∀(ed:Nm)(a':Act)(w':aj)(L2:Array Bool)(E2:Nat->Option Nat)(Zz:Nat),Nm.le ν ed->iu D P w0 A ops N r ro M ed (qd T oc.dst v) s' (L.setIfInBounds c I) a' w' L2 E2->uw L2.toList<=Zz->mJ ro P .any ops Q (Gd P ops A z.lm) Zz L2 a' w':=by
       rintro c _ oc _ v s' ⟨t,C,Iz⟩ ed a' w' L2 E2 Zz hν hS2 hf2
       exact ih _ _ C (λo ho=>X o (Iz o ho)) ZD hns w0 A ed w' ro a' L2 E2 Zz Q (hν.u.trans hU) hz hS2 hf2 hQ1 λo ho ν2 a2 w2 ajN=>hQ2 o (Iz o ho) ν2 a2 w2 (hν.trans ajN)
      by_cases hEB:∀c∈B,E c=G
      ·refine iu.x (Θ:=λc v s'=>∀oc,ops[c]? =O oc->∃t,rec _=O t/\∀o∈t,o∈outs) Y ZM (λc hcB oc hc=> ?_) (λc hcB oc hc v s' hcv=>al2 c hcB oc hc v s' (hcv oc hc)) fuel L' E a w b hEB hf
       have⟨hcr,oc',ZL,hd,hw,_⟩:=yc ZM hcB
       rw[hc]at ZL
       simp at ZL
       subst ZL
       have⟨al3,Gz,X7⟩:=OS c hcB
       intro a w K hW hF hK
       rw[hc]at Gz
       simp only at Gz
       split at Gz
       ·rename_i hk3
        have hk3:=an hk3
        split at Gz
        ·rename_i obj f hm
         have⟨Ef,Vf,m1,m2,m3⟩:=tK hF hm
         have J:=hW.top s.n (ba _)
         have hle:=Nm.fP J w.heap.size
         have hW2:aL P w0 A (ν.set s.n w.heap.size) (oh s obj) (w.alloc Ef):=hW.alloc (n':=s.n+1) J (by omega) (by omega) (m1 _ hle)
         refine jg (qF (s:=s) (T:=T) (.inl (by rw[hk3];decide))) (.inl (m3 w)) (hK _ _ (λoc' Ι=> ?_) _ _ _ hle hW2 (m2 _ _ _ (Nm.cx _ _ _)) (Gd.alloc b.S9 hW.nv Ef) λg _ hg hfr=>⟨Below.heap_alloc _ _ _ hg,λi o y=> ?_,hfr.2⟩)
         ·rw[hc]at Ι
          grind
         ·simp[oh]at y
          rw[Tr.bJ]at y
          split at y
          ·grind[Nm.cx]
          ·rename_i e
           simp only[Nm.set,if_neg e]
           grind
        ·cases Gz
       ·have⟨l,C,Iz⟩:=iQ Gz
        refine ih _ _ C w0 ⟨s.h,ν,w⟩ ν w ro a N hU hW.anchor hF b.R K Q λout ho ed V w' hν Sx hV=> ?_
        have⟨os,h3,h4⟩:=Iz out ho
        split at h3
        ·rename_i hcl
         have alq:=hcl
         simp only[ay]at alq
         refine hK out.v ⟨out.s.h,out.s.n,out.s.log++s.log,out.s.x⟩ (λoc' Ι=> ?_) ed V w' hν (hW.back Sx) hV (Gd.adL b.S9 hz hW Sx alq.1 λoc' Ι hq=> ?_) λg gz hg hfr=>⟨Sx.sT g hg λi o y _=>hfr.1 i o y,λi o y e=> ?_,?_⟩
         ·rw[hc]at Ι
          grind
         ·rw[hc]at Ι
          grind
         ·rcases Sx.own i o y g e (by have:=hW.pos;omega)with h5|⟨j,o',h5,h6⟩
          ·simp only at h5
           omega
          grind
         ·cases hz':ed.z g with
          |none=>rfl
          |some ob=>
           rcases Sx.lq g ob hz' (by have:=hW.pos;omega)with h5|h5|⟨j,o',h5,h6⟩
           ·rw[show ν.z g=O ob from h5]at hfr
            cases hfr.2
           ·have h5:w.heap.size<=g:=h5
            omega
           grind
        ·exfalso
         split at h3
         ·cases h3
         ·simp at h3
          subst h3
          have:=X _ (X7 _ (h4 _ (aR.2 rfl)))
          cases this
      ·
       have⟨c,hcB,hEc⟩:∃c,c∈B/\E c≠G:=Classical.byContradiction λhn=>hEB λc hc=>Classical.byContradiction λhe=>hn ⟨c,hc,he⟩
       have⟨hcr,oc,hc,hd,hw,hk3⟩:=yc ZM hcB
       cases hE:E c with
       |none=>grind
       |some g=>
        have hk3:fC P oc.op=3:=Classical.byContradiction λJ=>by
         rw[noE hc (.inl J)]at hE
         cases hE
        have⟨al3,Gz,X7⟩:=OS c hcB
        rw[hc]at Gz
        simp[hk3]at Gz
        split at Gz
        ·rename_i obj f hm
         exact ih _ _ Gz (λo ho=>X o (X7 o ho)) ZD hns w0 A _ w ro a L' _ fuel Q (show(ν.set s.n g).u=U from hU) hz (b.La hc hE hm) hf hQ1 λo ho ν2 a2 w2 ajN=>hQ2 o (X7 o ho) ν2 a2 w2 ((Nm.fP (b.W.top s.n (ba _)) g).trans ajN)
        ·cases Gz
theorem rq:uT .any ops (Array.replicate ops.size Z):=λj b _ a=>by (have:(Array.replicate ops.size Z).getD j Z=Z:=by simp[Array.getElem?_replicate];split<;>rfl);rw[this]at a;cases a
theorem L8{b:Array Nat}{D:Tr Nat}:∀{l:List aY}{k:Nat},V4 P ops b D l k=I->∀i o,l[i]? =O o->Fo P ops b D (k+i) o=I|[],_,_,i,o,h=>by simp at h|a::l,k,c,i,o,h=>by simp[V4]at c;cases i with|zero=>simp_all|succ i=>have:=L8 c.2 i o (by simpa using h);rw[show k+(i+1)=k+1+i by omega];exact this
theorem AJ(a:V5 P ops=I){o:aY}(h:ops[j]? =O o):Fo P ops (kW ops.toList #[]) (aaM ops.toList 0 .e) j o=I:=by have:=L8 a j o (by rw[fI];exact h);rw[ew]at this;exact this
theorem ru{b:Array Nat}{D:Tr Nat}{o:aY}(h:Fo P ops b D j o=I):(fC P o.op=1∨fC P o.op=2)/\(∀e∈o.after,e.on<j)/\(∀d,o.dst=O d->D.get d=O j)/\∀t∈o.looksAt ops,∀i,D.get t=O i->(b.getD j 0).testBit i=I:=by simp only[Fo,ay,bW]at h;grind[an,bz]
theorem Va(l:V5 P ops=I){i:Nat}{b a:aY}(k:ops[i]? =O b)(h:ops[j]? =O a)(f:j≠i)(n:waits .any ops ops.size j i=Z)(m:waits .any ops ops.size i j=Z):b.apart ops a=I:=by have⟨_,_,a3,a4⟩:=ru (AJ l k);have⟨_,_,o,q⟩:=ru (AJ l h);(have t:∀d,b.dst=O d->d∉a.looksAt ops:=λd c g=>by rw[qI h (q d g i (a3 d c))]at n;cases n);(have s:∀d,a.dst=O d->d∉b.looksAt ops:=λd c g=>by rw[qI k (a4 d g j (o d c))]at m;cases m);(have r:∀d,b.dst=O d->a.dst≠O d:=λd c p=>by have e:=a3 d c;rw[o d p]at e;simp at e;exact f e);unfold Oper.apart;rw[ay];grind
theorem L9{f:AV->St->Option (List (Tr AV×St))}:∀{l:List (AV×St)}{a:List (Tr AV×St)},aeT f l=O a->∀p∈l,∃x,f p.1 p.2=O x/\∀q∈x,q∈a|[],_,_,p,b=>by simp at b|[(v,s)],a,h,p,b=>by simp at b;subst b;exact⟨a,h,λ_ h=>h⟩|(v,s)::d::l,a,h,p,b=>by unfold aeT at h;split at h;cases h;rename_i x e;split at h;cases h;rename_i y c;simp at h;subst h;rcases aO.1 b with rfl|b;simp_all;have⟨z,i,g⟩:=L9 c p b;simp_all
def Nq(ops:Array aY)(L:Array Bool)(k:Nat):Prop:=L.size=ops.size/\∀j,j<ops.size->L.getD j I=decide (j<k)
theorem Nq.set{L:Array Bool}{k:Nat}(h:Nq ops L k):Nq ops (L.setIfInBounds k I) (k+1):=by refine⟨by rw[Array.size_setIfInBounds];exact h.1,λj a=> ?_⟩;have:=h.2 j a;by_cases e:j=k;simp_all;rw[getD_set_ne I (Ne.symm e),this];grind
theorem He{y:List fV}(E:bS y)(hc:V5 P ops=I)(ZD:tg ops=I)(hns:Region.noSelect ops=I){w0:aj}{A:en}{ν:Nm}{Y:List (Nat×Nat)}{Q:Exit->Act->aj->Prop}(hQ1:∀c a a' w,Q (.panic c) a w->Q (.panic c) a' w):∀(l:List aY)(k:Nat)(T:Tr AV)(s:St)(u:List (Tr AV×St)),ops.toList.drop k=l->SM P y ops N l T s=O u->∀(L:Array Bool)(a:Act)(w:aj)(d:Nat),Nq ops L k->iu D P w0 A ops N r ro M ν T s L a w L (λ_=>G)->uw L.toList<=d->(∀p∈u,∀a' w',aL P w0 A ν p.2 w'->eG ν p.1 N a'.tmps->nj D ν M a'.defers->Q .normal a' w')->mJ ro P .any ops Q (Gd P ops A Y) d L a w|[],k,T,s,u,hl,h,L,a,w,d,Zz,b,hf,hQ=>by simp[SM]at h;subst h;(have hk:ops.size<=k:=by have:=congrArg List.length hl;simp at this;omega);refine C6 ?_ (hQ _ (aR.2 rfl) a w b.W b.F b.M) d;refine List.eq_nil_iff_forall_not_mem.2 λi hi=> ?_;have⟨t,o,Gz,_⟩:=mem_ready.1 hi;have K:=(ef.1 Gz).1;rw[Zz.2 i K]at t;grind|o::l,k,T,s,u,hl,h,L,a,w,d,Zz,b,hf,hQ=>by (have C:ops[k]? =O o:=by have:(ops.toList.drop k)[0]? =O o:=hl▸rfl;rw[fw,pB,fI]at this;exact this);have K:=(ef.1 C).1;(have XB:ops.toList.drop (k+1)=l:=by grind[List.tail_drop]);have⟨Iz,c2,c3,c4⟩:=ru (AJ hc C);(have ajG:L.getD k I=Z:=by rw[Zz.2 k K];simp_all);have hr:k∈Region.ready .any ops L:=mem_ready.2 ⟨ajG,o,C,λe n _=>by have t:=c2 e n;refine TY (λe2=> ?_) (by rw[Zz.1];omega);rw[Zz.2 e.on (by omega)]at e2;simp_all⟩;(have Oz:∀(S:aj->Prop),(∀j m w w',ops[j]? =O m->uW (fC P m.op)=I->Gd P ops A Y j w w'->S w->S w')->∀j m,ops[j]? =O m->j≠k->L.getD j I=Z->waits .any ops ops.size j k=Z->o.apart ops m=I/\∀w w',Gd P ops A Y j w w'->S w->S w':=λS R j m H zk J ZN=>by refine⟨Va hc C H zk ZN (b.TZ J hr),λw w'=>R j m w w' H ?_⟩;have⟨d1,_⟩:=ru (AJ hc H);rcases d1 with d1|d1<;>rw[d1]<;>rfl);have go:∀{v:AV}{V:aa}{S:aj->Prop}{x:List (Tr AV×St)}{s':St},(∀j m w w',ops[j]? =O m->uW (fC P m.op)=I->Gd P ops A Y j w w'->S w->S w')->YieldsIf P ops S o V a->S w->KM N o.dst=I->den ν v=O V->aL P w0 A ν s' w->s'.h=s.h->SM P y ops N l (qd T o.dst v) s'=O x->(∀q∈x,q∈u)->mJ ro P .any ops Q (Gd P ops A Y) d L a w:=λ{v V S x s'} R hy hSw hd B Sx hh hx X7=>(b.ot Sx hh).pick C hr rfl ZD hns (Oz S R) hy hSw hd B hQ1 hf λX hS' hf'=>He E hc ZD hns hQ1 l (k+1) _ _ x XB hx _ _ _ X Zz.set hS' hf' λp hp=>hQ p (X7 p hp);simp[SM]at h;split at h;cases h;rename_i hd;split at h;rename_i hw;exact go (λ_ _ _ _ _ _ _ _=>trivial) (.inr ⟨gM b.F hw,rfl⟩) trivial hd AF b.W rfl h λ_ h=>h;rename_i hw;split at h;rename_i v B;(have key:∃V,∃S:aj->Prop,den ν v=O V/\(∀j m w w',ops[j]? =O m->uW (fC P m.op)=I->Gd P ops A Y j w w'->S w->S w')/\YieldsIf P ops S o V a/\S w:=by rcases Iz with Iz|Iz;rw[Iz]at B;have B:Cq P y s T o.op=O v:=B;have hrr:∀w':aj,(w.heap.size<=w'.heap.size/\∀g,g<w.heap.size->w'.heap[g]? =w.heap[g]?)->my P ν s (λ_=>True) w':=λw' n=>⟨λj m _ H=>by have⟨g',t,Gz⟩:=b.W.Ph.f j m trivial H;rcases Gz with Gz|⟨g0,obj,Gz,U⟩;exact⟨g',t,.inl Gz⟩;exact⟨g',t,.inr ⟨g0,obj,(n.2 g' (b.W.lt H t)).trans Gz,U⟩⟩,λ_=>b.W.mw.dz n.2⟩;(have hfz:∀w':aj,(w.heap.size<=w'.heap.size/\∀g,g<w.heap.size->w'.heap[g]? =w.heap[g]?)->∀g o,ν.z g=O o->w'.heap[g]? =O o:=λw' n g o hg=>by have:=(b.W.mu g o hg).1;exact(n.2 g (ef.1 this).1).trans this);have⟨V,t,Gz⟩:=sM E b.W.Ph b.W.ctx.pc (hfz w ⟨ba _,λ_ _=>rfl⟩) b.W.nU b.F Iz B;refine⟨V,λw'=>w.heap.size<=w'.heap.size/\∀g,g<w.heap.size->w'.heap[g]? =w.heap[g]?,t,λj m w1 w2 H hq hG n=> ?_,.inl ⟨gM b.F hw,λw' n=> ?_⟩,ba _,λ_ _=>rfl⟩;have⟨q1,q2⟩:=hG.1 m H hq;exact⟨dU n.1 q1,λg hg=>(q2 g (jU hg n.1)).trans (n.2 g hg)⟩;have⟨V',U,h4⟩:=sM E (hrr w' n) b.W.ctx.pc (hfz w' n) b.W.nU b.F Iz B;rw[t]at U;simp at U;rw[U];exact h4;rw[Iz]at B;have B:Cp P y s T o.op=O v:=B;have⟨V,t,Gz⟩:=B4 E b.W.ctx.pc b.W.nU b.F Iz B;exact⟨V,λ_=>True,t,λ_ _ _ _ _ _ _ _=>trivial,.inl ⟨gM b.F hw,λw _=>Gz w⟩,trivial⟩);have⟨V,S,t,Gz,U,h4⟩:=key;have⟨p,hp,hpv,Sx,hh,_⟩:=sK E b.W t;grind[L9];cases h;cases h
theorem Vb(S:P.follows .mixedOrders=I)(hL:bS bk.lm){rec:sQ->oC}(R:∀q outs,rec q=O outs->cy P (cE P U) U n outs q){C:List (Nat×Nat)}(h:fk P bk rec (.draw r ops T N M s C)=O outs):cy P (cE P U) U (n+1) outs (.draw r ops T N M s C):=by intro D w0 A ν w ro a id W J Oz L K;unfold fk at h;simp only at h;(have old:DP P bk rec r ops T N M s C=O outs->(Code.region id ops I).wpIn (fz ro) 0 P (kC D P w0 A ν N outs) a w:=λh=>by unfold DP at h;split at h;cases h;rename_i b;simp at b;split at h;cases h;rename_i u h1;split at h;rename_i hdi;split at h;rename_i V;injection h with h;subst h;(have i:∀o∈u,o.e=.norm:=λo Iz=>by grind);have f:=J.drew;refine wpIn_region_any S (yI (Gz:=Gd P ops ⟨s.h,ν,w.drew⟩ C) _ _ _ _ ?_);refine R _ _ h1 i b.1 b.2 w0 ⟨s.h,ν,w.drew⟩ ν w.drew ro a _ (λ_=>G) ops.size _ W rfl ⟨f.acz,by simp,by simp,rq,rq,λj _=>by simp,λj g m=>(by grind),λj k g m=>(by simp),λj k g g' X ok d m=>(by simp),f.anchor,Oz,L,K⟩ (by grind[D6]) (λc a Q w v=> ?_) λo Iz H Q w' E t B z=> ?_;have⟨o,_,_,_,F,_⟩:=v;cases y:o.e<;>rw[y]at F<;>simp[oK]at F;have⟨p,v,c1,c2,c3,c4,c5,c6,c7,c8⟩:=G6 o Iz;refine⟨_,cA.2 ⟨p,v,rfl⟩,H,E,by rw[c1,i o Iz];trivial,?_,by rw[c3];exact B,by rw[c4];exact z⟩;(have:=((f.back t).later (n':=p.s.n) c6).more (lg:=p.s.log++s.log) λx Y=>by rcases dx.1 Y with h|h;exact jw _ (c8 x h);exact i6 _ h);have:=this.swap (x:=⟨s.x.gl,p.s.x.pc⟩) ⟨(f.ctx.mono E).gl,by rw[c7];exact t.ctx.pc⟩;simp_all;cases h;exact R _ _ h w0 A ν w ro a id W J Oz L K);unfold acg at h;split at h;exact old h;rename_i b;simp at b;split at h;rename_i l Zz;injection h with h;subst h;have f:=J.drew;refine wpIn_region_any S (yI (Gz:=Gd P ops ⟨s.h,ν,w.drew⟩ C) _ _ _ _ ?_);refine He hL b.2 b.1.1 b.1.2 (λc a Q w v=> ?_) ops.toList 0 T _ l rfl Zz _ a w.drew ops.size ⟨by simp,λj hj=>by simp[hj]⟩ ⟨f.acz,by simp,by simp,rq,rq,λj _=>by simp,λj g m=>(by grind),λj k g m=>(by simp),λj k g g' X ok d m=>(by simp),f.anchor,Oz,L,K⟩ (by grind[D6]) λp v Q w' t B z=> ?_;have⟨o,_,_,_,F,_⟩:=v;cases y:o.e<;>rw[y]at F<;>simp[oK]at F;exact⟨_,cA.2 ⟨p,v,rfl⟩,ν,Nm.le.refl _,trivial,f.back t,B,z⟩;exact old h
structure S_(P:aw)(U:Int)(bk:Pr):Prop where
 R:TX P bk
 L:bS bk.lm
 T:E_ P (cE P U) U bk.tab
 PT:Bw P bk.eH
 LT:rK P (cE P U) U bk.lt
theorem qJ(e:P.follows .mixedOrders=I)(d:mU P=I)(a:S_ P U bk):∀(n:Nat)(q:sQ)(outs:List Out),eval P bk n q=O outs->cy P (cE P U) U n outs q|0,_,_,h=>by cases h|n+1,q,outs,h=>by have b:=qJ e d a n;have h:fk P bk (eval P bk n) q=O outs:=h;cases q with|code z r c T N M s=>exact U7 a.L a.LT b h|ops r ops l T N M s=>exact λ{_}=>YZ b h|one r o T s=>exact YR d a.R a.L b h|draw r ops T N M s g=>exact λ{_}=>Vb e a.L b h|any r ops L T N M s z=>exact Y4 a.L b h|call f args s=>exact U8 d a.L a.T a.PT b h|round l args s=>exact RN b h|SG z r c x T N M s=>exact OB b h
theorem Vc(t:P.follows .mixedOrders=I)(B:mU P=I)(A:S_ P U bk){f m:Nat}{args:List AV}{VS:List aa}{x:Ctx}(h:eval P bk n (.call f args ⟨.e,m,[],x⟩)=O outs)(ξ:Nat->Option ah)(c:∀j,bm<=j->ξ j=G)(w:aj)(b:0<w.heap.size)(l:bw ⟨λ_=>G,ξ,U,λg=>w.heap[g]?,λ_=>G⟩ args=O VS)(q:zS ⟨λ_=>G,ξ,U,λg=>w.heap[g]?,λ_=>G⟩ x w)(y:∀i d,ξ i=O d->ch P (λg=>w.heap[g]?) d):Calls P f VS.toArray w λe w'=>Below w.heap.size w w'/\∃o∈outs,∃a V,Nm.le ⟨λ_=>G,ξ,U,λg=>w.heap[g]?,λ_=>G⟩ a/\den a o.v=O V/\e=.returned V/\zS a o.s.x w:=by have z:aL P w ⟨.e,⟨λ_=>G,ξ,U,λg=>w.heap[g]?,λ_=>G⟩,w⟩ ⟨λ_=>G,ξ,U,λg=>w.heap[g]?,λ_=>G⟩ ⟨.e,m,[],x⟩ w:=⟨b,rF.refl _ _,λ_ _=>rfl,λi o h=>by simp[Tr.get]at h,λi j o F h=>by simp[Tr.get]at h,Nm.le.refl _,λi o h=>by simp[Tr.get]at h,λi o h=>by simp_all,λ_ _ _=>rfl,ba _,λi o h=>by simp_all,q,λg o k=>⟨k,λi o h=>by simp_all⟩,λ_ _ k _=>.inl k,y,λ_ _=>c _ (Nat.le_add_right _ _),λ_ _=>rfl⟩;refine((qJ t B A n _ _ h).2 w _ _ w VS rfl z l).mono λe w' u=> ?_;have⟨o,r,a,V,E,p,D,C⟩:=u;exact⟨p.dz.below,o,r,a,V,E,D,C,p.ctx⟩
end
end
section
open RowKit
variable{P:aw}
def pD(P:aw)(l:List (Nat×Nat×Nat)):Prop:=∀g k t,xV l g=O (k,t)->∀lm:List fV,bS lm->∀(w0:aj)(A:en)(ν:Nm)(s:St)(w:aj)(args:List AV)(v:AV)(s':St)(VS:List aa),PC P lm k t args s=O (v,s')->aL P w0 A ν s w->bw ν args=O VS->ajJ P g VS.toArray w λV w'=>∃ed,Nm.le ν ed/\aL P w0 A ed s' w'/\den ed v=O V
theorem pD.of{bk:Pr}(h:pD P bk.l):TX P bk:=h
theorem vO{f k t:Nat}{l:List (Nat×Nat×Nat)}(h:pD P [(f,k,t)])(d:pD P l):pD P ((f,k,t)::l):=by intro g c b a;simp[xV]at a;split at a;rename_i e;obtain⟨rfl,rfl⟩:=a;exact h g k t (by simp[xV,e]);exact d g c b a
def afw:List (Nat×List AV)->Bool|[]=>I|(_,l)::r=>(l.all λv=>tj v||(match v with|.ext j=>aF (j+1) bm|_=>Z))&&afw r
theorem Y5{a:List (Nat×List AV)}(h:afw a=I):∀g l,(g,l)∈a->∀v∈l,tj v=I∨∃i,v=.ext i/\i<bm:=by induction a with|nil=>simp_all|cons p r d=>have⟨k,m⟩:=p;simp only[afw,ay]at h;intro g l b v c;rcases aO.1 b with e|b;simp at e;obtain⟨rfl,rfl⟩:=e;have:=cm.1 h.1 v c;rw[bW]at this;rcases this with h|h;exact .inl h;split at h;exact .inr ⟨_,rfl,bz h⟩;cases h;grind
def N_(P:aw)(pr:Pr)(n:Nat)(e:Dl):Bool:=mM e.args&&tj e.v&&afw e.gl&&match eval P pr n (.call e.f e.args ⟨.e,0,[],⟨e.gl,[]⟩⟩)with|O outs=>outs.all λo=>ux o.v e.v|G=>Z
def ve(ξ:Nat->Option ah):Nat->Option ah:=λi=>match aF (i+1) bm,ξ i with|I,O (.v v)=>O (.v v)|_,_=>G
theorem Vd(ξ:Nat->Option ah):∀j,bm<=j->ve ξ j=G:=λj a=>by unfold ve;(have:aF (j+1) bm=Z:=by cases h:aF (j+1) bm with|false=>rfl|true=>have:=bz h;omega);rw[this]
theorem Y6(ξ:Nat->Option ah)(P:aw)(z:Nat->Option Obj):∀i d,ve ξ i=O d->ch P z d:=λi d h=>by unfold ve at h;split at h;simp at h;subst h;trivial;cases h
theorem Ve{ν:Nm}{j:Nat}{V:aa}{f:Nat->Option Nat}{u:Int}{z:Nat->Option Obj}{q:Nat->Option aa}(a:j<bm)(h:den ν (.ext j)=O V):den ⟨f,ve ν.x,u,z,q⟩ (.ext j)=O V:=by grind[den,ve,fe]
theorem OD{U:Int}(y:P.follows .mixedOrders=I)(A:mU P=I){pr:Pr}(z:S_ P U pr){n:Nat}{e:Dl}(h:N_ P pr n e=I){eH:List Dl}(o:Bw P eH):Bw P (e::eH):=λx f=>by rcases aO.1 f with rfl|f;unfold N_ at h;simp only[ay]at h;have⟨⟨⟨C,Iz⟩,H⟩,B⟩:=h;split at B;rename_i p u;refine⟨C,Iz,(qJ y A z n _ _ u).1,λν w VS a k l=> ?_⟩;(have d:nC ⟨λ_=>G,ve ν.x,U,λg=>w.heap[g]?,λ_=>G⟩ x.gl w:=λg m c i v s=>by have⟨V,q,D⟩:=k g m c i v s;refine⟨V,?_,D⟩;rcases Y5 H g m c v (bE s)with F|⟨j,rfl,E⟩;rw[tQ _ ν v F];exact q;exact Ve E q);refine(Vc y A z u (ve ν.x) (Vd _) w a (by rw[rp _ ν _ C];exact l) ⟨d,λt b Gz=>by cases Gz⟩ (Y6 _ _ _)).mono λr w' J=> ?_;grind[vb,tQ];cases B;exact o x f
end
section
open RowKit
variable{P:aw}{l:List (Nat×Nat×Nat)}{eH:List Dl}
end
section
open RowKit
end
section
open RowKit
variable{F:bq}{as:List ah}{lm:List fV}{us ys:List Tm}{g j k:Nat}{ξ:Nat->Option ah}{t u:Tm}{σ:Tr Tm}
theorem T0(h:j<100):ZI (uA k j)=k:=by show(1000+100*k+j - 1000)/100=k;omega
theorem T4(h:j<100):jOf (uA k j)=j:=by show(1000+100*k+j)%100=j;omega
theorem abX:aF 1000 (uA k j)=I:=fe (by unfold uA;omega)
theorem Bz:oU (uA k j)=Z:=by grind[oU,uA,an]
noncomputable abbrev mA:dI:=aI defs
theorem Xf(ds:List ah):uJ (uA k 90) ds=O (jC (mA k ds).isSome):=by unfold uJ aQ;rw[abX];rw[T4 (by omega),T0 (by omega),if_pos rfl]
theorem Xg(ds:List ah):uJ (uA k 91) ds=O (match mA k ds with
 |O (m,_,_)=>.n m
 |G=>.n 0):=by
 unfold uJ aQ
 rw[abX]
 simp only
 rw[T4 (by omega),T0 (by omega),if_neg (by omega),if_pos rfl]
 rfl
open Classical in
theorem Xh(ds:List ah):uJ (uA k 95) ds=O (jC (decide (∃as g m rs,ds=as++ .n (cq g)::rs/\mA k as=O (m,g,rs)))):=by unfold uJ aQ;rw[abX];rw[T4 (by omega),T0 (by omega),if_neg (by omega),if_neg (by omega),if_pos rfl]
theorem B8:∀{l:List Nat}{ds:List ah}{ξ a:Nat->Option ah},dN l ds ξ=O a->l.length=ds.length|[],[],_,_,_=>rfl|_::l,_::ds,_,_,h=>by simp only[dN]at h;simp only[ij,B8 h]|[],_::_,_,_,h=>by cases h|_::_,[],_,_,h=>by cases h
theorem QM:∀{D:List bq}{k:Nat}{as c:List ah}{r q:Nat×Nat×List ah},aI D k as=O r->aI D k c=O q->as.length=c.length|[],_,_,_,_,_,h,_=>by cases h|F::D,k,as,c,r,q,h,a=>by simp[aI]at h a;split at h;rename_i b;rw[if_pos b]at a;have⟨_,e,_⟩:=sF h;have⟨_,d,_⟩:=sF a;exact(B8 e).symm.trans (B8 d);rename_i b;rw[if_neg b]at a;exact QM h a
section
variable{ν:Nm}{pc:List (Tm×Bool)}
theorem OE{a b:List Tm}{ds:List ah}(h:bA ν (a++b)=O ds):∃x y,bA ν a=O x/\bA ν b=O y/\ds=x++y:=by induction a generalizing ds with|nil=>exact⟨[],ds,rfl,h,rfl⟩|cons t a c=>grind[aP]
theorem Y7{a b:List Tm}{x y:List ah}(d:bA ν a=O x)(c:bA ν b=O y):bA ν (a++b)=O (x++y):=by induction a generalizing x with|nil=>rw[eX.1 d]at*;exact c|cons t a e=>grind[aP]
theorem Gg{b:Bool}{n:Int}(h:jC b=.n n)(hn:decide (n≠0)=I):b=I:=by cases b with|true=>rfl|false=>injection h with h;simp_all
theorem agz(h:bh ν (.f (uA k 90) us) I):∃as r,bA ν us=O as/\mA k as=O r:=by have⟨n,h1,h2⟩:=h;grind[Xf,lR,Bz,fu,Gg]
theorem Oa{r:Nat×Nat×List ah}(h:bA ν us=O as)(a:mA k as=O r):bh ν (.f (uA k 90) us) I:=⟨1,(lR Bz).2 ⟨as,h,by rw[Xf,a];rfl⟩,rfl⟩
open Classical in
theorem agA{l:List Tm}(h:bh ν (.f (uA k 95) l) I):∃ds as g m rs,bA ν l=O ds/\ds=as++ .n (cq g)::rs/\mA k as=O (m,g,rs):=by have⟨n,h1,h2⟩:=h;have⟨ds,h3,h4⟩:=(lR Bz).1 h1;rw[Xh]at h4;injection h4 with h4;have⟨as,g,m,rs,h5,h6⟩:=of_decide_eq_true (Gg h4 h2);grind
open Classical in
theorem Xi{m:Nat}{rs:List ah}(h:bA ν us=O as)(a:bA ν ys=O rs)(b:mA k as=O (m,g,rs)):bh ν (.f (uA k 95) (us++ .c (.ofNat g)::ys)) I:=by refine⟨1,(lR Bz).2 ⟨as++ .n (.ofNat g)::rs,Y7 h (aP.2 ⟨_,_,rfl,a,rfl⟩),?_⟩,rfl⟩;rw[Xh,decide_eq_true ⟨as,g,m,rs,rfl,b⟩];rfl
theorem RQ{a b x y:List ah}(h:a++x=b++y)(c:a.length=b.length):a=b/\x=y:=List.append_inj h c
theorem Ai{r:Nat×Nat×List ah}(h:bh ν (.f (uA k 95) (us++ .c (.ofNat g)::ys)) I)(o:bA ν us=O as)(j:mA k as=O r):r.2.1=g/\bA ν ys=O r.2.2:=by have⟨ds,A,z,m,rs,v,u,a⟩:=agA h;obtain⟨x,y,b,t,rfl⟩:=OE v;rw[o]at b;simp at b;subst b;have⟨s,p⟩:=RQ u (QM j a);subst s p;rw[j]at a;simp at a;subst a;have⟨d,q,i,w,e⟩:=aP.1 t;injection e with e l;subst l;have i:O (ah.n (.ofNat g))=O d:=i;grind
def EA(ν:Nm)(σ:Tr Tm)(ξ:Nat->Option ah):Prop:=∀a t,σ.get a=O t->∃d,ξ a=O d/\ai ν t=O d
theorem vz:∀{l:List Nat}{ts:List Tm}{ds:List ah}{σ c:Tr Tm}{ξ f:Nat->Option ah},EA ν σ ξ->bA ν ts=O ds->xy l ts σ=O c->dN l ds ξ=O f->EA ν c f|[],[],ds,σ,c,ξ,f,h,j,g,i=>by rw[eX.1 j]at i;simp_all[xy,dN]|a::l,t::ts,ds,σ,c,ξ,f,h,j,g,i=>by obtain⟨d,r,p,m,rfl⟩:=aP.1 j;simp[xy]at g;simp[dN]at i;refine vz (λb u k=> ?_) m g i;rw[Tr.bJ]at k;split at k;simp_all;rename_i e;have⟨d',o,n⟩:=h b u k;simp_all|[],_::_,_,_,_,_,_,_,_,g,_=>by cases g|_::_,[],_,_,_,_,_,_,_,g,_=>by cases g
mutual
theorem qv(h:EA ν σ ξ):∀{t u:Tm}{d:ah},zG σ t=O u->aD uJ ξ t=O d->ai ν u=O d|.c n,u,d,h1,h2=>by simp[zG]at h1;subst h1;exact h2|.x i,u,d,h1,h2=>by simp[zG]at h1;simp[aD]at h2;have⟨d',q1,q2⟩:=h i u h1;rw[h2]at q1;simp_all|.bin o k a b,u,d,h1,h2=>by simp[zG]at h1;split at h1;rename_i a' b' ha hb;simp at h1;subst h1;simp[aD]at h2;split at h2;rename_i x y hx hy;exact dq.2 ⟨x,y,qv h ha hx,qv h hb hy,h2⟩;cases h2;cases h1|.conv k a,u,d,h1,h2=>by simp[zG]at h1;split at h1;rename_i a' ha;simp at h1;subst h1;simp[aD]at h2;split at h2;rename_i x hx;simp at h2;exact ov.2 ⟨x,qv h ha hx,h2.symm⟩;cases h2;cases h1|.f o l,u,d,h1,h2=>by simp[aD]at h2;split at h2;rename_i ds kQ;simp[zG]at h1;split at h1;rename_i l' hl;have hd:=nH h hl kQ;(have MQ:oU o=Z:=by unfold oU;cases e:ae o 50 with|false=>rfl|true=>have e:=an e;subst e;rw[Bt (by omega)]at h2;cases h2);have full:ai ν (.f o l')=O d:=(lR MQ).2 ⟨ds,hd,h2⟩;grind[bj,an,nX,du];cases h1;cases h2
theorem nH(h:EA ν σ ξ):∀{l m:List Tm}{ds:List ah},ug σ l=O m->aA uJ ξ l=O ds->bA ν m=O ds|[],m,ds,h1,h2=>by simp only[ug,aG]at h1;subst h1;exact h2|t::l,m,ds,h1,h2=>by simp[ug]at h1;split at h1;rename_i t' l' ht hl;simp at h1;subst h1;simp[aA]at h2;split at h2;rename_i d r hd hr;simp at h2;exact aP.2 ⟨d,r,qv h ht hd,nH h hl hr,h2.symm⟩;cases h2;cases h1
end
theorem ua:∀{l m r:List Tm},wi l m=O r->m=l++r|[],m,r,h=>by simp_all[wi]|a::l,b::m,r,h=>by simp[wi]at h;split at h;rename_i c;rw[bj c,ua h];rfl;cases h|_::_,[],_,h=>by cases h
theorem C8:∀{a:List (Tm×Bool)}{g:Nat}{ys:List Tm}{r:List (Tm×Bool)},Bp k us a=O (g,ys,r)->(.f (uA k 95) (us++ .c (.ofNat g)::ys),I)∈a/\∀x∈r,x∈a|[],_,_,_,h=>by cases h|x::a,g,ys,r,h=>by (have next:∀{q},Bp k us a=O q->((.f (uA k 95) (us++ .c (.ofNat q.1)::q.2.1),I)∈x::a/\∀y∈q.2.2,y∈x::a):=λ{q} j=>by have⟨s,p⟩:=C8 (g:=q.1) (ys:=q.2.1) (r:=q.2.2) j;exact⟨aS _ s,λy d=>aS _ (p y d)⟩);unfold Bp at h;split at h;rename_i b;cases b;(rename_i o l t b;injection b with b e;subst b e;split at h;rename_i u i n m;simp at h;obtain⟨rfl,rfl,rfl⟩:=h;rw[an n,ua m];exact⟨aU ..,λy d=>aS _ d⟩;exact next h);simp_all
def al4(ν:Nm)(r:Option Nat×List ah):Got->Prop|.out g us=>r.1=O g/\bA ν us=O r.2|.again us=>r.1=G/\bA ν us=O r.2
theorem jx(q:bS lm)(f:∀t b,(t,b)∈pc->bh ν t b):∀{w:Way}{σ:Tr Tm}{ξ:Nat->Option ah}{s:List (Tm×Bool)}{i:Got}{r:Option Nat×List ah},EA ν σ ξ->(∀x∈s,x∈pc)->jR mA w ξ=O r->walk lm pc w σ s=O i->al4 ν r i|.bad,_,_,_,_,_,_,_,h,_=>by cases h|.out g ts,σ,ξ,s,i,r,j,d,h,c=>by simp[jR]at h;split at h;rename_i ds o;simp at h;subst h;simp[walk]at c;split at c;rename_i us l;simp at c;subst c;exact⟨rfl,nH j l o⟩;cases c;cases h|.again ts,σ,ξ,s,i,r,j,d,h,c=>by simp[jR]at h;split at h;rename_i ds o;simp at h;subst h;simp[walk]at c;split at c;rename_i us l;simp at c;subst c;exact⟨rfl,nH j l o⟩;cases c;cases h|.ite t a b,σ,ξ,s,i,r,j,d,h,c=>by simp only[jR]at h;split at h;rename_i n Iz;simp[walk]at c;split at c;rename_i u Gz;have v:=qv j Gz Iz;split at c;rename_i B;rw[ib q f B v]at h;exact jx q f j d h c;rename_i B;rw[ib q f B v]at h;exact jx q f j d h c;cases c;cases c;cases h|.aW t a,σ,ξ,s,i,r,j,d,h,c=>by simp only[jR]at h;split at h;split at h;exact jx q f j d h c;cases h;cases h|.call k ts g xs a b,σ,ξ,s,i,r,j,d,h,c=>by simp[jR]at h;split at h;rename_i ds o;split at h;rename_i m L rs H;simp[walk]at c;split at c;rename_i us l;have v:=nH j l o;split at c;rename_i K ys M J;have⟨f1,f2⟩:=C8 J;have⟨y,E⟩:=Ai (f _ _ (d _ f1)) v H;have y:L=K:=y;subst y;split at c;rename_i p;have p:=an p;rw[decide_eq_true p.symm]at h;split at c;rename_i C z;simp only at h;split at h;rename_i D A;exact jx q f (vz j E z A) (λx F=>d x (f2 x F)) h c;cases h;cases c;rename_i p;have p:=fQ p;rw[decide_eq_false (λe=>p e.symm)]at h;exact jx q f j d h c;cases c;cases c;cases h;cases h
theorem agB(rW:∀t b,(t,b)∈pc->bh ν t b){d:ah}(h:eqU pc t u=I)(ht:ai ν t=O d):ai ν u=O d:=by unfold eqU at h;rw[bW]at h;rcases h with h|h;rw[<-bj h];exact ht;split at h;rename_i b hb;subst h;have⟨n,h1,h2⟩:=jy hb rW;have⟨ds,h3,h4⟩:=(dn (o:=20) rfl (by decide)).1 h1;have h4:cn (λa b=>O (jC (sf a b))) ds=O (.n n):=h4;grind[bC,eD,Gg,aP];cases h
theorem Gh(a:∀t b,(t,b)∈pc->bh ν t b):∀{l m:List Tm}{ds:List ah},SO pc l m=I->bA ν l=O ds->bA ν m=O ds|[],[],ds,_,h=>h|t::l,u::m,ds,h,e=>by unfold SO at h;split at h;rename_i c;obtain⟨d,r,g,f,rfl⟩:=aP.1 e;exact aP.2 ⟨d,r,agB a c g,Gh a h f,rfl⟩;cases h|[],_::_,_,h,_=>by cases h|_::_,[],_,h,_=>by cases h
theorem A6:∀{e:List (Tm×Bool)},wj k us g ys pc e=I->∃a,(.f (uA k 95) (us++ .c (.ofNat g)::a),I)∈e/\SO pc a ys=I|[],h=>by cases h|x::e,h=>by (have next:wj k us g ys pc e=I->∃a,(.f (uA k 95) (us++ .c (.ofNat g)::a),I)∈x::e/\SO pc a ys=I:=λh=>by have⟨a,i,b⟩:=A6 h;exact⟨a,aS _ i,b⟩);unfold wj at h;split at h;rename_i d;cases d;(rename_i o l r d;injection d with d j;subst d j;rw[bW]at h;rcases h with h|h;rw[ay]at h;have⟨i,b⟩:=h;split at b;rename_i n a m;rw[ay]at b;rw[an i,ua m,an b.1];exact⟨a,aU ..,b.2⟩;cases b;exact next h);simp_all
theorem start(p:SP defs=I)(o:xz defs k=O F)(m:bh ν (.f (uA k 90) us) I)(d:xy (cu F.args) us .e=O σ):∃as ξ r,bA ν us=O as/\EA ν σ ξ/\dN (cu F.args) as (λ_=>G)=O ξ/\mA k as=O r/\((∃g rs,jR mA F.jL ξ=O (O g,rs)/\r=(0,g,rs))∨∃qP j g rs,jR mA F.jL ξ=O (G,qP)/\mA k qP=O (j,g,rs)/\r=(j+1,g,rs)):=by have⟨as,r,l,i⟩:=agz m;have⟨_,b⟩:=tk p o;have c:=i;rw[show mA k as=ur (aI defs) F as from b as]at c;have⟨ξ,h,q⟩:=sF c;refine⟨as,ξ,r,l,vz (λa t n=> ?_) l d h,h,i,?_⟩;cases n;simp_all
theorem Vg(a:∀t b,(t,b)∈pc->bh ν t b)(h:(match nA t pc with
 |O b=>b
 |G=>Z)=I):bh ν t I:=by
 grind[jy]
theorem OG(o:bS lm)(A:SP defs=I)(z:xz defs k=O F)(a:∀t b,(t,b)∈pc->bh ν t b)(h:TM lm k F pc us g ys=I):bh ν (.f (uA k 95) (us++ .c (.ofNat g)::ys)) I:=by unfold TM at h;rw[ay]at h;have⟨B,i⟩:=h;split at i;rename_i σ p;have⟨as,ξ,r,Iz,n,H,Gz,v⟩:=start A z (Vg a B) p;split at i;rename_i J vs l;rw[ay]at i;have y:=an i.1;subst y;obtain⟨q,rs,d,rfl⟩|⟨qP,j,q,rs,d,u,rfl⟩:=v;have⟨m,s⟩:=jx o a n (λx e=>D7.1 e) d l;grind[Xi,Gh];have⟨m,_⟩:=jx o a n (λx e=>D7.1 e) d l;cases m;rename_i vs l;have⟨C,w,D⟩:=A6 i;obtain⟨q,rs,d,rfl⟩|⟨qP,j,q,rs,d,u,rfl⟩:=v;have⟨m,_⟩:=jx o a n (λx e=>D7.1 e) d l;cases m;have⟨_,s⟩:=jx o a n (λx e=>D7.1 e) d l;have⟨v1,E⟩:=Ai (a _ _ w) s u;grind[Xi,Gh];cases i;cases i
theorem C9:∀{n:Nat}{l a b:List Tm},Fp n l=O (a,b)->l=a++b|0,l,a,b,h=>by simp_all[Fp]|n+1,t::l,a,b,h=>by simp[Fp]at h;split at h;rename_i e d c;simp at h;obtain⟨rfl,rfl⟩:=h;rw[C9 c];rfl;cases h|_+1,[],_,_,h=>by cases h
structure oL:Prop where
 low:SP defs=I
 get:∀k F,qR.get k=O F->xz defs k=O F
theorem OH(f:bS lm)(c:oL)(a:∀t b,(t,b)∈pc->bh ν t b)(h:TN qR lm pc u=I):bh ν u I:=by unfold TN at h;split at h;rename_i o l;split at h;rename_i F e i;split at h;rename_i us g ys d;rw[C9 d,an e];exact OG f c.low (c.get _ _ i) a h;cases h;cases h;cases h
def afx(k:Nat)(ON:List Tm)(ν:Nm)(r:Option Nat×List ah):Prop:=r.1=G->∃q as r0,mA k r.2=O q/\bA ν ON=O as/\mA k as=O r0/\r0.1=q.1+1
def abY(k:Nat)(ON:List Tm)(w:Way)(σ:Tr Tm)(hs:List (Tm×Bool)):Option (Nat×List Tm×List Nat)->Prop|G=>∀ν:Nm,(∀t b,(t,b)∈hs->bh ν t b)->∃ξ r,EA ν σ ξ/\jR mA w ξ=O r/\afx k ON ν r|O (j,us,Gz)=>∀ν:Nm,(∀t b,(t,b)∈hs->bh ν t b)->∃ξ ds m g rs,EA ν σ ξ/\bA ν us=O ds/\mA j ds=O (m,g,rs)/\(g∈Gz∨∃r,jR mA w ξ=O r/\afx k ON ν r)
theorem D8{ts:List Tm}{xs:List (Nat×Bool)}{a b:Way}{r:Option Nat×List ah}(n:EA ν σ ξ)(h:ug σ ts=O us)(c:jR mA (.call j ts g xs a b) ξ=O r):∃ds m e rs,bA ν us=O ds/\mA j ds=O (m,e,rs)/\(e=g->∃d,dN (cu xs) rs ξ=O d/\jR mA a d=O r)/\(e≠g->jR mA b ξ=O r):=by simp[jR]at c;split at c;rename_i ds i;split at c;rename_i m e rs l;refine⟨ds,m,e,rs,nH n h i,l,λk=> ?_,λk=> ?_⟩;rw[decide_eq_true k]at c;simp only at c;split at c;rename_i d f;exact⟨d,f,c⟩;cases c;simp_all;cases c;cases c
theorem QN{d:List Tm}{a b:Way}{g:List (Tm×Bool)}(l:zG σ t=O u)(H:abY k d (.ite t a b) σ g G)(c:Bool):abY k d (if c then a else b) σ ((u,c)::g) G:=λe i=>by have⟨ξ,r,q,f,v⟩:=H e λt b h=>i t b (aS _ h);have⟨m,j,s⟩:=i _ _ (aU ..);simp only[jR]at f;split at f;rename_i n o;have p:=qv q l o;rw[j]at p;grind;cases f
theorem km{p:List Tm}:∀{w:Way}{mo:Option (Nat×List Tm×List Nat)}{σ:Tr Tm}{A:List (Tm×Bool)},abY k p w σ A mo->∀e∈zH k p w mo σ A,∀ν:Nm,(∀t b,(t,b)∈e.hs->bh ν t b)->bh ν e.t e.b|.bad,G,_,_,_,e,c,_,_=>by cases c|.bad,O _,_,_,_,e,c,_,_=>by cases c|.out _ _,G,_,_,_,e,c,_,_=>by cases c|.out _ _,O _,_,_,_,e,c,_,_=>by cases c|.again _,O _,_,_,_,e,c,_,_=>by cases c|.ite _ _ _,O _,_,_,_,e,c,_,_=>by cases c|.aW _ _,O _,_,_,_,e,c,_,_=>by cases c|.again ts,G,σ,A,H,e,c,ν,i=>(by unfold zH at c;split at c;rename_i us B;simp at c;(have main:(∀t b,(t,b)∈A->bh ν t b)->∃q as F K,bA ν us=O K/\mA k K=O q/\bA ν p=O as/\mA k as=O F/\F.1=q.1+1:=λh=>by have⟨ξ,r,v,l,z⟩:=H ν h;simp[jR]at l;split at l;rename_i ds Q;simp at l;subst l;have⟨q,as,F,N,M,T,W⟩:=z rfl;exact⟨q,as,F,ds,nH v B Q,N,M,T,W⟩;cases l);rcases c with rfl|rfl;grind[Oa];have⟨q,as,F,K,v,l,z,J,h5⟩:=main λt b h=>i t b (aS _ h);have⟨n,l1,l2⟩:=i _ _ (aU ..);have⟨x,y,Zz,Y,X⟩:=dq.1 l1;have s:ai ν (.f (uA k 91) p)=O (.n ((q.1+1:Nat):Int)):=(lR Bz).2 ⟨as,z,by rw[Xg,J,<-h5]⟩;rw[Zz]at s;injection s with s;injection s with s;subst s;(have hle:((q.1+1:Nat):Int)<=y:=by rw[bI (q:=decide (((q.1+1:Nat):Int)<=y)) rfl]at X;grind);refine⟨1,dq.2 ⟨_,y,(lR Bz).2 ⟨K,v,by rw[Xg,l]⟩,Y,?_⟩,rfl⟩;rw[bI (q:=decide ((q.1:Int)<y)) rfl,decide_eq_true (by omega)];rfl;cases c)|.ite t a b,G,σ,A,H,e,c,ν,i=>(by unfold zH at c;split at c;rename_i u Iz;rcases dx.1 c with c|c;exact km (QN Iz H I) e c ν i;exact km (QN Iz H Z) e c ν i;cases c)|.aW t a,G,σ,A,H,e,c,ν,i=>(by unfold zH at c;split at c;rename_i u Iz;(have main:∀d:Nm,(∀t b,(t,b)∈A->bh d t b)->bh d u I/\∃ξ r,EA d σ ξ/\jR mA a ξ=O r/\afx k p d r:=λd o=>by have⟨ξ,r,v,l,z⟩:=H d o;simp only[jR]at l;split at l;rename_i n hn;split at l;rename_i P;exact⟨⟨n,qv v Iz hn,P⟩,ξ,r,v,l,z⟩;cases l;cases l);rcases aO.1 c with rfl|c;simp_all;exact km (mo:=G) (λd o=>(main d o).2) e c ν i;cases c)|.call j ts g xs a b,G,σ,A,H,e,c,ν,i=>(by unfold zH at c;split at c;rename_i us B;rcases aO.1 c with rfl|c;have⟨ξ,r,v,l,_⟩:=H ν i;grind[D8,Oa];rcases dx.1 c with c|c;split at c;rename_i L Oz;refine km (mo:=G) (λd o=> ?_) e c ν i;have⟨ξ,r,v,l,z⟩:=H d λt b h=>o t b (aS _ h);have⟨ds,m,C,rs,N,M,T,_⟩:=D8 v B l;have⟨f1,f2⟩:=Ai (o _ _ (aU ..)) N M;grind[vz];cases c;refine km (mo:=O (j,us,[g])) (λd o=> ?_) e c ν i;have⟨ξ,r,v,l,z⟩:=H d o;grind[D8];cases c)|.call j ts g xs a b,O (j',us,Gz),σ,A,H,e,c,ν,i=>by unfold zH at c;split at c;rename_i E B;split at c;rename_i U;simp only[ay,Bool.not_eq_true']at U;have⟨⟨S,R⟩,V⟩:=U;have S:=an S;have R:=Av R;subst S R;(have hgG:g∉Gz:=λhm=>by rw[List.any_eq_true.2 ⟨g,hm,Nat.beq_refl g⟩]at V;cases V);(have main:∀d:Nm,(∀t b,(t,b)∈A->bh d t b)->∃ξ ds m C rs,EA d σ ξ/\bA d E=O ds/\mA j ds=O (m,C,rs)/\(C∈Gz∨∃r,((C=g->∃D,dN (cu xs) rs ξ=O D/\jR mA a D=O r)/\(C≠g->jR mA b ξ=O r))/\afx k p d r):=λd o=>by have⟨ξ,ds,m,C,rs,v,l,z,J⟩:=H d o;grind[D8]);rcases dx.1 c with c|c;split at c;rename_i L Oz;refine km (mo:=G) (λd o=> ?_) e c ν i;have⟨ξ,ds,m,C,rs,v,l,z,J⟩:=main d λt b h=>o t b (aS _ h);have⟨f1,f2⟩:=Ai (o _ _ (aU ..)) l z;grind[vz];cases c;refine km (mo:=O (j,E,g::Gz)) (λd o=> ?_) e c ν i;have⟨ξ,ds,m,C,rs,v,l,z,J⟩:=main d o;grind;cases c;cases c
theorem Vh(l:oL)(s:qR.get k=O F):∀e∈O5 k F,∀ν:Nm,(∀t b,(t,b)∈e.hs->bh ν t b)->bh ν e.t e.b:=λe a ν f=>by unfold O5 at a;split at a;rename_i σ d;refine km (mo:=G) (λm u=> ?_) e a ν f;have⟨as,ξ,r,q,i,_,p,o⟩:=start l.low (l.get _ _ s) (u _ _ (aU ..)) d;obtain⟨g,rs,c,_⟩|⟨qP,j,g,rs,c,n,rfl⟩:=o;exact⟨ξ,_,i,c,λh=>by cases h⟩;exact⟨ξ,_,i,c,λ_=>⟨_,as,_,n,q,p,rfl⟩⟩;cases a
end
end
section
variable{d:ah}{F:bq}{n x y:Int}{k:bu}{ds rs:List ah}{ts:List Tm}{g:Nat}{U:Nat->List ah->Option ah}{ξ:Nat->Option ah}{R:dI}{a b t:Tm}
section
variable(R:dI)
inductive c_:Way->(Nat->Option ah)->Option Nat->List ah->Prop
 |out {g:Nat} {ts:List Tm} {ξ:Nat->Option ah} {ds:List ah}:aA (aQ R) ξ ts=O ds->c_ (.out g ts) ξ (O g) ds
 |again {ts:List Tm} {ξ:Nat->Option ah} {ds:List ah}:aA (aQ R) ξ ts=O ds->c_ (.again ts) ξ G ds
 |yes {t:Tm} {a b:Way} {ξ:Nat->Option ah} {g:Option Nat} {rs:List ah} {n:Int}:aD (aQ R) ξ t=O (.n n)->n≠0->c_ a ξ g rs->c_ (.ite t a b) ξ g rs
 |no {t:Tm} {a b:Way} {ξ:Nat->Option ah} {g:Option Nat} {rs:List ah}:aD (aQ R) ξ t=O (.n 0)->c_ b ξ g rs->c_ (.ite t a b) ξ g rs
 |aW {t:Tm} {a:Way} {ξ:Nat->Option ah} {g:Option Nat} {rs:List ah} {n:Int}:aD (aQ R) ξ t=O (.n n)->n≠0->c_ a ξ g rs->c_ (.aW t a) ξ g rs
 |call {k h:Nat} {ts:List Tm} {xs:List (Nat×Bool)} {a b:Way} {ξ mr:Nat->Option ah} {g:Option Nat} {rs ds us:List ah} {m:Nat}:aA (aQ R) ξ ts=O ds->R k ds=O (m,h,us)->dN (cu xs) us ξ=O mr->c_ a mr g rs->c_ (.call k ts h xs a b) ξ g rs
 |ajO {k h h':Nat} {ts:List Tm} {xs:List (Nat×Bool)} {a b:Way} {ξ:Nat->Option ah} {g:Option Nat} {rs ds us:List ah} {m:Nat}:aA (aQ R) ξ ts=O ds->R k ds=O (m,h',us)->h'≠h->c_ b ξ g rs->c_ (.call k ts h xs a b) ξ g rs
variable{R}
theorem mW:∀{w:Way}{ξ:Nat->Option ah}{g:Option Nat}{rs:List ah},jR R w ξ=O (g,rs)->c_ R w ξ g rs|.bad,_,_,_,h=>by cases h|.out g ts,ξ,_,_,h=>by simp[jR]at h;split at h;rename_i ds d;cases h;exact .out d;cases h|.again ts,ξ,_,_,h=>by simp[jR]at h;split at h;rename_i ds d;cases h;exact .again d;cases h|.ite t a b,ξ,_,_,h=>by simp only[jR]at h;split at h;rename_i n f;split at h;rename_i c;exact .yes f (of_decide_eq_true c) (mW h);rename_i c;(have:n=0:=by simpa using c);subst this;exact .no f (mW h);cases h|.aW t a,ξ,_,_,h=>by simp only[jR]at h;split at h;rename_i n f;split at h;rename_i c;exact .aW f (of_decide_eq_true c) (mW h);cases h;cases h|.call k ts g xs a b,ξ,_,_,h=>by simp[jR]at h;split at h;rename_i ds d;split at h;rename_i m l us i;split at h;rename_i e;have e:=of_decide_eq_true e;subst e;split at h;rename_i j c;exact .call d i c (mW h);cases h;rename_i e;exact .ajO d i (of_decide_eq_false e) (mW h);cases h;cases h
end
section
variable{R:dI}{ξ:Nat->Option ah}{g:Option Nat}{rs:List ah}
theorem aC{a b:Way}(h:c_ R (.ite t a b) ξ g rs):(∃n,aD (aQ R) ξ t=O (.n n)/\n≠0/\c_ R a ξ g rs)∨(aD (aQ R) ξ t=O (.n 0)/\c_ R b ξ g rs):=by cases h with|yes d c e=>simp_all|no d c=>simp_all
theorem bp{a:Way}(h:c_ R (.aW t a) ξ g rs):∃n,aD (aQ R) ξ t=O (.n n)/\n≠0/\c_ R a ξ g rs:=by cases h with|aW d c b=>simp_all
theorem ar{e:Nat}(h:c_ R (.out e ts) ξ g rs):g=O e/\aA (aQ R) ξ ts=O rs:=by cases h with|out h=>simp_all
theorem cv(h:c_ R (.again ts) ξ g rs):g=G/\aA (aQ R) ξ ts=O rs:=by cases h with|again h=>simp_all
theorem aE(h:c_ R .bad ξ g rs):False:=by cases h
theorem av{k e:Nat}{xs:List (Nat×Bool)}{a b:Way}(h:c_ R (.call k ts e xs a b) ξ g rs):∃ds us m d,aA (aQ R) ξ ts=O ds/\R k ds=O (m,d,us)/\((d=e/\∃c,dN (cu xs) us ξ=O c/\c_ R a c g rs)∨(d≠e/\c_ R b ξ g rs)):=by cases h with|call l j i f=>grind|ajO l j i f=>grind
end
def nV:List (Nat×Nat×Bool)->Nat->List ah->(Nat->Option ah)->Nat->Option ah|[],_,_,ξ,i=>ξ i|(a,n,_)::l,p,ds,ξ,i=>if a<=i/\i<a+n then ds[p+(i - a)]? else nV l (p+n) ds ξ i
def Κ:List (Nat×Nat×Bool)->Nat|[]=>0|(_,n,_)::l=>n+Κ l
def Du:Nat->List (Nat×Nat×Bool)->Bool|_,[]=>I|p,(a,n,_)::l=>aF p a&&Du (a+n) l
theorem C_:∀{n a:Nat}{l:List Nat}{ds:List ah}{ξ b:Nat->Option ah},dN (bX a n++l) ds ξ=O b->n<=ds.length/\dN l (ds.drop n) (λi=>if a<=i/\i<a+n then ds[i - a]? else ξ i)=O b|0,a,l,ds,ξ,b,h=>by simp_all[if_neg]|n+1,a,l,ds,ξ,b,h=>by cases ds with|nil=>simp_all[dN]|cons d ds=>simp[List.range'_succ,dN]at h;have⟨e,c⟩:=C_ h;grind
theorem Y8:∀{a n:Nat}{b:Bool}{l:List (Nat×Nat×Bool)},cu (fa ((a,n,b)::l))=bX a n++cu (fa l):=by intro a n b l;(have d:∀(l:List (Nat×Bool)),cu l=l.map (·.1):=λl=>by induction l with|nil=>rfl|cons p l c=>simp[cu,c]);simp_all[fa,Function.comp_def]
theorem Gi:∀{l:List (Nat×Nat×Bool)}{q:Nat}{ds:List ah}{ξ d:Nat->Option ah},dN (cu (fa l)) ds ξ=O d->Du q l=I->ds.length=Κ l/\∀i,(q<=i->d i=nV l 0 ds ξ i)/\(i<q->d i=ξ i)|[],q,ds,ξ,d,h,_=>(by cases ds with|nil=>have h:O ξ=O d:=h;cases h;exact⟨rfl,λi=>⟨λ_=>rfl,λ_=>rfl⟩⟩|cons _ _=>cases h)|(a,n,b)::l,q,ds,ξ,d,h,c=>by rw[Y8]at h;have⟨A,v⟩:=C_ h;simp only[Du,ay]at c;have k:=bz c.1;have⟨u,r⟩:=Gi v c.2;(have shift:∀(l:List (Nat×Nat×Bool))(p:Nat)(ds:List ah)(ξ:Nat->Option ah)(i m:Nat),nV l p (ds.drop m) ξ i=nV l (p+m) ds ξ i:=by intro l;induction l with|nil=>intros;rfl|cons x l j=>have⟨a,n,b⟩:=x;intro p ds ξ i m;simp[nV];rw[j];(have y:m+(p+(i - a))=p+m+(i - a):=by omega);(have w:p+n+m=p+m+n:=by omega);rw[y,w]);refine⟨by simp[Κ];simp at u;omega,λi=>⟨λt=> ?_,λt=> ?_⟩⟩;by_cases o:a+n<=i;rw[(r i).1 o,shift];simp only[nV];rw[if_neg (by omega)];(have key:∀(l:List (Nat×Nat×Bool))(p q:Nat),Du q l=I->q<=i->∀g f:Nat->Option ah,(g i=f i)->nV l p ds g i=nV l p ds f i:=by intro l;induction l with|nil=>intro p q _ _ g f h;exact h|cons x l j=>have⟨a,n,b⟩:=x;intro p q c k g f h;simp only[Du,ay]at c;simp[nV];split;rfl;rename_i z;by_cases hh:a+n<=i;exact j _ _ c.2 hh g f h;(have s:i<a:=by omega);(have low:∀(l:List (Nat×Nat×Bool))(p q:Nat),Du q l=I->i<q->∀ξ:Nat->Option ah,nV l p ds ξ i=ξ i:=by intro l;induction l with|nil=>intros;rfl|cons x l j=>have⟨a,n,b⟩:=x;intro p q c k ξ;simp only[Du,ay]at c;have:=bz c.1;simp[nV];rw[if_neg (by omega)];exact j _ _ c.2 (by omega) ξ);rw[low l _ (a+n) c.2 (by omega),low l _ (a+n) c.2 (by omega),h]);have e:=key l (0+n) (a+n) c.2 o (λi=>if a<=i/\i<a+n then ds[i - a]? else ξ i) ξ (if_neg (by omega));exact e;rw[(r i).2 (by omega)];simp only[nV];by_cases hh:a<=i;rw[if_pos (by omega),if_pos (by omega),ew];rw[if_neg (by omega),if_neg (by omega)];(have low:∀(l:List (Nat×Nat×Bool))(p q:Nat),Du q l=I->i<q->∀ξ:Nat->Option ah,nV l p ds ξ i=ξ i:=by intro l;induction l with|nil=>intros;rfl|cons x l j=>have⟨a,n,b⟩:=x;intro p q c k ξ;simp only[Du,ay]at c;have:=bz c.1;simp[nV];rw[if_neg (by omega)];exact j _ _ c.2 (by omega) ξ);exact(low l _ _ c.2 (by omega) ξ).symm;grind
theorem aJ{l:List (Nat×Nat×Bool)}{a:Nat->Option ah}(h:dN (cu (fa l)) ds ξ=O a)(b:Du 0 l=I):ds.length=Κ l/\a=nV l 0 ds ξ:=
 let⟨d,c⟩:=Gi h b
 ⟨d,funext λi=>(c i).1 (dy _)⟩
theorem bind_none{a:Nat->Option ah}(h:dN (cu []) ds ξ=O a):ds=[]/\a=ξ:=by cases ds with|nil=>cases h;simp_all|cons _ _=>cases h
def cH(k:Nat)(ds:List ah)(g:Nat)(rs:List ah):Prop:=∃m,aI defs k ds=O (m,g,rs)
theorem cH.det{k:Nat}{a:List ah}{c:Nat}(h:cH k ds g rs)(b:cH k ds c a):g=c/\rs=a:=by have⟨m,h⟩:=h;have⟨d,b⟩:=b;rw[h]at b;simp_all
@[reducible] def Ends(Iz:List ah->Prop)(E:Nat->List ah->Prop):Option Nat->List ah->Prop|O g,r=>E g r|G,r=>Iz r
section
variable(hD:oL)
include hD
theorem cH.ind{k:Nat}(r:qR.get k=O F)(Q:List ah->Nat->List ah->Prop)(step:∀ds ξ,dN (cu F.args) ds (λ_=>G)=O ξ->(∀g rs,c_ (aI defs) F.jL ξ (O g) rs->Q ds g rs)/\∀qP,c_ (aI defs) F.jL ξ G qP->∀g rs,cH k qP g rs->Q qP g rs->Q ds g rs)(h:cH k ds g rs):Q ds g rs:=by obtain⟨i,a⟩:=tk hD.low (hD.get _ _ r);obtain⟨m,h⟩:=h;induction m using Nat.strongRecOn generalizing ds with|_ m o=>have w:=h;rw[a]at h;obtain⟨ξ,q,s⟩:=sF h;obtain⟨n,l⟩:=step ds ξ q;obtain⟨t,c,d,e⟩|⟨qP,j,t,c,d,p,e⟩:=s;cases e;exact n _ _ (mW d);injection e with v f;injection f with f u;subst v f u;have b:aI defs k qP=O (j,g,rs):=(a _)▸p;exact l qP (mW d) _ _ ⟨j,b⟩ (o j (by simp) b)
theorem cH.loop{k:Nat}(e:qR.get k=O F)(Q:List ah->Nat->List ah->Prop)(step:∀ds ξ go r,dN (cu F.args) ds (λ_=>G)=O ξ->c_ (aI defs) F.jL ξ go r->(∀g,go=O g->Q ds g r)/\(go=G->∀g rs,cH k r g rs->Q r g rs->Q ds g rs))(h:cH k ds g rs):Q ds g rs:=cH.ind hD e Q (λds ξ b=>⟨λg rs a=>(step ds ξ _ _ b a).1 g rfl,λqP a g rs d c=>(step ds ξ _ _ b a).2 rfl g rs d c⟩) h
theorem cH.inv{k:Nat}(e:qR.get k=O F)(Iz:List ah->Prop)(E:Nat->List ah->Prop)(step:∀ds ξ go r,Iz ds->dN (cu F.args) ds (λ_=>G)=O ξ->c_ (aI defs) F.jL ξ go r->Ends Iz E go r)(h:cH k ds g rs)(a:Iz ds):E g rs:=cH.ind hD e (λds g rs=>Iz ds->E g rs) (λds ξ c=>⟨λg rs b a=>step ds ξ (O g) rs a c b,λqP b g rs _ d a=>d (step ds ξ G qP a c b)⟩) h a
theorem cH.one{k:Nat}(n:qR.get k=O F)(h:cH k ds g rs):∃ξ,dN (cu F.args) ds (λ_=>G)=O ξ/\(c_ (aI defs) F.jL ξ (O g) rs∨∃qP,c_ (aI defs) F.jL ξ G qP/\cH k qP g rs):=by have⟨f,a⟩:=tk hD.low (hD.get _ _ n);have⟨m,h⟩:=h;rw[a]at h;have⟨ξ,l,o⟩:=sF h;refine⟨ξ,l,?_⟩;obtain⟨p,b,c,e⟩|⟨qP,j,p,b,c,i,e⟩:=o;cases e;exact .inl (mW c);injection e with r d;injection d with d q;subst r d q;exact .inr ⟨qP,mW c,j,by rw[a];exact i⟩
end
section
variable{R:dI}{ξ:Nat->Option ah}
theorem xd(l:List ah):aQ R 0 l=eI jo l:=rfl
theorem ZO(l:List ah):aQ R 2 l=cn mq l:=rfl
theorem uo5(l:List ah):aQ R 5 l=cn (rD SN) l:=rfl
theorem uo6(l:List ah):aQ R 6 l=cn (rD Z_) l:=rfl
theorem qS(l:List ah):aQ R 11 l=O (.l l):=rfl
theorem oo(l:List ah):aQ R 13 l=O (.l l):=rfl
theorem ajP(l:List ah):aQ R 16 l=cn Dm l:=rfl
theorem MR(l:List ah):aQ R 17 l=bt sV l:=rfl
theorem ajQ(l:List ah):aQ R 18 l=bt uI l:=rfl
theorem afy(l:List ah):aQ R 21 l=cn zF l:=rfl
theorem alr(l:List ah):aQ R 23 l=eI (λa=>O (strip a)) l:=rfl
theorem Ta(l:List ah):aQ R 24 l=om l:=rfl
theorem als(l:List ah):aQ R 25 l=cn qU l:=rfl
theorem alu(l:List ah):aQ R 28 l=bt qV l:=rfl
theorem EB(l:List ah):aQ R 31 l=bt lX l:=rfl
theorem amV(l:List ah):aQ R 35 l=cn xw l:=rfl
theorem fg:gH .add k x y=O (.n (k.wrap (x+y))):=rfl
theorem abZ:gH .sub k x y=O (.n (k.wrap (x - y))):=rfl
theorem dY:gH .lss k x y=O (.n (if x<y then 1 else 0)):=by simp[gH,dX]
theorem Wy:gH .leq k x y=O (.n (if x<=y then 1 else 0)):=by simp[gH,dX]
theorem kP:gH .gtr k x y=O (.n (if y<x then 1 else 0)):=by simp[gH,dX]
theorem aif:gH .geq k x y=O (.n (if y<=x then 1 else 0)):=by simp[gH,dX]
theorem oP:gH .eql k x y=O (.n (if x=y then 1 else 0)):=by simp[gH,dX,pS]
theorem Fa:gH .neq k x y=O (.n (if x=y then 0 else 1)):=by simp_all[gH,dX,pS]
theorem gn{p:Prop}[Decidable p](h:O (ah.n (if p then 1 else 0))=O (.n n))(a:n≠0):p:=by grind
theorem fN{p:Prop}[Decidable p](h:O (ah.n (if p then 1 else 0))=O (.n 0)):¬p:=λa=>by rw[if_pos a]at h;simp_all
theorem lG{o:BinOp}(h:aD U ξ (.bin o k a b)=O d):∃x y,aD U ξ a=O (.n x)/\aD U ξ b=O (.n y)/\gH o k x y=O d:=by grind[aD]
theorem mG{o:Nat}{l:List Tm}(h:aD U ξ (.f o l)=O d):∃ds,aA U ξ l=O ds/\U o ds=O d:=by grind[aD]
theorem aM{l:List Tm}(h:aA U ξ (t::l)=O ds):∃d r,aD U ξ t=O d/\aA U ξ l=O r/\ds=d::r:=by grind[aA]
theorem eB(h:aA U ξ []=O ds):ds=[]:=by cases h;rfl
theorem Aj(h:aD U ξ (.bin .lss k a b)=O (.n n)):∃x y,aD U ξ a=O (.n x)/\aD U ξ b=O (.n y)/\(n≠0↔x<y):=by have⟨x,y,e,d,c⟩:=lG h;rw[dY]at c;grind
theorem agC(h:aD U ξ (.bin .gtr k a b)=O (.n n)):∃x y,aD U ξ a=O (.n x)/\aD U ξ b=O (.n y)/\(n≠0↔y<x):=by have⟨x,y,e,d,c⟩:=lG h;rw[kP]at c;grind
theorem Xj(h:aD U ξ (.bin .geq k a b)=O (.n n)):∃x y,aD U ξ a=O (.n x)/\aD U ξ b=O (.n y)/\(n≠0↔y<=x):=by have⟨x,y,e,d,c⟩:=lG h;rw[aif]at c;grind
theorem Xk(h:aD U ξ (.bin .leq k a b)=O (.n n)):∃x y,aD U ξ a=O (.n x)/\aD U ξ b=O (.n y)/\(n≠0↔x<=y):=by have⟨x,y,e,d,c⟩:=lG h;rw[Wy]at c;grind
theorem tv(h:aD U ξ (.bin .eql k a b)=O (.n n)):∃x y,aD U ξ a=O (.n x)/\aD U ξ b=O (.n y)/\(n≠0↔x=y):=by have⟨x,y,e,d,c⟩:=lG h;rw[oP]at c;grind
theorem D9(h:aD U ξ (.bin .neq k a b)=O (.n n)):∃x y,aD U ξ a=O (.n x)/\aD U ξ b=O (.n y)/\(n≠0↔x≠y):=by have⟨x,y,e,d,c⟩:=lG h;rw[Fa]at c;grind
end
theorem jP{i:Tm}{xs:List ah}{m:Int}{cs:List ah}(o:aD (aQ R) ξ a=O (.l xs))(g:aD (aQ R) ξ i=O (.n m))(f:0<=m)(e:xs[m.toNat]? =O (.l cs)):∀{ks:List (Option bu)}{j:Nat}{rest:List Tm}{ds:List ah},(ks.all λk=>k.isNone)=I->aA (aQ R) ξ (cr 31 [a,i] ks j rest)=O ds->∃r,aA (aQ R) ξ rest=O r/\ds=(cs.drop j).take ks.length++r/\j+ks.length<=max j cs.length|[],j,rest,ds,_,h=>⟨ds,h,by simp,by grind⟩|O k::ks,j,rest,ds,c,h=>by simp at c|G::ks,j,rest,ds,c,h=>by simp only[List.all_cons,ay]at c;simp only[cr]at h;obtain⟨d,r,b,t,rfl⟩:=aM h;obtain⟨p,s,rfl,u⟩:=jP o g f e c.2 t;refine⟨p,s,?_,?_⟩;(all_goals (simp only[fU,fT,aD,aA,o,g,EB,bt,lX]at b;rw[if_pos ⟨f,by exact bO j⟩,e]at b;have b:cs[j]? =O d:=b;obtain⟨q,rfl⟩:=cj.1 b));rw[ij,List.drop_eq_getElem_cons q,List.take_succ_cons,fU];grind
theorem s9:∀{n a:Nat}{rest:List Tm}{ds:List ah},aA (aQ R) ξ (xr a n rest)=O ds->(∀t,t<n->ds[t]? =ξ (a+t))/\n<=ds.length/\aA (aQ R) ξ rest=O (ds.drop n)|0,a,rest,ds,h=>⟨λt c=>by omega,dy _,h⟩|n+1,a,rest,ds,h=>by simp[xr]at h;obtain⟨d,r,f,e,rfl⟩:=aM h;have⟨i,g,b⟩:=s9 e;refine⟨λt c=> ?_,by simp_all,b⟩;cases t with|zero=>exact f.symm|succ t=>grind
theorem Xl{xs cs es:List ah}{i:Nat}(h:xs[i]? =O (.l es))(a:es.length=cs.length):om (.l xs::.n i::.n 0::cs)=O (.l (xs.set i (.l cs))):=by simp only[om,ei,h,uq];rw[if_pos ⟨bO _,ft _⟩];grind
theorem QO{w:ah}(f:aD (aQ R) ξ t=O w):∀{ks:List (Option bu)}{j:Nat}{rest:List Tm}{ds:List ah},(ks.all λk=>k.isNone)=I->aA (aQ R) ξ (cr 21 [t] ks j rest)=O ds->ks≠[]->∃ps r,w=.l ps/\aA (aQ R) ξ rest=O r/\ds=(ps.drop j).take ks.length++r/\j+ks.length<=ps.length|[],_,_,_,_,_,h=>absurd rfl h|O k::ks,j,rest,ds,c,h,_=>by simp at c|G::ks,j,rest,ds,c,h,_=>by simp only[List.all_cons,ay]at c;simp only[cr]at h;obtain⟨d,r,i,g,rfl⟩:=aM h;simp only[fU,fT,aD,aA,f,afy,cn]at i;have⟨m,e,_,b⟩:=wJ i;cases e;have b:fO w j=O d:=b;(obtain⟨ps,rfl⟩:∃ps,w=.l ps:=by cases w<;>first|exact⟨_,rfl⟩|cases b);have b:ps[j]? =O d:=b;have⟨o,e⟩:=cj.1 b;subst e;have a:ps.drop j=ps[j]::ps.drop (j+1):=List.drop_eq_getElem_cons o;cases ks with|nil=>exact⟨ps,r,rfl,g,by rw[a];rfl,by grind⟩|cons k ks=>obtain⟨n,p,e,s,rfl,q⟩:=QO f c.2 g (by simp);grind
theorem D_{i:Tm}{k:Option bu}{ks:List (Option bu)}{rest:List Tm}(q:((k::ks).all λk=>k.isNone)=I)(h:aA (aQ R) ξ (cr 31 [a,i] (k::ks) 0 rest)=O ds):∃(xs cs r:List ah)(m:Int),aD (aQ R) ξ a=O (.l xs)/\aD (aQ R) ξ i=O (.n m)/\0<=m/\xs[m.toNat]? =O (.l cs)/\aA (aQ R) ξ rest=O r/\ds=cs.take (k::ks).length++r/\(k::ks).length<=cs.length:=by have D:=h;cases k with|some k=>simp at q|none=>simp only[cr]at h;obtain⟨d,r,s,C,rfl⟩:=aM h;have⟨E,b,o⟩:=mG s;simp only[fU,fT]at b;obtain⟨v1,e,c,w,v,u,t,f,rfl⟩:=Kb b;cases eB f;obtain⟨xs,m,n,x,rfl,rfl,rfl,B,_,A,p⟩:=kg (o);(obtain⟨cs,rfl⟩:∃cs,x=.l cs:=by cases x<;>first|exact⟨_,rfl⟩|cases p);grind[jP]
section
variable{R:dI}{ξ:Nat->Option ah}
def Yes(R:dI)(ξ:Nat->Option ah)(t:Tm):Prop:=∀n,aD (aQ R) ξ t=O (.n n)->n≠0
def No(R:dI)(ξ:Nat->Option ah)(t:Tm):Prop:=∀n,aD (aQ R) ξ t=O (.n n)->n=0
theorem eK(e:aD (aQ R) ξ a=aD (aQ R) ξ b):Yes R ξ (.bin .eql k a b):=λn h=>by grind[tv]
theorem gQ(e:aD (aQ R) ξ a=aD (aQ R) ξ b):No R ξ (.bin .neq k a b):=λn h=>by grind[D9]
theorem agD(h:aD (aQ R) ξ (.f 5 [a,b])=O d):∃x y,aD (aQ R) ξ a=O (.n x)/\aD (aQ R) ξ b=O (.n y)/\d=jC (x !=0&&y !=0):=by have⟨al,o1,o2⟩:=mG h;obtain⟨v1,v2,l2,p1,p2,o4,rfl⟩:=KN o1;cases eB o4;have o2:rD SN v1 v2=O d:=o2;unfold rD at o2;split at o2;split at o2;cases o2;exact⟨_,_,p1,p2,rfl⟩;cases o2;cases o2
theorem lH(e:Yes R ξ a)(d:Yes R ξ b):Yes R ξ (.f 5 [a,b]):=λn h=>by have⟨x,y,i,g,c⟩:=agD h;(have k:(x !=0)=I:=by simpa using e x i);(have j:(y !=0)=I:=by simpa using d y g);rw[k,j]at c;cases c;decide
theorem vf(h:Yes R ξ t):No R ξ (.f 10 [t]):=λn hn=>by have⟨al,o1,o2⟩:=mG hn;obtain⟨v1,l1,p1,o3,rfl⟩:=aM o1;cases eB o3;have o2:O4 v1=O (.n n):=o2;(obtain⟨x,rfl⟩:∃x,v1=.n x:=by cases v1<;>first|exact⟨_,rfl⟩|cases o2);have o2:O (jC (x==0))=O (.n n):=o2;(have e:(x==0)=Z:=by simpa using h x p1);rw[e]at o2;cases o2;rfl
theorem fm{a b:Way}{g:Option Nat}(c:Yes R ξ t)(h:c_ R (.ite t a b) ξ g rs):c_ R a ξ g rs:=by obtain⟨_,_,_,h⟩|⟨d,_⟩:=aC h;exact h;cases (c 0 d) rfl
theorem bV{a b:Way}{g:Option Nat}(c:No R ξ t)(h:c_ R (.ite t a b) ξ g rs):c_ R b ξ g rs:=by obtain⟨n,d,e,_⟩|⟨_,h⟩:=aC h;cases e (c n d);exact h
theorem uR{i:Nat}(h:ξ i=O (.n n))(a:n≠0):Yes R ξ (.x i):=λm b=>by simp_all[aD]
end
end
section
structure VK where
 hs:List (Tm×Bool)
 a:Tm
 b:Tm
section
variable(n0 n1:Nat)(τ:Tr Tm)
mutual
def sb:Tm->Option Tm|.c n=>O (.c n)|.x j=>(match aF (bm+n0) j with|I=>(match aF (j+1) (bm+n1)with|I=>τ.get j|Z=>G)|Z=>O (.x j))|.bin o k a b=>(match sb a,sb b with|O a,O b=>O (.bin o k a b)|_,_=>G)|.conv k a=>(match sb a with|O a=>O (.conv k a)|G=>G)|.f o l=>match Ld l with|O l=>(match ae o 23,l with|I,[t]=>(match dF (cK t) t with|I=>O t|Z=>O (.f o l))|_,_=>O (.f o l))|G=>G
def Ld:List Tm->Option (List Tm)|[]=>O []|t::l=>match sb t,Ld l with|O t,O l=>O (t::l)|_,_=>G
end
end
def afz(E:List VK)(pc:List (Tm×Bool))(t u:Tm):Bool:=dF t u||E.any λe=>dF e.a t&&dF e.b u&&Bj pc e.hs
mutual
def X8(E:List VK)(pc:List (Tm×Bool)):Nat->Tm->Tm->Bool|0,t,u=>afz E pc t u|n+1,t,u=>match afz E pc t u with|I=>I|Z=>match t,u with|.f o l,.f p m=>ae o p&&Wz E pc n l m|.conv k a,.conv j b=>fy k j&&X8 E pc n a b|_,_=>Z
def Wz(E:List VK)(pc:List (Tm×Bool)):Nat->List Tm->List Tm->Bool|_,[],[]=>I|n,t::l,u::m=>(match X8 E pc n t u with|I=>Wz E pc n l m|Z=>Z)|_,_,_=>Z
end
section
variable(σ:Nat->Option Nat)(q:Tm->Tm->Bool)
mutual
def uE:AV->AV->Bool|.bool a,.bool b=>a==b|.int k a,.int k' b=>fy k k'&&gj a b|.str a,.str b=>iW a b|.kv,.kv=>I|.ptr i n,.ptr j m=>Kd σ i j&&ae n m|.cQ,.cQ=>I|.slice i n l c,.slice j m k d=>Kd σ i j&&ae n m&&ae l k&&xq σ c d|.lf,.lf=>I|.map i,.map j=>Kd σ i j|.func f a b,.func g c d=>XM σ f g&&MS a c&&MS b d|.iq,.iq=>I|.iface t v,.iface u w=>ae t u&&uE v w|.gP,.gP=>I|.agg a,.agg b=>MS a b|.il a,.il b=>MS a b|.ext i,.ext j=>ae i j&&aF (i+1) bm|.mw g n,.mw k m=>ae g k&&ae n m|.sym k t,.sym k' u=>fy k k'&&q t u|.sym k t,.int k' n=>fy k k'&&q t (.c n)|.iI t,.iI u=>q t u|.iI t,.bool b=>q t (.c (match b with|I=>1|Z=>0))|.iJ t,.iJ u=>q t u|.iJ t,.str l=>q t (zY l)|.deep e t,.deep f u=>ae e f&&q t u|.deep e t,.cQ=>q t (.f 22 [.f 14 [.c (.ofNat e)],.f 11 []])|.mn e z t i n,.mn f y u j m=>ae e f&&ae z y&&ae n m&&q t u&&q i j|.bK i t c,.bK j u d=>Kd σ i j&&q t u&&xq σ c d|.jM i e z t n,.jM j f y u m=>Kd σ i j&&ae e f&&ae z y&&ae n m&&q t u|.gZ i e z t v c,.gZ j f y u x d=>Kd σ i j&&ae e f&&ae z y&&q t u&&q v x&&xq σ c d|_,_=>Z
def MS:List AV->List AV->Bool|[],[]=>I|a::l,b::m=>(match uE a b with|I=>MS l m|Z=>Z)|_,_=>Z
end
def afA:List (AV×AV×Nat)->List (AV×AV×Nat)->Bool|[],[]=>I|p::l,r::m=>(match uE σ q p.1 r.1&&uE σ q p.2.1 r.2.1&&ae p.2.2 r.2.2 with|I=>afA l m|Z=>Z)|_,_=>Z
def afB:List (Nat×AV)->Tr AV->Bool|[],_=>I|(i,u)::l,T=>(match T.get i with|O v=>uE σ q u v|G=>Z)&&afB l T
def okO:bF->bF->Bool|.cells l t c,.cells m u d=>ae t u&&zC σ c d&&MS σ q l m|.map es c,.map fs d=>ae c d&&afA σ q es fs|.iter m a l b,.iter m' a' l' b'=>zC σ m m'&&ae a a'&&ae b b'&&Bf l l'|.oR,.oR=>I|.row t e c,.row u f d=>q t u&&ae e f&&zC σ c d|.dmap a b t G,.dmap c d u G=>ae a c&&ae b d&&q t u|.lh t e c i l,.lh u f d j m=>q t u&&ae e f&&zC σ c d&&q i j&&MS σ q l m|.g_ a b t c B S G,.g_ a' b' t' c' B' S' G=>ae a a'&&ae b b'&&q t t'&&q c c'&&q B B'&&q S S'|.jk m c B,.jk m' c' B'=>Kd σ m m'&&q c c'&&q B B'|.loop .ready G T N ps d k,.loop .ready G T' N' ps' d' k'=>afB σ q (cG T 1 0 []) T'&&ae N N'&&Bf ps ps'&&Kd σ d d'&&ae k.1 k'.1&&SI k.2 k'.2|_,_=>Z
end
def ajR:Ex->Ex->Bool|.norm,.norm=>I|.ret,.ret=>I|.exit i,.exit j=>ae i j|.goto i,.goto j=>ae i j|_,_=>Z
def acC(n0:Nat)(h:Tr bF):List (Nat×bF)->Fit->Fit|[],φ=>φ|(j,a)::l,φ=>acC n0 h l (match aF (j+1) n0,h.get j with|I,O b=>akO a b φ|_,_=>φ)
def afC(n0:Nat)(o p:Out):Fit:=Ko p.s.h o.s.h 100000 (qp o.T (cG p.T 1 0 []) (XN p.v o.v (acC n0 o.s.h (cG p.s.h 1 0 []) ⟨.e,.e,.e,.e,[]⟩)))
section
variable(E:List VK)(lm:List fV)(n0:Nat)
def okQ(φ:Fit)(o p:Out)(t u:Tm):Bool:=match sb n0 p.s.n φ.x t with|O t'=>X8 E o.s.x.pc 3 t' u||dF t' (Z1 u)|G=>Z
def alv(φ:Fit)(o p:Out)(j:Nat)(ob:bF):Bool:=match rC n0 p.s.n φ.f j with|O i=>(match o.s.h.get i with|O ob2=>okO (rC n0 p.s.n φ.f) (okQ E n0 φ o p) ob ob2|G=>Z)&&(match aF (j+1) n0 with|I=>I|Z=>(aF n0 i||(p.s.h.get i).isNone)&&(match φ.b.get i with|O k=>ae k j|G=>Z))|G=>Z
def ab0(o:Out):List Tm:=qT (o.v::(cG o.T 1 0 []).map (·.2)) (EO (cG o.s.h 1 0 []) [])
def afD(φ:Fit)(o p:Out):List (Tm×Bool)->Bool|[]=>I|(t,b)::l=>(match sb n0 p.s.n φ.x t with|O u=>(match nA u o.s.x.pc with|O c=>c==b|G=>Z)||(lm.any λe=>dF e.t u&&(e.b==b)&&Bj o.s.x.pc e.hs)||(b&&TN qR [] o.s.x.pc u)||(match MG lm o.s.x.pc u with|O c=>c==b&&uf (ab0 o) u|G=>Z)|G=>Z)&&afD φ o p l
def afE(φ:Fit)(o p:Out):List (Nat×AV)->Bool|[]=>I|(i,u)::l=>(match o.T.get i with|O v=>uE (rC n0 p.s.n φ.f) (okQ E n0 φ o p) u v|G=>Z)&&afE φ o p l
def afF(o p:Out):Bool:=let φ:=afC n0 o p;ajR p.e o.e&&p.M.isEmpty&&o.M.isEmpty&&aF n0 p.s.n&&Kn o.s.x.gl p.s.x.gl&&(o.s.log.all λx=>aF n0 x||p.s.log.any (ae x))&&uE (rC n0 p.s.n φ.f) (okQ E n0 φ o p) p.v o.v&&afE E n0 φ o p (cG p.T 1 0 [])&&zD (alv E n0 φ o p) p.s.h 1 0&&(zD (λi _=>match aF (i+1) n0 with|I=>(p.s.h.get i).isSome||p.s.log.any (ae i)|Z=>I) o.s.h 1 0)&&afD lm n0 φ o p p.s.x.pc
end
def Fz(n0:Nat)(φ:Fit):List (Nat×bF)->List (Nat×Nat)|[]=>[]|(j,_)::l=>match aF (j+1) n0 with|I=>(j,j)::Fz n0 φ l|Z=>match φ.f.get j with|O i=>(j,i)::Fz n0 φ l|G=>Fz n0 φ l
def s_(P:aw)(lm:List fV)(n0:Nat)(p o:Out):Out:=let a:=ky P lm p.s.h p.v o.v o.s;let b:=xf P lm p.s.h (cG p.T 1 0 []) o.T a.2;let o1:Out:={o with v:=a.1,T:=b.1,s:=b.2};{o1 with s:=Z6 P lm p.s.h (Fz n0 (afC n0 o1 p) (cG p.s.h 1 0 [])) o1.s}
def rN(P:aw)(pr:Pr)(E:List VK)(lm:List fV)(n:Nat)(e:sR):Bool:=
 match eval P pr n (.call e.f e.args e.s)with
 |O outs=>outs.all λo=>match o.e with
  |.ret=>e.outs.any λp=>let o2:=s_ P pr.lm e.s.n p {o with T:=.e,M:=[]}
   Kn e.s.x.gl o2.s.x.gl&&afF E lm e.s.n o2 p
  |_=>Z
 |G=>Z
mutual
def xL:Tm->Bool|.c _=>I|.x _=>I|.bin _ _ a b=>xL a&&xL b|.conv _ a=>xL a|.f o l=>!oU o&&afG l
def afG:List Tm->Bool|[]=>I|t::l=>xL t&&afG l
end
mutual
def DD:AV->Bool|.func _ a b=>Dv a&&Dv b|.iface _ v=>DD v|.agg l=>Dv l|.il l=>Dv l|.sym _ t=>xL t|.iI t=>xL t|.iJ t=>xL t|.deep _ t=>xL t|.mn _ _ t i _=>xL t&&xL i|.bK _ t _=>xL t|.jM _ _ _ t _=>xL t|.gZ _ _ _ t u _=>xL t&&xL u|_=>I
def Dv:List AV->Bool|[]=>I|v::l=>DD v&&Dv l
end
def noO:bF->Bool|.cells l _ _=>Dv l|.map es _=>es.all λe=>DD e.1&&DD e.2.1|.loop _ _ T _ _ _ _=>zD (λ_ v=>DD v) T 1 0|.row t _ _=>xL t|.dmap _ _ t p=>xL t&&p.isNone|.lh t _ _ i l=>xL t&&xL i&&Dv l|.g_ _ _ t c B S l=>xL t&&xL c&&xL B&&xL S&&l.isNone|.jk _ c B=>xL c&&xL B|_=>I
def ajS(T:Tr AV):Bool:=zD (λ_ v=>DD v) T 1 0
def afH(s:St):Bool:=zD (λ_ o=>noO o) s.h 1 0&&(s.x.gl.all λp=>Dv p.2)&&s.x.pc.all λp=>xL p.1
def lim:Tm:=.f 50 []
def eLt(m:Tm)(e:lk):lk:={e with s:={e.s with x:=⟨e.s.x.gl,(.bin .lss .i64 m lim,I)::(.bin .leq .i64 (.c 0) m,I)::e.s.x.pc⟩}}
def alw(m:Tm)(s:St):St:={s with x:=⟨s.x.gl,(.bin .leq .i64 m lim,I)::s.x.pc⟩}
def numsOf(T:Tr AV)(s:St):List Tm:=qT ((cG T 1 0 []).map (·.2)) (EO (cG s.h 1 0 []) [])
def tw(P:aw)(pr:Pr)(E:List VK)(lm:List fV)(m:Tm)(n:Nat)(e:lk):Bool:=
 afH e.s&&ajS e.T&&xL m&&(e.outs.all λo=>afH o.s&&ajS o.T)&&uf (numsOf e.T e.s) m&&(match oG P e.z.1 e.z.2 with
  |O (.loop c)=>match eval P {pr with lt:=eLt m e::pr.lt} n (.code (O e.z) e.r (.loop c) e.T e.N [] (alw m e.s))with
   |O outs=>outs.all λo=>e.outs.any λp=>let o2:=s_ P pr.lm e.s.n p {o with v:=jN}
    Kn e.s.x.gl o2.s.x.gl&&afF E lm e.s.n o2 p
   |G=>Z
  |_=>Z)
end
def rdG:List Nat->Nat->Nat->Nat->Nat×Nat|[],k,_,q=>(k,q)|f::t,k,r,q=>match aF (r+1) f with|I=>(k,f*q+r)|Z=>rdG t (k+1) (r - f) q
def rd(t:Nat)(z:Nat×Nat):Nat×Nat×Nat:=match rdG (tbs t) 0 (z.1%128) (z.1/128)with|(k,n)=>(k,n,z.2)
def nmR(t:Nat):Nat->Nat×Nat->Nat×Nat×Nat|0,z=>(0,z)|n+1,z=>match rd t z with|(k,z)=>match aF 15 k with|Z=>(k,z)|I=>match nmR t n z with|(a,z)=>match nmR t n z with|(b,z)=>(15+a*15+b,z)
def nm(t:Nat):Nat×Nat->Nat×Nat×Nat:=nmR t 40
def lsR{α:Type}(p:Nat×Nat->α×Nat×Nat):Nat->Nat×Nat->List α×Nat×Nat|0,z=>([],z)|n+1,z=>match p z with|(x,z)=>match lsR p n z with|(l,z)=>(x::l,z)
def uy{α:Type}(p:Nat×Nat->α×Nat×Nat)(z:Nat×Nat):List α×Nat×Nat:=match nm 0 z with|(n,z)=>lsR p n z
def iz(z:Nat×Nat):Int×Nat×Nat:=match rd 1 z with|(0,z)=>(match nm 2 z with|(n,z)=>(.ofNat n,z))|(_,z)=>match nm 2 z with|(n,z)=>(.negSucc n,z)
def atm(z:Nat×Nat):Nat×Nat×Nat:=match rd 3 z with|(0,n,l)=>(l+1,n,l+1)|(1,n,l)=>(l,n,l)|(2,z)=>(match nm 4 z with|(a,n,_)=>(a,n,a))|(_,z)=>match nm 4 z with|(a,n,_)=>(1000000+a,n,1000000+a)
def kdz(z:Nat×Nat):bu×Nat×Nat:=match rd 5 z with|(k,z)=>(match k with|0=>.i8|1=>.i16|2=>.i32|3=>.i64|4=>.u8|5=>.u16|6=>.u32|_=>.u64,z)
def opz(z:Nat×Nat):BinOp×Nat×Nat:=match rd 6 z with|(k,z)=>(match k with|0=>.add|1=>.sub|2=>.mul|3=>.quo|4=>.rem|5=>.eql|6=>.neq|7=>.lss|8=>.leq|9=>.gtr|_=>.geq,z)
def pz{α β:Type}(p:Nat×Nat->α×Nat×Nat)(q:Nat×Nat->β×Nat×Nat)(z:Nat×Nat):(α×β)×Nat×Nat:=match p z with|(a,z)=>match q z with|(b,z)=>((a,b),z)
def mz{α β:Type}(p:Nat×Nat->α×Nat×Nat)(f:α->β)(z:Nat×Nat):β×Nat×Nat:=match p z with|(a,z)=>(f a,z)
def OT:Nat->Nat×Nat->Tm×Nat×Nat|0,z=>(.c 0,z)|n+1,z=>match rd 7 z with|(0,z)=>mz atm .x z|(1,z)=>mz atm sy z|(2,z)=>mz iz .c z|(3,z)=>mz (pz (nm 8) (uy (OT n))) (λp=>.f p.1 p.2) z|(4,z)=>mz (pz opz (pz kdz (pz (OT n) (OT n)))) (λp=>.bin p.1 p.2.1 p.2.2.1 p.2.2.2) z|(_,z)=>mz (pz kdz (OT n)) (λp=>.conv p.1 p.2) z
def Sy:Nat->Nat×Nat->AV×Nat×Nat|0,z=>(.kv,z)|n+1,z=>match rd 9 z with|(0,z)=>mz (pz kdz (OT 9)) (λp=>.sym p.1 p.2) z|(1,z)=>mz (OT 9) .iI z|(2,z)=>mz (pz (nm 10) (pz atm atm)) (λp=>dpr p.1 p.2.2 p.2.1) z|(3,z)=>mz (pz (nm 11) (pz atm (nm 11))) (λp=>sls p.1 p.2.1 p.2.2) z|(4,z)=>mz (uy (Sy n)) .agg z|(5,z)=>mz (uy (Sy n)) .il z|(6,z)=>mz (pz (nm 11) (nm 11)) (λp=>.ptr p.1 p.2) z|(7,z)=>(.kv,z)|(8,z)=>(.cQ,z)|(9,z)=>mz (pz kdz iz) (λp=>.int p.1 p.2) z|(10,z)=>mz (pz (nm 8) (pz (uy (Sy n)) (uy (Sy n)))) (λp=>.func (.func p.1) p.2.1 p.2.2) z|(11,z)=>mz (nm 11) .map z|(12,z)=>mz (pz (nm 10) (OT 9)) (λp=>.deep p.1 p.2) z|(13,z)=>mz (nm 11) (λk=>.bool (ae k 1)) z|(14,z)=>mz (pz (nm 11) (pz (OT 9) (nm 11))) (λp=>.bK p.1 p.2.1 (.k p.2.2)) z|(15,z)=>mz (pz (nm 11) (pz (nm 11) (pz (nm 11) (nm 11)))) (λp=>.slice p.1 p.2.1 p.2.2.1 (.k p.2.2.2)) z|(16,z)=>(.iq,z)|(17,z)=>(.lf,z)|(18,z)=>mz (pz (nm 8) (pz (uy (Sy n)) (uy (Sy n)))) (λp=>.func (.yield p.1) p.2.1 p.2.2) z|(19,z)=>mz (pz (nm 11) (pz (OT 9) (nm 11))) (λp=>.bK p.1 p.2.1 (.u p.2.2 0)) z|(_,z)=>mz (pz (nm 11) (pz (nm 11) (pz (nm 11) (pz (nm 11) (nm 11))))) (λp=>.slice p.1 p.2.1 p.2.2.1 (.u p.2.2.2.1 p.2.2.2.2)) z
def onz(z:Nat×Nat):Option Nat×Nat×Nat:=mz (nm 11) (λk=>match k with|0=>G|k+1=>O k) z
def tpz(z:Nat×Nat):Tr AV×Nat×Nat:=mz (uy (pz (nm 11) (Sy 9))) tp z
def aoz(z:Nat×Nat):bF×Nat×Nat:=match rd 12 z with|(0,z)=>mz (pz (uy (Sy 9)) (pz (nm 10) onz)) (λp=>.cells p.1 p.2.1 p.2.2) z|(1,z)=>mz (pz (nm 10) (pz atm (pz atm (nm 11)))) (λp=>rwo p.1 p.2.2.1 p.2.1 p.2.2.2) z|(2,z)=>mz (pz (nm 10) (pz atm (nm 11))) (λp=>rwf p.1 p.2.1 p.2.2) z|(3,z)=>mz (pz (nm 10) (pz (nm 10) (OT 9))) (λp=>.dmap p.1 p.2.1 p.2.2 G) z|(4,z)=>mz (pz (OT 9) (pz (nm 10) onz)) (λp=>.row p.1 p.2.1 p.2.2) z|(5,z)=>mz (pz (OT 9) (pz (nm 10) (pz onz (pz (OT 9) (uy (Sy 9)))))) (λp=>.lh p.1 p.2.1 p.2.2.1 p.2.2.2.1 p.2.2.2.2) z|(6,z)=>(.oR,z)|(7,z)=>mz (pz tpz (pz (nm 10) (pz (uy (nm 10)) (pz (nm 11) (pz (nm 8) (uy (mz (nm 11) (ae 1)))))))) (λp=>.loop .ready G p.1 p.2.1 p.2.2.1 p.2.2.2.1 (p.2.2.2.2.1,p.2.2.2.2.2)) z|(_,z)=>mz (pz (uy (pz (Sy 9) (pz (Sy 9) (nm 11)))) (nm 11)) (λp=>.map p.1 p.2) z
def hpz(z:Nat×Nat):Tr bF×Nat×Nat:=mz (uy (pz (nm 11) aoz)) hp z
def exz(z:Nat×Nat):Ex×Nat×Nat:=match rd 13 z with|(0,z)=>(.ret,z)|(1,z)=>mz (nm 11) .exit z|(2,z)=>(.norm,z)|(_,z)=>(.VQ,z)
def ouz(k n:Nat)(A:List Tm)(h:Tr bF)(z:Nat×Nat):Out×Nat×Nat:=
 mz (pz exz (pz (Sy 9) (pz tpz (pz (uy (nm 11)) (pz (λz=>match rd 14 z with
  |(0,z)=>(h,z)
  |(_,z)=>hpz z) (pz (nm 11) (pz (uy (nm 11)) (uy (OT 9)))))))))
  (λp=>⟨p.1,p.2.1,p.2.2.1,p.2.2.2.1,⟨p.2.2.2.2.1,n+p.2.2.2.2.2.1,p.2.2.2.2.2.2.1,⟨[],[ftT k (A++p.2.2.2.2.2.2.2)]⟩⟩⟩) z
def stz(k:Nat)(z:Nat×Nat):(St×List Out)×Nat×Nat:=match pz hpz (pz (nm 11) (pz (uy (OT 9)) (uy (pz (OT 9) (mz (nm 11) (ae 1)))))) z with|((h,n,A,x),z)=>match uy (ouz k n A h) z with|(os,z)=>((⟨h,n,[],⟨[],sfT k A::x⟩⟩,os),z)
def dE(k N:Nat):sR:=(mz (pz (nm 8) (pz (uy (Sy 9)) (stz k))) (λp=>⟨p.1,p.2.1,p.2.2.1,p.2.2.2⟩) (N,0)).1
def dL(k N:Nat):lk:=(mz (pz (nm 8) (pz (uy (mz (nm 11) (ae 1))) (pz onz (pz (nm 10) (pz tpz (stz k)))))) (λp=>⟨(p.1,p.2.1),p.2.2.1,p.2.2.2.1,p.2.2.2.2.1,p.2.2.2.2.2.1,p.2.2.2.2.2.2⟩) (N,0)).1
def sgz(z:Nat×Nat):St×Nat×Nat:=mz (pz (uy (pz (nm 11) λz=>match rd 14 z with|(0,z)=>mz aoz O z|(_,z)=>(G,z))) (pz (nm 11) (uy (nm 11)))) (λp=>⟨p.1.foldl (λh q=>h.put q.1 q.2) .e,p.2.1,p.2.2,⟨[],[]⟩⟩) z
def dH(N:Nat):sR:=(mz (pz (nm 8) (pz (uy (Sy 9)) (pz sgz (uy (mz (pz exz (pz (Sy 9) (pz tpz (pz (uy (nm 11)) sgz)))) (λp=>⟨p.1,p.2.1,p.2.2.1,p.2.2.2.1,p.2.2.2.2⟩)))))) (λp=>⟨p.1,p.2.1,p.2.2.1,p.2.2.2⟩) (N,0)).1
def tyz(ys:List Ty):Nat->Nat×Nat->Ty×Nat×Nat|0,z=>(.any,z)|n+1,z=>match rd 15 z with|(0,z)=>(.num .u32,z)|(1,z)=>(.num .u8,z)|(2,z)=>(.num .u64,z)|(3,z)=>mz (nm 10) (λi=>(ys[i]?).getD .any) z|(4,z)=>(.int,z)|(5,z)=>(.bool,z)|(6,z)=>mz kdz .num z|(7,z)=>(.MB,z)|(8,z)=>mz (tyz ys n) .row z|(9,z)=>mz (uy (tyz ys n)) .il z|(10,z)=>mz (pz (tyz ys n) (tyz ys n)) (λp=>.map p.1 p.2) z|(11,z)=>(.bot,z)|(12,z)=>(.str,z)|(_,z)=>(.any,z)
def lnz(z:Nat×Nat):f_×Nat×Nat:=mz (pz iz (uy (pz iz (pz (nm 11) (OT 9))))) (λp=>⟨p.1,p.2⟩) z
def dA(ys:List Ty)(N:Nat):lJ:=(mz (pz (uy (tyz ys 9)) (pz (uy lnz) (pz lnz (uy (pz (nm 11) (pz (uy (tyz ys 9)) (uy lnz))))))) (λp=>⟨p.1,p.2.1,p.2.2.1,p.2.2.2⟩) (N,0)).1
def crz:Nat->Nat×Nat->Xv×Nat×Nat|0,z=>(.o,z)|n+1,z=>match rd 16 z with|(0,z)=>(.d,z)|(1,z)=>(.o,z)|(2,z)=>mz (pz (nm 17) (crz n)) (λp=>.u p.1 1 p.2) z|(3,z)=>mz (pz (nm 11) (pz (nm 11) (uy (crz n)))) (λp=>.a p.1 p.2.1 p.2.2) z|(4,z)=>mz (pz (nm 17) (pz (nm 2) (crz n))) (λp=>.u p.1 p.2.1 p.2.2) z|(5,z)=>mz (crz n) .n z|(6,z)=>mz (pz (nm 2) (crz n)) (λp=>.s p.1 p.2) z|(_,z)=>mz lnz .g z
def dC(N:Nat):List Xv:=(uy (crz 40) (N,0)).1
def xh(T:Tr lJ):Nat->List Nat->Bool|_,[]=>I|a,N::l=>(match qR.get a,T.get a with|O F,O A=>SS T F A (dC N)|_,_=>Z)&&xh T (a+1) l
theorem Xm{T:Tr lJ}:∀{l:List Nat}{a:Nat},xh T a l=I->∀k,a<=k->k<a+l.length->∃F A σ,qR.get k=O F/\T.get k=O A/\SS T F A σ=I|[],a,_,k,h1,h2=>absurd h1 (by simp only[List.length_nil]at h2;omega)|N::l,a,h,k,h1,h2=>by simp[xh]at h;rcases Nat.eq_or_lt_of_le h1 with rfl|h3;have⟨h,_⟩:=h;split at h;rename_i F A b c;exact⟨F,A,_,b,c,h⟩;cases h;exact Xm h.2 k h3 (by simp at h2;omega)
end Go.Proofs.YtinknfobdleeeaaGreat
