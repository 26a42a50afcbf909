/- Part of the proof of a law: no condition. -/
import Derived.Test.YtinknfobdleeeaaGreatRb
import Derived.Lib.ConvBytes
import Derived.IntWalk
import Derived.TacticsIn
import Derived.RangeFuncLeaves
import Derived.RangeFuncNested
import Derived.LoopNIn
set_option linter.all false
open Nat renaming eq_of_beq_eq_true→an,beq→ae,le_refl→ba,ne_of_beq_eq_false→fQ,le_of_ble_eq_true→bz,ble→aF,add_mul→df,le_trans→dU,ble_eq_true_of_le→fe,zero_le→dy,mul_le_mul_right→cV,zero_add→ew,one_mul→fG,min_eq_left→ju,lt_of_lt_of_le→jU,lt_or_ge→eu
open Option.some renaming injEq→aG,inj→bB
open List renaming mem_cons_of_mem→aS,mem_cons_self→aU,mem_singleton→aR,mem_of_getElem?→bE,all_eq_true→cm,mem_map→cA,getElem?_eq_some_iff→cj,map_cons→eJ,getElem?_append_left→dw,getElem?_append_right→eh,getElem?_map→dg,ext_getElem?→ig,getElem?_eq_getElem→aZ,length_take→bD,length_append→cL,length_drop→dZ,length_eq_zero_iff→jv,getElem?_drop→fw,getElem?_take→eT,append_assoc→i7,take_append_of_le_length→ie,eq_nil_of_length_eq_zero→lF,mem_iff_getElem?→jV,getElem?_toArray→js,getElem_of_mem→lE,length_map→fR,mem_cons→aO,length_cons→ij,replicate→fF,length_replicate→D1,nodup_cons→mT,mem_append→dx,map_congr_left→kF,take_of_length_le→fJ,nil_append→fT,append_nil→i_,mem_append_right→i6
open Array renaming toList_modify→wx,toList_push→Af,getElem?_toList→fI,range→tu,length_toList→nZ
open Bool renaming and_eq_true→ay,false_eq_true→kG,or_eq_true→bW
open Option renaming map_eq_some_iff→bZ,bind_eq_some_iff→kI,isSome_iff_exists→fu
open Int renaming natCast_nonneg→bO,ofNat→cq,toNat_natCast→ei,eq_ofNat_of_zero_le→gR
open Go renaming Value→aa,TypeId→ag,World→aj,Program→aw,IntKind→bu,MapEntry→bQ,Operand→fh,Oper→aY,Builtin→akj,Ending→tf,Func→D2
namespace Go.Proofs.YtinknfobdleeeaaGreat
set_option maxRecDepth 100000
open Option renaming some→O,none→G
open Bool renaming true→I,false→Z
section
open RowKit
variable{k m v:AV}{g i:Nat}{s':St}{t:ag}{K M V:aa}
theorem dT{P:aw}{w:aj}{o:Obj}(h:w.heap[g]? =O o)(d:∀a b c,o≠.cells a b c):(getObj g).run P w=.ok o w:=by simp_all[getObj,Sem.run]
theorem gL{P:aw}{w:aj}{o:Obj}(d:Obj)(h:w.heap[g]? =O o)(e:∀a b c,o≠.cells a b c):(setObj g d).run P w=.ok () (w.putObj g d):=by unfold setObj;cases o<;>first|(exact absurd rfl (e _ _ _))|(simp only[Sem.run,h];rfl)
section
variable{P:aw}{w0 w:aj}{A:en}{ν:Nm}{s:St}
theorem aL.Ds(h:aL P w0 A ν s w){es:List (AV×AV×Nat)}{c:Nat}(b:s.h.get i=O (.map es c))(d:ν i=O g):∃arr,w.heap[g]? =O (.map arr c)/\cJ (oD ν) es arr.toList:=by have⟨obj,e,a⟩:=h.at_ b d;(cases obj<;>simp only[bN]at a<;>try exact a.elim);simp_all
theorem aL.putObj(h:aL P w0 A ν s w){o0 o:bF}{obj:Obj}(a:s.h.get i=O o0)(b:ν i=O g)(e:bN P ν o obj)(d:x6 o0=I:=by rfl):aL P w0 A ν (lK s i o) (w.putObj g obj):=h.write a b e (Dd.obj obj (h.lt a b)) (λ_ c=>aS _ c) (λ_ _=>aU) (h.nz a b d)
theorem tZ(d:den ν k=O K)(c:den ν v=O V):∀{es:List (AV×AV×Nat)}{ES:List bQ}(j:Nat),cJ (oD ν) es ES->cJ (oD ν) (Al k v es j) (ES.modify j λe=>{e with key:=K,val:=V})|[],[],j,_=>by cases j<;>exact trivial|(g,f,b)::es,m::ES,0,h=>⟨⟨d,c,h.1.2.2⟩,h.2⟩|e::es,m::ES,j+1,h=>⟨h.1,tZ d c j h.2⟩|[],_::_,_,a=>a.elim|_::_,[],_,a=>a.elim
theorem wN{old:aa}(h:old=K)(a:E0 K=I):(Instr.keyThatStays old K).run P w=.ok K w:=by simp_all[Instr.keyThatStays,sameBits_self]
theorem cJ.push{es:List (AV×AV×Nat)}{arr:Array bQ}(h:cJ (oD ν) es arr.toList){e:AV×AV×Nat}{m:bQ}(a:oD ν e m):cJ (oD ν) (es++[e]) (arr.push m).toList:=by rw[Af];exact cJ.append h ⟨a,trivial⟩
theorem CM(h:aL P w0 A ν s w)(d:Nx P s t m k v=O s')(H:den ν m=O M)(p:den ν k=O K)(E:den ν v=O V):∃w',aL P w0 A ν s' w'/\(Instr.mapUpdate t M K V).run P w=.ok () w':=by
 unfold Nx at d
 split at d
 ·rename_i F e i Gz
  obtain⟨g,B,rfl⟩:=jr H
  split at d
  ·rename_i es c C z
   have⟨arr,x,a⟩:=h.Ds z B
   have Iz:=λb=>run_checkKey (P:=P) (w:=w) (ν:=ν) (b:=b) (n:=9998) C p
   have q:(Instr.mapUpdate t (.map (O g)) K V).run P w=((Instr.findKey F K arr.toList).bind λr=>match r with
    |O (i,_)=>(Instr.keyThatStays (((arr[i]?).map (·.key)).getD K) K).bind λkey=>setObj g (.map (arr.modify i λe=>{e with key,val:=V}) c)
    |G=>setObj g (.map (arr.push {key:=K,val:=V,born:=c}) (c+1))).run P w:=by
    simp[Instr.mapUpdate,bind]
    rw[run_bind,run_underlying Gz]
    simp
    rw[run_bind,dT x (by simp)]
    grind[run_bind]
   rw[q]
   split at d
   ·rename_i j L b l
    simp at d
    subst d
    have⟨R,u,D⟩:=run_findKey (P:=P) (w:=w) C p a l
    obtain⟨me,_,y,rfl,_,_,f⟩:=u
    have⟨N,J⟩:=f K p
    refine⟨_,h.putObj z B (obj:=.map (arr.modify j λe=>{e with key:=K,val:=V}) c) ⟨rfl,?_⟩,?_⟩
    ·rw[wx]
     exact tZ p E j a
    ·rw[run_bind,D]
     simp
     have:((arr[j]?).map (·.key)).getD K=K:=by
      rw[Nat.sub_zero]at y
      simp_all
     rw[run_bind,wN this J]
     exact gL _ x (by simp)
   ·rename_i l
    simp at d
    subst d
    have⟨R,u,D⟩:=run_findKey (P:=P) (w:=w) C p a l
    subst u
    refine⟨_,h.putObj z B (obj:=.map (arr.push {key:=K,val:=V,born:=c}) _) ⟨rfl,cJ.push a ⟨p,E,rfl⟩⟩,?_⟩
    rw[run_bind,D]
    exact gL _ x (by simp)
   ·cases d
  ·cases d
 ·cases d
theorem Uz(h:aL P w0 A ν s w)(d:Tj P s t m k=O (v,s'))(T:den ν m=O M)(q:den ν k=O K):lN P w0 A ν s' v ((Instr.mapEntry t M K).run P w):=by
 unfold Tj at d
 split at d
 ·rename_i J e i Q
  obtain⟨g,D,rfl⟩:=jr T
  split at d
  ·rename_i es c z E C Oz
   have⟨arr,S,a⟩:=h.Ds C D
   have⟨Zz,Gz,V⟩:=BK (P:=P) (ν:=ν) (w:=w) Oz
   have U:=λb=>run_checkKey (P:=P) (w:=w) (ν:=ν) (b:=b) (n:=9998) E q
   have u:(Instr.mapEntry t (.map (O g)) K).run P w=((Instr.findKey J K arr.toList).bind λr=>match r with
    |O (i,v)=>(Instr.keyThatStays (((arr[i]?).map (·.key)).getD K) K).bind λkey=>(setObj g (.map (arr.modify i λe=>{e with key}) c)).bind λ_=>pure (.tuple #[v,goInt (((arr[i]?).map (·.born)).getD 0)])
    |G=>(zeroValue e).bind λzero=>(setObj g (.map (arr.push {key:=K,val:=zero,born:=c}) (c+1))).bind λ_=>pure (.tuple #[zero,goInt c])).run P w:=by
    simp[Instr.mapEntry,bind]
    rw[run_bind,run_underlying Q]
    simp
    rw[run_bind,dT S (by simp)]
    grind[run_bind]
   rw[u]
   split at d
   ·rename_i j Iz b p
    obtain⟨rfl,rfl⟩:=d
    have⟨R,B,H⟩:=run_findKey (P:=P) (w:=w) E q a p
    obtain⟨me,_,l,rfl,x,W,f⟩:=B
    have⟨Y,X⟩:=f K q
    rw[Nat.sub_zero]at l
    have F:arr[j]? =O me:=by simpa using l
    refine⟨ν,.tuple #[me.val,goInt b],_,Nm.le.refl _,h.putObj C D (obj:=.map (arr.modify j λe=>{e with key:=K}) c) ⟨rfl,?_⟩,by simp[den,bw,x,i64,goInt],?_⟩
    ·rw[wx]
     have:=tZ q x j a
     have e:∀(L:List bQ)(j:Nat),L[j]? =O me->(L.modify j λe=>{e with key:=K,val:=me.val})=(L.modify j λe=>{e with key:=K}):=λL=>by
      induction L with
      |nil=>intro j y;simp at y
      |cons m L N=>
       intro j y
       cases j with
       |zero=>simp at y;subst y;rfl
       |succ j=>simp only[List.modify_succ_cons];rw[N j (by simpa using y)]
     rw[e arr.toList j l]at this
     exact this
    simp_all[run_bind,wN,gL]
   ·rename_i p
    obtain⟨rfl,rfl⟩:=d
    have⟨R,B,H⟩:=run_findKey (P:=P) (w:=w) E q a p
    subst B
    refine⟨ν,.tuple #[Zz,goInt c],_,Nm.le.refl _,h.putObj C D (obj:=.map (arr.push {key:=K,val:=Zz,born:=c}) _) ⟨rfl,cJ.push a ⟨q,Gz,rfl⟩⟩,by simp[den,bw,Gz,i64,goInt],?_⟩
    rw[run_bind,H]
    simp_all[run_bind,gL]
   ·cases d
  ·cases d
 ·cases d
theorem CN{b:Nat}(f:den ν v=O V):∀{es a:List (AV×AV×Nat)}{ES:List bQ},cJ (oD ν) es ES->DF v b es=O a->∃j,ES.findIdx? (λe=>(e.born:Int)==(b:Int))=O j/\cJ (oD ν) a (ES.modify j λe=>{e with val:=V})|[],_,_,_,h=>by cases h|(k,i,g)::es,a,[],c,_=>c.elim|(k,i,g)::es,a,m::ES,c,h=>by simp[DF]at h;have o:g=m.born:=c.1.2.2;split at h;rename_i d;have d:=an d;simp at h;subst h;refine⟨0,?_,⟨c.1.1,f,c.1.2.2⟩,c.2⟩;rw[List.findIdx?_cons];simp_all;rename_i d;have d:=fQ d;split at h;rename_i r l;simp at h;subst h;have⟨j,p,n⟩:=CN f c.2 l;refine⟨j+1,?_,c.1,n⟩;rw[List.findIdx?_cons];grind;cases h
theorem Dw(h:aL P w0 A ν s w){b:AV}{B:aa}(a:vD s m b v=O s')(D:den ν m=O M)(x:den ν b=O B)(y:den ν v=O V):∃w',aL P w0 A ν s' w'/\(Instr.entryStore t M B V).run P w=.ok () w':=by unfold vD at a;split at a;rename_i i n C;obtain⟨g,u,rfl⟩:=jr D;obtain⟨F,rfl⟩:=iP C;simp only[den,aG]at x;subst x;split at a;rename_i es c r;have⟨arr,q,d⟩:=h.Ds r u;split at a;rename_i k z;simp at a;subst a;have⟨j,Gz,E⟩:=CN y d z;(have f:arr.findIdx? (λe=>(e.born:Int)==(n:Int))=O j:=by have:=List.findIdx?_toArray (p:=λe:bQ=>(e.born:Int)==(n:Int)) (l:=arr.toList);rw[Array.toArray_toList]at this;simp_all);refine⟨_,h.putObj r u (o:=.map k c) (obj:=.map (arr.modify j λe=>{e with val:=V}) c) ⟨rfl,by rw[wx];exact E⟩,?_⟩;simp only[Instr.entryStore,bind];rw[run_bind,dT q (by simp)];simp only;rw[run_bind];show(match arr.findIdx? (λe=>(e.born:Int)==(n:Int))with|O i=>_|G=>_:Sem Unit).run P w=_;rw[f];exact gL _ q (by simp);cases a;cases a;cases a
theorem aL.Wv(h:aL P w0 A ν s w){m:Option Nat}{b a:Nat}{seen:List Nat}(f:s.h.get i=O (.iter m b seen a))(j:ν i=O g):∃d c,w.heap[g]? =O (.mapIter d b c a)/\ajC ν m d/\c.toList=seen:=by have⟨obj,k,e⟩:=h.at_ f j;(cases obj<;>simp only[bN]at e<;>try exact e.elim);grind
theorem cJ.filter{e d:Type}{R:e->d->Prop}{p:e->Bool}{q:d->Bool}(c:∀a b,R a b->p a=q b):∀{l:List e}{m:List d},cJ R l m->cJ R (l.filter p) (m.filter q)|[],[],_=>trivial|a::l,b::m,h=>by rw[List.filter_cons,List.filter_cons,c a b h.1];split;exact⟨h.1,cJ.filter c h.2⟩;exact cJ.filter c h.2|[],_::_,f=>f.elim|_::_,[],f=>f.elim
theorem cJ.all{e d:Type}{R:e->d->Prop}{p:e->Bool}{q:d->Bool}(c:∀a b,R a b->p a=q b):∀{l:List e}{m:List d},cJ R l m->l.all p=m.all q|[],[],_=>rfl|a::l,b::m,h=>by rw[List.all_cons,List.all_cons,c a b h.1,cJ.all c h.2]|[],_::_,f=>f.elim|_::_,[],f=>f.elim
theorem any_beq(l:List Nat)(b:Nat):l.any (ae b)=l.contains b:=by induction l with|nil=>rfl|cons x l a=>rw[List.any_cons,List.contains_cons,a];congr 1;rw[Bool.eq_iff_iff];simp
theorem UA(h:aL P w0 A ν s w){x:AV}{X:aa}(a:Tk P s t x=O (v,s'))(d:den ν x=O X):lN P w0 A ν s' v ((Instr.range t X).run P w):=by have b:=h.top s.n (ba _);unfold Tk at a;split at a;rename_i l e m;obtain⟨rfl,rfl⟩:=a;simp[den]at d;subst d;have f:=h.alloc (n':=s.n+1) (o:=.iter G 0 [] 0) (obj:=.mapIter G 0 #[] 0) b (by omega) (by omega) ⟨rfl,rfl,rfl,rfl⟩;refine⟨_,.pointer (O ⟨w.heap.size,0,G⟩),_,Nm.fP b _,f,by simp[den,Nm.cx],?_⟩;simp_all[Instr.range,run_underlying];rename_i l e i m;split at a;rename_i es c p;obtain⟨rfl,rfl⟩:=a;obtain⟨g,j,rfl⟩:=jr d;have⟨arr,q,k⟩:=h.Ds p j;have f:=h.alloc (n':=s.n+1) (o:=.iter (O i) c [] c) (obj:=.mapIter (O g) c #[] c) b (by omega) (by omega) ⟨⟨g,Nm.fP b _ _ _ j,rfl⟩,rfl,rfl,rfl⟩;refine⟨_,.pointer (O ⟨w.heap.size,0,G⟩),_,Nm.fP b _,f,by simp[den,Nm.cx],?_⟩;simp_all[Instr.range,run_underlying,dT];cases a;cases a
end
end
section
open RowKit
theorem Qg:∀l:List Nat,VU l=l.getLast?|[]=>rfl|[x]=>rfl|x::y::l=>by show VU (y::l)=_;rw[Qg (y::l)];rfl
section
variable{P:aw}{w0 w:aj}{A:en}{ν:Nm}{s:St}
theorem Yu (h:aL P w0 A ν s w) {it:AV} {IT:aa} {l:List (AV×St)} (k:aal s it=O l) (hi:den ν it=O IT) (ty:ag):∃p∈l,lN P w0 A ν p.2 p.1 ((Instr.next IT Z ty).run P w):=by
 unfold aal at k
 split at k
 ·rename_i i
  obtain⟨g,X,rfl⟩:=jT hi
  split at k
  ·rename_i c seen n u
   have⟨m',v,W,R,_⟩:=h.Wv u X
   subst R
   simp at k
   subst k
   refine⟨_,aR.2 rfl,ν,.tuple #[.bool Z],w,Nm.le.refl _,h,rfl,?_⟩
   simp only[Instr.next,bind]
   rw[run_bind,dT W (by simp)]
   rfl
  ·rename_i m c seen n u
   have⟨m',v,W,R,Gz⟩:=h.Wv u X
   obtain⟨T,M,rfl⟩:=R
   split at k
   ·rename_i es clock K
    have⟨arr,U,B⟩:=h.Ds K M
    split at k
    ·cases k
    ·rename_i Zz
     simp only[ay]at Zz
     have Y:=an Zz.1
     subst Y
     have E:∀x∈arr.toList,x.born<clock:=λx Q=>by
      have:(arr.toList.all λm=>aF (m.born+1) clock)=I:=by
       rw[<-cJ.all (p:=λe:AV×AV×Nat=>aF (e.2.2+1) clock) (λa b t=>by rw[t.2.2]) B]
       exact Zz.2
      have:=cm.1 this x Q
      exact bz this
     have D:(!v.isEmpty&& !arr.isEmpty&&arr.all λx=>decide (x.born>=clock))=Z:=by
      cases S:arr.toList with
      |nil=>
       simp_all
      |cons x L=>
       have Q:=E x (by rw[S];simp)
       grind
     have C:=cJ.filter (p:=λe:AV×AV×Nat=> !seen.any (ae e.2.2)) (q:=λe:bQ=> !v.contains e.born) (λa b t=>by
      rw[any_beq,t.2.2,<-Gz,List.contains_eq_mem];grind) B
     have z:(Instr.next (.pointer (O ⟨g,0,G⟩)) Z ty).run P w=(Sem.run P (do
      let left:=arr.filter λe:bQ=> !v.contains e.born
      let old:=left.filter λe:bQ=>decide (e.born<c)
      let new:=left.filter λe:bQ=>decide (e.born>=c)
      let f:=(if old.isEmpty then #[G]else #[])++(old++new).map O
      match f[<-choose (.mapNext f.size)]? with
      |O (O e)=>
       setObj g (.mapIter (O T) c (v.push e.born) clock)
       pure (.tuple #[.bool I,e.key,e.val])
      |O G=>pure (.tuple #[.bool Z])
      |G=>stuck "Next: no such candidate") w):=by
      simp only[Instr.next,bind]
      rw[run_bind,dT W (by simp)]
      simp only
      rw[run_bind,dT U (by simp)]
      simp only[D]
      rfl
     rw[z]
     clear z
     have⟨L,S⟩:∃L,L=arr.filter λe:bQ=> !v.contains e.born:=⟨_,rfl⟩
     have d:cJ (oD ν) (es.filter λe:AV×AV×Nat=> !seen.any (ae e.2.2)) L.toList:=by
      rw[S,Array.toList_filter]
      exact C
     rw[<-S]
     simp only at k
     split at k
     ·rename_i J
      rw[J]at d
      have:L= #[]:=by
       cases hLL:L.toList with
       |nil=>simp_all
       |cons x y=>rw[hLL]at d;cases d
      subst this
      simp at k
      subst k
      refine⟨_,aR.2 rfl,ν,.tuple #[.bool Z],w,Nm.le.refl _,h.kill _,rfl,?_⟩
      simp[Question.forced]
     ·rename_i zk
      split at k
      ·rename_i Iz
       simp at k
       subst k
       have V:∀x∈L.toList,x.born<c:=λx Q=>by
        have:(L.toList.all λm=>aF (m.born+1) c)=I:=by
         rw[<-cJ.all (p:=λe:AV×AV×Nat=>aF (e.2.2+1) c) (λa b t=>by rw[t.2.2]) d]
         exact Iz
        exact bz (cm.1 this x Q)
       have f1:(L.filter λe:bQ=>decide (e.born<c))=L:=by
        rw[Array.filter_eq_self]
        simp_all
       have f2:(L.filter λe:bQ=>decide (e.born>=c))= #[]:=by
        rw[Array.filter_eq_empty_iff]
        simp_all
       have hlen:=d.length
       have H:0<L.size:=by
        grind
       have N:L.isEmpty=Z:=by
        rw[Array.isEmpty_eq_false_iff_exists_mem]
        simp_all
       have F:∀(Oz:aj),aL P w0 A ν s Oz->Oz.heap=w.heap->∀j,j<L.size->∃p∈((es.filter λe:AV×AV×Nat=> !seen.any (ae e.2.2)).map λe=>(AV.il [.bool I,e.1,e.2.1],lK s i (.iter (O m) c (seen++[e.2.2]) clock))),
        lN P w0 A ν p.2 p.1 ((match(L.map O)[j]? with
        |O (O e)=>(setObj g (.mapIter (O T) c (v.push e.born) clock)).bind λ_=>pure (.tuple #[.bool I,e.key,e.val])
        |O G=>pure (.tuple #[.bool Z])
        |G=>stuck "Next: no such candidate":Sem aa).run P Oz):=λOz h1 hw1 j hj=>by
        have⟨e,he,r⟩:=cJ.get d (i:=j) (b:=L[j]) (by simp)
        refine⟨_,cA.2 ⟨e,bE he,rfl⟩,ν,.tuple #[.bool I,L[j].key,L[j].val],_,Nm.le.refl _,h1.putObj u X (obj:= .mapIter _ c _ clock) ⟨⟨T,M,rfl⟩,rfl,by rw[Af,Gz,r.2.2],rfl⟩,?_,?_⟩
        ·simp[den,bw,r.1,r.2.1]
        ·have:(L.map O)[j]? =O (O L[j]):=by simp
         rw[this]
         simp_all[run_bind,gL]
       simp only[f1,f2,N,kG,if_false,Array.append_empty,Array.empty_append,Array.size_map,bind]
       rw[run_bind]
       simp only[choose,Sem.run]
       by_cases hf:Question.forced (.mapNext L.size)=I
       ·rw[if_pos hf]
        grind
       ·rw[if_neg hf]
        exact F _ h.drew rfl _ (Nat.mod_lt _ H)
      ·cases k
   ·cases k
  ·cases k
 ·cases k
theorem AU{b:Nat}{k v:AV}:∀{es:List (AV×AV×Nat)}{ES:List bQ},cJ (oD ν) es ES->Am b es=O (k,v)->∃m,ES.find? (λe=>e.born==b)=O m/\den ν k=O m.key/\den ν v=O m.val|[],_,_,h=>by cases h|(g,f,d)::es,[],a,_=>a.elim|(g,f,d)::es,m::ES,a,h=>by simp[Am]at h;have j:d=m.born:=a.1.2.2;split at h;rename_i c;have c:=an c;simp at h;obtain⟨rfl,rfl⟩:=h;refine⟨m,?_,a.1.1,a.1.2.1⟩;rw[List.find?_cons];simp_all;rename_i c;have c:=fQ c;have⟨i,n,l⟩:=AU a.2 h;simp_all
end
end
section
open RowKit
variable{v x y:AV}{op:BinOp}{b:Bool}{k:bu}{n:Nat}{t:ag}{X Y:aa}{w:aj}
section
variable{P:aw}{w0 w:aj}{A:en}{ν:Nm}{s:St}{T:Tr AV}{N:Nat}{a:Act}
theorem uni{R:aa->aj->Prop}(h:∀w:aj,∃V,den ν v=O V/\R V w):∃V,den ν v=O V/\∀w,R V w:=by have⟨V,a,_⟩:=h default;simp_all
theorem lD{x:Sem aa}{V:aa}{w':aj}(h:x.run P w=.ok V w'):(Sem.bind x λv=>Sem.pure (Next.value v)).run P w=.ok (.value V) w':=by rw[run_bind,h];rfl
theorem vu{x:Sem Unit}{w':aj}(h:x.run P w=.ok () w'):(Sem.bind x λ_=>Sem.pure Next.skip).run P w=.ok .skip w':=by rw[run_bind,h];rfl
theorem po(c:eG ν T N a.tmps){x:Option fh}{l:Option AV}(h:Dj T x=O l):lu ν l (x.map a.eval):=by cases x with|none=>simp[Dj]at h;subst h;rfl|some x=>simp[Dj]at h;split at h;rename_i v b;simp at h;subst h;exact⟨_,c.evA b,rfl⟩;cases h
theorem vv(b:eG ν T N a.tmps):∀{l:List fh}{vs:List AV},ji (evA T) l=O vs->bw ν vs=O (l.map a.eval)|[],vs,h=>by simp only[ji,aG]at h;subst h;rfl|x::l,vs,h=>by simp[ji]at h;split at h;cases h;rename_i y c;split at h;cases h;rename_i m d;simp at h;subst h;exact eQ (b.evA c) (vv b d)
theorem BP(c:eG ν T N a.tmps):∀{l:List (Nat×fh)}{ps:List (Nat×AV)},ji (λp:Nat×fh=>(evA T p.2).map λv=>(p.1,v)) l=O ps->cJ (ajD ν) ps (l.map λp=>(p.1,a.eval p.2))|[],vs,h=>by simp only[ji,aG]at h;subst h;trivial|x::l,vs,h=>by simp[ji]at h;split at h;cases h;rename_i y b;split at h;cases h;rename_i m e;simp at h;subst h;rw[bZ]at b;obtain⟨v,d,rfl⟩:=b;exact⟨⟨rfl,c.evA d⟩,BP c e⟩
theorem nP{x:Option AV}(h:x.bind se=O n):∃v,x=O v/\se v=O n:=by cases x with|none=>cases h|some v=>simp_all
theorem CO{x y:fh}(b:P.eqGuardType P.depth t=Z):(eqGuard op t x y X Y).run P w=.ok () w∨(X=.nilIface/\Y=.nilIface):=by by_cases a:X=.nilIface/\Y=.nilIface;exact .inr a;(·left;unfold eqGuard;(cases op<;>first|rfl|skip);all_goals (simp only[Bool.not_true,kG,if_false,bind];cases X<;>cases Y<;>first|rfl|(exact absurd ⟨rfl,rfl⟩ a)|(simp[program,Sem.bind,Sem.run,b])))
def N4:AV->Bool|.bool _=>I|.kv=>I|.ptr _ _=>I|.cQ=>I|.slice ..=>I|.lf=>I|.map _=>I|.func ..=>I|.iq=>I|.agg _=>I|_=>Z
def tr:aa->Bool|.bool _=>I|.pointer _=>I|.slice ..=>I|.map _=>I|.func ..=>I|.nilFunc=>I|.agg _=>I|_=>Z
theorem GQ{V:aa}(h:N4 v=I)(hv:den ν v=O V):tr V=I:=by (cases v<;>try(cases h;done));(all_goals simp only[den]at hv);(all_goals repeat' split at hv);all_goals first|(cases hv;done)|(injection hv with hv;subst hv;rfl)
theorem Yv{d:Nat}(h:KL P d t x y=O b):(∃k p a q,x=.int k p/\y=.int a q)∨(∃p q,x=.str p/\y=.str q)∨(N4 x=I/\N4 y=I):=by
 cases d with
 |zero=>cases h
 |succ d=>
  unfold KL at h
  split at h
  all_goals first
   |(cases h;done)
   |(split at h<;>first|(cases h;done)|exact .inr (.inr ⟨rfl,rfl⟩)|simp_all|simp_all)
theorem xF(c:tr X=I)(a:tr Y=I)(h:(Op.equal t X Y).run P w=.ok b w):(binOp .eql t X Y).run P w=.ok (.bool b) w/\(binOp .neq t X Y).run P w=.ok (.bool !b) w:=by (have e:(Sem.bind (Op.equal t X Y) λb=>Sem.pure (Value.bool b)).run P w=.ok (.bool b) w:=by rw[run_bind,h];rfl);(have d:(Sem.bind (Op.equal t X Y) λb=>Sem.pure (Value.bool !b)).run P w=.ok (.bool !b) w:=by rw[run_bind,h];rfl);(cases X<;>try(cases c;done));all_goals cases Y<;>first|(cases a;done)|exact⟨e,d⟩
theorem FP(h:Bc P op t x y=O v)(e:den ν x=O X)(d:den ν y=O Y)(g f:fh)(w:aj):∃V,den ν v=O V/\(Sem.bind (eqGuard op t g f X Y) λ_=>binOp op t X Y).run P w=.ok V w:=by unfold Bc at h;split at h;rename_i k p c q;simp[den]at e d;subst e d;(have A:(eqGuard op t g f (.int k p) (.int c q)).run P w=.ok () w:=by unfold eqGuard;cases op<;>rfl);have go:(∃V,den ν v=O V/\(binOp op t (.int k p) (.int c q)).run P w=.ok V w)->∃V,den ν v=O V/\(Sem.bind (eqGuard op t g f (.int k p) (.int c q)) λ_=>binOp op t (.int k p) (.int c q)).run P w=.ok V w:=λ⟨V,m,l⟩=>⟨V,m,by rw[run_bind,A];exact l⟩;apply go;split at h;exact Lo h (.inl rfl) t;exact Lo h (.inr rfl) t;split at h;rename_i z;have:=eV z;subst this;exact Ug h t;cases h;rename_i p q;simp[den]at e d;subst e d;have⟨V,m,l⟩:=Uh (P:=P) (w:=w) (ν:=ν) h t;simp_all[eqGuard,run_bind];rename_i r n;(have key:∀(b:Bool),(op=.eql∨op=.neq)->P.eqGuardType P.depth t=Z->KL P 12 t x y=O b->(Sem.bind (eqGuard op t g f X Y) λ_=>binOp op t X Y).run P w=.ok (.bool (if op=.eql then b else !b)) w:=λb u a j=>by have s:=sH (P:=P) (w:=w) 12 Op.maxDepth t x y b X Y (by decide) j e d;(have i:tr X=I/\tr Y=I:=by obtain⟨k,p,c,q,rfl,rfl⟩|⟨p,q,rfl,rfl⟩|⟨m,l⟩:=Yv j;cases (r k p c q rfl) rfl;cases (n p q rfl) rfl;exact⟨GQ m e,GQ l d⟩);(have o:¬(X=.nilIface/\Y=.nilIface):=λB=>by rw[B.1]at i;cases i.1);rw[run_bind,(CO (w:=w) (op:=op) (x:=g) (y:=f) a).resolve_right o];simp;have C:=xF (P:=P) (t:=t) i.1 i.2 s;grind);split at h;split at h;cases h;rename_i a;rw[bZ]at h;obtain⟨b,j,rfl⟩:=h;exact⟨_,rfl,by simp_all⟩;split at h;cases h;rename_i a;rw[bZ]at h;obtain⟨b,j,rfl⟩:=h;exact⟨_,rfl,by simp_all⟩;cases h
theorem Ax{a:Tm}(h:zy x=O (k,a))(b:den ν x=O X):∃n,ai ν a=O (.n n)/\X=.int k n:=by unfold zy at h;split at h;simp at h;obtain⟨rfl,rfl⟩:=h;simp[den]at b;exact⟨_,rfl,b.symm⟩;grind[pa];cases h
theorem alT(c:Bool):decide ((if c=I then(1:Int)else 0)≠0)=c:=by grind
theorem UB{a b:Tm}{x y:Int}(h:Tf op k a b=O v)(e:ai ν a=O (.n x))(d:ai ν b=O (.n y)):op≠.shl/\op≠.shr/\∃u,dX op k x y=O u/\∀V,den ν u=O V->den ν v=O V:=by cases op<;>simp only[Tf]at h<;>(try(cases h;done))<;>injection h with h<;>subst h<;>refine⟨by simp,by simp,_,rfl,λV c=> ?_⟩<;>simp only[den,aG]at c<;>subst c<;>simp only[den,ai,e,d,gH,dX];all_goals exact congrArg (λb=>O _) (alT _)
theorem adl(h:aiS P op t x y=O v)(i:den ν x=O X)(g:den ν y=O Y)(d c:fh)(w:aj):∃V,den ν v=O V/\(Sem.bind (eqGuard op t d c X Y) λ_=>binOp op t X Y).run P w=.ok V w:=by unfold aiS at h;split at h;rename_i u e;simp at h;subst h;exact FP e i g d c w;unfold akH at h;split at h;rename_i k a z b o l;split at h;rename_i j;have:=eV j;subst this;obtain⟨n,s,rfl⟩:=Ax o i;obtain⟨m,r,rfl⟩:=Ax l g;have⟨q,p,u,e,A⟩:=UB h s r;(have f:Bc P op t (.int k n) (.int k m)=O u:=by cases op<;>first|exact absurd rfl q|exact absurd rfl p|(simp only[Bc,j];exact e));have⟨V,C,B⟩:=FP (ν:=ν) f rfl rfl d c w;simp_all;cases h;cases h
def s8:aa->Bool|.pointer _=>I|.iface _ _=>I|.nilIface=>I|_=>Z
theorem On(c:s8 X=I)(a:s8 Y=I)(h:(Op.equal t X Y).run P w=.ok b w):(binOp .eql t X Y).run P w=.ok (.bool b) w/\(binOp .neq t X Y).run P w=.ok (.bool !b) w:=by (have e:(Sem.bind (Op.equal t X Y) λb=>Sem.pure (Value.bool b)).run P w=.ok (.bool b) w:=by rw[run_bind,h];rfl);(have d:(Sem.bind (Op.equal t X Y) λb=>Sem.pure (Value.bool !b)).run P w=.ok (.bool !b) w:=by rw[run_bind,h];rfl);(cases X<;>try(cases c;done));all_goals cases Y<;>first|(cases a;done)|exact⟨e,d⟩
theorem Dx{x y:fh}(a:s8 X=I)(b:X=.nilIface->Y=.nilIface->(isConst x||isConst y)=I):(eqGuard op t x y X Y).run P w=.ok () w:=by unfold eqGuard;(cases op<;>first|rfl|skip);all_goals ((cases X<;>try(cases a;done));(all_goals cases Y<;>first|rfl|skip);have:=b rfl rfl;cases x<;>cases y<;>first|rfl|(cases this))
theorem adm(g m n:Nat):((⟨g,m,G⟩:Addr)==⟨g,n,G⟩)=ae m n:=by grind[an,fQ]
theorem Rx(h:ptrEq P t x y=O b)(k:den ν x=O X)(f:den ν y=O Y):s8 X=I/\s8 Y=I/\X≠.nilIface/\(Op.equal t X Y).run P w=.ok b w:=by unfold ptrEq at h;split at h;rename_i e i m j n l;split at h;rename_i s p c;have:=an c;subst this;simp at h;subst h;obtain⟨g,q,rfl⟩:=jT k;obtain⟨u,a,rfl⟩:=jT f;rw[q]at a;simp at a;subst a;refine⟨rfl,rfl,by simp,?_⟩;have⟨d,r,o⟩:=ee p;show(Op.equalIn (9999+1) t _ _).run P w=_;rw[Op.equalIn];show(Sem.bind _ _).run P w=_;rw[run_bind,run_underlying l];simp_all[run_sizeOf,sameAddr,adm];cases h;cases h
theorem KC{c:Bool}(h:Nu P t c x y=O b)(d:den ν x=O X)(a:den ν y=O Y):s8 X=I/\s8 Y=I/\(X=.nilIface->Y=.nilIface->c=I)/\(Op.equal t X Y).run P w=.ok b w:=by unfold Nu at h;split at h;(first|contradiction|simp_all|grind|omega);cases h
theorem adn{e d:fh}(h:aiR P op t (isConst e||isConst d) x y=some v)(l:den ν x=some X)(k:den ν y=some Y)(w:aj):∃V,den ν v=some V/\(Sem.bind (eqGuard op t e d X Y) λ_=>binOp op t X Y).run P w=.ok V w:=by unfold aiR at h;(have fin:∀b,s8 X=true->s8 Y=true->(X=.nilIface->Y=.nilIface->(isConst e||isConst d)=true)->(Op.equal t X Y).run P w=.ok b w->(match(generalizing:=false) op with|.eql=>some (AV.bool b)|.neq=>some (.bool (!b))|_=>none)=some v->∃V,den ν v=some V/\(Sem.bind (eqGuard op t e d X Y) λ_=>binOp op t X Y).run P w=.ok V w:=λb f j i g c=>by have⟨o,n⟩:=On (P:=P) f j g;rw[run_bind,Dx (P:=P) (op:=op) (t:=t) (w:=w) f i];simp;cases op<;>simp only at c<;>(try(cases c;done))<;>injection c with c<;>subst c;exact⟨_,rfl,o⟩;exact⟨_,rfl,n⟩);split at h;rename_i b a;split at a;rename_i p m;simp at a;subst a;have⟨f,j,i,g⟩:=Rx (P:=P) (w:=w) m l k;grind;have⟨f,j,i,g⟩:=KC (P:=P) (w:=w) a l k;grind;cases h
theorem agh{op:UnOp}(h:unA op x=O v)(a:den ν x=O X)(w:aj):∃V,den ν v=O V/\(Op.unary op X).run P w=.ok V w:=by unfold unA at h;split at h;injection h with h;simp[den]at a;subst a h;exact⟨_,rfl,rfl⟩;rename_i k n;simp[den]at a;subst a;simp only[dX,aG]at h;subst h;exact⟨_,rfl,rfl⟩;simp at h;simp[den]at a;subst a h;exact⟨_,rfl,rfl⟩;cases h
theorem rP{e:ag}{g off C j z:Nat}(b:P.underlying t=O (.slice e))(d:j<n)(a:di P e=O z)(w:aj):(Instr.indexAt t (.slice (O ⟨g,off,G⟩) n C) (.int k (.ofNat j))).run P w=.ok (.pointer (O ⟨g,off+j*z,G⟩)) w:=by obtain⟨i,c,rfl⟩:=ee a;have:=Rm (P:=P) (w:=w) (ad:=⟨g,off,G⟩) (n:=n) (m:=C) (k:=k) (i:=(j:Int)) b c (by omega) (by omega);rw[gO]at this;exact this
theorem KD{e:ag}{g off j z:Nat}(a:P.underlying t=O (.array n e))(c:j<n)(b:di P e=O z)(w:aj):(Instr.indexAt t (.pointer (O ⟨g,off,G⟩)) (.int k (.ofNat j))).run P w=.ok (.pointer (O ⟨g,off+j*z,G⟩)) w:=by simp only[Instr.indexAt,asIntOf,bind,pure,Sem.bind];rw[run_bind,run_underlying a];simp only[Sem.bind,Instr.sureAddr,pure];rw[run_bind,run_underlying a];simp_all[run_bind,d_,gO]
end
end
section
open RowKit
section
variable{P:aw}{w0 w:aj}{A:en}{ν:Nm}{s:St}{T:Tr AV}{N:Nat}{a:Act}
theorem iK{a:Type}{x:Array a}{l:List a}(h:x.toList=l):x=l.toArray:=by rw[<-h]
theorem gw{o:aY}{c:Call}{b:akj}(d:o.op=.call c)(e:c.callee=.builtin b)(a:fh->aa)(w:aj):(execOp a o).run P w=(builtin b c.argTypes o.type (c.args.map λ|.const _=>I|_=>Z) (c.args.map a)).run P w:=by grind[execOp,resolve,invoke]
theorem Yw{f:OL}{fn:Fn}(h:lM ν f=O fn):(∃g,fn=.func g)∨∃g,fn=.yield g:=by cases f with|func g=>grind[lM]|yield l=>grind[lM]
theorem DZ{t ty:ag}{d:TypeDesc}{x v:AV}{X:aa}(l:P.underlying t=O d)(h:ZW P s d x=O v)(a:den ν x=O X)(j:(∀k e,d≠.map k e)∨aL P w0 A ν s w)(rest:List ag):∃V,den ν v=O V/\(Builtin.len_ (t::rest).toArray ty #[X]).run P w=.ok V w:=by (have start:∀{f:TypeDesc->Sem aa}{V:aa},(f d).run P w=.ok V w->(Sem.bind (underlying t) f).run P w=.ok V w:=λq=>by rw[run_bind,run_underlying l];exact q);unfold ZW at h;simp[Builtin.len_,bind];split at h;simp at h;simp[den]at a;subst a h;exact⟨_,rfl,start rfl⟩;simp at h;simp[den]at a;subst a h;exact⟨_,rfl,start rfl⟩;simp at h;obtain⟨g,C,_,_,_,rfl⟩:=gX a;subst h;exact⟨_,rfl,start rfl⟩;simp at h;subst h;exact⟨_,rfl,start rfl⟩;rename_i z _;split at h;rename_i n e r;simp at h;subst h;refine⟨_,rfl,start ?_⟩;rw[run_bind,run_underlying r];rfl;cases h;simp at h;simp[den]at a;subst a h;exact⟨_,rfl,start rfl⟩;rename_i y e i;obtain⟨g,p,rfl⟩:=jr a;rcases j with j|u;simp_all;split at h;rename_i es c o;simp at h;subst h;have⟨arr,m,b⟩:=u.Ds o p;refine⟨_,rfl,start ?_⟩;rw[run_bind,dT m (by simp)];have:=b.length;simp at this;rw[this];rfl;cases h;cases h
theorem vG{b:ag}{a:Array Field}{f:Nat}{fd:Field}{g off n:Nat}(c:P.underlying b=O (.struct a))(d:a[f]? =O fd)(e:di P fd.type=O (n+1))(w:aj):(Instr.fieldAt b (.pointer (O ⟨g,off,G⟩)) f).run P w=.ok (.pointer (O ⟨g,off+fd.offset,G⟩)) w:=by simp[Instr.fieldAt,bind];rw[run_bind,run_underlying c];simp[d];rw[run_bind];show(Sem.bind _ _).run P w=_;rw[run_bind];simp_all[fieldPlace,d_,gO]
theorem Lx{o:aY}(B:eG ν T N a.tmps)(Oz:worldless P o.op=I){v:AV}(h:oq P s T o.op=O v):∃V,den ν v=O V/\∀w,(execOp a.eval o).run P w=.ok (.value V) w:=by
 apply uni
 intro w
 have fin:∀{x:Sem aa},(∃V,den ν v=O V/\x.run P w=.ok V w)->(execOp a.eval o=Sem.bind x λv=>Sem.pure (Next.value v))->∃V,den ν v=O V/\(execOp a.eval o).run P w=.ok (.value V) w:=λ⟨V,E,J⟩ e=>⟨V,E,by rw[e];exact lD J⟩
 cases r:o.op<;>rw[r]at h Oz<;>simp only[oq]at h<;>(try(cases h;done))
 case move x=>exact⟨_,B.evA h,by unfold execOp;rw[r];rfl⟩
 case assign x=>exact⟨_,B.evA h,by unfold execOp;rw[r];rfl⟩
 case pick c x y=>
  split at h
  ·rename_i M
   have:=B.evA M
   simp only[den,aG]at this
   exact⟨_,B.evA h,by unfold execOp;rw[r];simp only[<-this];rfl⟩
  ·rename_i M
   have:=B.evA M
   simp only[den,aG]at this
   exact⟨_,B.evA h,by unfold execOp;rw[r];simp only[<-this];rfl⟩
  ·cases h
 case build t parts=>
  split at h
  ·rename_i ps hps
   have D:=BP B hps
   refine fin (x:=Instr.build t (parts.map λ(i,x)=>(i,a.eval x))) (run_build ?_ h trivial) (by unfold execOp;rw[r];rfl)
   simpa using D
  ·cases h
 case load=>cases Oz
 case nilCheck x=>
  have key:∀{u:AV},evA T x=O u->u≠.kv->u≠.gP->u≠.iq->(∀v,u≠.ext v)->(∀e v,u≠.deep e v)->∃V,den ν u=O V/\(execOp a.eval o).run P w=.ok (.value V) w:=λ{u} H E J h3 h4 h5=>by
   have Iz:=B.evA H
   refine⟨_,Iz,?_⟩
   unfold execOp
   rw[r]
   simp only[]
   cases u<;>simp only[den]at Iz<;>(repeat' split at Iz)<;>(try(cases Iz;done))
   all_goals first
    |exact absurd rfl E
    |exact absurd rfl J
    |exact absurd rfl h3
    |exact absurd rfl (h4 _)
    |exact absurd rfl (h5 _ _)
    |skip
   all_goals first|(have⟨_,_,_,he⟩:=l_ Iz;rw[he];first|done|rfl)|skip
   all_goals injection Iz with Iz
   all_goals rw[<-Iz]
   all_goals first
    |rfl
    |(
     rename_i hfn _ _
     rcases Yw hfn with⟨g,rfl⟩|⟨g,rfl⟩<;>rfl)
  split at h
  ·cases h
  ·cases h
  ·cases h
  ·cases h
  ·cases h
  simp_all
 case binOp op t x y t2=>
  split at h
  ·rename_i p q D hq
   split at h
   ·rename_i u H
    injection h with h
    subst h
    exact fin (adl H (B.evA D) (B.evA hq) x y w) (by unfold execOp;rw[r];rfl)
   ·exact fin (adn h (B.evA D) (B.evA hq) w) (by unfold execOp;rw[r];rfl)
  ·cases h
 case unOp op t x=>
  split at h
  ·rename_i p D
   exact fin (agh h (B.evA D) w) (by unfold execOp;rw[r];rfl)
  ·cases h
 case convert src dst x=>
  have R:∀{Zz d2:TypeDesc}{V:aa},P.underlying src=O Zz->P.underlying dst=O d2->(∀(f:TypeDesc->TypeDesc->Sem aa),(Sem.bind (underlying src) λa=>Sem.bind (underlying dst) λb=>f a b).run P w=(f Zz d2).run P w):=λE J f=>by
   rw[run_bind,run_underlying E]
   simp_all[run_bind,run_underlying]
  split at h
  ·rename_i k n U
   have Iz:=B.evA U
   simp only[den,aG]at Iz
   split at h
   ·rename_i Zz k' E J
    injection h with h
    subst h
    refine fin (x:=convert src dst (a.eval x)) ⟨_,rfl,?_⟩ (by unfold execOp;rw[r];rfl)
    rw[<-Iz]
    refine(R E J (V:=.bool I) _).trans ?_
    rfl
   ·cases h
  ·first|contradiction|simp_all|grind|omega
  ·rename_i k u U
   have⟨n,hn,Iz⟩:=pa (B.evA U)
   split at h
   ·rename_i Zz k' E J
    injection h with h
    subst h
    refine fin (x:=convert src dst (a.eval x)) ⟨.int k' (k'.wrap n),by simp only[den,ai,hn],?_⟩ (by unfold execOp;rw[r];rfl)
    rw[Iz]
    refine(R E J (V:=.bool I) _).trans ?_
    rfl
   ·cases h
  ·grind[worldless]
  ·cases h
 case makeFunc fn first cap=>
  split at h
  ·rename_i f p q D hq
   injection h with h
   subst h
   refine⟨.func (.func f) (first.map a.eval) (cap.map a.eval),?_,by unfold execOp;rw[r];rfl⟩
   simp only[den,lM,vv B D,vv B hq]
   have e:∀x:Array fh,(x.toList.map a.eval).toArray=x.map a.eval:=λx=>Array.ext' (by simp)
   rw[e,e]
  ·cases h
 case slice t x lo K mx=>
  split at h
  ·rename_i p l hh m D hl hhi hm
   refine fin (x:=Instr.sliceAt t (a.eval x) (lo.map a.eval) (K.map a.eval) (mx.map a.eval)) (Yi (B.evA D) (po B hl) (po B hhi) (po B hm) h) (by unfold execOp;rw[r];rfl)
  ·cases h
 case fieldAddr st x f=>
  split at h
  ·rename_i Q i off H D
   split at h
   ·rename_i fd hf
    split at h
    ·cases h
    ·rename_i n zk hs
     injection h with h
     subst h
     have⟨g,hg,e⟩:=jT (B.evA D)
     cases n with
     |zero=>simp_all
     |succ n=>
      refine fin (x:=Instr.fieldAt st (a.eval x) f) ⟨.pointer (O ⟨g,off+fd.offset,G⟩),by simp only[den,hg],?_⟩ (by unfold execOp;rw[r];rfl)
      rw[e]
      exact vG H hf hs w
    ·cases h
   ·cases h
  ·first|contradiction|simp_all|grind|omega
  ·cases h
 case field st x f=>
  split at h
  ·rename_i Q cs H D
   split at h
   ·rename_i fd hf
    have⟨L,S,e⟩:=gB (B.evA D)
    have⟨V,E,J⟩:=jE (P:=P) (w:=w) S h
    refine fin (x:=Instr.field st (a.eval x) f) ⟨V,E,?_⟩ (by unfold execOp;rw[r];rfl)
    rw[e]
    unfold Instr.field
    simp only[bind]
    rw[run_bind,run_underlying H]
    simp only[hf]
    exact J
   ·cases h
  ·cases h
 case indexAddr t x ix=>
  split at h
  ·rename_i n e b off j H D X
   have⟨u,Gz,F⟩:=nP X
   obtain⟨k,rfl⟩:=iP F
   have K:=B.evA Gz
   simp only[den,aG]at K
   have⟨g,hg,eg⟩:=jT (B.evA D)
   split at h
   ·rename_i z W hz
    injection h with h
    subst h
    refine fin (x:=Instr.indexAt t (a.eval x) (a.eval ix)) ⟨.pointer (O ⟨g,off+j*z,G⟩),by simp only[den,hg],?_⟩ (by unfold execOp;rw[r];rfl)
    rw[eg,<-K]
    grind[KD,bz]
   ·cases h
  ·first|contradiction|simp_all|grind|omega
  ·rename_i e b off n c j H D X
   have⟨u,Gz,F⟩:=nP X
   obtain⟨k,rfl⟩:=iP F
   have K:=B.evA Gz
   simp only[den,aG]at K
   have⟨g,C,hg,hC,amJ,eg⟩:=gX (B.evA D)
   split at h
   ·rename_i z W hz
    injection h with h
    subst h
    refine fin (x:=Instr.indexAt t (a.eval x) (a.eval ix)) ⟨.pointer (O ⟨g,off+j*z,G⟩),by simp only[den,hg],?_⟩ (by unfold execOp;rw[r];rfl)
    rw[eg,<-K]
    grind[rP,bz]
   ·cases h
  ·cases h
 case index t x ix=>
  split at h
  ·rename_i n e cs j H D X
   have⟨u,Gz,F⟩:=nP X
   obtain⟨k,rfl⟩:=iP F
   have K:=B.evA Gz
   simp only[den,aG]at K
   have⟨L,S,eg⟩:=gB (B.evA D)
   split at h
   ·rename_i z W hz
    have⟨V,E,J⟩:=jE (P:=P) (w:=w) S h
    refine fin (x:=Instr.index t (a.eval x) (a.eval ix)) ⟨V,E,?_⟩ (by unfold execOp;rw[r];rfl)
    rw[eg,<-K]
    unfold Instr.index
    simp only[asIntOf,bind,pure,Sem.bind]
    rw[run_bind,run_underlying H]
    have h0:(0:Int)<=cq j/\cq j<(n:Int):=⟨bO j,Int.ofNat_lt.2 (bz W)⟩
    simp_all[run_bind,d_]
   ·cases h
  ·rename_i b j H D X
   have⟨u,Gz,F⟩:=nP X
   obtain⟨k,rfl⟩:=iP F
   have K:=B.evA Gz
   have hs:=B.evA D
   simp only[den,aG]at K hs
   split at h
   ·rename_i c M
    injection h with h
    subst h
    refine fin (x:=Instr.index t (a.eval x) (a.eval ix)) ⟨_,rfl,?_⟩ (by unfold execOp;rw[r];rfl)
    rw[<-hs,<-K]
    unfold Instr.index
    simp only[asIntOf,bind,pure,Sem.bind]
    rw[run_bind,run_underlying H]
    have h0:(0:Int)<=cq j:=bO j
    have hb:(ByteArray.mk b.toArray)[j]? =O c:=by
     have sO:j<b.length:=(cj.1 M).1
     have ali:j<(ByteArray.mk b.toArray).size:=sO
     rw[getElem?_pos _ j ali]
     have:=(cj.1 M).2
     congr 1
    simp_all
   ·cases h
  ·cases h
 case lookup=>cases Oz
 case extract x i=>
  split at h
  ·rename_i l D
   have⟨L,S,e⟩:=wq (B.evA D)
   have⟨V,E,J⟩:=Aq S h
   simp_all[execOp,Instr.extract]
  ·cases h
 case entry=>cases Oz
 case call c=>
  split at h
  ·rename_i M
   split at h
   ·rename_i x t U ht
    split at h
    ·rename_i d u H D
     have hnm:∀k e,d≠.map k e:=λk e Iz=>by
      simp_all[worldless]
     have Y:∃rest,c.argTypes=(t::rest).toArray:=by
      cases S:c.argTypes.toList with
      |nil=>rw[<-fI,S]at ht;cases ht
      |cons t' rest=>
       rw[<-fI,S]at ht
       grind
     have⟨rest,Y⟩:=Y
     have⟨V,E,J⟩:=DZ (P:=P) (w0:=w) (A:=⟨.e,⟨λ_=>G,λ_=>G,0,λ_=>G,λ_=>G⟩,w⟩) (w:=w) (ty:=o.type) H h (B.evA D) (.inl hnm) rest
     refine⟨V,E,?_⟩
     rw[gw r M,Y,iK U]
     simp only[List.map_toArray,eJ,List.map_nil]
     exact lD J
    ·cases h
   ·cases h
  ·rename_i M
   split at h
   ·rename_i x y U
    split at h
    ·rename_i k p k' q D hq
     injection h with h
     subst h
     have Zz:=B.evA D
     have d2:=B.evA hq
     simp only[den,aG]at Zz d2
     refine⟨_,rfl,?_⟩
     rw[gw r M,iK U]
     simp only[List.map_toArray,eJ,List.map_nil,<-Zz,<-d2]
     rfl
    ·cases h
   ·cases h
  ·first|contradiction|simp_all|grind|omega
  ·cases h
end
end
section
open RowKit
def lx(l:List aa):Nat->List aa|0=>[]|n+1=>l++lx l n
theorem FQ(l:List aa):∀(n i:Nat),(lx l n)[i]? =if i<n*l.length then l[i%l.length]? else G|0,i=>by simp[lx]|n+1,i=>by simp[lx];by_cases h:i<l.length;rw[dw h,Nat.mod_eq_of_lt h,if_pos (by rw[df];omega)];rw[eh (by omega),FQ l n];(have e:(i - l.length)%l.length=i%l.length:=by rw[Nat.mod_eq_sub_mod (a:=i) (by omega)]);rw[e];grind
theorem vw(z:Array aa)(n:Nat):((tu (n*z.size)).map λi=>z[i%z.size]!).toList=lx z.toList n:=by apply ig;intro i;rw[FQ,Array.toList_map,dg,Array.toList_range];simp only[nZ];by_cases h:i<n*z.size;rw[if_pos h,List.getElem?_range h];(have b:0<z.size:=by rcases Nat.eq_zero_or_pos z.size with a|a;rw[a]at h;simp at h;exact a);have c:=Nat.mod_lt i b;simp[c];grind
section
variable{P:aw}{w0 w:aj}{A:en}{ν:Nm}{s:St}{T:Tr AV}{N:Nat}{a:Act}
theorem Ay{l:List AV}{L:List aa}(h:bw ν l=O L):∀n,bw ν (ZV l n)=O (lx L n)|0=>rfl|n+1=>iE h (Ay h n)
theorem yA{z:AV}{Zz:aa}(a:den ν z=O Zz)(b:(da z).all oS=I){n:Nat}(c:(da z).length=n):bw ν (da z)=O Zz.cells.toList/\Zz.cells.size=n:=by have:=lY a b;exact⟨this,by have:=fK this;simp_all⟩
theorem wrap_small{n:Nat}(h:n<=most):IntKind.i64.wrap (cq n)=(n:Int):=by grind[most,IntWalk.i64_in]
theorem Az:∀n,lx [] n=[]|0=>rfl|n+1=>by simpa[lx]using Az n
def zV(P:aw)(w0:aj)(A:en)(ν:Nm)(s':St)(v:AV)(r:Result Next):Prop:=∃ed V w',Nm.le ν ed/\aL P w0 A ed s' w'/\den ed v=O V/\(r=.ok (.value V) w'∨(r=.ok .skip w'/\V=undef))
theorem lN.n{b:St}{v:AV}{x:Sem aa}(h:lN P w0 A ν b v (x.run P w)):zV P w0 A ν b v ((Sem.bind x λv=>Sem.pure (Next.value v)).run P w):=by have⟨a,V,w',f,e,d,c⟩:=h;exact⟨a,V,w',f,e,d,.inl (lD c)⟩
theorem lN.u{a:St}{x:Sem Unit}(h:∃w',aL P w0 A ν a w'/\x.run P w=.ok () w'):zV P w0 A ν a jN ((Sem.bind x λ_=>Sem.pure Next.skip).run P w):=by have⟨w',c,b⟩:=h;exact⟨ν,undef,w',Nm.le.refl _,c,rfl,.inr ⟨vu b,rfl⟩⟩
theorem jA{t:ag}{z:AV}(h:ud P t=O z):∃Zz,den ν z=O Zz/\∀w,(zeroValue t).run P w=.ok Zz w:=by have⟨i,Zz,a,c,b⟩:=GB (ν:=ν) h;refine⟨Zz,b,λw=> ?_⟩;show(Sem.bind _ _).run P w=_;rw[run_bind,vk a];simp_all
def Lb(P:aw)(ν:Nm)(obj:bF)(f:Nat->AV)(x:aj->Result Next):Prop:=∃(Ef:Obj)(Vf:Nat->aa),(∀ed,Nm.le ν ed->bN P ed obj Ef)/\(∀(ed:Nm) k g,ed k=O g->den ed (f k)=O (Vf g))/\∀w,x w=.ok (.value (Vf w.heap.size)) (w.alloc Ef)
theorem rm{l:List AV}{L:List aa}{t:ag}{f:Nat->AV}{Vf:Nat->aa}(e:bw ν l=O L)(d:∀(a:Nm) k g,a k=O g->den a (f k)=O (Vf g)){x:Sem aa}(c:∀w,x.run P w=.ok (Vf w.heap.size) (w.alloc (.cells L.toArray t))):Lb P ν (.cells l t G) f λw=>(Sem.bind x λv=>Sem.pure (Next.value v)).run P w:=⟨.cells L.toArray t,Vf,λa b=>⟨rfl,K_ _,L,[],fo b _ _ e,by simp,rfl,rfl⟩,d,λw=>lD (c w)⟩
theorem mk_one{l:List AV}{t:ag}{f:Nat->AV}{r:bF×(Nat->AV)}(h:(match l.all oS with|I=>O (bF.cells l t G,f)|Z=>G)=O r):l.all oS=I/\r=(.cells l t G,f):=by grind
theorem tK{o:aY}(U:eG ν T N a.tmps){obj:bF}{f:Nat->AV}(b:xS P T o.op=O (obj,f)):Lb P ν obj f λw=>(execOp a.eval o).run P w:=by (have as:∀{x:Sem aa},(Lb P ν obj f λw=>(Sem.bind x λv=>Sem.pure (Next.value v)).run P w)->(execOp a.eval o=Sem.bind x λv=>Sem.pure (Next.value v))->Lb P ν obj f λw=>(execOp a.eval o).run P w:=λY e=>by rw[e];exact Y);cases s:o.op<;>rw[s]at b<;>simp only[xS]at b<;>(try(cases b;done));(case alloc t=>split at b;rename_i z L;have⟨Zz,R,K⟩:=jA (P:=P) (ν:=ν) L;have⟨D,e⟩:=mk_one b;obtain⟨rfl,rfl⟩:=e;refine as (x:=Instr.alloc t I (.tuple #[])) (rm (lY R D) (Vf:=λg=>.pointer (O ⟨g,0,G⟩)) (λy k g q=>by simp[den,q]) λw=> ?_) (by unfold execOp;rw[s];rfl);simp only[Instr.alloc,bind];rw[run_bind,K];rfl;cases b);(case box t x=>split at b;rename_i u M;have⟨D,e⟩:=mk_one b;obtain⟨rfl,rfl⟩:=e;exact as (x:=Instr.box t (a.eval x)) (rm (lY (U.evA M) D) (Vf:=λg=>.pointer (O ⟨g,0,G⟩)) (λy k g q=>by simp[den,q]) λw=>rfl) (by unfold execOp;rw[s];rfl);cases b);(case buildSlice t len parts=>split at b;rename_i e ps M hps;split at b;rename_i z n L hn;split at b;rename_i Oz;simp only[ay]at Oz;have⟨⟨E,B⟩,J⟩:=Oz;have E:=bz E;have B:=an B;split at b;rename_i l hl;have⟨Zz,R,K⟩:=jA (P:=P) (ν:=ν) L;have⟨V,z2⟩:=yA R J B;(have d:((tu (len*n)).map λi=>(if len*n=0 then #[]else Zz.cells)[i%(if len*n=0 then(#[]:Array aa)else Zz.cells).size]!).toList=lx Zz.cells.toList len:=by by_cases j:len*n=0;rw[if_pos j];(have:lx Zz.cells.toList len=[]:=by rcases Nat.mul_eq_zero.1 j with D|D;rw[D];rfl;grind[Az]);rw[this,j];simp;rw[if_neg j];grind[vw]);have hp:=BP U hps;have⟨uK,f1,f2⟩:=Au (ν:=ν) (pl:=λi=>O (i*n,n)) (arr:=(tu (len*n)).map λi=>(if len*n=0 then #[]else Zz.cells)[i%(if len*n=0 then(#[]:Array aa)else Zz.cells).size]!) hp (by rw[d];exact Ay V len) hl;have⟨_,eq⟩:=mk_one b;obtain⟨rfl,rfl⟩:=eq;refine as (x:=Instr.buildSlice t len (parts.map λ(i,x)=>(i,a.eval x))) (rm f2 (Vf:=λg=>.slice (O ⟨g,0,G⟩) len len) (λy k g q=>by simp_all[den,cX]) λw=> ?_) (by unfold execOp;rw[s];rfl);simp only[Instr.buildSlice,bind];rw[run_bind,run_underlying M];simp only;rw[run_bind,d_ hn];simp only;(have Q:¬(len*n>2^24):=by unfold most at E;omega);rw[if_neg Q];(have e1:(parts.map λp:Nat×fh=>(p.1,a.eval p.2)).toList=parts.toList.map λp=>(p.1,a.eval p.2):=by simp);rw[<-e1]at f1;by_cases j:len*n=0;rw[if_pos j,run_bind];rw[if_pos j]at f1;show(match Instr.fill (λi=>O (i*n,n)) ((tu (len*n)).map λi=>(#[]:Array aa)[i%(#[]:Array aa).size]!) (parts.map λp:Nat×fh=>(p.1,a.eval p.2)).toList with|O cells=>_|_=>_:Sem aa).run P w=_;rw[f1];rfl;rw[if_neg j,run_bind,K];rw[if_neg j]at f1;simp only;rw[run_bind];show(match Instr.fill (λi=>O (i*n,n)) ((tu (len*n)).map λi=>Zz.cells[i%Zz.cells.size]!) (parts.map λp:Nat×fh=>(p.1,a.eval p.2)).toList with|O cells=>_|_=>_:Sem aa).run P w=_;rw[f1];rfl;cases b;cases b;cases b;cases b);(case makeMap t r=>(have W:∀{x:Sem aa},obj=.map [] 0->(f=λi=>.map i)->(∀w,x.run P w=.ok (.map (O w.heap.size)) (w.alloc (.map #[] 0)))->Lb P ν obj f λw=>(Sem.bind x λv=>Sem.pure (Next.value v)).run P w:=λe1 e2 Y=>by subst e1 e2;exact⟨.map #[] 0,λg=>.map _,λy _=>⟨rfl,trivial⟩,λy k g q=>by simp[den,q],λw=>lD (Y w)⟩);split at b;simp at b;exact as (x:=Instr.makeMap t G) (W b.1.symm b.2.symm λw=>rfl) (by unfold execOp;rw[s];rfl);first|contradiction|simp_all|grind|omega);case makeSlice t l c=>split at b;rename_i e Iz m M hl hcp;have⟨u1,hu1,hn1⟩:=nP hl;obtain⟨k1,rfl⟩:=iP hn1;have⟨u2,hu2,hn2⟩:=nP hcp;obtain⟨k2,rfl⟩:=iP hn2;have d1:=U.evA hu1;have d2:=U.evA hu2;simp only[den,aG]at d1 d2;split at b;rename_i z h L hi;split at b;rename_i Oz;simp only[ay]at Oz;have⟨⟨⟨⟨E,B⟩,J⟩,c4⟩,c5⟩:=Oz;have E:=bz E;have B:=bz B;have J:=bz J;have c4:=an c4;have⟨Zz,R,K⟩:=jA (P:=P) (ν:=ν) L;have⟨V,z2⟩:=yA R c5 c4;(have ZB:di P e=O h.size:=by unfold di;rw[hi]);have w1:=wrap_small (dU E B);have w2:=wrap_small B;(have d:∀S:Array aa,S=(if m*h.size=0 then #[]else Zz.cells)->((tu (m*h.size)).map λi=>S[i%S.size]!).toList=lx Zz.cells.toList m:=λS X=>by subst X;by_cases j:m*h.size=0;rw[if_pos j];(have:lx Zz.cells.toList m=[]:=by rcases Nat.mul_eq_zero.1 j with D|D;rw[D];rfl;grind[Az]);rw[this,j];simp;rw[if_neg j];grind[vw]);have⟨_,eq⟩:=mk_one b;obtain⟨rfl,rfl⟩:=eq;refine as (x:=Instr.makeSlice t (a.eval l) (a.eval c)) (rm (Ay V m) (Vf:=λg=>.slice (O ⟨g,0,G⟩) Iz m) (λy k g q=>by simp_all[den,cX]) λw=> ?_) (by unfold execOp;rw[s];rfl);rw[<-d1,<-d2];simp only[Instr.makeSlice,bind,asInt,asIntOf,pure,Sem.bind];rw[run_bind,run_underlying M];simp only;rw[run_bind,vk hi];simp only[w1,w2];have C:m*h.bytes<=most*most:=Nat.mul_le_mul B J;(have A:h.bytes*Iz<=most*most:=by rw[Nat.mul_comm];exact Nat.mul_le_mul (dU E B) J);unfold most at C A;(have Gz:(decide ((m:Int)<0)||decide (h.bytes*(m:Int)>2^48)||decide ((Iz:Int)<0)||decide (Iz>(m:Int)))=Z:=by grind);rw[Gz];simp only[kG,if_false,ei];(have F:(askRoom (m*h.bytes)).run P w=.ok () w:=by simp_all);rw[run_bind,F];simp only;rw[run_bind,d_ ZB];simp only;by_cases j:m*h.size=0;rw[if_pos j];have H:=d #[] (by rw[if_pos j]);show Result.ok _ (w.alloc _)=_;rw[<-H];rw[if_neg j,run_bind,K];simp;have H:=d Zz.cells (by rw[if_neg j]);show Result.ok _ (w.alloc _)=_;rw[<-H];cases b;cases b;cases b
theorem UC(h:aL P w0 A ν s w){t ty:ag}{x:AV}{X:aa}{m:St}(a:Tl P s t x=O m)(b:den ν x=O X):lN P w0 A ν m jN ((Builtin.clear_ #[t] ty #[X]).run P w):=by unfold Tl at a;split at a;(·cases a);·rename_i d o;split at a;(·simp at a;subst a;simp[den]at b;subst b;refine⟨ν,.tuple #[],w,Nm.le.refl _,h,rfl,?_⟩;simp_all[Builtin.clear_,run_underlying]);(·simp at a;subst a;simp[den]at b;subst b;refine⟨ν,.tuple #[],w,Nm.le.refl _,h,rfl,?_⟩;simp_all[Builtin.clear_,run_underlying]);(·rename_i i off len c;obtain⟨g,n,f,q,p,rfl⟩:=gX b;split at a;(·rename_i k;simp at a;subst a;have k:=an k;subst k;refine⟨ν,.tuple #[],w,Nm.le.refl _,h,rfl,?_⟩;simp_all[Builtin.clear_,run_underlying]);·rename_i k;split at a;(·rename_i e;split at a;(·rename_i z B;split at a;(·rename_i D;have⟨Zz,C,j⟩:=jA (ν:=ν) B;have⟨y,_⟩:=yA C D rfl;have⟨v,u,_⟩:=pK h a f (Ay y len);refine⟨ν,.tuple #[],_,Nm.le.refl _,v,rfl,?_⟩;cases len with|zero=>simp_all|succ len=>simp[Builtin.clear_,bind];rw[run_bind,run_underlying o];simp;rw[run_bind,j w];simp;rw[show(Builtin.zeroCells Zz.cells (len+1)).toList=lx Zz.cells.toList (len+1)from vw _ _,run_bind,u];rfl);·cases a);·cases a);·cases a);(·rename_i i;obtain⟨g,f,rfl⟩:=jr b;split at a;(·rename_i es c l;simp at a;subst a;have⟨arr,E,r⟩:=h.Ds l f;refine⟨ν,.tuple #[],w.putObj g _,Nm.le.refl _,h.write l f (show bN P ν (.map [] c) (.map #[] c)from⟨rfl,trivial⟩) (Dd.obj _ (h.lt l f)) (λ_ b=>aS _ b) (λ_ _=>aU ..) (h.nz l f),rfl,?_⟩;simp[Builtin.clear_,bind];rw[run_bind,run_underlying o];simp_all[run_bind,dT,setObj,Sem.run,World.putObj]);·cases a);·cases a
theorem ado{o:aY}(h:aL P w0 A ν s w)(j:eG ν T N a.tmps){v:AV}{J:St}(d:ZX P s T o.op=O (v,J)):zV P w0 A ν J v ((execOp a.eval o).run P w):=by (have as:∀{x:Sem aa},lN P w0 A ν J v (x.run P w)->(execOp a.eval o=Sem.bind x λv=>Sem.pure (Next.value v))->zV P w0 A ν J v ((execOp a.eval o).run P w):=λD e=>by rw[e];exact D.n);cases f:o.op<;>rw[f]at d<;>simp only[ZX]at d<;>(try(cases d;done));(case store t x y=>split at d;(·rename_i i off u l K;rw[bZ]at d;have⟨Iz,C,z⟩:=d;simp at z;obtain⟨rfl,rfl⟩:=z;have⟨g,Oz,e⟩:=jT (j.evA l);have⟨w',M,L⟩:=Uy (P:=P) h C Oz (j.evA K);(have:execOp a.eval o=Sem.bind (Instr.storeAt t (a.eval x) (a.eval y)) λ_=>Sem.pure Next.skip:=by unfold execOp;rw[f];rfl);rw[this];refine lN.u ⟨w',M,?_⟩;rw[e];exact L);·cases d);(case insert t m k E=>split at d;(·rename_i p q r l B Gz;rw[bZ]at d;have⟨Iz,C,z⟩:=d;simp at z;obtain⟨rfl,rfl⟩:=z;(have:execOp a.eval o=Sem.bind (Instr.mapUpdate t (a.eval m) (a.eval k) (a.eval E)) λ_=>Sem.pure Next.skip:=by unfold execOp;rw[f];rfl);rw[this];exact lN.u (CM h C (j.evA l) (j.evA B) (j.evA Gz)));·cases d);(case mapUpdate t m k E=>split at d;(·rename_i p q r l B Gz;rw[bZ]at d;have⟨Iz,C,z⟩:=d;simp at z;obtain⟨rfl,rfl⟩:=z;(have:execOp a.eval o=Sem.bind (Instr.mapUpdate t (a.eval m) (a.eval k) (a.eval E)) λ_=>Sem.pure Next.skip:=by unfold execOp;rw[f];rfl);rw[this];exact lN.u (CM h C (j.evA l) (j.evA B) (j.evA Gz)));·cases d);(case mapEntry t m k=>split at d;(·rename_i p q l B;exact as (Uz h d (j.evA l) (j.evA B)) (by unfold execOp;rw[f];rfl));·cases d);(case entryStore t m b E=>split at d;(·rename_i p q r l B Gz;rw[bZ]at d;have⟨Iz,C,z⟩:=d;simp at z;obtain⟨rfl,rfl⟩:=z;(have:execOp a.eval o=Sem.bind (Instr.entryStore t (a.eval m) (a.eval b) (a.eval E)) λ_=>Sem.pure Next.skip:=by unfold execOp;rw[f];rfl);rw[this];exact lN.u (Dw h C (j.evA l) (j.evA B) (j.evA Gz)));·cases d);(case range t x=>split at d;(·rename_i u K;exact as (UA h d (j.evA K)) (by unfold execOp;rw[f];rfl));·cases d);case call c=>split at d;(·rename_i H;split at d;(·rename_i x y t tx D F;split at d;(·rename_i p q l B;have:=Rw (P:=P) (ty:=o.type) h d (j.evA l) (j.evA B);rw[gw f H,iK D,iK F];simp;exact this.n);·cases d);·cases d);(·rename_i H;split at d;(·rename_i x y t tx D F;split at d;(·rename_i p q l B;have:=Yt (P:=P) (tx:=tx) (ty:=o.type) h d (j.evA l) (j.evA B);rw[gw f H,iK D,iK F];simp;exact this.n);·cases d);·cases d);(·first|contradiction|simp_all|grind|omega);(·rename_i H;split at d;(·rename_i x t D F;split at d;(·rename_i p l;rw[bZ]at d;have⟨Iz,C,z⟩:=d;simp at z;obtain⟨rfl,rfl⟩:=z;have:=UC (P:=P) (ty:=o.type) h C (j.evA l);rw[gw f H,iK D,iK F];simp;exact this.n);·cases d);·cases d);(·first|contradiction|simp_all|grind|omega);(·first|contradiction|simp_all|grind|omega);(·first|contradiction|simp_all|grind|omega);·cases d
end
end
section
open RowKit
variable{v:AV}{g i:Nat}{ν:Nm}{t:ag}{w:aj}
theorem nC.dz{a:List (Nat×List AV)}{w':aj}(h:nC ν a w)(f:∀g,g<w.heap.size->w'.heap[g]? =w.heap[g]?):nC ν a w':=λg l d i v b=>by have⟨V,j,e⟩:=h g l d i v b;have c:=World.block_lt_of_cell? w _ e;grind[World.cell?_of_block]
theorem aL.mw{P:aw}{w0:aj}{A:en}{s:St}(h:aL P w0 A ν s w):nC ν s.x.gl w:=h.ctx.gl.dz λg a=>h.dz.block g a (by simp)
structure my(P:aw)(ν:Nm)(s:St)(D:Nat->Prop)(w:aj):Prop where
 f:∀i o,D i->s.h.get i=O o->∃g,ν i=O g/\((g=0/\iU P ν o)∨(g≠0/\∃obj,w.heap[g]? =O obj/\bN P ν o obj))
 g:(∀i,D i)->nC ν s.x.gl w
theorem aL.Ph{P:aw}{w0:aj}{A:en}{s:St}(h:aL P w0 A ν s w):my P ν s (λ_=>True) w:=⟨λi o _ a=>by
 obtain⟨g,e,d|⟨obj,d,c,b⟩⟩:=h.fX i o a
 ·simp_all
 ·exact⟨g,e,.inr ⟨by have:=h.pos;omega,obj,c,b⟩⟩,λ_=>h.mw⟩
section
variable{P:aw}{w0 w:aj}{A:en}{ν:Nm}{s:St}{T:Tr AV}{N:Nat}{a:Act}{D:Nat->Prop}
theorem my.VH(h:my P ν s D w){o:bF}(c:D i)(a:s.h.get i=O o)(b:ν i=O g):(g=0/\iU P ν o)∨(g≠0/\∃obj,w.heap[g]? =O obj/\bN P ν o obj):=by have⟨j,d,e⟩:=h.f i o c a;rw[b]at d;simp_all
theorem my.at_(h:my P ν s D w){o:bF}(e:D i)(c:s.h.get i=O o)(d:ν i=O g)(b:x6 o=I:=by rfl):∃obj,w.heap[g]? =O obj/\bN P ν o obj:=by obtain⟨_,a⟩|⟨_,a⟩:=h.VH e c d;cases o<;>simp only[iU]at a;cases b;exact a
theorem my.Sv(h:my P ν s D w){l:List AV}{c:Option Nat}(j:D i)(e:s.h.get i=O (.cells l t c))(f:ν i=O g):∃L R,bw ν l=O L/\nq w g t (L++R).toArray:=by have⟨obj,m,b⟩:=h.at_ j e f;(cases obj<;>simp only[bN]at b<;>try exact b.elim);obtain⟨rfl,a,L,R,k,d,n⟩:=b;exact⟨L,R,k,_,by rw[m,<-d],by rw[<-d];exact a⟩
theorem my.Ds(h:my P ν s D w){es:List (AV×AV×Nat)}{c:Nat}(e:D i)(b:s.h.get i=O (.map es c))(d:ν i=O g):∃arr,w.heap[g]? =O (.map arr c)/\cJ (oD ν) es arr.toList:=by have⟨obj,f,a⟩:=h.at_ e b d;(cases obj<;>simp only[bN]at a<;>try exact a.elim);simp_all
theorem my.Wv(h:my P ν s D w){m:Option Nat}{b a:Nat}{seen:List Nat}(k:D i)(f:s.h.get i=O (.iter m b seen a))(j:ν i=O g):∃d c,w.heap[g]? =O (.mapIter d b c a)/\ajC ν m d/\c.toList=seen:=by have⟨obj,l,e⟩:=h.at_ k f j;(cases obj<;>simp only[bN]at e<;>try exact e.elim);grind
theorem acw(h:my P ν s D w){off:Nat}(j:D i)(a:VR P s t i off=O v)(d:ν i=O g):∃V,den ν v=O V/\(loadVar t ⟨g,off,G⟩).run P w=.ok V w:=by unfold VR at a;split at a;rename_i l n c b;have⟨L,R,f,e⟩:=h.Sv j b d;have⟨V,m,k⟩:=GA (R:=R) f a;exact⟨V,m,Rl e k⟩;cases a
theorem agi(h:my P ν s D w){m:AV}{M:aa}{es:List (AV×AV×Nat)}{c:Nat}(f:∀i,m=.map i->D i)(b:den ν m=O M)(a:mapOf s m=O (es,c)):∃arr:Array bQ,cJ (oD ν) es arr.toList/\((M=.map G/\arr= #[])∨∃g,M=.map (O g)/\w.heap[g]? =O (.map arr c)):=by unfold mapOf at a;split at a;simp only[aG,Prod.mk.injEq]at a;simp[den]at b;obtain⟨rfl,rfl⟩:=a;subst b;exact⟨#[],trivial,.inl ⟨rfl,rfl⟩⟩;rename_i i;split at a;rename_i j c' d;simp at a;obtain⟨rfl,rfl⟩:=a;obtain⟨g,e,rfl⟩:=jr b;have⟨arr,l,k⟩:=h.Ds (f i rfl) d e;simp_all;cases a;cases a
theorem adp(h:my P ν s D w){m k:AV}{M K:aa}{ok:Bool}(Iz:∀i,m=.map i->D i)(a:Nw P s t m k ok=O v)(C:den ν m=O M)(u:den ν k=O K):∃V,den ν v=O V/\(Instr.lookup t M K ok).run P w=.ok V w:=by
 unfold Nw at a
 split at a
 ·rename_i l e A
  split at a
  ·rename_i es c x y
   have⟨arr,d,Gz⟩:=agi (P:=P) h Iz C y
   have o:=λb=>run_checkKey (P:=P) (w:=w) (ν:=ν) (b:=b) (n:=9998) x u
   have key:∀(F:Array bQ->Sem aa),(∀w',(F arr).run P w'=((Instr.checkKey arr.isEmpty 10000 l K).bind λ_=>(Instr.findKey l K arr.toList).bind λr=>
    match r with
    |O (_,v)=>pure (if ok then .tuple #[v,.bool I]else v)
    |G=>(zeroValue e).bind λz=>pure (if ok then .tuple #[z,.bool Z]else z)).run P w')->∃V,den ν v=O V/\(F arr).run P w=.ok V w:=λF H=>by
    rw[H]
    split at a
    ·rename_i j L b f
     have⟨R,p,J⟩:=run_findKey (P:=P) (w:=w) x u d f
     obtain⟨me,_,_,rfl,Oz,_⟩:=p
     simp at a
     subst a
     refine⟨if ok then .tuple #[me.val,.bool I]else me.val,?_,?_⟩
     ·grind[den,bw]
     ·rw[run_bind,o]
      simp_all[run_bind]
    ·rename_i f
     have⟨R,p,J⟩:=run_findKey (P:=P) (w:=w) x u d f
     subst p
     split at a
     ·rename_i z B
      have⟨Zz,Q,N⟩:=BK (P:=P) (ν:=ν) (w:=w) B
      simp at a
      subst a
      refine⟨if ok then .tuple #[Zz,.bool Z]else Zz,?_,?_⟩
      ·grind[den,bw]
      ·rw[run_bind,o]
       simp_all[run_bind]
     ·cases a
    ·cases a
   have body:∀(arr:Array bQ)(w':aj),((do
    Instr.checkKey arr.isEmpty 10000 l K
    let(v,q)<-match<-Instr.findKey l K arr.toList with
     |O (_,v)=>pure (v,I)
     |G=>pure (<-zeroValue e,Z)
    pure (if ok then .tuple #[v,.bool q]else v)):Sem aa).run P w'=((Instr.checkKey arr.isEmpty 10000 l K).bind λ_=>(Instr.findKey l K arr.toList).bind λr=>
    match r with
    |O (_,v)=>pure (if ok then .tuple #[v,.bool I]else v)
    |G=>(zeroValue e).bind λz=>pure (if ok then .tuple #[z,.bool Z]else z)).run P w':=λarr w'=>by
    rfl
   obtain⟨rfl,rfl⟩|⟨g,rfl,E⟩:=Gz
   ·simp[Instr.lookup,bind]
    rw[run_bind,run_underlying A]
    exact key (λarr=>_) (λw'=>body #[] w')
   ·simp[Instr.lookup,bind]
    rw[run_bind,run_underlying A]
    simp
    rw[run_bind,dT E (by simp)]
    simp
    rw[run_bind]
    exact key (λarr=>_) (λw'=>body arr w')
  ·cases a
 ·cases a
theorem agj(h:my P ν s (λ_=>True) w){it:AV}{IT:aa}(a:Ny s it=O v)(x:den ν it=O IT):∃V,den ν v=O V/\(Instr.entry IT).run P w=.ok V w:=by unfold Ny at a;split at a;rename_i i;obtain⟨g,y,rfl⟩:=jT x;split at a;rename_i m f seen c l;have⟨D,r,E,u,j⟩:=h.Wv trivial l y;obtain⟨Gz,n,rfl⟩:=u;split at a;rename_i b es clock q d;have⟨arr,t,e⟩:=h.Ds trivial d n;split at a;rename_i o;have o:=an o;subst o;rw[bZ]at a;obtain⟨⟨k,C⟩,z,rfl⟩:=a;have⟨me,F,B,A⟩:=AU e z;refine⟨.tuple #[me.key,me.val],by simp[den,bw,B,A],?_⟩;(have p:r.back? =O b:=by rw[Qg,<-j,Array.getLast?_toList]at q;exact q);simp_all[Instr.entry,dT];cases a;cases a;cases a;cases a
theorem alU(h:my P ν s D w){ty d e:ag}{x:AV}{X:aa}(p:∀i,x=.map i->D i)(k:P.underlying t=O (.map d e))(a:ZW P s (.map d e) x=O v)(j:den ν x=O X)(rest:List ag):∃V,den ν v=O V/\(Builtin.len_ (t::rest).toArray ty #[X]).run P w=.ok V w:=by (have start:∀{f:TypeDesc->Sem aa}{V:aa},(f (.map d e)).run P w=.ok V w->(Sem.bind (underlying t) f).run P w=.ok V w:=λo=>by rw[run_bind,run_underlying k];exact o);simp[Builtin.len_,bind];cases x<;>simp only[ZW]at a<;>(try(cases a;done));simp at a;simp[den]at j;subst j a;exact⟨_,rfl,start rfl⟩;rename_i i;obtain⟨g,n,rfl⟩:=jr j;split at a;rename_i es c m;simp at a;subst a;have⟨arr,l,b⟩:=h.Ds (p i rfl) m n;refine⟨_,rfl,start ?_⟩;rw[run_bind,dT l (by simp)];have:=b.length;simp at this;rw[this];rfl;cases a
theorem TV{o:aY}(B:eG ν T N a.tmps)(q:fC P o.op=1)(h:my P ν s D w)(hD:(∀k,nW T o.op=O k->D k)/\(nW T o.op=G->∀i,D i))(b:oq P s T o.op=O v):∃V,den ν v=O V/\(execOp a.eval o).run P w=.ok (.value V) w:=by have fin:∀{x:Sem aa},(∃V,den ν v=O V/\x.run P w=.ok V w)->(execOp a.eval o=Sem.bind x λv=>Sem.pure (Next.value v))->∃V,den ν v=O V/\(execOp a.eval o).run P w=.ok (.value V) w:=λ⟨V,Iz,H⟩ e=>⟨V,Iz,by rw[e];exact lD H⟩;have⟨y,C⟩:=hD;cases l:o.op<;>rw[l]at b q y C<;>simp only[fC]at q<;>(try(cases q;done));(case load t x=>simp[oq]at b;split at b;(·rename_i i off r;have⟨g,hg,e⟩:=jT (B.evA r);have⟨V,Iz,H⟩:=acw h (y i (by simp[nW,r])) b hg;refine fin (x:=Instr.loadAt t (a.eval x)) ⟨V,Iz,?_⟩ (by unfold execOp;rw[l];rfl);rw[e];exact H);(·first|contradiction|simp_all|grind|omega);·cases b);(case lookup t x ix ok=>simp[oq]at b;split at b;(·rename_i m k S L;refine fin (adp h (λi z=>y i (by subst z;simp[nW,S])) b (B.evA S) (B.evA L)) (by unfold execOp;rw[l];rfl));·cases b);(case entry it=>simp[oq]at b;cases z:evA T it with|none=>rw[z]at b;cases b|some u=>rw[z]at b;have Gz:my P ν s (λ_=>True) w:=⟨λi o _ M=>h.f i o (C (by rfl) i) M,λ_=>h.g (C (by rfl))⟩;exact fin (agj Gz b (B.evA z)) (by unfold execOp;rw[l];rfl));(case convert src dst x=>split at q;(·rename_i e p;simp[oq]at b;split at b;(·rename_i k n r;rw[p]at b;cases j:P.underlying dst with|none=>rw[j]at b;cases b|some d=>rw[j]at b;cases d<;>simp only at b<;>(try(cases b;done));simp at b;subst b;have J:=B.evA r;simp[den]at J;refine fin (x:=convert src dst (a.eval x)) ⟨_,rfl,?_⟩ (by unfold execOp;rw[l];rfl);rw[<-J];simp[convert,bind];rw[run_bind,run_underlying p];simp;rw[run_bind,run_underlying j];rfl);(·first|contradiction|simp_all|grind|omega);(·rename_i k u r;have⟨n,hn,J⟩:=pa (B.evA r);rw[p]at b;cases j:P.underlying dst with|none=>rw[j]at b;cases b|some d=>rw[j]at b;cases d<;>simp only at b<;>(try(cases b;done));rename_i Q;simp at b;subst b;refine fin (x:=convert src dst (a.eval x)) ⟨.int Q (Q.wrap n),by simp[den,ai,hn],?_⟩ (by unfold execOp;rw[l];rfl);rw[J];simp[convert,bind];rw[run_bind,run_underlying p];simp;rw[run_bind,run_underlying j];rfl);(·rename_i u hni Zz R r;cases j:P.underlying dst with|none=>(first|contradiction|simp_all|grind|omega)|some d=>first|contradiction|simp_all|grind|omega);·cases b);(·grind);(·cases q);(·cases q);·cases q);case call c=>split at q;(·rename_i U;split at q;(·cases q);·rename_i X;simp[oq,U]at b;split at b;(·rename_i x t r K;split at b;(·rename_i d u Y E;(have F:∃Oz e,d=.map Oz e:=by grind[worldless]);obtain⟨Oz,e,rfl⟩:=F;(have A:∃rest,c.argTypes=(t::rest).toArray:=by cases W:c.argTypes.toList with|nil=>rw[<-fI,W]at K;cases K|cons t' rest=>rw[<-fI,W]at K;grind);have⟨rest,A⟩:=A;have⟨V,Iz,H⟩:=alU (P:=P) (ty:=o.type) h (λi z=>y i (by subst z;simp[nW,r,E])) Y b (B.evA E) rest;refine⟨V,Iz,?_⟩;rw[gw l U,A,iK r];simp;exact lD H);·cases b);·cases b);(·cases q);(·cases q);(·cases q);·cases q
end
end
section
open RowKit
variable{v x:AV}{c:zj}{d:ah}{y:Int}{k:bu}{l:List UInt8}{i n off sz:Nat}{hi lo mx:Option AV}{HI LO MX:Option aa}{p q t u:Tm}{e:ag}{Iz V X:aa}
section
variable{P:aw}{w0 w:aj}{A:en}{ν:Nm}{s:St}{T:Tr AV}{N:Nat}{a:Act}{lm:List fV}
mutual
noncomputable def cz(ν:Nm):AV->AV|.sym k t=>(match ai ν t with|O (.n n)=>.int k n|_=>.sym k t)|.iJ t=>(match ai ν t with|O (.s l)=>.str l|_=>.iJ t)|.agg l=>.agg (VI ν l)|v=>v
noncomputable def VI(ν:Nm):List AV->List AV|[]=>[]|v::l=>cz ν v::VI ν l
end
theorem D0(ν:Nm):∀l:List AV,VI ν l=l.map (cz ν)|[]=>rfl|v::l=>by simp[VI,D0 ν l]
mutual
theorem Fw(ν:Nm):∀(v:AV),den ν (cz ν v)=den ν v|.sym k t=>by grind[cz,den]|.iJ t=>by grind[cz,den]|.agg l=>by simp[cz,den,N5 ν l]|.bool _|.int _ _|.str _|.kv|.ptr _ _|.cQ|.slice _ _ _ _|.lf|.map _|.func _ _ _|.iq|.iface _ _|.gP|.il _|.ext _|.mw _ _|.iI _|.tail _ _ _ _ _ _|.deep _ _|.mn _ _ _ _ _|.bK _ _ _|.jM _ _ _ _ _|.gZ _ _ _ _ _ _=>rfl
theorem N5(ν:Nm):∀(l:List AV),bw ν (VI ν l)=bw ν l|[]=>rfl|v::l=>by simp[VI,bw,Fw ν v,N5 ν l]
end
theorem akk{n:Int}(h:ai ν t=O (.n n)):cz ν (.sym k t)=.int k n:=by simp[cz,h]
theorem agk(h:ai ν t=O (.s l)):cz ν (.iJ t)=.str l:=by simp[cz,h]
theorem agl{l:List AV}{r:List AV}(h:Em l off n=O r):Em (VI ν l) off n=O (VI ν r):=by grind[Em,D0,List.map_drop,List.map_take]
theorem AA{t:ag}{cs:List AV}(h:ir P t cs off=O v):ir P t (VI ν cs) off=O (cz ν v):=by unfold ir at h⊢;split at h;split at h;rw[bZ]at h⊢;grind[cz,agl];cases h;rw[D0,dg,h];rfl;cases h
theorem E'(h:zy x=O (k,u))(b:den ν x=O X):∃n,ai ν u=O (.n n)/\cz ν x=.int k n:=by have⟨n,a,c⟩:=Ax h b;unfold zy at h;split at h;simp at h;obtain⟨rfl,rfl⟩:=h;exact⟨_,rfl,rfl⟩;grind[akk];cases h
theorem vH(ν:Nm)(l:List UInt8):ai ν (zY l)=O (.s l):=by (have key:∀l:List UInt8,∃ds,bA ν (l.map λb=>Tm.c (.ofNat b.toNat))=O ds/\kX ds=O l:=by intro l;induction l with|nil=>exact⟨[],rfl,rfl⟩|cons b l e=>have⟨ds,d,a⟩:=e;refine⟨.n b.toNat::ds,?_,?_⟩;simp_all[bA,ai];have g:=b.toNat_lt;(have f:(decide (0<=(b.toNat:Int))&&decide ((b.toNat:Int)<256))=I:=by grind);simp only[kX,a,f];simp);have⟨ds,d,a⟩:=key l;exact Ft.2 ⟨ds,l,d,a,rfl⟩
theorem u_(h:KV x=O u)(a:den ν x=O X):∃l,ai ν u=O (.s l)/\cz ν x=.str l/\X=.string ⟨l.toArray⟩:=by unfold KV at h;split at h;rename_i l;simp at h;subst h;simp[den]at a;exact⟨l,vH ν l,rfl,a.symm⟩;grind[den,agk];cases h
theorem alV(b:Bool):jC b=.n (if b=I then 1 else 0):=rfl
theorem Qh{x y:Bool}(hp:ai ν p=O (jC x))(hq:ai ν q=O (jC y)):ai ν (aeH p q)=O (jC (x&&y)):=by (have gen:ai ν (.f 5 [p,q])=O (jC (x&&y)):=by refine TR.2 ⟨_,_,hp,hq,?_⟩;cases x<;>cases y<;>rfl);unfold aeH;split;rename_i n;split;rename_i hn;have:=h_ hn;subst this;simp[ai]at hq;(have:y=I:=by cases y<;>first|rfl|cases hq);simp_all;exact gen;exact gen
theorem adq{x:Int}(hp:ai ν p=O (.n x))(hq:ai ν q=O (.n y)):ai ν (aiW k p q)=O (jC (gj x y)):=by unfold aiW;split;rename_i m n;simp[ai]at hp hq;subst hp hq;cases h:gj m n<;>rfl;rw[dq.2 ⟨x,y,hp,hq,rfl⟩];rfl
theorem yB{E:ag->AV->AV->Option Tm}{F:ag->AV->AV->Option Bool}(hE:∀t x y q X Y,E t x y=O q->den ν x=O X->den ν y=O Y->∃b,F t (cz ν x) (cz ν y)=O b/\ai ν q=O (jC b)){xs ys:List AV}{XS YS:List aa}(hx:bw ν xs=O XS)(hy:bw ν ys=O YS):∀(fs:List Field){q:Tm},XH P E xs ys fs=O q->∃b,jH P F (VI ν xs) (VI ν ys) fs=O b/\ai ν q=O (jC b)|[],q,h=>by simp[XH]at h;subst h;exact⟨I,rfl,rfl⟩|f::fs,q,h=>by unfold XH at h;unfold jH;split at h;exact yB hE hx hy fs h;split at h;rename_i x y h1 h2;rw[AA (ν:=ν) h1,AA (ν:=ν) h2];simp only;split at h;rename_i p r h3 h4;simp at h;subst h;have⟨X,k1,_⟩:=jE (P:=P) (w:=default) hx h1;have⟨Y,k2,_⟩:=jE (P:=P) (w:=default) hy h2;have⟨b,k3,k4⟩:=hE _ _ _ _ _ _ h3 k1 k2;have⟨c,k5,k6⟩:=yB hE hx hy fs h4;rw[k3];refine⟨b&&c,?_,Qh k4 k6⟩;grind;cases h;cases h
theorem GR{E:AV->AV->Option Tm}{F:AV->AV->Option Bool}{size:Nat}(hE:∀x y q X Y,E x y=O q->den ν x=O X->den ν y=O Y->∃b,F (cz ν x) (cz ν y)=O b/\ai ν q=O (jC b)){xs ys:List AV}{XS YS:List aa}(hx:bw ν xs=O XS)(hy:bw ν ys=O YS):∀(n i:Nat){q:Tm},Z2 P E e size xs ys n i=O q->∃b,mX P F e size (VI ν xs) (VI ν ys) n i=O b/\ai ν q=O (jC b)|0,_,q,h=>by simp[Z2]at h;subst h;exact⟨I,rfl,rfl⟩|n+1,i,q,h=>by unfold Z2 at h;unfold mX;split at h;rename_i x y h1 h2;rw[AA (ν:=ν) h1,AA (ν:=ν) h2];simp only;split at h;rename_i p r h3 h4;simp at h;subst h;have⟨X,k1,_⟩:=jE (P:=P) (w:=default) hx h1;have⟨Y,k2,_⟩:=jE (P:=P) (w:=default) hy h2;have⟨b,k3,k4⟩:=hE _ _ _ _ _ h3 k1 k2;have⟨c,k5,k6⟩:=GR hE hx hy n (i+1) h4;rw[k3];refine⟨b&&c,?_,Qh k4 k6⟩;grind;cases h;cases h
theorem BQ:∀(d:Nat)(t:ag)(x y:AV)(q:Tm)(X Y:aa),eqS P d t x y=O q->den ν x=O X->den ν y=O Y->∃b,KL P d t (cz ν x) (cz ν y)=O b/\ai ν q=O (jC b)|0,_,_,_,_,_,_,h,_,_=>by cases h|d+1,t,x,y,q,X,Y,h,hx,hy=>by unfold eqS at h;unfold KL;split at h;rename_i k hu;rw[hu];simp only;split at h;rename_i k1 p k2 r h1 h2;split at h;rename_i hk;simp at h;subst h;have⟨m,e1,e2⟩:=E' h1 hx;have⟨n,e3,e4⟩:=E' h2 hy;rw[e2,e4];simp only[hk];exact⟨_,rfl,adq e1 e3⟩;cases h;cases h;rename_i hu;rw[hu];simp only;split at h;rename_i p r h1 h2;simp at h;subst h;have⟨l,e1,e2,_⟩:=u_ h1 hx;have⟨m,e3,e4,_⟩:=u_ h2 hy;rw[e2,e4];refine⟨_,rfl,?_⟩;rw[aco.2 ⟨_,_,e1,e3,rfl⟩,gi];cases h;rename_i fields hu;rw[hu];simp only;split at h;rename_i xs ys;split at h;cases h;rename_i hs;have⟨XS,hX,_⟩:=gB hx;have⟨YS,hY,_⟩:=gB hy;exact yB (λt x y q X Y=>BQ d t x y q X Y) hX hY _ h;cases h;rename_i len e hu;rw[hu];simp only;split at h;rename_i xs ys;split at h;rename_i n hs;have⟨XS,hX,_⟩:=gB hx;have⟨YS,hY,_⟩:=gB hy;exact GR (λx y q X Y=>BQ d e x y q X Y) hX hY _ _ h;cases h;cases h;cases h
theorem AB{b:Bool}(h:ai ν q=O (jC b)):den ν (.iI q)=O (.bool b):=by simp_all[den,alV]
theorem adr{b:Bool}(h:ai ν q=O (jC b)):ai ν (aiY q)=O (jC (!b)):=by (have gen:ai ν (.f 10 [q])=O (jC (!b)):=by refine Aa.2 ⟨_,h,?_⟩;cases b<;>rfl);unfold aiY;split;(rename_i k p r;have⟨x,y,h1,h2,h3⟩:=dq.1 h;refine dq.2 ⟨x,y,h1,h2,?_⟩;rw[bI (q:=decide (x=y)) rfl]at h3;rw[bI (q:= !decide (x=y)) rfl];cases hd:decide (x=y)<;>rw[hd]at h3<;>cases b<;>first|rfl|(injection h3 with h3;injection h3 with h3;simp at h3));exact gen
theorem WZ(h:ai ν t=O (.s l)):ai ν (.f 0 [t])=O (.n l.length):=jO.2 ⟨_,_,h,rfl,rfl⟩
theorem Ly(a:∀t b,(t,b)∈s.x.pc->bh ν t b){z:Int}(h:ai ν t=O (.n z)):Bd (bnd s t) z:=qA a _ h
theorem UD(d:∀t b,(t,b)∈s.x.pc->bh ν t b){i j:Tm}{m n:Int}(hi:ai ν i=O (.n m))(a:ai ν j=O (.n n)):ai ν (Tx s i j)=O (.n (n - m)):=by have gen:ai ν (.f 12 [i,j])=O (.n (n - m)):=NP.2 ⟨m,n,hi,a,rfl⟩;unfold Tx;split;rename_i k p r;split;rename_i c;simp at c;have:=bj c.1;subst this;have⟨x,y,e,h,g⟩:=dq.1 a;rw[hi]at e;grind[gH,dX,FK,TS,Ly];exact gen;exact gen
theorem LA(f:∀t b,(t,b)∈s.x.pc->bh ν t b)(h:ai ν t=O (.s l)):ai ν (EL s t)=O (.n l.length):=by unfold EL;split;rename_i k c;rw[q_ c]at h;have⟨ds,u,e,d,a⟩:=Ft.1 h;simp at a;subst a;rw[yk d,lZ e];rfl;split;rename_i p i j c;rw[q_ c]at h;have⟨x,m,n,e,d,a,r,q,o,g⟩:=acm.1 h;grind[UD];exact WZ h
theorem ea(i:bS lm)(a:∀t b,(t,b)∈s.x.pc->bh ν t b){o:BinOp}{x:Int}{c:Bool}(e:ai ν p=O (.n x))(d:ai ν q=O (.n y))(g:Dr o x y=O c)(h:gA lm s (.bin o k p q)=I):c=I:=by unfold gA at h;split at h;rename_i f;have:=ib i a f (dq.2 ⟨x,y,e,d,bI g⟩);simp_all;cases h
theorem Qi(rW:∀t b,(t,b)∈s.x.pc->bh ν t b){t:ag}{y:AV}{Y:aa}(h:aeJ P s t x y=O q)(hx:den ν x=O X)(hy:den ν y=O Y):∃b,ai ν q=O (jC b)/\Bc P .eql t (cz ν x) (cz ν y)=O (.bool b)/\Bc P .neq t (cz ν x) (cz ν y)=O (.bool (!b)):=by unfold aeJ at h;split at h;rename_i p r _ h1 h2;have⟨l,e1,e2,e5⟩:=u_ h1 hx;have⟨m,e3,e4,e6⟩:=u_ h2 hy;(have str:∀b,iW l m=b->Bc P .eql t (cz ν x) (cz ν y)=O (.bool b)/\Bc P .neq t (cz ν x) (cz ν y)=O (.bool (!b)):=λb hb=>by rw[e2,e4];simp only[Bc,DE,hb];exact⟨trivial,trivial⟩);(have anA:∀{u:Tm}{z:List UInt8},ai ν u=O (.s z)->ai ν (.bin .eql .i64 (EL s u) (.c 0))=O (jC (decide (z=[]))):=λ{u z} hz=>by refine dq.2 ⟨_,0,LA rW hz,rfl,?_⟩;rw[bI (q:=decide (z=[])) ?_];rfl;simp only[Dr];congr 1;rw[decide_eq_decide];rw[<-jv];omega);grind[den,gi,aco];cases h;split at h;rename_i hc;simp at hc;have⟨b,h1,h2⟩:=BQ 12 t x y q X Y h hx hy;refine⟨b,h2,?_⟩;have amK:=hc.1;unfold isAgg2 at amK;grind[cz,Bc];cases h
theorem ads(hL:bS lm)(rW:∀t b,(t,b)∈s.x.pc->bh ν t b){op:BinOp}{t:ag}{y:AV}{Y:aa}(h:aiZ P lm s op t x y=O v)(hx:den ν x=O X)(hy:den ν y=O Y)(xo yo:fh)(w:aj):∃V,den ν v=O V/\(Sem.bind (eqGuard op t xo yo X Y) λ_=>binOp op t X Y).run P w=.ok V w:=by (have go:∀{x' y' u:AV},den ν x'=O X->den ν y'=O Y->Bc P op t x' y'=O u->(∀V,den ν u=O V->den ν v=O V)->∃V,den ν v=O V/\(Sem.bind (eqGuard op t xo yo X Y) λ_=>binOp op t X Y).run P w=.ok V w:=λhx' hy' hu hv=>by have⟨V,h1,h2⟩:=FP (ν:=ν) hu hx' hy' xo yo w;simp_all);have hcx:den ν (cz ν x)=O X:=(Fw ν x).trans hx;have hcy:den ν (cz ν y)=O Y:=(Fw ν y).trans hy;unfold aiZ at h;split at h;grind[den,Qi,AB];grind[den,Qi,AB,adr];(first|contradiction|simp_all|grind|omega);(first|contradiction|simp_all|grind|omega);split at h;(first|contradiction|simp_all|grind|omega);split at h;rename_i k a l b h1 h2;split at h;rename_i hc;simp at hc;simp at h;subst h;have⟨p,d1,d1'⟩:=E' h1 hx;have⟨q,d2,d2'⟩:=E' h2 hy;(have hq:gj q 0=Z:=by have:=ea hL rW d2 (show ai ν (.c 0)=O (.n 0)from rfl) rfl hc.2;rw[pS];simpa using this);refine go (u:=.int k (p.tmod q)) hcx hcy (by rw[d1',d2'];simp[Bc,hc.1,dX,hq]) λV hV=> ?_;simp_all[den,ai,gH,dX];cases h;cases h;split at h;rename_i k p l m;injection h with h;subst h;have⟨n,h1,h2⟩:=pa hx;(have anB:decide (cq m<0)=Z:=by simp);refine go (x':=.int k n) (y':=.int l (.ofNat m)) (u:=.int k (n.fdiv (2^(min m k.bits)))) (by rw[h2];rfl) hy (by rfl) λV hV=> ?_;simp[den]at hV;subst hV;simp only[den];rw[acn.2 ⟨n,_,h1,rfl,rfl⟩];rfl;cases h;(first|contradiction|simp_all|grind|omega);cases h
theorem nE(h:uM x=O u)(a:den ν x=O X):∃k n,ai ν u=O (.n n)/\X=.int k n:=by unfold uM at h;split at h;simp at h;subst h;simp[den]at a;exact⟨_,_,rfl,a.symm⟩;grind[pa];cases h
theorem lA(h:den ν (.deep e t)=O V):∃xs,ai ν t=O (.r e V xs)/\V.oneCell'=I:=by grind[den]
theorem Ry{e:Nat}{lo n:Tm}(h:den ν (.gZ i e sz lo n c)=O V):∃(a:Option Addr)(x y:Int)(m:Nat)(cap:Nat),ai ν lo=O (.n x)/\ai ν n=O (.n y)/\0<=y - x/\V=.slice a (y - x).toNat cap:=by simp only[den]at h;split at h;rename_i g a b m l k j f;split at h;obtain⟨d,p,q,rfl⟩:=l_ h;split at d;simp_all;omega;split at h;rename_i o;simp at h;subst h;rw[show b.toNat - a.toNat=(b - a).toNat by omega];simp_all;cases h;cases h
theorem vI{t ty:ag}{w:aj}(b:P.underlying t=O (.slice e))(rest:List ag)(a:Option Addr)(n cap:Nat):(Builtin.len_ (t::rest).toArray ty #[.slice a n cap]).run P w=.ok (.int .i64 n) w:=by simp[Builtin.len_,bind];rw[run_bind,run_underlying b];rfl
theorem sJ{z:Nat->Option Obj}{xs:List ah}(h:ch P z (.r e V xs)):((V=.slice G 0 0∨∃a cap,V=.slice (O a) 0 cap)/\xs=[])∨∃g off cap,V=.slice (O ⟨g,off,G⟩) xs.length cap/\xs.length<=cap:=by rcases h with h|⟨g,off,cap,size,arr,fz,ts,b,n,m,l,k,j,i,f,d,c⟩;exact .inl h;grind
theorem adt(h:ai ν t=O d):∃d',ai ν (xO t)=O d'/\(d'=d∨d'=strip d):=by unfold xO;split;rename_i a c b;rw[fq b]at h;exact⟨_,(dr.1 h).2,.inr rfl⟩;simp_all
theorem cM(h:ai ν t=O d)(b:bM d=O n):ai ν (jY t)=O (.n n):=by have⟨d',a,c⟩:=adt h;refine jO.2 ⟨d',n,a,?_,rfl⟩;grind[Yj]
theorem Qj:∀{t:Tm}{d:ah},ai ν (.f 0 [t])=O d->ai ν (aeG t)=O d|.c _,_,h=>h|.x _,_,h=>h|.bin ..,_,h=>h|.conv ..,_,h=>h|.f o [],_,h=>h|.f o (t::l),d,h=>by unfold aeG;split;rename_i e;refine Qj ?_;obtain⟨x,n,p,r,rfl⟩:=jO.1 h;simp only[bW]at e;rcases e with(((e|e)|e)|e)|e<;>have e:=an e<;>subst e<;>have⟨ds,u,i⟩:=(dn rfl (by decide)).1 p<;>obtain⟨k,j,w,v,rfl⟩:=aP.1 u;have i:om (k::j)=O x:=i;grind[bM,wK,jO];have i:bt Bg (k::j)=O x:=i;grind[bM,cZ,pO,jO];have i:bt qV (k::j)=O x:=i;grind[bM,cZ,kh,jO];have i:bt Ks (k::j)=O x:=i;have⟨a,b,c,q,s⟩:=cZ i;simp at q;obtain⟨rfl,_⟩:=q;obtain⟨xs,ys,m,rfl,_,_,z,y,rfl⟩:=pQ s;simp only[bM,cL,bD,dZ,aG]at r;grind[bM,aG,jO];have i:eI V7 (k::j)=O x:=i;grind[bM,wL,eL,yi,jO];split;rename_i e;have e:=an e;subst e;obtain⟨x,n,p,r,rfl⟩:=jO.1 h;have⟨a,b,C,B,A⟩:=(eR (g:=Ep) rfl (by decide) λ_=>rfl).1 p;grind[bM,pP];exact h
theorem FR(h:ai ν t=O d):ai ν (Z1 t)=O d:=by grind[Z1,tn,Qj]
theorem kK{a b:Tm}{x y:ah}(h:ns a b=I)(d:ai ν a=O x)(c:ai ν b=O y):x=y:=by unfold ns at h;rw[bW]at h;rcases h with h|h;rw[bj h,c]at d;simp_all;have e:=FR d;rw[bj h,FR c]at e;simp_all
theorem iG(e:bS lm)(a:∀t b,(t,b)∈s.x.pc->bh ν t b){x:Int}(d:ai ν p=O (.n x))(c:ai ν q=O (.n y))(h:sY lm s p q=I):x<=y:=by unfold sY at h;rw[bW]at h;rcases h with h|h;grind[kK];have:=ea e a d c rfl h;grind
theorem nQ(e:bS lm)(a:∀t b,(t,b)∈s.x.pc->bh ν t b){x:Int}(d:ai ν p=O (.n x))(h:Co lm s p=I):0<=x:=by unfold Co at h;rw[bW]at h;rcases h with h|h;unfold aeK at h;grind[h_,ai];have:=ea e a (show ai ν (.c 0)=O (.n 0)from rfl) d rfl h;grind
theorem ek(h:den ν (.bK i t c)=O V):(ν i=O 0/\ai ν t=O (.n 0)/\ν.q i=O V/\(∃a,V=.slice a 0 0)/\∃m,cX ν c=O m)∨∃g n cap,ν i=O g/\g≠0/\ai ν t=O (.n ((n:Nat):Int))/\cX ν c=O cap/\n<=cap/\V=.slice (O ⟨g,0,G⟩) n cap:=by grind[den,l_]
theorem pV{g cap:Nat}(e:ν i=O g)(f:g≠0)(d:ai ν t=O (.n ((n:Nat):Int)))(b:cX ν c=O cap)(a:n<=cap):den ν (.bK i t c)=O (.slice (O ⟨g,0,G⟩) n cap):=by simp_all[den]
theorem CP{m:Nat}{a:Option Addr}(f:ν i=O 0)(e:ai ν t=O (.n 0))(d:cX ν c=O m)(b:ν.q i=O (.slice a 0 0)):den ν (.bK i t c)=O (.slice a 0 0):=by simp only[den,f,e,d,b];rfl
theorem UE(r:bS lm)(a:∀t b,(t,b)∈s.x.pc->bh ν t b)(p:∀i d,ν.x i=O d->ch P ν.z d){t:ag}{i:AV}(h:TA P lm s t x i=O v)(Gz:den ν x=O X)(hi:den ν i=O Iz)(w:aj):∃V,den ν v=O V/\(Instr.indexAt t X Iz).run P w=.ok V w:=by unfold TA at h;split at h;rename_i e R J it D E;split at h;rename_i z q C;simp at h;subst h;simp only[ay]at q;have⟨⟨L,F⟩,y⟩:=q;have:=an L;subst this;have⟨xs,H,_⟩:=lA Gz;obtain⟨k,n,f,rfl⟩:=nE E hi;have o:ai ν (jY J)=O (.n xs.length):=cM H rfl;have u:=ea r a f (show ai ν (.c 0)=O (.n 0)from rfl) rfl F;have A:=ea r a f o rfl y;simp only[decide_eq_true_eq]at u A;obtain⟨m,rfl⟩:=gR u;(have l:m<xs.length:=by omega);rcases sJ (mP p H)with⟨_,rfl⟩|⟨g,off,cap,rfl,K⟩;simp at l;refine⟨.pointer _,?_,rP D l C w⟩;simp_all[den];cases h;rename_i e b n c it D E;split at h;rename_i z q C;simp at h;subst h;simp at q;have⟨F,y⟩:=q;obtain⟨k,j,f,rfl⟩:=nE E hi;have u:=ea r a f (show ai ν (.c 0)=O (.n 0)from rfl) rfl F;obtain⟨_,B,_⟩|⟨g,m,cap,Oz,Q,B,N,M,rfl⟩:=ek Gz;have A:=ea r a f B rfl y;grind;have A:=ea r a f B rfl y;simp only[decide_eq_true_eq]at u A;obtain⟨j,rfl⟩:=gR u;refine⟨.pointer _,?_,rP D (by omega) C w⟩;simp_all[den];cases h;cases h
theorem pL{t e z:Nat}(p:P.underlying t=O (.slice e))(o:di P e=O z){a:Option Addr}{len C l hh:Nat}{m:Option Nat}(h:lu ν lo LO)(g:lu ν hi HI)(f:lu ν mx MX)(d:mK len (.k C) lo hi mx=O (l,hh,m))(b:len<=C)(w:aj):(Instr.sliceAt t (.slice a len C) LO HI MX).run P w=.ok (.slice (if m.getD C=l then a else a.map (·.add (l*z))) (hh - l) (m.getD C - l)) w/\l<=hh/\hh<=m.getD C/\m.getD C<=C:=by have⟨r,n,j,i⟩:=qy (P:=P) (w:=w) (ν:=ν) (c:=.k C) rfl b h g f d I;simp_all[Instr.sliceAt,run_underlying,Instr.slice,d_]
theorem ss{v:Option AV}{d i:Tm}{b:Int}(f:ai ν d=O (.n b))(h:lu ν v LO)(a:SF v d=O i):∃m,ai ν i=O (.n m)/\((v=G/\m=b)∨∃k,∃u,v=O u/\lu ν (O (.int k m)) LO):=by cases v with|none=>injection a with a;simp_all|some u=>obtain⟨U,e,rfl⟩:=h;obtain⟨k,n,c,rfl⟩:=nE a e;exact⟨n,c,.inr ⟨k,u,rfl,⟨_,rfl,rfl⟩⟩⟩
theorem wO{len C:Nat}{i j:Tm}{x w:Tm}{l h:Nat}(o:lu ν lo LO)(q:lu ν hi HI)(F:lu ν mx MX)(M:ai ν x=O (.n 0))(L:ai ν w=O (.n len))(z:SF lo x=O i)(y:SF hi w=O j)(b:ai ν i=O (.n l))(t:ai ν j=O (.n h))(s:l<=h)(Iz:h<=len)(hC:len<=C)(Gz:mx=G∨((∃u,hi=O u)/\∃k,lu ν (O (.int k h)) MX/\∃u,mx=O u)):∃a b g:Option AV,lu ν a LO/\lu ν b HI/\lu ν g MX/\mK len (.k C) a b g=O (l,h,match mx with|G=>G|O _=>O h):=by have⟨Q,f,r⟩:=ss M o z;have⟨P,d,c⟩:=ss L q y;rw[b]at f;injection f with f;simp at f;subst f;rw[t]at d;injection d with d;simp at d;subst d;(have m:∃a,lu ν a LO/\loB h a=O l:=by obtain⟨rfl,r⟩|⟨k,u,rfl,r⟩:=r;refine⟨G,o,?_⟩;(have:l=0:=by omega);subst this;rfl;refine⟨_,r,?_⟩;show(match aF l h with|I=>O l|Z=>G)=_;rw[fe s]);have⟨a,D,B⟩:=m;rcases Gz with rfl|⟨⟨u,rfl⟩,k,A,Oz,rfl⟩;(have v:∃p,lu ν p HI/\hiB len (.k C) G p=O h:=by obtain⟨rfl,c⟩|⟨k,u,rfl,c⟩:=c;refine⟨G,q,?_⟩;(have:h=len:=by omega);subst this;rfl;refine⟨_,c,?_⟩;show(match ME len (.k C) h with|I=>O h|Z=>G)=_;unfold ME;rw[fe Iz];rfl);grind[mK,XF];obtain⟨e,_⟩|⟨E,N,_,c⟩:=c;cases e;refine⟨a,_,_,D,c,A,?_⟩;(have H:ME len (.k C) h=I:=by simp_all[ME]);(have K:XF len (.k C) (O (.int k h))=O (O h):=by show(match ME len (.k C) h with|I=>_|Z=>_)=_;rw[H]);(have J:hiB len (.k C) (O h) (O (.int E h))=O h:=by show(match aF h h with|I=>O h|Z=>G)=_;rw[fe (ba _)]);simp[mK,K,J,B]
theorem Rz(H:bS lm)(f:∀t b,(t,b)∈s.x.pc->bh ν t b){t:ag}(hx:den ν x=O X)(T:lu ν lo LO)(S:lu ν hi HI)(h3:lu ν mx MX)(h:NC P lm s t x lo hi mx=O v)(w:aj):∃V,den ν v=O V/\(Instr.sliceAt t X LO HI MX).run P w=.ok V w:=by unfold NC at h;split at h;rename_i e b n c Zz;split at h;rename_i sz i j A u p;(have hn:∃(len C:Nat)(a:Option Addr),ai ν n=O (.n len)/\X=.slice a len C/\len<=C/\∃J,cX ν c=O J/\((ν b=O 0/\len=0/\C=0/\ν.q b=O X)∨∃g,ν b=O g/\g≠0/\a=O ⟨g,0,G⟩/\J=C):=by obtain⟨o,Y,F,⟨a,rfl⟩,m,W⟩|⟨g,m,cap,o,Gz,Y,F,W,rfl⟩:=ek hx;exact⟨0,0,a,Y,rfl,ba _,m,W,.inl ⟨o,rfl,rfl,F⟩⟩;grind);obtain⟨len,C,a,z,rfl,k,J,B,d⟩:=hn;have⟨m1,E,c1⟩:=ss (show ai ν (.c 0)=O (.n 0)from rfl) T u;have⟨m2,Iz,c2⟩:=ss z S p;split at h;rename_i D;split at h;rename_i y;simp at h;subst h;simp at y;(have e1:m1=0:=by unfold aeK at D;grind[h_,ai]);subst e1;have U:=nQ H f Iz y.1;have g2:=iG H f Iz z y.2;obtain⟨hh,rfl⟩:=gR U;have⟨Oz,Q,N,M,L,K,R⟩:=wO T S h3 (show ai ν (.c 0)=O (.n 0)from rfl) z u p (l:=0) E Iz (dy _) (by omega) k (.inl rfl);have⟨r,_,_,_⟩:=pL (P:=P) Zz A (a:=a) M L K R k w;refine⟨_,?_,r⟩;obtain⟨o,rfl,rfl,F⟩|⟨g,o,Gz,rfl,rfl⟩:=d;grind[CP];simp;(have:(if J=0 then(O ⟨g,0,G⟩:Option Addr)else O ((⟨g,0,G⟩:Addr).add 0))=O ⟨g,0,G⟩:=by split<;>rfl);rw[this];exact pV o Gz Iz B (by omega);cases h;rename_i D;split at h;rename_i y;simp at h;subst h;simp at y;have U:=nQ H f E y.1;have g2:=iG H f E z y.2;obtain⟨ll,rfl⟩:=gR U;have⟨Oz,Q,N,M,L,K,R⟩:=wO T S h3 (show ai ν (.c 0)=O (.n 0)from rfl) z u p (l:=ll) (h:=len) E (by simp_all) (by omega) (ba _) k (.inl rfl);have⟨r,_,_,_⟩:=pL (P:=P) Zz A (a:=a) M L K R k w;refine⟨_,?_,r⟩;obtain⟨o,rfl,rfl,F⟩|⟨g,o,Gz,rfl,rfl⟩:=d;simp_all[den];simp only[den,o,E,z,B];rw[if_neg Gz,if_pos ⟨by omega,by omega,by omega⟩];simp;rw[gO];split<;>simp;cases h;cases h;cases h;cases h
theorem UF{d:ag}{a:Array Field}{f:Nat}{fd:Field}{e:Nat}{c it:Tm}(h:P.underlying d=O (.struct a))(j:a[f]? =O fd)(i:di P fd.type=O (n+1))(b:den ν (.mn e sz c it off)=O X)(w:aj):∃V,den ν (.mn e sz c it (off+fd.offset))=O V/\(Instr.fieldAt d X f).run P w=.ok V w:=by simp[den]at b;split at b;rename_i s g o m l xs k r q;split at b;rename_i p;simp at b;subst b;refine⟨.pointer _,?_,vG h j i w⟩;simp_all[den,Nat.add_assoc];cases b;cases b
theorem UG{d:ag}{a:Array Field}{f:Nat}{fd:Field}{b e:Nat}{it:Tm}(h:P.underlying d=O (.struct a))(j:a[f]? =O fd)(i:di P fd.type=O (n+1))(c:den ν (.jM b e sz it off)=O X)(w:aj):∃V,den ν (.jM b e sz it (off+fd.offset))=O V/\(Instr.fieldAt d X f).run P w=.ok V w:=by simp[den]at c;split at c;rename_i g k o m;split at c;rename_i l;simp at c;subst c;refine⟨.pointer _,?_,vG h j i w⟩;simp_all[den,Nat.add_assoc];cases c;cases c
theorem GS:∀{cs:List AV}{l:List Tm}{L:List aa},M0 k cs=O l->bw ν cs=O L->∃a:List Int,bA ν l=O (a.map ah.n)/\cs.map (cz ν)=a.map (AV.int k)|[],l,L,h,_=>by injection h with h;subst h;exact⟨[],rfl,rfl⟩|v::cs,l,L,h,d=>by unfold M0 at h;split at h;rename_i p u r o m;split at h;rename_i c;simp at h;subst h;obtain⟨V,R,j,i,rfl⟩:=cd d;have⟨a,g,f⟩:=GS m i;have⟨n,e,b⟩:=E' o j;rw[<-iw c]at b;exact⟨n::a,aP.2 ⟨_,_,e,g,rfl⟩,by rw[eJ,eJ,f,b]⟩;cases h;cases h
theorem Yx(z:bS lm)(g:∀t b,(t,b)∈s.x.pc->bh ν t b){t:ag}{i:AV}(h:aas P lm s t x i=O v)(u:den ν x=O X)(hi:den ν i=O Iz):∃(cs:List AV)(n e:Nat)(o k:bu)(j:Nat)(m:Int),P.underlying t=O (.array n e)/\P.underlying e=O (.int k)/\di P e=O 1/\den ν (.agg cs)=O X/\Iz=.int o (.ofNat j)/\j<n/\cs[j]? =O (.int k m)/\den ν v=O (.int k m):=by unfold aas at h;split at h;rename_i n e cs it D E;split at h;rename_i k K p y;split at h;rename_i l Gz;simp at h;subst h;simp only[ay]at y;have⟨⟨Q,Oz⟩,N⟩:=y;obtain⟨o,j,r,rfl⟩:=nE E hi;have C:=ea z g r (show ai ν (.c 0)=O (.n 0)from rfl) rfl Q;have B:=ea z g r (show ai ν (.c (.ofNat n))=O (.n (.ofNat n))from rfl) rfl Oz;simp only[decide_eq_true_eq]at C B;obtain⟨j,rfl⟩:=gR C;(have H:j<n:=by simpa using B);have a:=u;simp[den]at a;split at a;rename_i L q;have⟨d,M,A⟩:=GS Gz q;have w:cs.length=n:=an N;(have F:d.length=n:=by have:=congrArg List.length A;grind);have J:d[j]? =O (d[j]'(by omega)):=aZ _;refine⟨VI ν cs,n,e,o,k,j,d[j]'(by omega),D,K,p,?_,rfl,H,?_,?_⟩;rw[<-u];simp[den,N5];rw[D0,A,dg,J];rfl;simp[den];(have:ai ν (.f 34 (it::l))=O (.n (d[j]'(by omega))):=by refine(dn rfl (by simp)).2 ⟨_,aP.2 ⟨_,_,r,M,rfl⟩,?_⟩;show PF (.n (.ofNat j)::d.map ah.n)=_;simp_all[PF]);rw[this];cases a;cases h;cases h;cases h
theorem Yy{o:aY}(hL:bS lm)(rW:∀t b,(t,b)∈s.x.pc->bh ν t b)(Pj:∀i d,ν.x i=O d->ch P ν.z d)(hF:eG ν T N a.tmps)(h:aat P lm s T o.op=O v):∃V,den ν v=O V/\∀w,(execOp a.eval o).run P w=.ok (.value V) w:=by apply uni;intro w;have fin:∀{x:Sem aa},(∃V,den ν v=O V/\x.run P w=.ok V w)->(execOp a.eval o=Sem.bind x λv=>Sem.pure (Next.value v))->∃V,den ν v=O V/\(execOp a.eval o).run P w=.ok (.value V) w:=λ⟨V,h1,h2⟩ e=>⟨V,h1,by rw[e];exact lD h2⟩;cases Sw:o.op<;>rw[Sw]at h<;>simp only[aat]at h<;>(try(cases h;done));(case binOp op t x y t2=>split at h;(·rename_i p q hp hq;exact fin (ads hL rW h (hF.evA hp) (hF.evA hq) x y w) (by unfold execOp;rw[Sw];rfl));·cases h);(case slice t x lo hi mx=>split at h;(·rename_i p l hh m hp hl hhi hm;refine fin (x:=Instr.sliceAt t (a.eval x) (lo.map a.eval) (hi.map a.eval) (mx.map a.eval)) ?_ (by unfold execOp;rw[Sw];rfl);split at h;(·first|contradiction|simp_all|grind|omega);·exact Rz hL rW (hF.evA hp) (po hF hl) (po hF hhi) (po hF hm) h w);·cases h);(case fieldAddr st x f=>split at h;(·rename_i fields e sz tm it off hu hp;split at h;(·rename_i fd hf;split at h;(·cases h);(·rename_i n zk hs;simp at h;subst h;cases n with|zero=>simp_all|succ n=>exact fin (UF hu hf hs (hF.evA hp) w) (by unfold execOp;rw[Sw];rfl));·cases h);·cases h);(·rename_i fields b e sz it off hu hp;split at h;(·rename_i fd hf;split at h;(·cases h);(·rename_i n zk hs;simp at h;subst h;cases n with|zero=>simp_all|succ n=>exact fin (UG hu hf hs (hF.evA hp) w) (by unfold execOp;rw[Sw];rfl));·cases h);·cases h);·cases h);(case indexAddr t x ix=>split at h;(·rename_i p q hp hq;exact fin (UE hL rW Pj h (hF.evA hp) (hF.evA hq) w) (by unfold execOp;rw[Sw];rfl));·cases h);(case index t x ix=>split at h;(·rename_i p q hp hq;cases hby:ag7 P lm s t p q with|none=>rw[hby]at h;have⟨cs,n,e,kk,k,j,m,h1,he,ZB,h2,h3,hjn,h4,h5⟩:=Yx hL rW h (hF.evA hp) (hF.evA hq);(have hpa:oq P s ((Tr.e.put 0 (O (.agg cs))).put 1 (O (.int kk (.ofNat j)))) (.index t (.tmp 0) (.tmp 1))=O (.int k m):=by (have e1:((Tr.e.put 0 (O (AV.agg cs))).put 1 (O (.int kk (.ofNat j)))).get 0=O (.agg cs):=by rw[Tr.bJ,if_neg (by decide),Tr.bJ,if_pos rfl]);(have e2:((Tr.e.put 0 (O (AV.agg cs))).put 1 (O (.int kk (.ofNat j)))).get 1=O (.int kk (.ofNat j)):=by rw[Tr.bJ,if_pos rfl]);(have e3:fD P e=O Z:=by unfold fD;rw[he]);simp only[oq,evA,e1,e2,Option.bind_some,se,h1];rw[fe (show j+1<=n from hjn),ZB];simp[ir,e3,h4]);have⟨V,k1,k2⟩:=Lx (P:=P) (ν:=ν) (s:=s) (N:=2) (a:={tmps:= #[a.eval x,a.eval ix],defers:=[]}) (o:={o with op:=.index t (.tmp 0) (.tmp 1)}) ⟨rfl,λi v hv=>by rw[Tr.bJ]at hv;split at hv;(·rename_i e;subst e;injection hv with hv;subst hv;exact⟨_,rfl,by rw[h3];rfl⟩);simp_all[Tr.bJ,Tr.get]⟩ rfl hpa;simp[den]at k1;subst k1;refine⟨_,h5,?_⟩;have:=k2 w;unfold execOp at this⊢;rw[Sw];exact this|some rr=>first|contradiction|simp_all|grind|omega);·cases h);case call c=>split at h;(·rename_i hb;split at h;(·rename_i x t hx ht;split at h;(·rename_i d u hu hv;have hd:=hF.evA hv;(have PS:c.args= #[x]:=by grind);(have key:∀(n:Nat),den ν v=O (.int .i64 n)->(∀w,(Builtin.len_ c.argTypes o.type #[a.eval x]).run P w=.ok (.int .i64 n) w)->∃V,den ν v=O V/\(execOp a.eval o).run P w=.ok (.value V) w:=λn h1 h2=>by refine⟨_,h1,?_⟩;rw[gw Sw hb];(have e:(Array.map a.eval c.args)= #[a.eval x]:=by simp[PS]);rw[e];exact lD (h2 w));(have⟨rest,PU⟩:∃rest,c.argTypes=(t::rest).toArray:=by have hl:c.argTypes.toList[0]? =O t:=fI▸ht;cases hq:c.argTypes.toList with|nil=>rw[hq]at hl;cases hl|cons t' rest=>rw[hq]at hl;grind);unfold akL at h;split at h;(·rename_i e e' tm;simp at h;subst h;have⟨xs,h4,_⟩:=lA hd;refine key xs.length (by simp[den];rw[cM h4 rfl]) λw=> ?_;rcases sJ (mP Pj h4)with⟨hV|⟨a,cap,hV⟩,rfl⟩|⟨g,off,cap,hV,hle⟩;rotate_left;(·rw[hV,PU];grind[vI]);rotate_left;(·rw[hV,PU];have⟨V,r1,r2⟩:=DZ (P:=P) (w0:=w) (A:=⟨.e,ν,w⟩) (s:=s) (x:=.cQ) (X:=.slice G 0 0) hu (v:=i64 0) rfl (show den ν .cQ=_ from rfl) (.inl λk e=>by simp) rest (w:=w) (ty:=o.type);simp_all[i64,den]);·rw[hV,PU];have⟨V,r1,r2⟩:=DZ (P:=P) (w0:=w) (A:=⟨.e,ν,w⟩) (ν:=⟨λ_=>O g,ν.x,ν.u,ν.z,ν.q⟩) (s:=s) (x:=.slice 0 off xs.length (.k cap)) (X:=.slice (O ⟨g,off,G⟩) xs.length cap) hu (v:=i64 xs.length) rfl (by simp only[den,cX];rw[if_pos hle]) (.inl λk e=>by simp) rest (w:=w) (ty:=o.type);simp_all[i64,den]);(·grind[den,ek,vI]);(·rename_i e i e2 sz lo n c';simp at h;subst h;have⟨a',x',y',a0,cap,d1,d2,e1,hV⟩:=Ry hd;refine key (y' - x').toNat (by simp only[den];rw[NP.2 ⟨x',y',d1,d2,rfl⟩,Int.toNat_of_nonneg (by omega)]) λw=> ?_;rw[hV,PU];exact vI hu rest a' _ cap);(·rename_i tm;simp at h;subst h;have⟨l,h4,e4,h5⟩:=u_ (u:=tm) rfl hd;refine key l.length (by simp[den,LA rW h4]) λw=> ?_;rw[h5,PU];have⟨V,r1,r2⟩:=DZ (P:=P) (w0:=w) (A:=⟨.e,ν,w⟩) (ν:=ν) (s:=s) (x:=.str l) hu (v:=i64 l.length) rfl (show den ν (.str l)=_ from rfl) (.inl λk e=>by simp) rest (w:=w) (ty:=o.type);simp_all[i64,den]);·cases h);·cases h);·cases h);(·rename_i hc;split at h;(·rename_i x y hx;split at h;(·rename_i k p k' q hp hq;split at h;(·rename_i hk;simp at h;subst h;have⟨u,hp,hp'⟩:=kI.1 hp;have⟨u',hq,hq'⟩:=kI.1 hq;have⟨m,d1,d1'⟩:=E' hp' (hF.evA hp);have⟨n,d2,d2'⟩:=E' hq' (hF.evA hq);have e1:=hF.evA hp;have e2:=hF.evA hq;rw[<-Fw,d1']at e1;rw[<-Fw,d2']at e2;simp[den]at e1 e2;refine⟨.int k (if n<m then n else m),?_,?_⟩;(·simp[den];rw[(eR (g:=rD λa b=>.n (if b<a then b else a)) rfl (by decide) λ_=>rfl).2 ⟨_,_,d1,d2,rfl⟩]);·rw[gw Sw hc,iK hx];simp[<-e1,<-e2];rfl);·cases h);·cases h);·cases h);(·first|contradiction|simp_all|grind|omega);·cases h
end
end
section
open RowKit
section
variable{P:aw}{w0 w:aj}{A:en}{ν:Nm}{s:St}{T:Tr AV}{N:Nat}{a:Act}{lm:List fV}
theorem CQ(e:∀t b,(t,b)∈s.x.pc->bh ν t b):∀{cs:List AV}{l:List Tm}{CS:List aa},wa s cs=O l->bw ν cs=O CS->∃ds a,bA ν l=O ds/\kX ds=O a/\CS=a.map λb=>Value.int .u8 b.toNat|[],l,CS,h,j=>by simp only[wa,aG]at h;subst h;rw[gu j];exact⟨[],[],rfl,rfl,rfl⟩|v::cs,l,CS,h,j=>by obtain⟨V,R,k,w,rfl⟩:=cd j;(have mk:∀(t:Tm)(r:List Tm)(n:Int),wa s cs=O r->ai ν t=O (.n n)->0<=n->n<256->V=.int .u8 n->l=t::r->∃ds a,bA ν l=O ds/\kX ds=O a/\V::R=a.map λb=>Value.int .u8 b.toNat:=λt r n g p y u C q=>by have⟨ds,a,i,m,B⟩:=CQ e g w;subst q;refine⟨.n n::ds,UInt8.ofNat n.toNat::a,?_,?_,?_⟩;simp[bA,p,i];(have:(decide (0<=n)&&decide (n<256))=I:=by simp;exact⟨y,u⟩);simp[kX,this,m];grind[UInt8.toNat_ofNat']);unfold wa at h;split at h;rename_i n r g;split at h;rename_i f;simp at f;simp at h;simp[den]at k;exact mk _ r n g rfl f.1 f.2 k.symm h.symm;cases h;rename_i t r g;split at h;rename_i f;simp at h;have⟨n,i,m⟩:=pa k;have o:=FK f (Ly e i);have d:=ow .u8 n;rw[o]at d;(have A:IntKind.u8.min=0:=by decide);(have z:IntKind.u8.max=255:=by decide);rw[A,z]at d;grind;cases h;cases h
theorem qE{z:Nat->Option Obj}{t:ag}{d:TypeDesc}{u:Tm}{V:aa}{c:ah}{v:AV}(e:P.underlying t=O d)(f:ai ν u=O c)(h:cU P z t V c)(b:oF d u=O v):den ν v=O V:=by cases h with|bool a=>rw[e]at a;simp at a;subst a;simp[oF]at b;subst b;exact AB f|int a=>rw[e]at a;grind[oF,den]|str a=>rw[e]at a;grind[oF,den]|nil a=>rw[e]at a;simp at a;subst a;simp[oF]at b;subst b;simp only[den,f];rw[if_pos ⟨trivial,rfl⟩]|empty a=>rw[e]at a;simp at a;subst a;simp[oF]at b;subst b;simp only[den,f];rw[if_pos ⟨trivial,rfl⟩]|row a=>rw[e]at a;simp at a;subst a;simp[oF]at b;subst b;simp only[den,f];rw[if_pos ⟨trivial,rfl⟩]
def Ε(ν:Nm)(own:Bool)(t:Tm)(xs:List ah):Prop:=match own with|I=>ai ν t=O (.l xs)|Z=>∃e v,ai ν t=O (.r e v xs)
theorem LB{own one:Bool}{t it:Tm}{xs:List ah}{k:Int}{x c:ah}{j:Nat}(b:Ε ν own t xs)(f:ai ν it=O (.n k))(m:0<=k)(h:xs[k.toNat]? =O x)(i:dQ x j=O c)(d:one=I->j=0/\c=x)(a:one=Z->∃ds,x=.l ds):ai ν (KU own one t it j)=O c:=by cases own with|false=>have⟨e,v,b⟩:=b;exact akf.2 ⟨_,_,_,_,_,x,b,f,rfl,m,bO j,h,i⟩|true=>cases one with|true=>obtain⟨_,rfl⟩:=d rfl;refine(eR rfl (by simp) λ_=>rfl).2 ⟨_,_,b,f,?_⟩;simp_all[xw]|false=>obtain⟨ds,rfl⟩:=a rfl;refine(et rfl (by simp) λ_=>rfl).2 ⟨_,_,_,b,f,rfl,?_⟩;simp only[lX];rw[if_pos ⟨m,bO j⟩,h];exact i
theorem UH{x c:ah}{j:Nat}(one:Bool)(d:dQ x j=O c)(b:one=I->j=0/\c=x)(a:one=Z->∃ds,x=.l ds):(one=I->j=0/\strip c=strip x)/\(one=Z->∃ds,strip x=.l ds/\ds[j]? =O (strip c)):=by refine⟨λh=> ?_,λh=> ?_⟩;simp_all;obtain⟨ds,rfl⟩:=a h;refine⟨_,bd,?_⟩;rw[dg,show ds[j]? =O c from d];rfl
theorem UI{one:Bool}{t it:Tm}{xs:List ah}{k:Int}{x c:ah}{j:Nat}(h:ai ν t=O (.l (xs.map strip)))(i:ai ν it=O (.n k))(q:0<=k)(o:xs[k.toNat]? =O x)(p:dQ x j=O c)(b:one=I->j=0/\c=x)(a:one=Z->∃ds,x=.l ds):ai ν (KU I one t it j)=O (strip c):=by have e:(xs.map strip)[k.toNat]? =O (strip x):=Lq o;have⟨f,d⟩:=UH one p b a;cases one with|true=>have⟨_,f⟩:=f rfl;refine(eR rfl (by simp) λ_=>rfl).2 ⟨_,_,h,i,?_⟩;simp_all[xw]|false=>have⟨ds,d,m⟩:=d rfl;refine(et rfl (by simp) λ_=>rfl).2 ⟨_,_,_,h,i,rfl,?_⟩;simp only[lX];rw[if_pos ⟨q,bO j⟩,e,d];exact m
theorem LC{own one:Bool}{t it:Tm}{xs:List ah}{k:Int}{x c:ah}{j:Nat}{z:Nat->Option Obj}{s:ag}{V:aa}{d:TypeDesc}(m:Ε ν own t xs)(w:ai ν it=O (.n k))(y:0<=k)(u:xs[k.toNat]? =O x)(r:dQ x j=O c)(f:one=I->j=0/\c=x)(b:one=Z->∃ds,x=.l ds)(q:P.underlying s=O d)(hC:cU P z s V c):ai ν (VX own one (SD d) t it j)=O c:=by have B:=r;unfold VX;split;(·rename_i a D C;(have i:Ε ν own a xs/\ai ν D=O (.l (xs.map strip)):=by rw[fq C]at m;cases own with|true=>have⟨p,o⟩:=dr.1 m;exact⟨p,by rw[o,bd]⟩|false=>have⟨e,v,m⟩:=m;have⟨p,o⟩:=dr.1 m;exact⟨⟨e,v,p⟩,by rw[o,mQ]⟩);have A:=UI (one:=one) i.2 w y u r f b;split;(·exact dr.2 ⟨LB i.1 w y u r f b,A⟩);·rename_i g;rw[A];cases hC with|bool _=>rw[Ab]|int _=>rw[Ab]|str _=>rw[Ac]|nil h=>rw[q]at h;simp at h;subst h;cases g|empty h=>rw[q]at h;simp at h;subst h;cases g|row h=>rw[q]at h;simp at h;subst h;cases g);grind[LB]
theorem yC{z:Nat->Option Obj}{own one:Bool}{b it:Tm}:∀{us:List ag}{j:Nat}{l:List AV}{Vs:List aa},cellsD P own one b it us j=O l->Vs.length=us.length->(∀i u V,us[i]? =O u->Vs[i]? =O V->∃c,(∀d,P.underlying u=O d->ai ν (VX own one (SD d) b it (j+i))=O c)/\cU P z u V c)->bw ν l=O Vs|[],j,l,Vs,h,a,_=>(by simp only[cellsD,aG]at h;subst h;cases Vs with|nil=>rfl|cons _ _=>simp at a)|t::us,j,l,Vs,h,a,f=>by cases Vs with|nil=>simp at a|cons V Vs=>unfold cellsD at h;split at h;(·rename_i d e;split at h;(·rename_i v r g m;simp at h;subst h;have⟨c,p,o⟩:=f 0 t V rfl rfl;refine eQ (qE e (p d e) o g) (yC (z:=z) m (by grind) λi u W k n=> ?_);have:=f (i+1) u W (by simpa using k) (by simpa using n);rw[show j+1+i=j+(i+1) by omega];exact this);·cases h);·cases h
theorem LD{size:Nat}{x:ah}(h:gK size x)(a:size≠1)(b:0<size):∃ds,x=.l ds:=by have:=(h.1 1).2 (by omega);cases x with|l ds=>simp_all|n _=>cases this|s _=>cases this|v _=>cases this|r _ _ _=>cases this
theorem N6:∀{a b:List Nat},SE a b=I->a=b|[],[],_=>rfl|[],_::_,h=>by cases h|_::_,[],h=>by cases h|a::l,b::m,h=>by unfold SE at h;split at h;rename_i c;rw[an c,N6 h];cases h
theorem CR{t e f:Nat}{own:Bool}{H it:Tm}{off p0:Nat}{v:AV}{g:Nat}{arr:Array aa}{tb:ag}{fz:Nat×Nat}{xs:List ah}{k:Int}{ts:List ag}{size:Nat}{L:List aa}(h:zN P own t e f H it off=O v)(m:w.heap[g]? =O (.cells arr tb fz))(ht:Ε ν own H xs)(hi:ai ν it=O (.n k))(M:0<=k)(Zz:k.toNat<xs.length)(d2:dG P 8 e=O ts)(d3:(P.info? e).map (·.size)=O size)(d4:ts.length=size)(hL:∀j V,L[j]? =O V->arr[p0+j]? =O V)(d6:xs.length*size<=L.length)(d8:∀(i:Nat)(d:ah),xs[i]? =O d->gK size d)(d9:∀(i j:Nat)(d c:ah)(U:ag)(v:aa),xs[i]? =O d->dQ d j=O c->ts[j]? =O U->L[i*size+j]? =O v->cU P ν.z U v c):∃V,den ν v=O V/\(Instr.loadAt t (.pointer (O ⟨g,p0+k.toNat*f+off,G⟩))).run P w=.ok V w:=by unfold zN at h;split at h;rename_i ts' us n z agg Gz e2 e3 e4 e5;rw[d2]at Gz;simp at Gz;subst Gz;split at h;rename_i hc;simp only[ay]at hc;have⟨⟨T,c2⟩,c3⟩:=hc;have T:=N6 T;have c2:=an c2;have c3:=an c3;have⟨i,N,hi2⟩:=ee e4;rw[N]at d3;simp at d3;(have Iz:f=size:=by omega);subst Iz;(have Y:us.length=0∨off+us.length<=ts.length:=by grind);generalize hp:k.toNat*f+off=p;have X:(k.toNat+1)*f<=xs.length*f:=cV _ Zz;(have K:(k.toNat+1)*f=k.toNat*f+f:=by rw[df,fG]);(have S8:us.length=0∨p+us.length<=L.length:=by omega);have⟨Vs,D⟩:∃Vs,(L.drop p).take us.length=Vs:=⟨_,rfl⟩;(have Q:Vs.length=us.length:=by rw[<-D];grind);have⟨x,r⟩:∃x,xs[k.toNat]? =O x:=⟨_,aZ Zz⟩;have C:=d8 k.toNat x r;(have a:∀l,cellsD P own (ae ts.length 1) H it us off=O l->bw ν l=O Vs:=λl B=>by refine yC (z:=ν.z) B Q λj u V W hV=> ?_;have y:j<us.length:=(cj.1 W).1;have o:=(C.1 (off+j)).2 (by omega);have⟨c,q⟩:=fu.1 o;(have hC:cU P ν.z u V c:=by refine d9 k.toNat _ x c u V r q ?_ ?_;(have:((ts.drop off).take us.length)[j]? =O u:=by rwa[<-T]);rw[eT,if_pos y,fw]at this;exact this;rw[<-D,eT,if_pos y,fw]at hV;rw[show k.toNat*f+(off+j)=p+j by omega];exact hV);refine⟨c,λd F=>LC ht hi M r q (λS=> ?_) (λS=> ?_) F hC,hC⟩;have S:=an S;have h2:=C.2 (by omega);(have h3:off+j=0:=by omega);rw[h3]at q;rw[q]at h2;exact⟨h3,bB h2⟩;grind[LD]);have⟨d,F,hag,hna⟩:=yj e5;have⟨i2,hi3,hi4⟩:=ee e3;(have o:∀j V,(arr.toList.drop p0)[j]? =O V->w.cell? ⟨g,p0+j,G⟩=O V:=λj V y=>by rw[cell_of_row w g _ arr _ fz m,<-fI];rw[fw]at y;exact y);(have b:∀j V,arr.toList[j]? =O V->w.cell? ⟨g,j,G⟩=O V:=λj V y=>by rw[cell_of_row w g j arr _ fz m,<-fI];exact y);(have s:(arr.toList.drop (p0+p)).take us.length=Vs:=by apply ig;grind);(have J:p0+k.toNat*f+off=p0+p:=by omega);rw[J];split at h;rename_i l B;simp at h;subst h;refine⟨.agg Vs.toArray,by simp[den,a l B],?_⟩;refine ng b ?_;unfold oJ;rw[F];grind;(rename_i u B;simp at h;subst h;have Oz:=a _ B;have⟨V,R,k1,k2,E⟩:=cd Oz;rw[gu k2]at E;refine⟨V,k1,?_⟩;refine ng b ?_;(have A:arr.toList[p0+p]? =O V:=by have h0:Vs[0]? =O V:=E▸rfl;rw[<-s,eT,fw]at h0;grind);unfold oJ;rw[F];cases d<;>first|exact A|grind|grind);cases h;cases h;cases h
theorem KE{t e b:Nat}{own:Bool}{y it:Tm}{off:Nat}{l:List AV}{xs:List ah}{k:Int}{ts:List ag}{size:Nat}{L:List aa}(h:zN P own t e b y it off=O (.agg l))(ht:Ε ν own y xs)(hi:ai ν it=O (.n k))(Gz:0<=k)(Q:k.toNat<xs.length)(d2:dG P 8 e=O ts)(Y:(P.info? e).map (·.size)=O size)(d4:ts.length=size)(d6:xs.length*size<=L.length)(d8:∀(i:Nat)(d:ah),xs[i]? =O d->gK size d)(d9:∀(i j:Nat)(d c:ah)(K:ag)(v:aa),xs[i]? =O d->dQ d j=O c->ts[j]? =O K->L[i*size+j]? =O v->cU P ν.z K v c):bw ν l=O ((L.drop (k.toNat*b+off)).take l.length):=by unfold zN at h;split at h;rename_i ts' us n z agg B e2 e3 e4 e5;rw[d2]at B;simp at B;subst B;split at h;rename_i U;simp only[ay]at U;have⟨⟨J,c2⟩,Zz⟩:=U;have J:=N6 J;have c2:=an c2;have Zz:=an Zz;have⟨i,H,hi2⟩:=ee e4;rw[H]at Y;simp at Y;(have E:b=size:=by omega);subst E;(have Oz:us.length=0∨off+us.length<=ts.length:=by grind);generalize hp:k.toNat*b+off=p;have N:(k.toNat+1)*b<=xs.length*b:=cV _ Q;(have F:(k.toNat+1)*b=k.toNat*b+b:=by rw[df,fG]);(have S:us.length=0∨p+us.length<=L.length:=by omega);have⟨Vs,w⟩:∃Vs,(L.drop p).take us.length=Vs:=⟨_,rfl⟩;(have Iz:Vs.length=us.length:=by rw[<-w];grind);have⟨x,m⟩:∃x,xs[k.toNat]? =O x:=⟨_,aZ Q⟩;have s:=d8 k.toNat x m;(have f:∀l,cellsD P own (ae ts.length 1) y it us off=O l->bw ν l=O Vs:=λl a=>by refine yC (z:=ν.z) a Iz λj u V M W=> ?_;have R:j<us.length:=(cj.1 M).1;have o:=(s.1 (off+j)).2 (by omega);have⟨c,g⟩:=fu.1 o;(have hC:cU P ν.z u V c:=by refine d9 k.toNat _ x c u V m g ?_ ?_;(have:((ts.drop off).take us.length)[j]? =O u:=by rwa[<-J]);rw[eT,if_pos R,fw]at this;exact this;rw[<-w,eT,if_pos R,fw]at W;rw[show k.toNat*b+(off+j)=p+j by omega];exact W);refine⟨c,λd T=>LC ht hi Gz m g (λq=> ?_) (λq=> ?_) T hC,hC⟩;have q:=an q;have A:=s.2 (by omega);(have X:off+j=0:=by omega);rw[X]at g;rw[g]at A;exact⟨X,bB A⟩;grind[LD]);(have fin:∀C,cellsD P own (ae ts.length 1) y it us off=O C->C=l->bw ν l=O ((L.drop p).take l.length):=λC q A=>by grind[fK]);split at h;grind;rename_i u a;simp at h;subst h;have hdl:=f _ a;unfold cellsD at a;split at a;grind;rename_i uu jj;split at a;rename_i d T;split at a;rename_i v r D hr;injection a with a;injection a with q A;subst q;unfold oF at D;split at D<;>cases D;cases a;cases a;cases h;cases h;cases h
theorem Yz(l:∀g o,ν.z g=O o->w.heap[g]? =O o)(b:∀i d,ν.x i=O d->ch P ν.z d){t e n:Nat}{m it:Tm}{off:Nat}{v:AV}{X:aa}(h:zN P Z t e n m it off=O v)(a:den ν (.mn e n m it off)=O X):∃V,den ν v=O V/\(Instr.loadAt t X).run P w=.ok V w:=by simp[den]at a;split at a;rename_i Oz g o K J xs k s B;split at a;rename_i A;obtain⟨rfl,f,q⟩:=A;simp at a;subst a;obtain⟨_,rfl⟩|⟨N,M,y,size,arr,fz,ts,Iz,p,H,Gz,F,E,R,Q,D,C⟩:=mP b s;simp at q;simp only[Value.slice.injEq,aG,Addr.mk.injEq]at p;obtain⟨⟨rfl,rfl,_⟩,_,_⟩:=p;exact CR (L:=arr.toList.drop o) h (l _ _ E) ⟨_,_,s⟩ B f q H Gz F (λj V r=>by rw[fw]at r;simpa using r) (by simp;omega) D λi j d c u v a1 a2 a3 a4=>C i j d c u v a1 a2 a3 (by rw[fw]at a4;rw[show o+i*size+j=o+(i*size+j) by omega];simpa using a4);cases a;cases a
theorem Oo{t:ag}{A B C:List aa}{off:Nat}{V:aa}(h:oJ P t (B++C) off=O V):oJ P t (A++(B++C)) (A.length+off)=O V:=by simp_all[oJ,eh]
theorem YA(Oz:my P ν s (λ_=>True) w){t i e p:Nat}{it n A:Tm}{off:Nat}{c:Option Nat}{cs:List AV}{v:AV}{X:aa}(N:s.h.get i=O (.lh A e c n cs))(f:dF it n=I)(a:(match di P e with|O z=>ae z p|G=>Z)=I)(h:ir P t cs off=O v)(d:den ν (.jM i e p it off)=O X):∃V,den ν v=O V/\(Instr.loadAt t X).run P w=.ok V w:=by have f:=bj f;subst f;simp[den]at d;split at d;rename_i g k S Q;split at d;rename_i K;simp at d;subst d;have⟨obj,B,q⟩:=Oz.at_ trivial N S;(cases obj<;>simp only[bN]at q<;>try exact q.elim);rename_i arr T fz;obtain⟨rfl,J,xs,L,R,m,vs,U,H,l,Gz,F,u,E,_⟩:=q;rw[Q]at l;injection l with l;injection l with l;subst l;rw[u]at a;have a:=an a;have⟨V,D,C⟩:=GA (R:=L.drop (m*vs.length+vs.length)++R) F h;(have r:m*vs.length+vs.length<=L.length:=by have⟨_,ts,size,Zz,y,Y,W,_⟩:=H;have⟨Iz,o,x⟩:=ee u;rw[o]at y;simp at y;have:(m+1)*size<=xs.length*size:=cV _ Gz;rw[df,fG]at this;simp_all);refine⟨V,D,?_⟩;(have b:∀j V,arr.toList[j]? =O V->w.cell? ⟨g,j,G⟩=O V:=λj V M=>by rw[cell_of_row w g j arr _ fz B,<-fI];exact M);refine ng b ?_;rw[show Int.toNat (cq m)*p+off=(L.take (m*vs.length)).length+off by rw[<-a,bD,ju (by omega)];rfl,E,jz _ _ _ r,i7,i7];exact Oo C;cases d;cases d
theorem YB(A:bS lm)(f:∀t b,(t,b)∈s.x.pc->bh ν t b)(H:my P ν s (λ_=>True) w){t i e u:Nat}{it m:Tm}{off:Nat}{c:Option Nat}{v:AV}{X:aa}(Gz:s.h.get i=O (.row m e c))(W:gA lm s (.bin .geq .i64 it (.c 0))=I)(B:gA lm s (.bin .lss .i64 it (jY m))=I)(F:(!(match P.underlying e with|O (.int .u8)=>I|_=>Z))=I)(h:zN P I t e u m it off=O v)(a:den ν (.jM i e u it off)=O X):∃V,den ν v=O V/\(Instr.loadAt t X).run P w=.ok V w:=by simp[den]at a;split at a;rename_i g k Iz r;split at a;rename_i q;simp at a;subst a;obtain⟨_,d,o,l,C,_⟩|⟨_,obj,o,l⟩:=H.VH trivial Gz Iz;have:=ea A f r (cM o C) rfl B;grind;(cases obj<;>simp only[bN]at l<;>try exact l.elim);rename_i arr S fz;obtain⟨rfl,E,d,L,R,y,p,D,_⟩:=l;(cases d<;>simp only[bT]at p<;>try exact p.elim);simp_all;rename_i xs;have⟨T,ts,size,Q,Oz,N,U,M,K⟩:=p;have J:=ea A f r (cM y (n:=xs.length) rfl) rfl B;simp at J;have:=CR (w:=w) (p0:=0) (L:=L) h o y r q (by omega) Q Oz N (λj V z=>by rw[ew,<-fI,D,dw (cj.1 z).1];exact z) (by omega) M K;rw[ew]at this;exact this;cases a;cases a
end
end
section
open RowKit
variable{o:bF}{v y:AV}{c d:ah}{xs:List ah}{ts:List ag}{L:List aa}{g i m n:Nat}{z:Nat->Option Obj}{t tm u:Tm}{e tx:ag}{inf:TypeInfo}{V Y:aa}
section
variable{P:aw}{w0 w:aj}{A:en}{ν:Nm}{s:St}{T:Tr AV}{N:Nat}{a:Act}{lm:List fV}
theorem YC{t:ag}(h:cU P z t V c):V.oneCell'=I/\plainCell V=I:=by cases h<;>exact⟨rfl,rfl⟩
theorem gT{t:ag}(h:cU P z t V c)(j:Nat):dQ c j=if j=0 then O c else G:=by cases h<;>cases j<;>rfl
theorem nF(h:bT P z e d L):∀v∈L,v.oneCell'=I/\plainCell v=I:=by intro v f;(cases d<;>simp only[bT]at h<;>try exact h.elim);obtain⟨_,_,rfl⟩:=h;obtain⟨b,_,rfl⟩:=cA.1 f;exact⟨rfl,rfl⟩;rename_i xs;have⟨_,ts,size,t,s,r,q,o,n⟩:=h;obtain⟨k,p,rfl⟩:=lE f;(have g:0<size:=by grind);(have l:k/size<xs.length:=by rw[Nat.div_lt_iff_lt_mul g];omega);have j:k%size<size:=Nat.mod_lt _ g;have a:xs[k/size]? =O xs[k/size]:=aZ l;have⟨c,m⟩:=fu.1 (((o _ _ a).1 (k%size)).2 j);have i:ts[k%size]? =O (ts[k%size]'(by omega)):=aZ _;(have e:k/size*size+k%size=k:=by rw[Nat.mul_comm];exact Nat.div_add_mod k size);exact YC (n _ _ _ c _ _ a m i (by rw[e];simp_all))
theorem LF(c:P.info? e=O inf)(h:bT P z e d L):∃n,bM d=O n/\L.length=n*inf.size:=by (cases d<;>simp only[bT]at h<;>try exact h.elim);obtain⟨_,a,rfl⟩:=h;rw[c]at a;simp at a;exact⟨_,rfl,by rw[a];simp⟩;have⟨_,ts,size,a,b,g,f,_⟩:=h;rw[c]at b;simp at b;exact⟨_,rfl,by rw[b];exact f⟩
theorem pM{d':ah}{L':List aa}{p q:Tm}(u:ai ν p=O d)(t:ai ν q=O d')(h:bT P z e d L)(a:bT P z e d' L'):∃s n m,ai ν (.f 2 [p,q])=O s/\bT P z e s (L++L')/\bM d=O n/\bM d'=O m/\bM s=O (n+m):=by (cases d<;>simp only[bT]at h<;>try exact h.elim);rename_i l;obtain⟨a1,a2,rfl⟩:=h;(cases d'<;>simp only[bT]at a<;>try exact a.elim);rename_i m;obtain⟨k,g,rfl⟩:=a;exact⟨_,_,_,ql.2 (.inl ⟨_,_,u,t,rfl⟩),⟨a1,a2,by simp⟩,rfl,rfl,by simp[bM]⟩;simp_all;rename_i xs;have⟨B,ts,size,a1,a2,a3,a4,a5,a6⟩:=h;(cases d'<;>simp only[bT]at a<;>try exact a.elim);simp_all;rename_i ys;have⟨J,w,o,k,g,Iz,A,H,Gz⟩:=a;rw[a1]at k;simp at k;subst k;rw[a2]at g;simp at g;subst g;refine⟨_,_,_,ql.2 (.inr ⟨_,_,u,t,rfl⟩),⟨B,ts,size,a1,a2,a3,by rw[cL,cL,a4,A,df],λi d r=> ?_,λi j d c C v r F D x=> ?_⟩,rfl,rfl,by simp[bM]⟩;grind;(have E:j<size:=by grind);rcases eu i xs.length with b|b;rw[dw b]at r;have y:(i+1)*size<=xs.length*size:=cV _ b;grind;rw[eh b]at r;have y:xs.length*size<=i*size:=cV _ b;rw[eh (by omega)]at x;grind[Nat.sub_mul]
theorem UJ(hL:bS lm)(rW:∀t b,(t,b)∈s.x.pc->bh ν t b)(Pj:∀i d,ν.x i=O d->ch P ν.z d){t:ag}(h:Tz P lm s t v=O u)(hv:den ν v=O V):∃c,ai ν u=O c/\cU P ν.z t V c:=by unfold Tz at h;split at h;rename_i b hu;simp at h;subst h;simp[den]at hv;subst hv;refine⟨_,rfl,?_⟩;have:=cU.bool (P:=P) (z:=ν.z) (b:=b) hu;grind;rename_i q hu;simp at h;subst h;obtain⟨n,h1,rfl⟩:=vn hv;refine⟨_,Aa.2 ⟨_,Aa.2 ⟨n,h1,rfl⟩,rfl⟩,?_⟩;have:=cU.bool (P:=P) (z:=ν.z) (b:=decide (n≠0)) hu;simp_all[jC];rename_i k l n hu;split at h;rename_i hc;simp at h;subst h;have:=eV hc;subst this;simp[den]at hv;subst hv;exact⟨_,rfl,.int hu⟩;cases h;rename_i k l q hu;split at h;rename_i hc;simp at h;subst h;have:=eV hc;subst this;obtain⟨n,h1,rfl⟩:=pa hv;exact⟨_,h1,.int hu⟩;cases h;rename_i l hu;simp at h;subst h;simp[den]at hv;subst hv;exact⟨_,vH ν l,.str hu⟩;rename_i q hu;simp at h;subst h;obtain⟨l,h4,e4,rfl⟩:=u_ rfl hv;exact⟨_,h4,.str hu⟩;rename_i e hu;injection h with h;subst h;simp[den]at hv;subst hv;exact⟨_,dr.2 ⟨DU.2 rfl,by rw[mQ];rfl⟩,.nil hu⟩;rename_i e e' q hu;split at h;rename_i hc;have:=an hc;subst this;simp at h;subst h;have⟨xs,h1,_⟩:=lA hv;refine⟨_,h1,?_⟩;obtain⟨rfl|⟨_,_,rfl⟩,rfl⟩|hr:=mP Pj h1;exact .nil hu;exact .empty hu;exact hr.deep hu;cases h;cases h
theorem kq(g:bS lm)(e:∀t b,(t,b)∈s.x.pc->bh ν t b)(a:∀i d,ν.x i=O d->ch P ν.z d):∀{ts:List ag}{vs:List AV}{us:List Tm}{VS:List aa},o_ P lm s ts vs=O us->bw ν vs=O VS->vs.length=ts.length/\us.length=ts.length/\∃cs:List ah,bA ν us=O cs/\∀(j:Nat)(f:ag)(c:ah)(V:aa),ts[j]? =O f->cs[j]? =O c->VS[j]? =O V->cU P ν.z f V c|[],[],us,VS,h,_=>by simp only[o_,aG]at h;subst h;exact⟨rfl,rfl,[],rfl,λj f c V m=>by simp at m⟩|t::ts,v::vs,us,VS,h,k=>by obtain⟨V,R,p,o,rfl⟩:=cd k;unfold o_ at h;split at h;rename_i u r l n;simp at h;subst h;have⟨c,C,B⟩:=UJ g e a l p;have⟨A,y,cs,w,q⟩:=kq g e a n o;grind[bA];cases h|[],_::_,_,_,h,_=>by cases h|_::_,[],_,_,h,_=>by cases h
theorem CT(hL:bS lm)(rW:∀t b,(t,b)∈s.x.pc->bh ν t b)(Pj:∀i d,ν.x i=O d->ch P ν.z d):∀{n:Nat}{vs:List AV}{us:List Tm}{VS:List aa},wb P lm s ts n vs=O us->bw ν vs=O VS->vs.length=n*ts.length/\∃ds:List ah,bA ν us=O ds/\ds.length=n/\(∀(i:Nat)(d:ah),ds[i]? =O d->gK ts.length d)/\∀(i j:Nat)(d c:ah)(tc:ag)(V:aa),ds[i]? =O d->dQ d j=O c->ts[j]? =O tc->VS[i*ts.length+j]? =O V->cU P ν.z tc V c|0,[],us,VS,h,_=>by simp only[wb,aG]at h;subst h;exact⟨by simp,[],rfl,rfl,λi d hd=>by simp at hd,λi j d c tc V hd=>by simp at hd⟩|0,_::_,_,_,h,_=>by cases h|n+1,vs,us,VS,h,hv=>by (have Ng:bw ν (vs.take ts.length)=O (VS.take ts.length)/\bw ν (vs.drop ts.length)=O (VS.drop ts.length):=by grind[wF,BD]);(have fin:∀(l r:List Tm)(u:Tm),o_ P lm s ts (vs.take ts.length)=O l->wb P lm s ts n (vs.drop ts.length)=O r->us=u::r->(∀cs,bA ν l=O cs->(∀j tc c V,ts[j]? =O tc->cs[j]? =O c->(VS.take ts.length)[j]? =O V->cU P ν.z tc V c)->l.length=ts.length->∃d,ai ν u=O d/\gK ts.length d/\∀j c tc V,dQ d j=O c->ts[j]? =O tc->(VS.take ts.length)[j]? =O V->cU P ν.z tc V c)->vs.length=(n+1)*ts.length/\∃ds:List ah,bA ν us=O ds/\ds.length=n+1/\(∀(i:Nat)(d:ah),ds[i]? =O d->gK ts.length d)/\∀(i j:Nat)(d c:ah)(tc:ag)(V:aa),ds[i]? =O d->dQ d j=O c->ts[j]? =O tc->VS[i*ts.length+j]? =O V->cU P ν.z tc V c:=λl r u hl hr OP hu=>by have⟨k1,k2,cs,k3,k4⟩:=kq hL rW Pj hl Ng.1;have⟨k5,ds,k6,k7,k8,k9⟩:=CT hL rW Pj hr Ng.2;have⟨d,k10,k11,k12⟩:=hu cs k3 k4 k2;subst OP;(have hlen:vs.length=(n+1)*ts.length:=by grind);refine⟨hlen,d::ds,by simp[bA,k10,k6],by simp[k7],λi d' hd'=> ?_,λi j d' c tc V hd' hc ht hV=> ?_⟩;(·grind);·have hj:j<ts.length:=(cj.1 ht).1;cases i with|zero=>grind|succ i=>grind);unfold wb at h;split at h;(·rename_i u r hl hr;simp at h;refine fin [u] r u hl hr h.symm λcs OS Ez hlen=> ?_;simp[bA]at OS;split at OS;(·rename_i d qP hd kQ;injection kQ with kQ;subst kQ;simp at OS;subst OS;have⟨k1,k2,_⟩:=kq hL rW Pj hl Ng.1;(have h1:ts.length=1:=by simpa using hlen.symm);have⟨tc0,ht0⟩:∃tc,ts[0]? =O tc:=⟨_,aZ (by omega)⟩;(have hVl:(VS.take ts.length).length=1:=by rw[fK Ng.1,k1,h1]);have⟨V0,hV0⟩:∃V,(VS.take ts.length)[0]? =O V:=⟨_,aZ (by omega)⟩;have hD:=Ez 0 tc0 d V0 ht0 rfl hV0;refine⟨d,hd,⟨λj=> ?_,λ_=>by rw[gT hD 0,if_pos rfl]⟩,λj c tc V hc ht hV=> ?_⟩;(·rw[gT hD j,h1];split;(·simp;omega);·simp;omega);grind[gT]);·cases OS);(·rename_i l r zk hl hr;simp at h;refine fin l r _ hl hr h.symm λcs OS Ez hlen=>⟨.l cs,(jd (.inr rfl)).2 ⟨cs,OS,rfl⟩,⟨λj=> ?_,λh1=> ?_⟩,λj c tc V hc ht hV=>Ez j tc c V ht hc hV⟩;rotate_left;(·exfalso;rw[h1]at hlen;cases l with|nil=>simp at hlen|cons a l=>cases l with|nil=>grind|cons b l=>simp at hlen);(have:cs.length=ts.length:=by rw[lZ OS,hlen]);show(cs[j]?).isSome↔j<ts.length;rw[<-this];simp);·cases h
theorem LG(E:bS lm)(a:∀t b,(t,b)∈s.x.pc->bh ν t b)(f:∀i d,ν.x i=O d->ch P ν.z d){vs:List AV}{VS:List aa}(h:VY P lm s e n vs=O u)(m:bw ν vs=O VS):∃d,ai ν u=O d/\bT P ν.z e d VS/\bM d=O n:=by unfold VY at h;split at h;rename_i z ts D p;split at h;rename_i v;simp only[ay]at v;have Gz:=an v.1;have F:=an v.2;have⟨i,y,r⟩:=ee D;split at h;rename_i o;split at h;rename_i l w q;have w:=an w;simp at h;subst h;have⟨ds,A,k,j,g⟩:=CQ a q m;refine⟨.s A,Ft.2 ⟨ds,A,k,j,rfl⟩,⟨o,by rw[y];simp only[Option.map_some];rw[r,w],g⟩,?_⟩;grind[fR,bM,fK];cases h;rename_i d c o;split at h;rename_i l q;simp at h;subst h;have⟨k,ds,j,g,C,B⟩:=CT E a f q m;refine⟨.l ds,(jd (.inl rfl)).2 ⟨ds,j,rfl⟩,⟨λe=>c (bB (o.symm.trans e)),ts,ts.length,p,by rw[y];simp_all,rfl,?_,C,B⟩,?_⟩;rw[fK m,k,g];simp[bM,g];cases h;cases h;cases h;cases h
theorem UK(h:mD P e=I)(a:dG P 8 e=O ts):∀t∈ts,flatK P t=I:=by simp_all[mD]
theorem RA{t:ag}(a:flatK P t=I)(h:cU P z t V c):strip c=c:=by cases h with|bool _=>rfl|int _=>rfl|str _=>rfl|nil h=>simp_all[flatK]|empty h=>simp_all[flatK]|row h=>simp_all[flatK]
theorem wP{l:List ah}(h:∀x∈l,strip x=x):l.map strip=l:=by induction l with|nil=>rfl|cons x l a=>rw[eJ,h x (aU ..),a λy b=>h y (aS _ b)]
theorem jh(p:mD P e=I)(f:dG P 8 e=O ts)(g:gK ts.length d)(o:ts.length<=L.length)(h:∀(j:Nat)(c:ah)(i:ag)(v:aa),dQ d j=O c->ts[j]? =O i->L[j]? =O v->cU P z i v c):strip d=d:=by have b:=UK p f;(have key:∀j c,dQ d j=O c->strip c=c:=λj c k=>by have a:j<ts.length:=(g.1 j).1 (by rw[k];rfl);exact RA (b _ (bE (aZ a))) (h j c _ _ k (aZ a) (aZ (jU a o))));cases d with|l ds=>rw[bd,wP];intro x m;have⟨j,a⟩:=jV.1 m;exact key j x a|n _=>rfl|s _=>rfl|v V=>exact key 0 _ rfl|r e v xs=>exact key 0 _ rfl
theorem iR(k:mD P e=I)(h:bT P z e (.l xs) L):xs.map strip=xs:=by have⟨_,ts,size,o,w,n,u,m,t⟩:=h;refine wP λx d=> ?_;have⟨i,b⟩:=jV.1 d;have a:i<xs.length:=(cj.1 b).1;have r:(i+1)*size<=xs.length*size:=cV _ a;(have g:(i+1)*size=i*size+size:=by rw[df,fG]);subst n;refine jh (z:=z) (L:=L.drop (i*ts.length)) k o (m i x b) (by rw[dZ];omega) λj c p v s q f=> ?_;rw[fw]at f;grind
theorem vV{v:aa}(l:mD P e=I)(h:ch P z (.r e v xs)):xs.map strip=xs:=by obtain⟨_,rfl⟩|⟨g,off,cap,size,arr,fz,ts,q,D,o,C,n,B,A,y,m,w⟩:=kE.1 h;rfl;refine wP λx d=> ?_;have⟨i,b⟩:=jV.1 d;have a:i<xs.length:=(cj.1 b).1;have t:(i+1)*size<=xs.length*size:=cV _ a;(have k:(i+1)*size=i*size+size:=by rw[df,fG]);subst n;refine jh (z:=z) (L:=(arr.toList.drop off).drop (i*ts.length)) l o (m i x b) (by simp only[dZ,nZ];omega) λj c p v u s f=> ?_;rw[fw,fw,fI]at f;grind
theorem Qk(h:ai ν t=O (.l xs))(a:bT P z e (.l xs) L):ai ν (oT P e t)=O (.l xs):=by grind[oT,du,bd,iR,dr]
theorem oy{x y:List ah}(h:ai ν t=O (.l x))(g:ai ν u=O (.l y)):ai ν (lj t u)=O (.l (x++y)):=by unfold lj;split;rename_i a c b d m k;rw[fq m]at h;rw[fq k]at g;have⟨j,f⟩:=dr.1 h;have⟨i,e⟩:=dr.1 g;rw[bd]at f e;refine dr.2 ⟨ql.2 (.inr ⟨_,_,j,i,rfl⟩),ql.2 (.inr ⟨_,_,f,e,?_⟩)⟩;rw[bd,List.map_append];grind[ql]
theorem akl{x y:List UInt8}(h:ai ν t=O (.s x))(g:ai ν u=O (.s y)):ai ν (lj t u)=O (.s (x++y)):=by unfold lj;split;rename_i a c b d l k;rw[fq l]at h;rw[fq k]at g;have⟨j,f⟩:=dr.1 h;have⟨i,e⟩:=dr.1 g;rw[Ac]at f e;exact dr.2 ⟨ql.2 (.inl ⟨_,_,j,i,rfl⟩),by rw[Ac];exact ql.2 (.inl ⟨_,_,f,e,rfl⟩)⟩;grind[ql]
theorem Ql{f g:Tm->Tm}{d':ah}(h:ai ν t=O d)(l:∀u,ai ν u=O d->ai ν (g u)=O d')(e:∀u,ai ν u=O d->ai ν (f u)=O d')(b:∀u,ai ν u=O (strip d)->ai ν (g u)=O (strip d')):ai ν (both t f g)=O d':=by unfold both;split;rename_i a c i;rw[fq i]at h;have⟨k,j⟩:=dr.1 h;exact dr.2 ⟨e _ k,b _ j⟩;grind
theorem pW{n:Tm}(h:ai ν t=O (.l xs))(b:ai ν n=O (.n ((m:Nat):Int)))(c:m<=xs.length):ai ν (xp t n)=O (.l (xs.take m)):=by (have key:∀(u:Tm)(ys:List ah),ys.length=xs.length->ai ν u=O (.l ys)->ai ν (.f 25 [u,n])=O (.l (ys.take m)):=λu ys d a=>by refine(eR rfl (by simp) λ_=>rfl).2 ⟨_,_,a,b,?_⟩;simp only[qU];rw[if_pos ⟨by omega,by omega⟩];rfl);refine Ql h (λu a=>key u _ rfl a) (λu a=>key u _ rfl a) λu a=> ?_;rw[bd]at a⊢;rw[List.map_take];grind
theorem yD(g:P.info? e=O inf)(h:bT P z e (.l xs) L)(f:m<=xs.length):bT P z e (.l (xs.take m)) (L.take (m*inf.size)):=by have⟨q,ts,size,p,b,o,x,n,w⟩:=h;rw[g]at b;simp at b;subst b;have k:m*inf.size<=xs.length*inf.size:=cV _ f;refine⟨q,ts,inf.size,p,by rw[g];rfl,o,by rw[bD,bD,ju f];omega,λi d a=> ?_,λi j d c r v a u t s=> ?_⟩;rw[eT]at a;split at a;exact n i d a;cases a;grind
theorem su(A:bS lm)(i:∀t b,(t,b)∈s.x.pc->bh ν t b)(q:P.info? e=O inf){n:Tm}(h:MH lm s t n=O u)(o:ai ν t=O d)(a:bT P ν.z e d L)(p:ai ν n=O (.n ((m:Nat):Int)))(c:P.underlying e≠O (.int .u8)∨ns n (jY t)=I):∃d',ai ν u=O d'/\bT P ν.z e d' (L.take (m*inf.size))/\bM d'=O m/\m*inf.size<=L.length:=by have⟨k,f,y⟩:=LF q a;unfold MH at h;split at h;(·grind[kK,cM]);·rename_i B;split at h;(·rename_i w;simp at h;subst h;simp at w;have g:=ea A i p (cM o f) rfl w.2;simp only[decide_eq_true_eq]at g;cases d with|l xs=>simp[bM]at f;(have j:m<=xs.length:=by omega);refine⟨_,pW o p j,yD q a j,by simp_all[bM],?_⟩;rw[y,<-f];exact cV _ j|s l=>(rcases c with c|c;(·cases c a.1);simp_all)|n _=>cases a|v _=>cases a|r _ _ _=>cases a);·cases h
theorem Qm(h:aL P w0 A ν s w)(Oz:ai ν t=O d)(Q:bT P ν.z e d [])(S:bM d=O 0)(a:Option Addr):∃c,Nm.le ν c/\aL P w0 A c (Di (oh s (.row t e (O (s.n+1))))) w/\den c (.bK s.n (jY t) (.u (s.n+1) 0))=O (.slice a 0 0):=by have⟨c,f⟩:∃c:Nm,c=⟨λi=>if i=s.n∨i=s.n+1 then O 0 else ν i,ν.x,ν.u,ν.z,λi=>if i=s.n then O (.slice a 0 0)else ν.q i⟩:=⟨_,rfl⟩;(have r:∀i,ν i≠G->c i=ν i:=λi b=>by rw[f];simp only;rw[if_neg];rintro(rfl|rfl);exact b (h.top _ (ba _));exact b (h.top _ (by simp)));(have k:Nm.le ν c:=by refine⟨λi g l=>(r i (by rw[l];simp)).trans l,λi d K=>by rw[f];exact K,by rw[f],λj _=>by rw[f],λg o l=>by rw[f];exact l,λi v Iz=> ?_⟩;rw[f];simp only;rw[if_neg];exact Iz;rintro rfl;rw[h.kS _ (ba _)]at Iz;cases Iz);(have F:c s.n=O 0:=by simp[f]);(have U:c (s.n+1)=O 0:=by simp[f]);(have X:c.q s.n=O (.slice a 0 0):=by rw[f];simp);(have Gz:c.z=ν.z:=by rw[f]);(have M:c.x=ν.x:=by rw[f]);have J:=aX k t d Oz;(have m:∀i o,s.h.get i=O o->i≠s.n/\c i=ν i:=λi o b=>by have⟨g,y,_⟩:=h.fX i o b;exact⟨λe=>h.named (h.top s.n (ba _)) o (e▸b),r i (by rw[y];simp)⟩);(have old:∀i o,(s.h.put s.n (O (.row t e (O (s.n+1))))).get i=O o->(i=s.n/\o=.row t e (O (s.n+1)))∨(i≠s.n/\s.h.get i=O o):=λi o b=>by rw[Tr.bJ]at b;split at b;simp at b;exact .inl ⟨‹_›,b.symm⟩;exact .inr ⟨‹_›,b⟩);refine⟨c,k,⟨h.pos,h.dz,λi b=> ?_,λi o b=> ?_,λi j H B b C p e=> ?_,h.ext.trans k,h.xb,λj N C R=> ?_,h.sT,h.nv,λi o b g l E=> ?_,h.ctx.mono k,λg ob l=>⟨(h.mu g ob (Gz▸l)).1,λi o b E e=> ?_⟩,λg ob l=>h.lq g ob (Gz▸l),λi d K=>by rw[Gz];exact h.nU i d (M▸K),λi b=>by rw[M];exact h.kR i (by simp[Di,oh]at b;omega),λi b=> ?_⟩,?_⟩;simp[Di,oh]at b;rw[f];simp only;rw[if_neg (by omega)];exact h.top i (by omega);obtain⟨rfl,rfl⟩|⟨_,b⟩:=old i o b;exact⟨0,F,.inl ⟨rfl,d,J,Q.mono k.z,S,_,0,rfl,U⟩⟩;obtain⟨g,y,⟨D,L⟩|⟨obj,D,L,T⟩⟩:=h.fX i o b;exact⟨g,k _ _ y,.inl ⟨D,L.mono k⟩⟩;exact⟨g,k _ _ y,.inr ⟨obj,D,L,T.mono k⟩⟩;obtain⟨rfl,rfl⟩|⟨W,b⟩:=old i H b;cases p F;obtain⟨rfl,rfl⟩|⟨V,C⟩:=old j B C;rw[e,F]at p;cases p rfl;rw[(m i H b).2]at p e;rw[(m j B C).2]at e;exact h.inj i j H B b C p e;have⟨⟨B,y⟩,D⟩:=h.same j N C R;exact⟨⟨B,by simp[Di,oh];rw[Tr.bJ,if_neg (m j B y).1];exact y⟩,D⟩;obtain⟨rfl,rfl⟩|⟨_,b⟩:=old i o b;rw[F]at l;simp at l;cases E l.symm;rw[(m i o b).2]at l;exact h.own i o b g l E;obtain⟨rfl,rfl⟩|⟨_,b⟩:=old i o b;rw[F]at e;simp at e;exact E e.symm;rw[(m i o b).2]at e;exact(h.mu g ob (Gz▸l)).2 i o b E e;simp[Di,oh]at b;rw[f];simp only;rw[if_neg (by omega)];exact h.kS i (by omega);grind[cX,CP,cM]
theorem ku(h:aL P w0 A ν s w){t:ag}{z:aa}(F:P.underlying t=O (.slice e))(B:P.info? e=O inf)(D:inf.zero=O z)(p:z.cells.size=inf.size){base:Option Addr}{sl sc:Nat}{rH:List aa}(q:rH.length=sl*inf.size)(i:(Builtin.firstCells inf.size sl (.slice base sl sc)).run P w.drew=.ok rH.toArray w.drew){dj:List aa}(x:Src P inf.size tx Y n dj w)(H:ai ν tm=O d)(Gz:bT P ν.z e d (rH++dj))(r:bM d=O (sl+n))(C:sc<sl+n)(y:sl+n<=2*most)(Iz:inf.bytes<=most)(ty:ag):lN P w0 A ν (jl s G e tm).2 (jl s G e tm).1 ((Builtin.append_ #[t,tx] ty #[.slice base sl sc,Y]).run P w):=by have b:(sl+n)*inf.bytes<=140737488355328:=dU (Nat.mul_le_mul y Iz) (by decide);have g:=run_append_grow_src (P:=P) w t tx ty e inf z F B D base sl sc rH i Y n dj x C (by unfold most at y;omega) (growslice_fits C b);have u:=grownCap_ge w (sl+n) sc e;have j:=h.top (s.n+1) (by omega);have v:=(h.drew).name (k:=s.n+1) (n':=s.n+2) j (by omega) (by omega) (grownCap w (sl+n) sc e);(have l:(ν.set (s.n+1) (grownCap w (sl+n) sc e)) s.n=G:=by simp only[Nm.set];rw[if_neg (by omega)];exact h.top _ (ba _));have c:=Nm.fP j (grownCap w (sl+n) sc e);have a:=Nm.fP l w.heap.size;have m:(Nm.set (ν.set (s.n+1) (grownCap w (sl+n) sc e)) s.n w.heap.size) (s.n+1)=O (grownCap w (sl+n) sc e):=a _ _ (Nm.cx _ _ _);have f:=aX (c.trans a) tm d H;have E:=v.alloc (k:=s.n) (n':=s.n+2) (o:=.row tm e (O (s.n+1))) (obj:=.cells ((rH++dj).toArray++Builtin.zeroCells z.cells (grownCap w (sl+n) sc e - (sl+n))) e (0,0)) l (by simp) (by omega) ⟨rfl,K_ _,d,rH++dj,(Builtin.zeroCells z.cells (grownCap w (sl+n) sc e - (sl+n))).toList,f,Gz,by simp,grownCap w (sl+n) sc e,inf,m,B,by simp[size_zeroCells,q,x.newsLen,p,<-df];congr 1;omega⟩;refine⟨_,.slice _ _ _,_,c.trans a,E,?_,g⟩;refine pV (Nm.cx _ _ _) (by have:=h.X4;omega) (cM f r) ?_ u;simp_all[cX]
theorem CU(h:aL P w0 A ν s w){t:ag}(ht:P.underlying t=O (.slice e))(hi:P.info? e=O inf){c cap:Nat}{R:List aa}{fz:Nat×Nat}(a:s.h.get i=O (.row u e (O c)))(Gz:ν i=O g)(C:g≠0)
 (T:MO fz (L++R).toArray.size) (E:w.heap[g]? =O (.cells (L++R).toArray e fz)) (K:n*inf.size<=L.length) (hcn:ν c=O cap) (H:(L++R).length=cap*inf.size)
 {yl:Nat} {dj:List aa} (Zz:Src P inf.size tx Y yl dj w) (q:dj.all plainCell=I)
 (hd:ai ν tm=O d) (hr:bT P ν.z e d (L.take (n*inf.size)++dj)) (V:bM d=O (n+yl)) (p:n+yl<=cap) (ty:ag):
 lN P w0 A ν (jl s (O i) e tm).2 (jl s (O i) e tm).1 ((Builtin.append_ #[t,tx] ty #[.slice (O ⟨g,0,G⟩) n cap,Y]).run P w):=by
 have Q:nq w g e (L++R).toArray:=⟨fz,E,T⟩
 have b:=h.kill i
 have l:n*inf.size+dj.length<=(L++R).length:=by rw[H,Zz.newsLen,<-df];exact cV _ p
 have f:=run_append_room_src (P:=P) w t tx ty e inf ht hi g 0 n cap Y yl dj Zz p (λj r=>by rw[Q.cell];simp only[ew];rw[fu];exact⟨_,by rw[js];exact aZ (by omega)⟩) (λj r=>Q.frozen _ (by simp only[ew,List.size_toArray];omega))
 rw[rl]at f
 simp at f
 have⟨_,B⟩:=eF (P:=P) dj 0 (L++R) w (n*inf.size) Q (by simpa using l) q
 simp at B
 have Oz:w0.heap.size<=g:=by
  have⟨obj,q2,_⟩:=h.Cx a Gz C
  exact q2
 have J:∀j o,(cw s i).h.get j=O o->ν j≠O g:=λj o r e=>by
  simp[cw]at r
  rw[Tr.bJ]at r
  split at r
  ·cases r
  ·rename_i U
   exact U (h.inj j i o _ r a (by rw[e];intro e;simp at e;exact C e) (by rw[e,Gz]))
 have⟨fz',W,v,_⟩:=Dd.put Q.lt (n*inf.size) dj B
 have Iz:=b.raw J (h.zT a Gz C) Oz (h.own i _ a g Gz C) v
 have D:=b.top ((cw s i).n+1) (by omega)
 have X:=Iz.name (k:=(cw s i).n+1) (n':=(cw s i).n+2) D (by omega) (by omega) cap
 have M:(ν.set ((cw s i).n+1) cap) (cw s i).n=G:=by
  simp only[Nm.set]
  rw[if_neg (by omega)]
  exact b.top _ (ba _)
 have x:=Nm.fP D cap
 have m:=Nm.fP M g
 have F:(Nm.set (ν.set ((cw s i).n+1) cap) (cw s i).n g) ((cw s i).n+1)=O cap:=m _ _ (Nm.cx _ _ _)
 have S:bx (L++R) (n*inf.size) dj=(L.take (n*inf.size)++dj)++(L++R).drop (n*inf.size+dj.length):=by
  rw[jz _ _ _ l,ie K]
 have y:=aX (x.trans m) tm d hd
 have hw:=X.La (k:=(cw s i).n) (n':=(cw s i).n+2) (g:=g) (o:=.row tm e (O ((cw s i).n+1))) M (by simp) (by omega) v.here Oz (λj o r e=>by
  have N:(cw s i).h.get j=O o:=r
  have:j≠(cw s i).n+1:=λe'=>b.named D o (e'▸N)
  simp[Nm.set]at e
  rw[if_neg this]at e
  exact J j o N e) (h.zT a Gz C) C (h.own i _ a g Gz C)
  ⟨rfl,W,d,L.take (n*inf.size)++dj,(L++R).drop (n*inf.size+dj.length),y,hr,by simp[S],cap,inf,F,hi,by
   simpa only[List.size_toArray,cF]⟩
 refine⟨_,.slice _ _ cap,_,x.trans m,hw,?_,f⟩
 refine pV (Nm.cx _ _ _) C (cM y V) ?_ p
 simp_all[cX]
theorem tM(s:St)(i:Nat)(e:ag)(t:Tm):jl s (O i) e t=jl (cw s i) G e t:=rfl
theorem kj(h:uN P e=I):P.underlying e≠O (.int .u8)/\∃ts size,dG P 8 e=O ts/\(P.info? e).map (·.size)=O size/\ts.length=size:=by unfold uN at h;split at h;grind[ee,an];cases h
theorem LH(h:uN P e=I):bT P z e (.l []) []:=by have⟨k,ts,size,g,f,b⟩:=kj h;exact⟨k,ts,size,g,f,b,by simp,λi d a=>by simp at a,λi j d c m v a=>by simp at a⟩
theorem Oq{e f:Nat}{d n:Tm}{c:zj}(h:den ν (.gZ i e f d n c)=O V):(ν i=O 0/\ai ν d=O (.n 0)/\ai ν n=O (.n 0)/\∃a,V=.slice a 0 0)∨∃(g a b m:Nat),ν i=O g/\g≠0/\ai ν d=O (.n ((a:Nat):Int))/\ai ν n=O (.n ((b:Nat):Int))/\a<=b/\b<=m/\V=.slice (O (if m=a then⟨g,0,G⟩else⟨g,a*f,G⟩)) (b - a) (m - a):=by grind[den,l_]
theorem GU{e size:Nat}(a:(P.info? e).map (·.size)=O size)(h:bT P z e (.l xs) L)(n:m<=xs.length):bT P z e (.l (xs.drop m)) (L.drop (m*size)):=by have⟨s,ts,g,r,f,q,A,p,y⟩:=h;rw[a]at f;simp at f;subst f;have o:m*size<=xs.length*size:=cV _ n;have b:(xs.length - m)*size=xs.length*size - m*size:=Nat.sub_mul ..;refine⟨s,ts,size,r,a,q,by rw[dZ,dZ,b];omega,λi d k=> ?_,λi j d c t v k x w u=> ?_⟩;rw[fw]at k;exact p _ d k;grind
theorem tN(hL:bS lm)(h:aL P w0 A ν s w)(M:P.info? e=O inf){nt nl:Tm}(b:xU P lm s e tx inf.size y=O (nt,nl))(V:den ν y=O Y):∃d n dj,ai ν nt=O d/\ai ν nl=O (.n ((n:Nat):Int))/\bM d=O n/\bT P ν.z e d dj/\Src P inf.size tx Y n dj w:=by unfold xU at b;split at b;(·first|contradiction|simp_all|grind|omega);(·rename_i i n c;split at b;(·rename_i e' t e'' c' k p;split at b;(·rename_i u f o;simp only[ay]at f;have J:=an f.1.1;have c2:=an f.1.2;subst J c2;simp at b;obtain⟨rfl,rfl⟩:=b;(have H:P.underlying e≠O (.int .u8)∨ns n (jY t)=I:=by have:=f.2;rw[bW]at this;grind[kj]);obtain⟨T,B,_,⟨Oz,rfl⟩,_⟩|⟨g,m,cap,T,q0,B,q3,q4,rfl⟩:=ek V;(·have⟨d,D,r,C,_⟩:=h.Ey p T;have⟨d',S,K,Q,_⟩:=su hL h.ctx.pc M o D r (m:=0) B H;refine⟨d',0,[],S,B,Q,by simpa using K,?_⟩;cases Oz with|none=>exact Src.ofNil w k 0|some Oz=>grind[Src.ofSlice]);·have⟨obj,D,r⟩:=h.VH p T q0;(cases obj<;>simp only[bN]at r<;>try exact r.elim);rename_i arr t' fz;obtain⟨rfl,ZC,d,L,R,C,x,U,_⟩:=r;have⟨d',S,K,Q,r4⟩:=su hL h.ctx.pc M o C x B H;refine⟨d',m,L.take (m*inf.size),S,B,Q,K,Src.ofSlice (P:=P) w k ⟨g,0,G⟩ m cap _ (by rw[bD];omega) (λj u Gz=> ?_) λu o=>(nF K u o).1⟩;rw[gO,cell_of_row w g _ arr _ fz D,<-fI,U,ew];rw[eT]at Gz;grind);·cases b);·cases b);(·first|contradiction|simp_all|grind|omega);(·rename_i e' t;split at b;(·rename_i e'' k;split at b;(·rename_i a c f hb;simp only[ay]at f;have J:=an f.1.1;have c2:=an f.1.2;subst J c2;have Zz:=(kj f.2).1;obtain⟨rfl,rfl⟩:=b;have⟨xs,N,_⟩:=lA V;have X:=mP h.nU N;have q:=cM N (n:=xs.length) rfl;have hb':=fq hb;rw[hb']at N;have⟨h5,h6⟩:=dr.1 N;rw[mQ]at h6;(have F:ai ν (EM P e a c)=O (.l xs):=by unfold EM;grind[vV,bd,dr,NQ]);obtain⟨hV,rfl⟩|⟨g,off,cap,size,arr,fz,ts,tb,hV,d2,d3,d4,d5,d6,d7,d8,d9⟩:=kE.1 X;(·refine⟨.l [],0,[],F,q,rfl,LH f.2,?_⟩;rcases hV with rfl|⟨Oz,cap,rfl⟩;(·exact Src.ofNil w k 0);·exact Src.ofSlice w k Oz 0 cap [] (by simp) (λj u Gz=>by simp at Gz) λu o=>by cases o);·rw[M]at d3;simp at d3;subst d3;(have Iz:((arr.toList.drop off).take (xs.length*inf.size)).length=xs.length*inf.size:=by simp;omega);have hr:bT P ν.z e (.l xs) ((arr.toList.drop off).take (xs.length*inf.size)):=⟨Zz,ts,inf.size,d2,by rw[M];rfl,d4,Iz,d8,λi j d cc tc v hd ZL W E=>by rw[eT]at E;split at E;(·rw[fw,fI]at E;exact d9 i j d cc tc v hd ZL W (by rw[show off+i*inf.size+j=off+(i*inf.size+j) by omega];exact E));·cases E⟩;refine⟨.l xs,xs.length,_,F,q,rfl,hr,?_⟩;rw[hV];refine Src.ofSlice w k ⟨g,off,G⟩ xs.length cap _ Iz (λj u Gz=> ?_) λu o=>(nF hr u o).1;rw[gO,cell_of_row w g _ arr _ fz (h.mu g _ d5).1,<-fI];rw[eT]at Gz;simp_all);·cases b);·cases b);·split at b;(·rename_i n cs h1 h2 h3;split at b;(·rename_i f;simp only[ay]at f;have J:=an f.1;split at b;(·rename_i t W;obtain⟨rfl,rfl⟩:=b;have⟨dj,D,r⟩:=acv (P:=P) h h1 V h3 h2 J f.2;have⟨d,C,x,U⟩:=LG hL h.ctx.pc h.nU W D;refine⟨d,n,dj,?_,rfl,U,x,r⟩;split;(·exact C);·(cases d<;>simp only[bT]at x<;>try exact x.elim);(·simp_all);·exact Qk C (by exact x));·cases b);·cases b);·cases b
theorem pX(f:bS lm)(d:∀t b,(t,b)∈s.x.pc->bh ν t b){n e:Tm}{a b:Nat}(g:ai ν n=O (.n ((a:Nat):Int)))(i:ai ν e=O (.n ((b:Nat):Int)))(h:room lm s n e=I):a<=most/\b<=most:=by unfold room at h;rw[ay]at h;have k:=ea f d g (show ai ν (.c (.ofNat most))=O (.n (.ofNat most))from rfl) rfl h.1;have j:=ea f d i (show ai ν (.c (.ofNat most))=O (.n (.ofNat most))from rfl) rfl h.2;simp_all
theorem AW(h:aL P w0 A ν s w){t:ag}(j:P.underlying t=O (.slice e))(m:P.info? e=O inf){a:Option Addr}(k:Src P inf.size tx Y 0 [] w)(n:ai ν tm=O d)(l:bT P ν.z e d [])(c:bM d=O 0)(ty:ag):lN P w0 A ν (jl s G e tm).2 (jl s G e tm).1 ((Builtin.append_ #[t,tx] ty #[.slice a 0 0,Y]).run P w):=by have⟨b,i,g,f⟩:=Qm h n l c a;exact⟨b,_,w,i,g,f,run_append_nothing w t tx ty e inf j m a 0 0 (ba _) Y k⟩
theorem GV{b:Bool}:∀{pc:List (Tm×Bool)},nA t pc=O b->(t,b)∈pc|[],h=>by cases h|(u,c)::pc,h=>by unfold nA at h;split at h;grind[bj];exact aS _ (GV h)
theorem UL(i:∀t b,(t,b)∈s.x.pc->bh ν t b){a c:Tm}(h:aav s.x.pc t=O (a,c)):t=.f 22 [a,c]/\∃e A n xs,ai ν a=O (.r e (.slice A n n) xs):=by unfold aav at h;split at h;rename_i w c' p;split at h;rename_i o;injection h with h;injection h with u q;subst u q;refine⟨fq p,?_⟩;have⟨n,l,k⟩:=i _ _ (GV o);have⟨x,v,j⟩:=(lB (g:=PE) rfl (by decide) λ_=>rfl).1 l;obtain⟨e,A,m,c,xs,rfl,d⟩:=Gy j;(have:m=c:=by by_cases hh:m=c;exact hh;(have:(m==c)=Z:=by simpa using hh);rw[this]at d;injection d with d;subst d;simp at k);simp_all;cases h;cases h
theorem CV(J:bS lm)(h:aL P w0 A ν s w){t ty:ag}{x:AV}{X:aa}{s':St}(b:DH P lm s t tx x y=O (v,s'))(hx:den ν x=O X)(hy:den ν y=O Y):lN P w0 A ν s' v ((Builtin.append_ #[t,tx] ty #[X,Y]).run P w):=by unfold DH at b;split at b;(·rename_i e Iz;split at b;(·rename_i inf q;split at b;(·rename_i Oz nl hc hn;simp only[ay]at hc;have⟨⟨W,c2⟩,K⟩:=hc;have W:=bz W;split at K;(·rename_i z hz;have K:=an K;have⟨d,n,dj,k1,k2,k3,H,Gz⟩:=tN J h q hn hy;have hn0:n=0->dj=[]:=λe=>lF (by have:=Gz.newsLen;rw[e]at this;omega);split at b;(·first|contradiction|simp_all|grind|omega);(·rename_i i nx c;split at b;(·rename_i u e' c' E;split at b;(·rename_i u' hb hu;simp only[ay]at hb;have⟨⟨⟨Zz,b2⟩,b3⟩,b4⟩:=hb;have Zz:=an Zz;have b2:=an b2;subst Zz b2;(have hbb:P.underlying e≠O (.int .u8)∨ns nx (jY u)=I:=by rw[bW]at b4;grind[kj]);simp at b;(have e1:v=(jl s (O i) e (lj u' Oz)).1:=by rw[b]);(have e2:s'=(jl s (O i) e (lj u' Oz)).2:=by rw[b]);rw[e1,e2];(have cat:∀{d1:ah}{L1:List aa}{m:Nat},ai ν u'=O d1->bT P ν.z e d1 L1->bM d1=O m->∃N,ai ν (lj u' Oz)=O N/\bT P ν.z e N (L1++dj)/\bM N=O (m+n):=λ{d1 L1 m} p1 p2 p3=>by have⟨N,x1,x2,y1,y2,y3,y4,y5⟩:=pM p1 k1 p2 H;rw[p3]at y3;simp at y3;rw[k3]at y4;simp at y4;subst y3 y4;grind[ql,akl,oy]);obtain⟨p,o,_,⟨a',rfl⟩,_⟩|⟨g,m,cap,p,q0,o,q3,q4,rfl⟩:=ek hx;(·have⟨_,g2⟩:=pX (a:=0) J h.ctx.pc o k2 b3;have⟨d0,r1,M,r3,_⟩:=h.Ey E p;have⟨d1,p1,p2,p3,_⟩:=su J h.ctx.pc q hu r1 M (m:=0) o hbb;have⟨N,z1,z2,z3⟩:=cat p1 p2 p3;rw[tM];by_cases B:n=0;(·subst B;rw[hn0 rfl]at z2 Gz;exact AW (h.kill i) Iz q Gz z1 (by grind) (by omega) ty);·refine ku (h.kill i) Iz q hz K (rH:=[]) (by simp) ?_ Gz z1 (by grind) z3 (by omega) (by omega) W ty;cases a' with|none=>rfl|some a'=>grind[run_firstCells_some]);·have⟨g1,g2⟩:=pX J h.ctx.pc o k2 b3;have⟨obj,r1,M⟩:=h.VH E p q0;(cases obj<;>simp only[bN]at M<;>try exact M.elim);rename_i arr t' fz;obtain⟨rfl,ZC,d0,L,R,r3,r4,r5,F,alh,hcn,f,ZB⟩:=M;rw[q]at f;simp at f;subst f;simp only[cX,hcn]at q3;rw[if_pos (dy _)]at q3;simp at q3;subst q3;have⟨d1,p1,p2,p3,p4⟩:=su J h.ctx.pc q hu r3 r4 o hbb;have⟨N,z1,z2,z3⟩:=cat p1 p2 p3;have Ζ:arr=(L++R).toArray:=iK r5;subst Ζ;(have sO:(L.take (m*inf.size)).length=m*inf.size:=by rw[bD];omega);(have D:∀w':aj,w'.heap[g]? =w.heap[g]?->(Builtin.firstCells inf.size m (.slice (O ⟨g,0,G⟩) m F)).run P w'=.ok (L.take (m*inf.size)).toArray w':=λw' hw'=>by refine run_firstCells_some w' inf.size m _ m F _ sO λj v U=> ?_;rw[gO,cell_of_row w' g _ _ _ fz (hw'.trans r1),ew,js];rw[eT]at U;grind);by_cases S8:m+n<=F;(·exact CU h Iz q E p q0 ZC r1 p4 hcn (by omega) Gz (cm.2 λv Q=>(nF H v Q).2) z1 z2 z3 S8 ty);·rw[tM];exact ku (h.kill i) Iz q hz K sO (D w.drew rfl) Gz z1 z2 z3 (by omega) (by omega) W ty);·cases b);·cases b);(·rename_i e' u;split at b;(·rename_i a c hb hf;simp only[ay]at hb;have⟨⟨Zz,b2⟩,b3⟩:=hb;have Zz:=an Zz;subst Zz;obtain⟨rfl,e2,A2,n2,xs2,h9⟩:=UL h.ctx.pc hf;have⟨xs,h4,_⟩:=lA hx;have ZM:=mP h.nU h4;have hlen:=cM h4 (n:=xs.length) rfl;have⟨h5,h6⟩:=dr.1 h4;rw[h5]at h9;injection h9 with h9;injection h9 with _ h9 h10;subst h9 h10;rw[mQ]at h6;have⟨g1,g2⟩:=pX J h.ctx.pc hlen k2 b2;(have r:ai ν (EM P e a c)=O (.l xs):=by unfold EM;grind[vV,bd,dr,NQ]);split at b;(·first|contradiction|simp_all|grind|omega);·split at b;(·rename_i Ky;have gp:=ea J h.ctx.pc k2 (show ai ν (.c 0)=O (.n 0)from rfl) rfl Ky;simp only[decide_eq_true_eq]at gp;simp at b;generalize Sl:EM P e a c=cc at b r;(have e1:v=(jl s G e (lj cc Oz)).1:=by rw[b]);(have e2:s'=(jl s G e (lj cc Oz)).2:=by rw[b]);rw[e1,e2];(have⟨ys,hys⟩:∃ys,d=.l ys:=by (cases d<;>simp only[bT]at H<;>try exact H.elim);(·cases (kj b3).1 H.1);simp_all);subst hys;simp[bM]at k3;obtain⟨hV,rfl⟩|⟨g,off,cap,size,arr,fz,ts,tb,hV,N,d3,d4,d5,d6,d7,d8,d9⟩:=kE.1 ZM;(·(have hn2:n2=0:=by grind);subst hn2;refine ku h Iz q hz K (rH:=[]) (by simp) ?_ Gz (oy r k1) (by grind) (by simp[bM,k3]) (by omega) (by omega) W ty;cases A2 with|none=>rfl|some a'=>exact run_firstCells_some _ _ _ _ _ _ _ (by simp) λj v U=>by simp at U);·rw[q]at d3;simp at d3;subst d3;injection hV with hV1 hV2 hV3;subst hV1 hV2;(have V:((arr.toList.drop off).take (xs.length*inf.size)).length=xs.length*inf.size:=by simp;omega);have hr:bT P ν.z e (.l xs) ((arr.toList.drop off).take (xs.length*inf.size)):=⟨(kj b3).1,ts,inf.size,N,by rw[q];rfl,d4,V,d8,λi j d cc tc v hd ZL Iz Q=>by rw[eT]at Q;split at Q;(·rw[fw,fI]at Q;exact d9 i j d cc tc v hd ZL Iz (by rw[show off+i*inf.size+j=off+(i*inf.size+j) by omega];exact Q));·cases Q⟩;have⟨d2',x1,x2,y1,y2,y3,y4,y5⟩:=pM r k1 hr H;obtain⟨xx,yy,p,o,_⟩|⟨xx,yy,p,o,rfl⟩:=ql.1 y1;(·rw[r]at p;cases p);rw[r]at p;rw[k1]at o;injection p with p;simp at p;injection o with o;simp at o;subst p o;refine ku h Iz q hz K V (run_firstCells_some _ _ _ _ _ _ _ V λj v U=> ?_) Gz (oy r k1) y2 (by simp[bM,k3]) (by omega) (by omega) W ty;rw[gO,cell_of_row w.drew g _ arr _ fz (h.mu g _ d5).1,<-fI];rw[eT]at U;simp_all);·cases b);·cases b);(·rename_i i off k m;have hx2:=hx;split at b;(·rename_i xt xl T hxt;have T:=an T;subst T;obtain⟨g,C,r1,M,r3,rfl⟩:=gX hx;simp[cX]at M;subst M;have⟨d0,n0,rH,p,o,q3,q4,q5⟩:=tN J h q hxt hx2;(have hk0:n0=k:=by have:=q5.len w;have e:(Builtin.lenOf (.slice (O ⟨g,off,G⟩) k k)).run P w=.ok k w:=rfl;rw[e]at this;simp_all);subst hk0;split at b;(·rename_i S;have⟨g1,g2⟩:=pX J h.ctx.pc o k2 S;split at b;(·rename_i B;have B:=an B;subst B;simp at b;(have e1:v=(jl s G e Oz).1:=by rw[b]);(have e2:s'=(jl s G e Oz).2:=by rw[b]);rw[e1,e2];by_cases hz1:n=0;(·subst hz1;rw[hn0 rfl]at H Gz;grind[AW]);·exact ku h Iz q hz K (rH:=[]) (by simp) (run_firstCells_some _ _ _ _ _ _ _ (by simp) λj v U=>by simp at U) Gz k1 (by grind) (by grind) (by omega) (by omega) W ty);·first|contradiction|simp_all|grind|omega);·cases b);·cases b);·cases b);·cases K);·cases b);·cases b);·cases b
theorem aL.newAtom(h:aL P w0 A ν s w)(N:ch P ν.z d):∃c,Nm.le ν c/\aL P w0 A c {s with n:=s.n+1} w/\c.x (bm+s.n)=O d/\c.f=ν.f/\c.z=ν.z:=by have⟨c,i⟩:∃c:Nm,c=⟨ν.f,λj=>if j=bm+s.n then O d else ν.x j,ν.u,ν.z,ν.q⟩:=⟨_,rfl⟩;have C:ν.x (bm+s.n)=G:=h.kR s.n (ba _);(have l:Nm.le ν c:=by subst i;refine⟨λ_ _ h=>h,λj d' g=> ?_,rfl,λj g=> ?_,λ_ _ h=>h,λ_ _ h=>h⟩;simp only;rw[if_neg];exact g;rintro rfl;rw[C]at g;cases g;grind);(have m:c.f=ν.f:=by rw[i]);(have y:c.z=ν.z:=by rw[i]);(have J:c.q=ν.q:=by rw[i]);refine⟨c,l,⟨h.pos,h.dz,λj g=>by rw[m];exact h.top j (by grind),λj r g=> ?_,λa b Iz H L K Gz e=>h.inj a b Iz H L K (by rw[m]at Gz;exact Gz) (by rw[m]at e;exact e),h.ext.trans l,h.xb,h.same,h.sT,h.nv,λj r g B v=>h.own j r g B (by rw[m]at v;exact v),h.ctx.mono l,λk ob o=> ?_,λk ob o=>h.lq k ob (by rw[y]at o;exact o),λj d' g=> ?_,λj g=> ?_,λj g=>by rw[J];exact h.kS j (by grind)⟩,by rw[i];simp,m,y⟩;obtain⟨B,F,⟨E,D⟩|⟨p,E,D,M⟩⟩:=h.fX j r g;exact⟨B,by rw[m];exact F,.inl ⟨E,D.mono l⟩⟩;exact⟨B,by rw[m];exact F,.inr ⟨p,E,D,M.mono l⟩⟩;rw[y]at o;exact⟨(h.mu k ob o).1,λj r g=>by rw[m];exact(h.mu k ob o).2 j r g⟩;(have t:(if j=bm+s.n then O d else ν.x j)=O d':=by rw[i]at g;exact g);rw[y];split at t;simp_all;exact h.nU j d' t;simp only at g;rw[i];simp only;rw[if_neg (by omega)];exact h.kR j (by omega)
theorem aL.freeze(h:aL P w0 A ν s w){obj:Obj}(Gz:s.h.get i=O o)(C:ν i=O g)(M:g≠0)(y:w.heap[g]? =O obj):∃c,Nm.le ν c/\aL P w0 A c (cw s i) w/\c.z g=O obj:=by have⟨c,n⟩:∃c:Nm,c=⟨ν.f,ν.x,ν.u,λk=>if k=g then O obj else ν.z k,ν.q⟩:=⟨_,rfl⟩;have Q:=h.zT Gz C M;(have p:Nm.le ν c:=by subst n;refine⟨λ_ _ h=>h,λ_ _ h=>h,rfl,λ_ _=>rfl,λk l t=> ?_,λ_ _ h=>h⟩;grind);(have r:c.f=ν.f:=by rw[n]);(have K:c.x=ν.x:=by rw[n]);(have Oz:c.q=ν.q:=by rw[n]);(have old:∀j l,(s.h.put i G).get j=O l->j≠i/\s.h.get j=O l:=λj l d=>by rw[Tr.bJ]at d;simp_all);(have U:ν i≠O 0:=by rw[C];simp_all);refine⟨c,p,⟨h.pos,h.dz,λj d=>by rw[r];exact h.top j d,λj l d=> ?_,λa b J F S R N e=>h.inj a b J F (old a J S).2 (old b F R).2 (by rw[r]at N;exact N) (by rw[r]at e;exact e),h.ext.trans p,h.xb,λj l d L=> ?_,h.sT,h.nv,λj l d E B=>h.own j l (old j l d).2 E (by rw[r]at B;exact B),h.ctx.mono p,λk ob t=> ?_,λk ob t=> ?_,λj d' d=>(h.nU j d' (by rw[K]at d;exact d)).mono p.z,λj d=>by rw[K];exact h.kR j d,λj d=>by rw[Oz];exact h.kS j d⟩,by rw[n];simp⟩;obtain⟨E,Iz,⟨D,H⟩|⟨v,D,H,T⟩⟩:=h.fX j l (old j l d).2;exact⟨E,by rw[r];exact Iz,.inl ⟨D,H.mono p⟩⟩;exact⟨E,by rw[r];exact Iz,.inr ⟨v,D,H,T.mono p⟩⟩;simp[cw]at L;have⟨⟨F,Iz⟩,D⟩:=h.same j l d L.2;simp_all[cw,Tr.bJ];(have m:(if k=g then O obj else ν.z k)=O ob:=by rw[n]at t;exact t);split at m;rename_i e;subst e;simp at m;subst m;exact⟨y,λj l d _ e=>(old j l d).1 (h.inj i j o l Gz (old j l d).2 U (by rw[r]at e;rw[e,C])).symm⟩;exact⟨(h.mu k ob m).1,λj l d=>by rw[r];exact(h.mu k ob m).2 j l (old j l d).2⟩;(have m:(if k=g then O obj else ν.z k)=O ob:=by rw[n]at t;exact t);split at m;rename_i e;subst e;exact λ_=>.inr (h.own i o Gz _ C M);exact h.lq k ob m
theorem N7(h:ai ν t=O (.r e V xs))(a:V.oneCell'=I):den ν (.deep e t)=O V:=by simp_all[den]
theorem Qn(h:aL P w0 A ν s w){arr:Array aa}{E:ag}{fz:Nat×Nat}(T:s.h.get i=O o)(U:ν i=O g)(Y:g≠0)(f:w.heap[g]? =O (.cells arr E fz)){off cap:Nat}(Zz:ai ν t=O (.l xs))(Oz:bT P ν.z e (.l xs) L)(R:xs.length=n)(H:n<=cap)(X:∀j v,L[j]? =O v->arr[off+j]? =O v)(m:off+L.length<=arr.size):∃a,Nm.le ν a/\aL P w0 A a (XP s i e t).2 w/\den a (XP s i e t).1=O (.slice (O ⟨g,off,G⟩) n cap):=by have⟨V,D⟩:∃V,V=Value.slice (O ⟨g,off,G⟩) n cap:=⟨_,rfl⟩;have⟨B,F,W1,Iz⟩:=h.freeze T U Y f;have C:=Oz.mono F.z;have⟨_,ts,size,a1,a2,a3,a4,a5,a6⟩:=C;have u:ch P B.z (.r e V xs):=kE.2 (.inr ⟨g,off,cap,size,arr,fz,ts,E,by rw[D,R],a1,a2,a3,Iz,by rw[<-a4];exact m,by omega,a5,λp q d c K v Gz W b N=>by (have hj:q<size:=by have:=(cj.1 b).1;omega);have Q:p<xs.length:=(cj.1 Gz).1;have hm:(p+1)*size<=xs.length*size:=cV _ Q;(have S:(p+1)*size=p*size+size:=by rw[df,fG]);(have k:p*size+q<L.length:=by omega);refine a6 p q d c K v Gz W b ?_;have x:=X (p*size+q) _ (aZ k);rw[show off+(p*size+q)=off+p*size+q by omega]at x;rw[N]at x;simp at x;rw[x];exact aZ k⟩);have⟨y,M,W2,J,_,_⟩:=W1.newAtom u;refine⟨y,F.trans M,W2,?_⟩;rw[<-D];refine N7 (xs:=xs) (dr.2 ⟨J,?_⟩) (by rw[D];rfl);rw[mQ,<-bd];grind[du,aX]
theorem RB(h:aL P w0 A ν s w){a:Option Addr}(j:ai ν t=O (.l [])):∃b,Nm.le ν b/\aL P w0 A b (XP s i e t).2 w/\den b (XP s i e t).1=O (.slice a 0 0):=by have c:ch P ν.z (.r e (.slice a 0 0) []):=kE.2 (.inl ⟨by cases a with|none=>exact .inl rfl|some a=>simp_all,rfl⟩);have⟨d,f,W2,g,_,_⟩:=h.newAtom c;refine⟨d,f,W2.kill i,?_⟩;refine N7 (dr.2 ⟨g,?_⟩) rfl;rw[mQ,<-bd];exact du (aX f t _ j)
theorem jB(h:mN P e=I):P.underlying e≠O (.int .u8):=λa=>by simp_all[mN]
theorem vx{a b:zj}(h:EI a b=I):a=b:=by (cases a<;>cases b<;>simp only[EI,ay]at h<;>try cases h);rw[an h];simp_all
theorem wQ{u:AV}:∀(t:Tr bF)(i:Nat),(EP v u t).get i=(t.get i).map (V2 v u)|.e,_=>rfl|.n l o r,i=>by simp only[EP,Tr.get];split;rfl;split;exact wQ l _;exact wQ r _
theorem YD{u:AV}{W:aa}(h:aaC v u=I)(x:den ν v=O V)(y:den ν u=O W):W=V:=by unfold aaC at h;split at h;rename_i i n c j m d;simp only[ay]at h;have⟨⟨p,C⟩,o⟩:=h;have p:=an p;have o:=vx o;subst p o;rcases ek x with⟨l,s,q,_,_⟩|⟨g,k,cap,l,t,s,q,z,rfl⟩<;>rcases ek y with⟨e,w,f,_,_⟩|⟨D,B,r,e,p0,w,f,A,rfl⟩;rw[q]at f;simp at f;exact f.symm;rw[l]at e;simp at e;cases p0 e.symm;rw[l]at e;simp at e;cases t e;grind[kK];grind[an,vx];cases h
theorem Qo{u:AV}(b:den ν v=O V)(c:den ν u=O V):∀{l:List AV}{L:List aa},bw ν l=O L->bw ν (l.map (ai4 v u))=O L|[],L,h=>h|a::l,L,h=>by obtain⟨X,R,e,d,rfl⟩:=cd h;refine eQ ?_ (Qo b c d);grind[ai4,YD]
theorem FT{r:AV×St}(B:den ν v=O V)(h:∃a,Nm.le ν a/\aL P w0 A a r.2 w/\den a r.1=O V):∃a,Nm.le ν a/\aL P w0 A a (XO v r).2 w/\den a (XO v r).1=O V:=by have⟨a,f,h,q⟩:=h;have p:=cY f _ _ B;refine⟨a,f,?_,q⟩;(have old:∀i o,(XO v r).2.h.get i=O o->∃o0,r.2.h.get i=O o0/\o=V2 v r.1 o0:=λi o b=>by have b:(EP v r.1 r.2.h).get i=O o:=b;rw[wQ,bZ]at b;grind);(have new:∀i o,r.2.h.get i=O o->(XO v r).2.h.get i=O (V2 v r.1 o):=λi o b=>by show(EP v r.1 r.2.h).get i=_;rw[wQ,b];rfl);refine⟨h.pos,h.dz,h.top,λi o b=> ?_,λi j o y b D=> ?_,h.ext,h.xb,λi o b C=> ?_,h.sT,h.nv,λi o b=> ?_,h.ctx,λg ob s=> ?_,h.lq,h.nU,h.kR,h.kS⟩;obtain⟨o0,d,rfl⟩:=old i o b;have⟨g,z,k⟩:=h.fX i o0 d;refine⟨g,z,?_⟩;obtain⟨n,e⟩|⟨obj,n,e,m⟩:=k;(refine .inl ⟨n,?_⟩;cases o0<;>simp only[iU]at e<;>first|exact e.elim|exact e);refine .inr ⟨obj,n,e,?_⟩;(cases o0<;>try exact m);rename_i l t c;(cases obj<;>simp only[bN]at m<;>try exact m.elim);have⟨a1,a2,L,R,a3,a4⟩:=m;exact⟨a1,a2,L,R,Qo p q a3,a4⟩;obtain⟨o0,d,rfl⟩:=old i o b;obtain⟨x,u,rfl⟩:=old j y D;exact h.inj i j o0 x d u;have⟨⟨E,d⟩,u⟩:=h.same i o b C;simp_all;obtain⟨o0,d,rfl⟩:=old i o b;exact h.own i o0 d;refine⟨(h.mu g ob s).1,λi o b=> ?_⟩;obtain⟨o0,d,rfl⟩:=old i o b;exact(h.mu g ob s).2 i o0 d
theorem Qp(hL:bS lm)(h:aL P w0 A ν s w){u:AV}{Zz:St}(f:Z5 P lm s v=O (u,Zz))(Gz:den ν v=O V):∃y,Nm.le ν y/\aL P w0 A y Zz w/\den y u=O V:=by unfold Z5 at f;split at f;rename_i i n c;split at f;rename_i t e c' b;split at f;rename_i Y o k;simp at f;have o:=jB o;obtain⟨J,N,_,⟨a',rfl⟩,_⟩|⟨g,m,cap,J,q0,N,q3,q4,rfl⟩:=ek Gz;have⟨d,Oz,r,F,_⟩:=h.Ey b J;(have E:∃x:List ah,d=.l x:=by (cases d<;>simp only[bT]at r<;>try exact r.elim);cases o r.1;simp_all);obtain⟨x,rfl⟩:=E;simp only[bM,aG]at F;have:x=[]:=jv.1 F;subst this;(have Q:ai ν Y=O (.l []):=by unfold MH at k;split at k;simp_all;split at k;simp at k;subst k;exact pW Oz N (dy _);cases k);have:=RB (P:=P) (i:=i) (e:=e) (a:=a') h Q;have:=FT Gz this;rw[f]at this;exact this;have⟨obj,M,D⟩:=h.VH b J q0;(cases obj<;>simp only[bN]at D<;>try exact D.elim);rename_i arr X fz;obtain⟨rfl,S,d0,L,R,Iz,B,r5,_⟩:=D;(have q:∃inf,P.info? X=O inf:=by (cases d0<;>simp only[bT]at B<;>try exact B.elim);simp_all;have⟨_,ts,size,_,h2,_⟩:=B;cases hh:P.info? X with|none=>rw[hh]at h2;cases h2|some inf=>simp_all);have⟨inf,q⟩:=q;have⟨d1,p1,K,p3,p4⟩:=su hL h.ctx.pc q k Iz B N (.inl o);(have E:∃x:List ah,d1=.l x:=by (cases d1<;>simp only[bT]at K<;>try exact K.elim);cases o K.1;simp_all);obtain⟨x,rfl⟩:=E;simp[bM]at p3;(have U:arr.size=(L++R).length:=by simp[<-r5]);have:=Qn h b J q0 M (off:=0) (n:=m) (cap:=cap) p1 K p3 q4 (λj v p=>by rw[eT]at p;split at p;rw[<-fI,r5,ew,dw (cj.1 p).1];exact p;cases p) (by rw[U,cL,bD];omega);have:=FT Gz this;rw[f]at this;exact this;cases f;cases f;rename_i i off n c;split at f;rename_i l e c' b;split at f;rename_i z hz o;split at f;rename_i vs hb H;have hb:=bz hb;split at f;rename_i t ht;simp at f;obtain⟨g,C,W,hC,T,rfl⟩:=gX Gz;have⟨obj,M,D⟩:=h.at_ b W;(cases obj<;>simp only[bN]at D<;>try exact D.elim);rename_i arr Y fz;obtain⟨rfl,S,L,R,Iz,B,_⟩:=D;have⟨o1,o2⟩:=sq Iz H;have⟨d,Oz,r,F⟩:=LG hL h.ctx.pc h.nU ht o1;(have U:arr.size=(L++R).length:=by simp[<-B]);(cases d<;>simp only[bT]at r<;>try exact r.elim);cases (jB o) r.1;rename_i xs;simp[bM]at F;have hLl:=fK Iz;have:=Qn h b W (h.nz b W) M (off:=off) (n:=n) (cap:=C) Oz (by exact r) F T (λj v p=>by rw[eT]at p;split at p;rw[fw]at p;rw[<-fI,B,dw (cj.1 p).1];exact p;cases p) (by rw[o2,U,cL];omega);have:=FT Gz this;rw[f]at this;exact this;cases f;cases f;cases f;cases f;cases f
theorem qu(e:bS lm):∀{l:List AV}{s:St}{ν:Nm}{L:List aa},aL P w0 A ν s w->bw ν l=O L->∃a,Nm.le ν a/\aL P w0 A a (uo P lm l s).2 w/\bw a (uo P lm l s).1=O L|[],s,ν,L,h,d=>⟨ν,Nm.le.refl _,h,d⟩|v::l,s,ν,L,h,d=>by obtain⟨V,R,p,j,rfl⟩:=cd d;unfold uo;split;rename_i u q o;have⟨k,i,n,m⟩:=Qp e h o p;have⟨b,c,g,f⟩:=qu e n (fo i _ _ j);exact⟨b,i.trans c,g,eQ (cY c _ _ m) f⟩;have⟨b,c,g,f⟩:=qu e h j;grind[eQ,cY]
theorem aL.wy(h:aL P w0 A ν s w){o0:bF}(y:s.h.get i=O o0)(z:ν i=O g)(B:(g=0/\iU P ν o)∨∃obj,w0.heap.size<=g/\w.heap[g]? =O obj/\bN P ν o obj):aL P w0 A ν {s with h:=s.h.put i (O o)} w:=by (have alive:∀j d,(s.h.put i (O o)).get j=O d->∃m,s.h.get j=O m:=λj d c=>by rw[Tr.bJ]at c;grind);refine⟨h.pos,h.dz,h.top,λj d c=> ?_,λj k q p c l x e=> ?_,h.ext,h.xb,λj d c r=> ?_,h.sT,h.nv,λj d c v n=> ?_,h.ctx,λk ob l=>⟨(h.mu k ob l).1,λj d c=> ?_⟩,h.lq,h.nU,h.kR,h.kS⟩;rw[Tr.bJ]at c;split at c;simp_all;exact h.fX j d c;have⟨a,f⟩:=alive j q c;have⟨b,t⟩:=alive k p l;exact h.inj j k a b f t x e;have⟨⟨p,C⟩,u⟩:=h.same j d c r;refine⟨?_,u⟩;by_cases e:j=i;exact⟨o,by rw[Tr.bJ,if_pos e]⟩;simp_all[Tr.bJ];have⟨a,f⟩:=alive j d c;exact h.own j a f v n;have⟨a,f⟩:=alive j d c;exact(h.mu k ob l).2 j a f
theorem aL.lS(h:aL P w0 A ν s w){o0:bF}{obj:Obj}(b:s.h.get i=O o0)(c:ν i=O g)(f:g≠0)(a:w.heap[g]? =O obj)(d:bN P ν o obj):aL P w0 A ν {s with h:=s.h.put i (O o)} w:=by have⟨_,e,_⟩:=h.Cx b c f;exact h.wy b c (.inr ⟨obj,e,a,d⟩)
theorem Qq(v:bS lm)(h:aL P w0 A ν s w)(j:Nat):∃a,Nm.le ν a/\aL P w0 A a (aeP P lm s j) w:=by unfold aeP;split;(·rename_i l t c u;simp only;split;(·rename_i C f;have⟨g,obj,p,B,o,b⟩:=h.real u;(cases obj<;>simp only[bN]at b<;>try exact b.elim);obtain⟨rfl,e,L,R,n,m,k⟩:=b;have⟨a,d,r,q⟩:=qu v h n;refine⟨a,d,r.lS f (d _ _ p) (by have:=h.pos;omega) o ⟨rfl,e,L,R,q,m,?_⟩⟩;cases c with|none=>exact k|some c=>have⟨cap,i,z,y,x⟩:=k;exact⟨cap,i,d _ _ z,y,x⟩);·exact⟨ν,Nm.le.refl _,h⟩);·exact⟨ν,Nm.le.refl _,h⟩
theorem RC(d:bS lm)(h:aL P w0 A ν s w){t ty:ag}{x:AV}{X:aa}{e:St}(b:NJ P lm s t tx x y=O (v,e))(g:den ν x=O X)(f:den ν y=O Y):lN P w0 A ν e v ((Builtin.append_ #[t,tx] ty #[X,Y]).run P w):=by unfold NJ at b;split at b;rename_i j _ _ _;have⟨i,c,o⟩:=Qq d h j;have⟨a,V,w',n,m,l,k⟩:=CV (P:=P) d o (ty:=ty) b (cY c _ _ g) (cY c _ _ f);exact⟨a,V,w',c.trans n,m,l,k⟩;exact CV d h b g f
end
end
section
open RowKit
def DC:aa->AV|.bool b=>.bool b|.int k n=>.int k n|.string s=>.str s.data.toList|_=>.kv
def MD:aa->AV|.agg cs=>.agg (cs.toList.map DC)|v=>DC v
section
variable{P:aw}{w0 w:aj}{A:en}{ν:Nm}{s:St}{lm:List fV}{z:Nat->Option Obj}
theorem Nh{e:ag}{d:TypeDesc}{v:aa}{c:ah}(b:P.underlying e=O d)(f:eM d=I)(h:cU P z e v c):den ν (DC v)=O v/\gN d (DC v)=I/\oS (DC v)=I:=by cases h with|bool a=>rw[b]at a;simp at a;subst a;exact⟨rfl,rfl,rfl⟩|int a=>rename_i k n;rw[b]at a;simp at a;subst a;refine⟨rfl,?_,rfl⟩;cases k<;>rfl|str a=>rw[b]at a;simp at a;subst a;exact⟨rfl,rfl,rfl⟩|_=>rename_i a<;>(rw[b]at a;simp at a;subst a;cases f)
def PV(P:aw)(z:Nat->Option Obj)(ts:List ag)(L:List aa):Prop:=L.length=ts.length/\∀(j:Nat)(tc:ag)(v:aa),ts[j]? =O tc->L[j]? =O v->∃d c,P.underlying tc=O d/\eM d=I/\cU P z tc v c
theorem GW{ts:List ag}{t:ag}{v:aa}{L:List aa}(h:PV P z (t::ts) (v::L)):(∃d c,P.underlying t=O d/\eM d=I/\cU P z t v c)/\PV P z ts L:=⟨h.2 0 t v rfl rfl,by have:=h.1;grind,λj b a f e=>h.2 (j+1) b a (by simpa using f) (by simpa using e)⟩
theorem BR:∀{ts:List ag}{L:List aa},PV P z ts L->bw ν (L.map DC)=O L|[],L,h=>by have:=h.1;rw[jv.1 this];rfl|t::ts,[],h=>by rfl|t::ts,v::L,h=>by have⟨⟨d,c,f,e,b⟩,a⟩:=GW h;exact eQ (Nh f e b).1 (BR a)
theorem GX:∀{a:List Field}{L:List aa},PV P z (a.map (·.type)) L->ia P a (L.map DC)=I|[],L,h=>by have:=h.1;rw[jv.1 this];rfl|f::a,[],h=>by have:=h.1;simp at this|f::a,v::L,h=>by have⟨⟨d,c,b,i,g⟩,e⟩:=GW h;simp[ia,b,(Nh (ν:=⟨λ_=>G,λ_=>G,0,λ_=>G,λ_=>G⟩) b i g).2.1,GX e]
theorem mh{d:Nat}{t:ag}{ds:TypeDesc}(a:P.underlying t=O ds)(b:eM ds=I):dG P (d+1) t=O [t]:=by unfold dG;rw[a];cases ds<;>first|rfl|cases b
theorem rQ{d:Nat}:∀{a:List Field}{i:Nat},ke P a i=I->ji (λf=>dG P (d+1) f.type) a=O (a.map λf=>[f.type])/\∀f∈a,∃ds,P.underlying f.type=O ds/\eM ds=I|[],_,_=>⟨rfl,λf b=>by cases b⟩|f::a,i,h=>by simp only[ke,ay]at h;have⟨⟨⟨_,_⟩,j⟩,c⟩:=h;have⟨g,e⟩:=rQ (d:=d) c;grind[ji,mh]
theorem vW{b:Type}(l:List b){c:Type}(f:b->c):(l.map λx=>[f x]).flatten=l.map f:=by induction l with|nil=>rfl|cons a l d=>simp_all
theorem FU{ts:List ag}{L:List aa}{d:ah}(g:L.length=ts.length)(f:gK ts.length d)(m:∀(j:Nat)(c:ah)(a:ag)(v:aa),dQ d j=O c->ts[j]? =O a->L[j]? =O v->cU P z a v c)(e:∀t∈ts,∃ds,P.underlying t=O ds/\eM ds=I):PV P z ts L:=
 ⟨g,λj a v b k=>by
  have⟨c,l⟩:=fu.1 ((f.1 j).2 (cj.1 b).1)
  have⟨ds,i,h⟩:=e a (bE b)
  grind⟩
theorem TW{p:ag}{kd:ah}{K:aa}(q:gk P p=I)(h:fA P z p kd K):den ν (MD K)=O K/\mB P p (MD K)=I:=by have⟨ts,L,b,u,r,D,C⟩:=h;unfold gk at q;split at q;rename_i o l;simp only[ay]at q;have⟨m,y⟩:=rQ (d:=6) q.2;(have e:ts=o.toList.map (·.type):=by unfold dG at b;rw[l]at b;simp only at b;rw[m]at b;simp at b;rw[<-b,vW]);subst e;(have a:=FU (P:=P) (z:=z) u D C λt s=>by obtain⟨f,B,rfl⟩:=cA.1 s;exact y f B);(have k:fD P p=O I:=by unfold fD;rw[l]);obtain⟨_,rfl⟩|⟨r,_⟩:=r;refine⟨?_,?_⟩;simp[MD,den];rw[BR a];unfold mB;rw[l];exact GX a;simp_all;rename_i n e l;simp at q;have g:=q.2;split at g;rename_i ds i;(have E:ts=fF n e:=by unfold dG at b;rw[l]at b;simp only at b;rw[mh (d:=6) i g]at b;simp only[Option.map_some,aG]at b;rw[<-b];have:=vW (fF n e) (λx=>x);simpa using this);subst E;(have a:=FU (P:=P) (z:=z) u D C λt s=>by rw[List.eq_of_mem_replicate s];exact⟨ds,i,g⟩);(have k:fD P p=O I:=by unfold fD;rw[l]);obtain⟨_,rfl⟩|⟨r,_⟩:=r;refine⟨?_,?_⟩;simp[MD,den];rw[BR a];unfold mB;rw[l];simp only[MD,i,ay];refine⟨?_,cm.2 λx Gz=> ?_⟩;(have:(L.map DC).length=n:=by rw[fR,u,D1]);simp[this];obtain⟨v,H,rfl⟩:=cA.1 Gz;have⟨j,F⟩:=jV.1 H;(have A:j<n:=by have:=(cj.1 F).1;rw[u,D1]at this;exact this);have⟨qP,c,m,y,w⟩:=a.2 j e v (by rw[List.getElem?_replicate,if_pos A]) F;rw[i]at m;exact(Nh (ν:=ν) i g w).2.1;simp_all;cases g;rename_i ds J Iz l;(have E:ts=[p]:=by rw[mh (d:=7) l q]at b;simp_all);subst E;(have a:=FU (P:=P) (z:=z) u D C λt s=>by rw[aR.1 s];simp_all);(have k:fD P p=O Z:=by simp_all[fD]);obtain⟨r,_⟩|⟨_,rfl,_⟩:=r;rw[k]at r;cases r;have⟨qP,c,m,y,w⟩:=a.2 0 p K rfl rfl;(have M:MD K=DC K:=by cases w<;>rfl);have⟨Oz,N,_⟩:=Nh (ν:=ν) m y w;rw[l]at m;simp_all[mB];cases q
theorem rn{c:ag}{d:TypeDesc}{v1 f:aa}{i g:ah}(j:P.underlying c=O d)(m:eM d=I)(o:cU P z c v1 i)(e:cU P z c f g):(fZ (DC v1) (DC f)=I↔i=g):=by cases o with|bool b=>(rename_i q;cases e with|bool a=>grind[DC,fZ]|int a=>rw[b]at a;cases a|str a=>rw[b]at a;cases a|_=>rename_i a<;>(rw[b]at a;cases a))|int b=>(rename_i k n;cases e with|bool a=>rw[b]at a;cases a|int a=>rename_i p n';rw[b]at a;injection a with a;simp at a;subst a;simp[DC,fZ];rw[pS];constructor;simp_all;exact λh=>⟨by cases k<;>rfl,decide_eq_true h⟩|str a=>rw[b]at a;cases a|_=>rename_i a<;>(rw[b]at a;cases a))|str b=>(rename_i l;cases e with|bool a=>rw[b]at a;cases a|int a=>rw[b]at a;cases a|str a=>simp_all[DC,fZ,gi]|_=>rename_i a<;>(rw[b]at a;cases a))|_=>rename_i b<;>(rw[j]at b;simp at b;subst b;cases m)
theorem AX:∀{ts:List ag}{L1 L2:List aa}{f1 f2:Nat->Option ah},(∀t∈ts,∃ds,P.underlying t=O ds/\eM ds=I)->L1.length=ts.length->L2.length=ts.length->(∀(j:Nat)(a:ag)(v:aa),ts[j]? =O a->L1[j]? =O v->∃c,f1 j=O c/\cU P z a v c)->(∀(j:Nat)(a:ag)(v:aa),ts[j]? =O a->L2[j]? =O v->∃c,f2 j=O c/\cU P z a v c)->(gE (L1.map DC) (L2.map DC)=I↔∀j,j<ts.length->f1 j=f2 j)|[],L1,L2,_,_,_,e,d,_,_=>by rw[jv.1 e,jv.1 d];simp[gE]|t::ts,[],_,_,_,_,e,_,_,_=>by simp at e|t::ts,_::_,[],_,_,_,_,d,_,_=>by simp at d|t::ts,v1::L1,m::L2,f1,f2,l,e,d,k,i=>by have⟨ds,o,g⟩:=l t (aU ..);have⟨A,u,x⟩:=k 0 t v1 rfl rfl;have⟨y,s,w⟩:=i 0 t m rfl rfl;have q:=rn o g x w;have n:=AX (ts:=ts) (L1:=L1) (L2:=L2) (f1:=λj=>f1 (j+1)) (f2:=λj=>f2 (j+1)) (λt p=>l t (aS _ p)) (by simpa using e) (by simpa using d) (λj a v b f=>k (j+1) a v (by simpa using b) (by simpa using f)) (λj a v b f=>i (j+1) a v (by simpa using b) (by simpa using f));simp only[eJ,gE];constructor;(·intro h j b;split at h;(·rename_i r;cases j with|zero=>rw[u,s,q.1 r]|succ j=>exact n.1 h j (by grind));·cases h);grind
theorem Qr{n:Nat}{a b:ah}(k:gK n a)(i:gK n b)(h:∀j,j<n->dQ a j=dQ b j):a=b:=by by_cases g:n=1;have e:=h 0 (by omega);rw[k.2 g,i.2 g]at e;injection e;(·(have c:∀{d:ah},gK n d->∃ds,d=.l ds/\ds.length=n:=λ{d} f=>by cases d;(case l ds=>refine⟨ds,rfl,?_⟩;(have key:∀j,j<ds.length↔j<n:=λj=>by have:=f.1 j;simpa[dQ]using this);have m:=key ds.length;have r:=key n;omega);all_goals (have e:=f.1 0;have m:=f.1 1;simp[dQ]at e m;omega));obtain⟨xs,rfl,q⟩:=c k;obtain⟨ys,rfl,p⟩:=c i;congr 1;apply ig;intro j;by_cases o:j<n;exact h j o;simp_all)
theorem adu{e:ag}{d:TypeDesc}{v1 c:aa}{l j:ah}(g:P.underlying e=O d)(h:eM d=I)(i:cU P z e v1 l)(f:cU P z e c j):kN (MD v1) (MD c)=O (fZ (DC v1) (DC c)):=by cases i with|bool b=>(cases f with|bool a=>rfl|int a=>rw[b]at a;cases a|str a=>rw[b]at a;cases a|_=>rename_i a<;>(rw[b]at a;cases a))|int b=>(rename_i k n;cases f with|bool a=>rw[b]at a;cases a|int a=>rw[b]at a;injection a with a;simp at a;subst a;simp[MD,DC,kN,fZ];cases k<;>rfl|str a=>rw[b]at a;cases a|_=>rename_i a<;>(rw[b]at a;cases a))|str b=>(cases f with|bool a=>rw[b]at a;cases a|int a=>rw[b]at a;cases a|str a=>rfl|_=>rename_i a<;>(rw[b]at a;cases a))|_=>rename_i b<;>(rw[g]at b;simp at b;subst b;cases h)
theorem BS{c:ag}{ts:List ag}(a:gk P c=I)(a1:dG P 8 c=O ts):∀t∈ts,∃ds,P.underlying t=O ds/\eM ds=I:=by unfold gk at a;split at a;rename_i b f;simp only[ay]at a;have⟨h,g⟩:=rQ (d:=6) a.2;grind[dG];grind[dG,mh,List.mem_flatten];grind[mh];cases a
theorem akm{o:ag}{m l:ah}{K1 K2:aa}(x:gk P o=I)(B:fA P z o m K1)(A:fA P z o l K2):∃b,kN (MD K1) (MD K2)=O b/\(b=I↔m=l):=by have⟨ts,L1,a1,a2,a3,a4,a5⟩:=B;have⟨s,L2,n,D,C,q,r⟩:=A;rw[a1]at n;simp at n;subst n;have a:=BS x a1;(have cell:∀{k:ah}{L:List aa},gK ts.length k->(∀(j:Nat)(c:ah)(f:ag)(v:aa),dQ k j=O c->ts[j]? =O f->L[j]? =O v->cU P z f v c)->∀(j:Nat)(f:ag)(v:aa),ts[j]? =O f->L[j]? =O v->∃c,dQ k j=O c/\cU P z f v c:=λ{k L} y Iz j f v u E=>by have⟨c,H⟩:=fu.1 ((y.1 j).2 (cj.1 u).1);grind);have e:=AX (f1:=dQ m) (f2:=dQ l) a a2 D (cell a4 a5) (cell q r);have t:gE (L1.map DC) (L2.map DC)=I↔m=l:=e.trans ⟨λh=>Qr a4 q h,λh j _=>by rw[h]⟩;rcases a3 with⟨p,rfl⟩|⟨p,rfl,_⟩<;>rcases C with⟨i,rfl⟩|⟨i,rfl,_⟩;exact⟨_,rfl,by simpa using t⟩;rw[p]at i;cases i;rw[p]at i;cases i;(have Gz:ts.length=1:=by simpa using a2.symm);have⟨g,d⟩:∃g,ts[0]? =O g:=⟨_,aZ (by omega)⟩;have⟨ds,F,w⟩:=a g (bE d);have⟨Q,K,N⟩:=cell a4 a5 0 g K1 d rfl;have⟨Oz,J,M⟩:=cell q r 0 g K2 d rfl;grind[rn,adu]
def qi(xs:List ah):Prop:=∀x∈xs,∃k v,x=.l [k,v]/\strip k=k
theorem mi:∀{xs:List ah},qi xs->db xs=I|[],_=>rfl|x::xs,h=>by obtain⟨k,v,rfl,_⟩:=h x (aU ..);exact mi (xs:=xs) λy a=>h y (aS _ a)
open Classical in
theorem Qs{kd k v:ah}{xs:List ah}(a:strip kd=kd)(b:strip k=k):gy kd (.l [k,v]::xs)=if kd=k then O v else gy kd xs:=by simp[gy,jD,a,b];by_cases e:kd=k;rw[if_pos e,eD.2 e];rw[if_neg e];grind[eD]
open Classical in
theorem LJ{kd k v:ah}{xs:List ah}(a:strip kd=kd)(b:strip k=k):e_ kd (.l [k,v]::xs)=if kd=k then e_ kd xs else .l [k,v]::e_ kd xs:=by simp[e_,jD,a,b];by_cases e:kd=k;rw[if_pos e,eD.2 e];rw[if_neg e];grind[eD]
theorem wR{k v:ah}:∀{xs:List ah},qi xs->(gf k v xs).Perm (.l [strip k,v]::xs)|[],_=>.refl _|x::xs,h=>by obtain⟨d,c,rfl,_⟩:=h x (aU ..);have a:=wR (k:=k) (v:=v) (xs:=xs) λy b=>h y (aS _ b);simp only[gf,jD];split;(·rfl);·exact(List.Perm.cons _ a).trans (.swap _ _ _)
theorem FW{kd:ah}(b:strip kd=kd):∀{xs:List ah},qi xs->(∀x∈xs,qQ x≠kd)->gy kd xs=G|[],_,_=>rfl|x::xs,h,c=>by obtain⟨k,v,rfl,d⟩:=h x (aU ..);rw[Qs b d,if_neg λe=>c _ (aU ..) e.symm];exact FW b (λy a=>h y (aS _ a)) λy a=>c y (aS _ a)
theorem BT{kd:ah}(b:strip kd=kd):∀{xs:List ah},qi xs->(∀x∈xs,qQ x≠kd)->e_ kd xs=xs|[],_,_=>rfl|x::xs,h,c=>by obtain⟨k,v,rfl,d⟩:=h x (aU ..);rw[LJ b d,if_neg λe=>c _ (aU ..) e.symm,BT b (λy a=>h y (aS _ a)) λy a=>c y (aS _ a)]
theorem FX{kd v:ah}(d:strip kd=kd):∀{xs:List ah},qi xs->(xs.map qQ).Nodup->.l [kd,v]∈xs->gy kd xs=O v|[],_,_,c=>by cases c|x::xs,h,b,c=>by obtain⟨k,i,rfl,g⟩:=h x (aU ..);rw[eJ,mT]at b;rw[Qs d g];rcases aO.1 c with e|a;simp_all;rw[if_neg];exact FX d (λy f=>h y (aS _ f)) b.2 a;rintro rfl;exact b.1 (cA.2 ⟨_,a,rfl⟩)
theorem LK{kd v:ah}(d:strip kd=kd):∀{xs:List ah},qi xs->(xs.map qQ).Nodup->.l [kd,v]∈xs->xs.Perm (.l [kd,v]::e_ kd xs)|[],_,_,f=>by cases f|x::xs,h,b,f=>by obtain⟨k,n,rfl,j⟩:=h x (aU ..);rw[eJ,mT]at b;rw[LJ d j];have i:qi xs:=λy c=>h y (aS _ c);rcases aO.1 f with e|a;injection e with e;injection e with m g;injection g with g _;subst m g;rw[if_pos rfl,BT d i λy c e=>b.1 (cA.2 ⟨y,c,e⟩)];rw[if_neg];exact(List.Perm.cons _ (LK d i b.2 a)).trans (.swap _ _ _);rintro rfl;exact b.1 (cA.2 ⟨_,a,rfl⟩)
theorem Qt{kd:ah}:∀{xs:List ah},qi xs->∀x∈e_ kd xs,x∈xs|[],_,x,a=>a|y::xs,h,x,a=>by obtain⟨k,v,rfl,d⟩:=h y (aU ..);simp only[e_,jD]at a;have c:=Qt (kd:=kd) (xs:=xs) λy b=>h y (aS _ b);grind
theorem pY{b:ag}{kd:ah}{K:aa}(e:gk P b=I)(h:fA P z b kd K):strip kd=kd:=by have⟨ts,L,a1,a2,a3,a4,a5⟩:=h;(have c:mD P b=I:=by unfold mD;rw[a1];have a:=BS e a1;exact cm.2 λt d=>by have⟨ds,g,f⟩:=a t d;unfold flatK;rw[g];cases ds<;>first|rfl|cases f);exact jh c a1 a4 (by omega) a5
theorem cJ.X6{e f:Type}{R:e->f->Prop}:∀{l:List e}{m:List f}{j:Nat}{a:e},cJ R l m->l[j]? =O a->∃b,m[j]? =O b/\R a b|[],[],_,_,_,h=>by simp at h|a::l,b::m,0,x,h,d=>by simp at d;subst d;exact⟨b,rfl,h.1⟩|a::l,b::m,j+1,x,h,d=>by obtain⟨c,i,g⟩:=cJ.X6 h.2 (by simpa using d);simp_all|[],_::_,_,_,h,_=>h.elim|_::_,[],_,_,h,_=>h.elim
theorem cJ.alj{f e:Type}{R:f->e->Prop}:∀{l:List f}{m:List e}{j:Nat}{b:e},cJ R l m->m[j]? =O b->∃a,l[j]? =O a/\R a b|[],[],_,_,_,h=>by simp at h|a::l,b::m,0,x,h,d=>by simp at d;subst d;exact⟨a,rfl,h.1⟩|a::l,b::m,j+1,x,h,d=>by obtain⟨c,i,g⟩:=cJ.alj h.2 (by simpa using d);simp_all|[],_::_,_,_,h,_=>h.elim|_::_,[],_,_,h,_=>h.elim
theorem sv{a b:ag}(l:gk P a=I){xs ys:List ah}{c:List bQ}(g:ys.Perm xs)(h:cJ (MP P z a b) ys c):qi xs/\qi ys:=by (have:qi ys:=λy d=>by have⟨j,i⟩:=jV.1 d;have⟨m,_,k,v,e,n,_⟩:=cJ.X6 h i;exact⟨k,v,e,pY l n⟩);exact⟨λx f=>this x (g.mem_iff.2 f),this⟩
theorem akn{i:ag}{d:TypeDesc}{K1 K2:aa}{r q:ah}{b:Bool}(f:P.underlying i=O d)(j:eM d=I)(p:fA P z i r K1)(o:fA P z i q K2)(h:kN (MD K1) (MD K2)=O b):Instr.sameNow d K1 K2=O b:=by (have g:∀{k:ah}{K:aa},fA P z i k K->∃c,cU P z i K c:=λ{k K} h=>by have⟨ts,L,a1,a2,a3,a4,a5⟩:=h;rw[mh (d:=7) f j]at a1;simp at a1;subst a1;(have l:fD P i=O Z:=by unfold fD;rw[f];cases d<;>first|rfl|cases j);obtain⟨a3,_⟩|⟨_,rfl,_⟩:=a3;rw[l]at a3;cases a3;have⟨c,t⟩:=fu.1 ((a4.1 0).2 (by simp));exact⟨c,a5 0 c i K t rfl rfl⟩);have⟨y,u⟩:=g p;have⟨x,m⟩:=g o;clear p o g;cases u with|bool e=>(rw[f]at e;simp at e;subst e;cases m with|bool a=>simp_all[MD,DC,kN,Instr.sameNow]|int a=>rw[f]at a;cases a|str a=>rw[f]at a;cases a|_=>rename_i a<;>(rw[f]at a;cases a))|int e=>(rw[f]at e;simp at e;subst e;rename_i k n;cases m with|bool a=>rw[f]at a;cases a|int a=>rw[f]at a;injection a with a;simp at a;subst a;(have s:fy k k=I:=by cases k<;>rfl);simp_all[MD,DC,kN,iM,Instr.sameNow]|str a=>rw[f]at a;cases a|_=>rename_i a<;>(rw[f]at a;cases a))|str e=>(rw[f]at e;simp at e;subst e;cases m with|bool a=>rw[f]at a;cases a|int a=>rw[f]at a;cases a|str a=>simp[MD,DC,kN,gi]at h;simp[Instr.sameNow];rw[<-h];rename_i w v;show(w.toArray==v.toArray)=_;simp|_=>rename_i a<;>(rw[f]at a;cases a))|_=>rename_i e<;>(rw[f]at e;simp at e;subst e;cases j)
def FV(kd:ah)(K:aa)(ys:List ah)(ms:List bQ)(i:Nat):Option (Nat×aa)->Prop|G=>∀y∈ys,qQ y≠kd|O (j,V)=>∃m v,i<=j/\ms[j - i]? =O m/\ys[j - i]? =O (.l [kd,v])/\V=m.val/\m.key=K/\E0 K=I
theorem FV.step{kd k v:ah}{K:aa}{ys:List ah}{b:List bQ}{m:bQ}{i:Nat}{R:Option (Nat×aa)}(h:FV kd K ys b (i+1) R)(e:k≠kd):FV kd K (.l [k,v]::ys) (m::b) i R:=by cases R with|none=>(intro y a;rcases aO.1 a with rfl|a;exact e;exact h y a)|some p=>have⟨j,V⟩:=p;have⟨d,c,o,g,n,f⟩:=h;(have:j - i=(j - (i+1))+1:=by omega);refine⟨d,c,by omega,?_,?_,f⟩;rw[this];simpa using g;simp_all
theorem aib{a A:ag}{kd:ah}{K:aa}(j:gk P a=I)(n:fA P z a kd K):∀{ys:List ah}{h:List bQ}{i:Nat},cJ (MP P z a A) ys h->∃R,FV kd K ys h i R/\(Instr.findAsking a K h i).run P w=.ok R w/\∀d,P.underlying a=O d->eM d=I->Instr.findNow d K h i=O R|[],[],i,_=>⟨G,(λy B=>by cases B),rfl,λ_ _ _=>rfl⟩|y::ys,m::h,i,⟨⟨k,v,E,t,H⟩,s⟩=>(by subst E;let f:Nm:=⟨λ_=>G,λ_=>G,0,λ_=>G,λ_=>G⟩;have⟨a1,a2⟩:=TW (ν:=f) j n;have⟨x,F⟩:=TW (ν:=f) j t;have⟨b,l,u⟩:=akm j n t;(have r:(gk P a&&mB P a (MD K))=I:=by simp[j,a2]);have heq:=sH (P:=P) (w:=w) 2 Op.maxDepth a (MD K) (MD m.key) b K m.key (by decide) (BO r F l) a1 x;have g:∀d,P.underlying a=O d->eM d=I->Instr.sameNow d K m.key=O b:=λd o c=>akn o c n t l;cases b with|true=>have q:=u.1 rfl;subst q;refine⟨O (i,m.val),⟨m,v,ba _,by simp,by simp,rfl,GO l a1 x,GP l a1⟩,?_,λd o c=> ?_⟩;rw[Instr.findAsking];simp_all[Op.equal];rw[Instr.findNow,g d o c]|false=>have⟨R,D,C,Gz⟩:=aib j n (i:=i+1) s;refine⟨R,D.step λe=>(Bool.false_ne_true (u.2 e.symm)),?_,λd o c=> ?_⟩;rw[Instr.findAsking];show(Sem.bind _ _).run P w=_;rw[run_bind,show(Op.equal a K m.key).run P w=_ from heq];exact C;simp_all[Instr.findNow])|[],_::_,_,p=>p.elim|_::_,[],_,p=>p.elim
theorem BU{ds:List ah}:gK ds.length (.l ds)∨ds.length=1:=by by_cases h:ds.length=1;exact .inr h;refine .inl ⟨λj=> ?_,λe=>absurd e h⟩;simp[dQ]
theorem BV(J:bS lm)(q:∀t b,(t,b)∈s.x.pc->bh ν t b)(g:∀i d,ν.x i=O d->ch P ν.z d){t:ag}{v:AV}{V:aa}{u:Tm}(h:xn P lm s t v=O u)(R:den ν v=O V):∃d ts,dG P 8 t=O ts/\ai ν u=O d/\gK ts.length d/\V.cells.toList.length=ts.length/\V.cells.toList.all plainCell=I/\∀(j:Nat)(c:ah)(n:ag)(W:aa),dQ d j=O c->ts[j]? =O n->V.cells.toList[j]? =O W->cU P ν.z n W c:=by unfold xn at h;split at h;rename_i ts agg o Iz f;have a:=lY R f;have p:=(qq f a).2;split at h;rename_i a1 m k;simp at h;subst h;have⟨Q,Gz,y,w,B⟩:=kq J q g k a;have E:=fK a;obtain⟨N,X,Oz,U,rfl⟩:=aP.1 w;simp only[ij,List.length_nil]at Gz;have⟨V0,F⟩:∃V0,V.cells.toList[0]? =O V0:=⟨_,aZ (by omega)⟩;have⟨A,C⟩:∃A,ts[0]? =O A:=⟨_,aZ (by omega)⟩;have r:=B 0 A N V0 C rfl F;refine⟨N,ts,o,Oz,⟨λj=> ?_,λ_=>by rw[gT r];rfl⟩,by omega,p,λj c n W M L K=> ?_⟩;rw[gT r];by_cases H:j=0;subst H;simp;omega;rw[if_neg H];simp;omega;grind[gT];rename_i l D m k;simp at h;subst h;have⟨Q,Gz,y,w,B⟩:=kq J q g k a;have E:=fK a;have T:=lZ w;(have S:y.length≠1:=λe=>by (have:l.length=1:=by omega);obtain⟨a1,rfl⟩:=List.length_eq_one_iff.1 this;exact D a1 rfl);refine⟨.l y,ts,o,(jd (.inr rfl)).2 ⟨y,w,rfl⟩,?_,by omega,p,λj c n W M L K=>B j n c W L M K⟩;grind[BU];cases h;cases h
end
end
section
open RowKit
variable{v:AV}{kd vd zd:ah}{xs ys:List ah}{ms:List bQ}{c j:Nat}{k t zt:Tm}{α:Type}{e kt vt:ag}{K V:aa}{x:α}
section
variable{P:aw}{w0 w:aj}{A:en}{ν:Nm}{s:St}{T:Tr AV}{N:Nat}{a:Act}{lm:List fV}{z:Nat->Option Obj}
theorem t_(c:gk P kt=I)(k:fA P z kt kd K)(l:cJ (MP P z kt vt) ys ms):∃R,FV kd K ys ms 0 R/\(Instr.findKey kt K ms).run P w=.ok R w:=by have⟨R,g,f,o⟩:=aib (P:=P) (w:=w) c k (i:=0) l;refine⟨R,g,?_⟩;unfold Instr.findKey;(have b:ms=[]->R=G:=λe=>by subst e;cases R with|none=>rfl|some p=>have⟨m,v,_,h,_⟩:=g;simp at h);unfold gk at c;split at c;(·rename_i a d;show(Sem.bind _ _).run P w=_;rw[run_bind,run_underlying d];simp;cases ms with|nil=>rw[b rfl];rfl|cons m ES=>(have:Instr.findNow (.struct a) K (m::ES) 0=G:=by rw[Instr.findNow];rfl);rw[this];exact f);(·rename_i j n d;show(Sem.bind _ _).run P w=_;rw[run_bind,run_underlying d];simp;cases ms with|nil=>rw[b rfl];rfl|cons m ES=>(have:Instr.findNow (.array j n) K (m::ES) 0=G:=by rw[Instr.findNow];rfl);rw[this];exact f);(·simp_all[run_underlying]);·cases c
theorem agm{g f:ah}(o:gk P kt=I)(r:fA P z kt g K)(q:fA P z kt f K):g=f:=by have⟨ts,L1,a1,a2,a3,a4,a5⟩:=r;have⟨m,L2,b,y,x,l,w⟩:=q;rw[a1]at b;simp at b;subst b;(have p:L1=L2:=by grind);subst p;have a:=BS o a1;refine Qr a4 l λj d=> ?_;have⟨v,k⟩:=fu.1 ((a4.1 j).2 d);have⟨u,i⟩:=fu.1 ((l.1 j).2 d);have c:ts[j]? =O ts[j]:=aZ d;have h:L1[j]? =O (L1[j]'(by omega)):=aZ (by omega);have⟨ds,n,e⟩:=a _ (bE c);have t:=a5 j v _ _ k c h;have s:=w j u _ _ i c h;rw[k,i];congr 1;exact(rn n e t s).1 (by grind[rn])
theorem cJ.modify{c:Type}{R:α->c->Prop}{f:c->c}:∀{l:List α}{m:List c}(j:Nat),cJ R l m->(∀b,m[j]? =O b->R x (f b))->cJ R (l.set j x) (m.modify j f)|[],[],_,_,_=>by simp_all|a::l,b::m,0,h,d=>⟨d b rfl,h.2⟩|a::l,b::m,j+1,h,d=>⟨h.1,cJ.modify j h.2 λb e=>d b (by simpa using e)⟩|[],_::_,_,h,_=>h.elim|_::_,[],_,h,_=>h.elim
theorem vJ{f:bQ->bQ}(a:∀e,(f e).born=e.born):∀(ms:List bQ)(j:Nat),(ms.modify j f).map (·.born)=ms.map (·.born)|[],j=>by simp|m::ms,0=>by simp[a]|m::ms,j+1=>by simp[vJ a ms j]
theorem Qu:(∀m∈ms,m.born<c)↔∀b∈ms.map (·.born),b<c:=⟨λh b d=>by grind,λh m a=>h _ (cA.2 ⟨m,a,rfl⟩)⟩
theorem vX:∀{l:List α}{j:Nat},l[j]? =O x->l.Perm (x::l.eraseIdx j)|[],_,h=>by simp at h|a::l,0,h=>by simp_all|a::l,j+1,h=>by have:=vX (l:=l) (j:=j) (by simpa using h);exact(this.cons a).trans (.swap _ _ _)
theorem vY{y:α}:∀{l:List α}{j:Nat},l[j]? =O x->(l.set j y).Perm (y::l.eraseIdx j)|[],_,h=>by simp at h|a::l,0,h=>.refl _|a::l,j+1,h=>by have:=vY (y:=y) (l:=l) (j:=j) (by simpa using h);exact(this.cons a).trans (.swap _ _ _)
theorem LL(a:strip kd=kd)(h:qi xs):((gf kd vd xs).map qQ).Perm (kd::xs.map qQ):=by have:=(wR (k:=kd) (v:=vd) h).map qQ;rw[a]at this;exact this
theorem LM(h:qi xs):qi (e_ kd xs):=λx a=>h x (Qt h x a)
theorem BW{v0:ah}(p:gk P kt=I)(h:oN P z kt vt xs ms c)(i:ys.Perm xs)(q:cJ (MP P z kt vt) ys ms)(m:ys[j]? =O (.l [kd,v0]))(o:fA P z kt kd K)(s:fA P z vt vd V):oN P z kt vt (gf kd vd (e_ kd xs)) (ms.modify j λe=>{e with key:=K,val:=V}) c:=by have g:=pY p o;have⟨d,t⟩:=sv p i q;have a:.l [kd,v0]∈xs:=i.mem_iff.1 (bE m);have n:=LK g d h.keys a;have r:(e_ kd xs).Perm (ys.eraseIdx j):=(n.symm.trans (i.symm.trans (vX m))).cons_inv;refine⟨⟨ys.set j _,?_,q.modify j λb u=>⟨kd,vd,rfl,o,s⟩⟩,?_,?_,?_⟩;refine(vY m).trans (((r.symm.cons _)).trans ?_);have:=wR (k:=kd) (v:=vd) (LM (kd:=kd) d);rw[g]at this;exact this.symm;refine(LL g (LM d)).nodup_iff.2 ?_;have:=(n.map qQ).nodup_iff.1 h.keys;exact this;rw[Qu,vJ (f:=λe=>{e with key:=K,val:=V}) (λ_=>rfl),<-Qu];exact h.born;rw[vJ (f:=λe=>{e with key:=K,val:=V}) (λ_=>rfl)];exact h.once
theorem GY(n:gk P kt=I)(h:oN P z kt vt xs ms c)(q:∀x∈xs,qQ x≠kd)(j:fA P z kt kd K)(p:fA P z vt vd V):oN P z kt vt (gf kd vd (e_ kd xs)) (ms++[{key:=K,val:=V,born:=c}]) (c+1):=by have f:=pY n j;have⟨ys,i,o⟩:=h.all;have⟨d,s⟩:=sv n i o;rw[BT f d q];refine⟨⟨ys++[.l [kd,vd]],?_,cJ.append o ⟨⟨kd,vd,rfl,j,p⟩,trivial⟩⟩,?_,?_,?_⟩;have:=wR (k:=kd) (v:=vd) d;rw[f]at this;refine(List.perm_append_comm).trans ?_;exact((i.cons _).trans this.symm);refine(LL f d).nodup_iff.2 (mT.2 ⟨λa=> ?_,h.keys⟩);grind;intro m a;rcases dx.1 a with a|a;have:=h.born m a;omega;simp_all;rw[List.map_append];refine List.nodup_append.2 ⟨h.once,by simp,λb r t g e=> ?_⟩;simp at g;obtain⟨m,a,rfl⟩:=cA.1 r;have:=h.born m a;omega
theorem qM(f:gk P kt=I)(a:mD P vt=I)(h:oN P z kt vt xs ms c):xs.map strip=xs:=by have⟨ys,d,g⟩:=h.all;refine wP λx b=> ?_;have⟨j,e⟩:=jV.1 (d.mem_iff.2 b);obtain⟨m,_,k,v,rfl,i,ts,L,a1,a2,a3,a4,a5⟩:=cJ.X6 g e;rw[bd];simp[pY f i,jh a a1 a4 (by omega) a5]
theorem adv(b:gk P kt=I)(h:oN P z kt vt xs ms c):qi xs:=by have⟨ys,a,d⟩:=h.all;exact(sv b a d).1
theorem FY{v:Tm}(b:ai ν t=O (.l xs))(c:db xs=I)(d:ai ν k=O kd)(a:ai ν v=O vd):ai ν (.f 18 [t,k,v])=O (.l (gf kd vd (e_ kd xs))):=by refine(et rfl (by simp) λ_=>rfl).2 ⟨_,_,_,b,d,a,?_⟩;simp[uI,c]
theorem Qv{v:Tm}(h:ai ν (.f 18 [t,k,v])=O (.l xs)):∃ys kd vd,ai ν t=O (.l ys)/\db ys=I/\ai ν k=O kd/\ai ν v=O vd/\xs=gf kd vd (e_ kd ys):=by have⟨x,y,b,e,d,c,a⟩:=(et (g:=uI) rfl (by decide) λ_=>rfl).1 h;unfold uI at a;grind
theorem W0{k v:ah}:jD (.l [k,v])=O (k,v):=rfl
theorem LN(k:ah):∀{xs:List ah},e_ k (e_ k xs)=e_ k xs|[]=>rfl|d::xs=>by have a:=LN k (xs:=xs);grind[e_]
theorem Qw(k v:ah):∀{xs:List ah},e_ k (gf k v xs)=e_ k xs|[]=>by grind[gf,e_,jD,eD,dP]|d::xs=>by have a:=Qw k v (xs:=xs);grind[gf,e_,W0,eD,dP]
theorem N8{k v:ah}:∀{xs:List ah},gy k (gf k v (e_ k xs))=O v|[]=>by grind[e_,gf,gy,jD,eD,dP]|d::xs=>by have a:=N8 (k:=k) (v:=v) (xs:=xs);have c:sf (strip k) (strip (strip k))=I:=eD.2 (dP k).symm;simp[e_];cases b:jD d with|none=>simp[gf,b,gy,a]|some p=>grind[gf,gy,W0]
theorem Qx{v:Tm}(b:ai ν t=O (.l xs))(c:db xs=I)(d:ai ν k=O kd)(a:ai ν v=O vd):ai ν (aeI t k v)=O (.l (gf kd vd (e_ kd xs))):=by unfold aeI;split;rename_i u g f e;split;rename_i h;have:=q_ e;grind[FY,Qw,LN,bj,Qv];exact FY b c d a;exact FY b c d a
theorem CW{v:Tm}(h:DG t k=O v)(d:ai ν t=O (.l xs))(e:ai ν k=O kd):∃vd,ai ν v=O vd/\gy kd xs=O vd:=by unfold DG at h;split at h;rename_i u c b a;split at h;rename_i f;simp at h;subst h;have:=q_ a;grind[bj,Qv,N8];cases h;cases h
theorem F'{z:Tm}(b:ai ν t=O (.l xs))(c:db xs=I)(d:ai ν k=O kd)(a:ai ν z=O zd):ai ν (OZ t k z)=O ((gy kd xs).getD zd):=by unfold OZ;split;grind[CW];refine(et rfl (by simp) λ_=>rfl).2 ⟨_,_,_,b,d,a,?_⟩;simp[sV,c]
theorem adw(ht:ai ν t=O (.l xs))(hp:db xs=I)(hk:ai ν k=O kd):ai ν (aiX t k)=O (jC (gy kd xs).isSome):=by unfold aiX;split;rename_i v hl;have⟨vd,h1,h2⟩:=CW hl ht hk;rw[h2];rfl;refine(eR rfl (by simp) λ_=>rfl).2 ⟨_,_,ht,hk,?_⟩;simp[Dm,hp]
theorem F_:∀{l:List AV}{s:St},(uo P lm l s).1.all oS=I->l.all oS=I|[],_,_=>rfl|v::l,s,h=>by unfold uo at h;split at h;rename_i u b a;simp only[List.all_cons,ay]at h⊢;refine⟨?_,F_ h.2⟩;unfold Z5 at a;split at a;rfl;rfl;cases a;simp only[List.all_cons,ay]at h⊢;exact⟨h.1,F_ h.2⟩
theorem RD(h:qk P e t=I):(∃a c,t=.f 22 [a,c])∨mD P e=I:=by unfold qk at h;split at h;rename_i p b;exact .inl ⟨p.1,p.2,fq b⟩;grind
theorem pZ{f g:Tm->Tm}{d d':ah}(n:qk P e t=I)(h:ai ν t=O d)(j:∀u,ai ν u=O d->ai ν (f u)=O d')(b:∀u,ai ν u=O (strip d)->ai ν (g u)=O (strip d'))(i:mD P e=I->strip d=d/\strip d'=d'):ai ν (both t f g)=O d':=by unfold both;split;rename_i a c k;rw[fq k]at h;have⟨m,l⟩:=dr.1 h;exact dr.2 ⟨j _ m,b _ l⟩;grind[bi,RD]
theorem AD{size:Nat}{d:ah}(h:gK size d)(c:size≠1):∃ds,d=.l ds/\ds.length=size:=by cases d;(case l ds=>refine⟨ds,rfl,?_⟩;(have key:∀j,j<ds.length↔j<size:=λj=>by have:=h.1 j;simpa[dQ]using this);have a:=key ds.length;have e:=key size;omega);all_goals (have b:=h.1 0;have a:=h.1 1;simp[dQ]at b a;omega)
theorem yE(ν:Nm)(t:Tm):den ν (MZ t)=den ν (.iI t):=by (cases t<;>first|rfl|skip);rename_i n;simp only[MZ,den,ai,aG,Value.bool.injEq];cases a:gj n 0 with|true=>rw[h_ a];rfl|false=>(have:n≠0:=λe=>by subst e;cases a);simp[this]
theorem AE(ν:Nm)(e:ag):ai ν (oT P e (.f 11 []))=O (.l []):=by have a:ai ν (.f 11 [])=O (.l []):=(dn rfl (by decide)).2 ⟨[],rfl,rfl⟩;unfold oT;split;exact du a;grind[dr,du]
theorem adx{x c:ah}(h:ai ν t=O x)(a:fO x j=O c):ai ν (.f 21 [t,.c (.ofNat j)])=O c:=by refine(eR rfl (by simp) λ_=>rfl).2 ⟨_,_,h,rfl,?_⟩;simp_all[zF]
def cg(one:Bool)(k:Tm)(j:Nat)(t z:Tm):Tm:=match one with|I=>OZ t k z|Z=>.f 21 [OZ t k z,.c (.ofNat j)]
theorem UM(one sl:Bool)(t k z:Tm)(j:Nat):NA one sl t k z j=match bi 22 t with
 |O (a,c)=>match sl with
  |I=>.f 22 [cg one k j a z,cg one k j c (cK z)]
  |Z=>cg one k j c (cK z)
 |G=>cg one k j t z:=rfl
theorem RE{one:Bool}{x c:ah}{Iz:ag}{d:TypeDesc}(C:ai ν t=O (.l xs))(r:db xs=I)(J:ai ν k=O kd)(A:ai ν zt=O zd)(B:x=(gy kd xs).getD zd)(K:dQ x j=O c)(g:one=I->j=0/\c=x)(m:one=Z->∃ds,x=.l ds)(n:P.underlying Iz=O d)(h:cU P z Iz V c)(i:oF d (NA one (SD d) t k zt j)=O v):den ν v=O V:=by (have key:∀{u y:Tm}{o:List ah}{w x' c':ah},ai ν u=O (.l o)->db o=I->ai ν y=O w->x'=(gy kd o).getD w->(one=I->c'=x')->(one=Z->fO x' j=O c')->ai ν (cg one k j u y)=O c':=λ{u y o w x' c'} F s Q Oz N M=>by have E:=F' F s J Q;rw[<-Oz]at E;unfold cg;split;(·rw[E,N rfl]);·exact adx E (M rfl));(have f:one=Z->fO x j=O c:=λe=>by obtain⟨ds,rfl⟩:=m e;exact K);rw[UM]at i;split at i;(·rename_i a b L;rw[fq L]at C;have⟨F,s⟩:=dr.1 C;rw[bd]at s;have H:=key F r A B (λe=>(g e).2) f;(have Gz:ai ν (cg one k j b (cK zt))=O (strip c):=by refine key s (iH r) (du A) ?_ (λe=>by rw[(g e).2]) λe=>ym (f e);rw[sI _ r,B];simp_all);cases p:SD d with|true=>rw[p]at i;exact qE n (dr.2 ⟨H,Gz⟩) h i|false=>rw[p]at i;(have D:strip c=c:=by cases h<;>first|rfl|(rename_i q _ _ _ _ _ _ _ _;rw[n]at q;injection q with q;subst q;cases p)|(rename_i q;rw[n]at q;simp at q;subst q;cases p));rw[D]at Gz;exact qE n Gz h i);·have H:=key C r A B (λe=>(g e).2) f;exact qE n H h i
theorem AY{one:Bool}{x:ah}(w:ai ν t=O (.l xs))(y:db xs=I)(A:ai ν k=O kd)(q:ai ν zt=O zd)(s:x=(gy kd xs).getD zd)(a:one=Z->∃ds,x=.l ds):∀{us:List ag}{j:Nat}{l:List AV}{L:List aa},sn P one t k zt us j=O l->L.length=us.length->(one=I->∀i c,i<us.length->dQ x (j+i)=O c->j+i=0/\c=x)->(∀(i:Nat)(m:ag),us[i]? =O m->∃c V,dQ x (j+i)=O c/\L[i]? =O V/\cU P z m V c)->bw ν l=O L|[],j,l,L,h,f,_,_=>by simp only[sn,aG]at h;subst h;rw[jv.1 f];rfl|u::us,j,l,[],h,f,_,_=>by simp at f|u::us,j,l,V::L,h,f,b,g=>by unfold sn at h;split at h;rename_i d E;split at h;rename_i v r C D;simp at h;subst h;have⟨c,V',p,o,B⟩:=g 0 u rfl;simp at o;subst o;refine eQ (RE w y A q s p (λe=> ?_) a E B C) (AY w y A q s a D (by grind) (λe i c n F=> ?_) λi m n=> ?_);exact b e 0 c (by simp) p;have:=b e (i+1) c (by simpa using n) (by rw[<-F];congr 1;omega);omega;have⟨c,V',p,o,B⟩:=g (i+1) m (by simpa using n);grind;cases h;cases h
theorem GZ(h:mapVal P e t k zt=O v)(p:ai ν t=O (.l xs))(q:db xs=I)(u:ai ν k=O kd)(o:ai ν zt=O zd)(w:fA P z e ((gy kd xs).getD zd) V):den ν v=O V:=by have⟨ts,L,a1,a2,a3,a4,a5⟩:=w;unfold mapVal at h;rw[a1]at h;split at h;rename_i us agg a m;simp at a;subst a;(have y:∀{l:List AV},sn P (ae ts.length 1) t k zt ts 0=O l->bw ν l=O L:=λ{l} s=>by refine AY (z:=z) p q u o rfl (λe=> ?_) s a2 (λe i c g b=> ?_) λi n g=> ?_;have⟨ds,x,_⟩:=AD a4 (fQ e);exact⟨ds,x⟩;have r:=an e;(have f:i=0:=by omega);subst f;rw[ew,a4.2 r]at b;simp at b;exact⟨rfl,b.symm⟩;rw[ew];have d:=(cj.1 g).1;have⟨c,b⟩:=fu.1 ((a4.1 i).2 d);have j:L[i]? =O (L[i]'(by omega)):=aZ (by omega);exact⟨c,_,b,j,a5 i c n _ b g j⟩);grind[den,cd];cases h
theorem mj(p:bS lm)(f:∀t b,(t,b)∈s.x.pc->bh ν t b)(c:∀i d,ν.x i=O d->ch P ν.z d){t:ag}{u:Tm}(h:xn P lm s t v=O u)(g:den ν v=O V):∃d,ai ν u=O d/\fA P ν.z t d V:=by have⟨d,ts,j,y,w,r,B,q⟩:=BV p f c h g;refine⟨d,y,ts,V.cells.toList,j,r,?_,w,q⟩;unfold xn at h;rw[j]at h;split at h;(·rename_i k agg o e a;cases v;(case agg l=>grind[Value.cells,gB]);all_goals (simp only[da,List.all_cons,List.all_nil,Bool.and_true]at a;cases agg with|true=>simp at h|false=>have⟨n,A,m⟩:=one_den a g;exact .inr ⟨e,by rw[m],n⟩));cases h
theorem G0(l:bS lm)(f:∀t b,(t,b)∈s.x.pc->bh ν t b)(c:∀i d,ν.x i=O d->ch P ν.z d)(h:uV P lm s e=O zt):∃zd Zz,ai ν zt=O zd/\fA P ν.z e zd Zz/\∀w,(zeroValue e).run P w=.ok Zz w:=by unfold uV at h;split at h;rename_i g a;have⟨Zz,k,j⟩:=jA (P:=P) (ν:=ν) a;grind[mj];cases h
theorem LP(n:my P ν s (λ_=>True) w){i g:Nat}{j:Tm}(b:wc P s kt e i=O j)(k:ν i=O g):∃arr c xs,w.heap[g]? =O (.map arr c)/\ai ν j=O (.l xs)/\oN P ν.z kt e xs arr.toList c:=by unfold wc at b;split at b;rename_i q y t p f;split at b;rename_i h;simp only[ay]at h;have x:=an h.1;have v:=an h.2;subst x v;simp at b;subst b;have⟨obj,o,d⟩:=n.at_ trivial f k;(cases obj<;>simp only[bN]at d<;>try exact d.elim);grind;cases b;rename_i c f;simp at b;subst b;have⟨arr,o,d⟩:=n.Ds trivial f k;(have:arr.toList=[]:=by cases u:arr.toList with|nil=>rfl|cons a l=>rw[u]at d;cases d);refine⟨arr,c,[],o,AE ν e,?_⟩;rw[this];exact⟨⟨[],.refl _,trivial⟩,List.nodup_nil,λm r=>by(cases r),List.nodup_nil⟩;cases b
theorem UN{i:Nat}{d:Tm}(b:Ff P s kt e i=O d):wc P s kt e i=O d/\∃o,s.h.get i=O o/\x6 o=I:=by unfold Ff at b;split at b;rename_i f g t a;refine⟨?_,_,a,rfl⟩;unfold wc;rw[a];exact b;rename_i c a;refine⟨?_,_,a,rfl⟩;unfold wc;rw[a];exact b;cases b
theorem rR{b:Bool}(d:gk P kt=I)(c:fA P z kt kd K):(Instr.checkKey b 10000 kt K).run P w=.ok () w:=by let a:Nm:=⟨λ_=>G,λ_=>G,0,λ_=>G,λ_=>G⟩;have⟨a1,a2⟩:=TW (ν:=a) d c;grind[run_checkKey]
theorem YE(U:bS lm)(hR:my P ν s (λ_=>True) w)(n:∀t b,(t,b)∈s.x.pc->bh ν t b)(f:∀i d,ν.x i=O d->ch P ν.z d){t:ag}{m k:AV}{M:aa}{ok:Bool}(a:NB P lm s t m k ok=O v)(hm:den ν m=O M)(hk:den ν k=O K):∃V,den ν v=O V/\(Instr.lookup t M K ok).run P w=.ok V w:=by
 unfold NB at a
 split at a
 ·rename_i kt e i hu
  split at a
  ·rename_i tm kT zt B Gz Iz E
   obtain⟨g,hg,rfl⟩:=jr hm
   have⟨arr,c,xs,h1,X,W⟩:=LP hR Gz hg
   have⟨kd,S,D⟩:=mj U n f Iz hk
   have⟨zd,Zz,z1,Y,z3⟩:=G0 U n f E
   have⟨ys,H,L⟩:=W.all
   have⟨h,py⟩:=sv B H L
   have T:=pY B D
   have⟨R,Oz,u⟩:=t_ (P:=P) (w:=w) B D L
   split at a
   ·rename_i v' F
    simp at a
    subst a
    have⟨b,V,b1,b2,N⟩:∃b V,b=(gy kd xs).isSome/\fA P ν.z e ((gy kd xs).getD zd) V/\((Instr.findKey kt K arr.toList).bind λr=>
     match r with
     |O (_,v)=>pure (if ok then .tuple #[v,.bool I]else v)
     |G=>(zeroValue e).bind λz=>pure (if ok then .tuple #[z,.bool Z]else z)).run P w=.ok (if ok then .tuple #[V,.bool b]else V) w:=by
     cases R with
     |none=>
      have o:gy kd xs=G:=FW T h λx hx=>Oz x (H.mem_iff.2 hx)
      refine⟨Z,Zz,by rw[o];rfl,by rw[o];exact Y,?_⟩
      rw[run_bind,u]
      simp_all[run_bind]
     |some p=>
      have⟨j,V⟩:=p
      obtain⟨me,v0,_,q1,Q,rfl,_⟩:=Oz
      have q:.l [kd,v0]∈xs:=H.mem_iff.1 (bE Q)
      have o:gy kd xs=O v0:=FX T h W.keys q
      have⟨me',A,k',v'',y,q5,q6⟩:=cJ.X6 L Q
      rw[q1]at A
      simp at A
      subst A
      injection y with y
      injection y with y C
      injection C with C _
      subst C
      refine⟨I,me.val,by rw[o];rfl,by rw[o];exact q6,?_⟩
      rw[run_bind,u]
      rfl
    have hv:=GZ F X (mi h) S z1 b2
    refine⟨if ok then .tuple #[V,.bool b]else V,?_,?_⟩
    ·cases ok with
     |false=>exact hv
     |true=>
      have J:ai ν (cK tm)=O (.l (xs.map strip)):=by
       have:=du X
       rw[bd]at this
       exact this
      have hh:=adw J (iH (mi h)) S
      rw[sI _ (mi h)]at hh
      grind[yE,den,bw,AB]
    ·simp[Instr.lookup,bind]
     rw[run_bind,run_underlying hu]
     simp
     rw[run_bind,dT h1 (by simp)]
     simp
     rw[run_bind]
     show(Sem.bind _ _).run P w=_
     rw[run_bind,rR B D]
     simp
     rw[run_bind,u]at N
     simp at N
     rw[run_bind,u]
     cases R with
     |none=>
      simp_all[run_bind]
     |some p=>exact N
   ·cases a
  ·cases a
 ·cases a
theorem ady(H:my P ν s (λ_=>True) w){it:AV}{IT:aa}(a:TB s it=O v)(Q:den ν it=O IT):∃V,den ν v=O V/\(Instr.entry IT).run P w=.ok V w:=by unfold TB at a;split at a;rename_i i;obtain⟨g,R,rfl⟩:=jT Q;split at a;rename_i m c B A;split at a;rename_i kt vt t c' B' S b k v' Oz;split at a;rename_i B0 b';split at a;rename_i p;simp at p;have X:=bj p.1.1;have W:=bj p.1.2;have U:=bj p.2;subst X W U;simp at a;subst a;have⟨M,p1,z⟩:=H.at_ trivial A R;(cases M<;>simp only[bN]at z<;>try exact z.elim);rename_i m' r seen j;obtain⟨gm,K,rfl,J,rfl,F⟩:=z;have⟨L,Iz,u⟩:=H.at_ trivial Oz K;(cases L<;>simp only[bN]at u<;>try exact u.elim);rename_i arr clock;have⟨xs,zs,bs,ys,a1,a2,a3,a4,a5,a6,a7,a8,a9,E,me,b1,h,b3,b4⟩:=u;rw[J]at a4;injection a4 with a4;injection a4 with a4;have a4:=cq.inj a4;subst a4;(have d:seen.back? =O me.born:=by have⟨x,y,d1,d2,d3⟩:=(eR (g:=mq) rfl (by decide) λ_=>rfl).1 F;have⟨ds,Zz,f⟩:=(dn rfl (by decide)).1 d2;have⟨z1,q,Y⟩:=gF.1 Zz;rw[b1]at q;injection q with q;subst q Y;(have f:y=.l [.n (cq me.born)]:=by have:dD 11 [ah.n (cq me.born)]=O (.l [.n (cq me.born)]):=rfl;rw[this]at f;injection f with f;exact f.symm);subst f;obtain⟨_,_,_,e,_⟩|⟨x',y',rfl,e,D⟩:=wH d3;cases e;injection e with e;subst e;injection D with D;(have Gz:(seen.toList.map λb:Nat=>ah.n (cq b)).getLast? =O (.n (cq me.born)):=by rw[D];simp);rw[List.getLast?_map,bZ]at Gz;have⟨bb,T,o⟩:=Gz;injection o with o;have o:bb=me.born:=cq.inj o;subst o;rw[<-Array.getLast?_toList];exact T);(have C:arr.find? (λe=>e.born==me.born)=O me:=by rw[<-Array.find?_toList];have once:=a2.once;clear d F Iz a8 E a2;generalize arr.toList=ms at h once;induction ms with|nil=>cases h|cons x ms N=>rw[List.find?_cons];rw[eJ,mT]at once;rcases aO.1 h with rfl|h;simp;(have:(x.born==me.born)=Z:=by rw[beq_eq_false_iff_ne];intro e;exact once.1 (e▸cA.2 ⟨me,h,rfl⟩));rw[this];exact N h once.2);refine⟨.tuple #[me.key,me.val],by simp[den,bw,b3,b4],?_⟩;simp_all[Instr.entry,dT];cases a;cases a;cases a;cases a;cases a
theorem YF{o:aY}(F:bS lm)(r:my P ν s (λ_=>True) w)(p:∀t b,(t,b)∈s.x.pc->bh ν t b)(A:∀g o,ν.z g=O o->w.heap[g]? =O o)(j:∀i d,ν.x i=O d->ch P ν.z d)(n:eG ν T N a.tmps)(h:aau P lm s T o.op=O v):∃V,den ν v=O V/\(execOp a.eval o).run P w=.ok (.value V) w:=by have fin:∀{x:Sem aa},(∃V,den ν v=O V/\x.run P w=.ok V w)->(execOp a.eval o=Sem.bind x λv=>Sem.pure (Next.value v))->∃V,den ν v=O V/\(execOp a.eval o).run P w=.ok (.value V) w:=λ⟨V,L,K⟩ e=>⟨V,L,by rw[e];exact lD K⟩;cases f:o.op<;>rw[f]at h<;>simp only[aau]at h<;>(try(cases h;done));(case load t x=>split at h;rename_i e Gz E it off l;exact fin (Yz A j h (n.evA l)) (by unfold execOp;rw[f];rfl);rename_i i e Gz it off l;split at h;rename_i E M c y;split at h;rename_i q;simp only[ay]at q;have⟨⟨⟨D,C⟩,B⟩,Oz⟩:=q;have:=an D;subst this;exact fin (YB F p r y C B Oz h (n.evA l)) (by unfold execOp;rw[f];rfl);cases h;rename_i E M c H cs y;split at h;rename_i q;simp only[ay]at q;have⟨⟨D,C⟩,B⟩:=q;have:=an D;subst this;exact fin (YA r y C B h (n.evA l)) (by unfold execOp;rw[f];rfl);cases h;cases h;cases h);(case lookup t x Q ok=>split at h;rename_i m k Iz J;exact fin (YE F r p j h (n.evA Iz) (n.evA J)) (by unfold execOp;rw[f];rfl);cases h);case entry it=>have⟨x,l,u⟩:=kI.1 h;exact fin (ady r u (n.evA l)) (by unfold execOp;rw[f];rfl)
end
end
section
open RowKit
variable{k m v:AV}{s':St}{e t:ag}{K M V:aa}
section
variable{P:aw}{w0 w:aj}{A:en}{ν:Nm}{s:St}{T:Tr AV}{N:Nat}{a:Act}{lm:List fV}{z:Nat->Option Obj}
def Ni(v:AV)(l:List AV):AV:=match v with|.agg _=>.agg l|v=>l.headD v
theorem G1(g:bS lm)(h:aL P w0 A ν s w)(e:den ν v=O V):∃a,Nm.le ν a/\aL P w0 A a (uo P lm (da v) s).2 w/\den a (Ni v (uo P lm (da v) s).1)=O V:=by (have key:da v=[v]->(∀l,Ni v l=l.headD v)->∃a,Nm.le ν a/\aL P w0 A a (uo P lm (da v) s).2 w/\den a (Ni v (uo P lm (da v) s).1)=O V:=λi k=>by have⟨a,d,c,b⟩:=qu g h (eQ e (show bw ν []=O []from rfl));refine⟨a,d,by rw[i];exact c,?_⟩;rw[k,i];cases f:(uo P lm [v] s).1 with|nil=>rw[f]at b;cases b|cons x q=>rw[f]at b;grind[cd]);cases v;(case agg l=>obtain⟨CS,j,rfl⟩:=gB e;have⟨a,d,c,b⟩:=qu g h (l:=da (.agg l)) (L:=CS) j;grind[Ni,den]);all_goals exact key rfl λ_=>rfl
theorem BX{f:ag}{t k v:Tm}{xs:List ah}{p:List bQ}{c:Nat}{kd d:ah}(m:gk P f=I)(j:qk P e t=I)(h:oN P z f e xs p c)(s:fA P z f kd K)(g:fA P z e d V)(r:ai ν t=O (.l xs))(w:ai ν k=O kd)(q:ai ν v=O d):ai ν (K0 t k v)=O (.l (gf kd d (e_ kd xs))):=by have o:=adv m h;have a:=mi o;refine pZ j r (λu i=>Qx i a w q) (λu i=> ?_) λb=> ?_;rw[bd]at i⊢;rw[<-tF _ _ (nK _ a),<-qz _ a];grind[Qx,iH,du];have n:=qM m b h;refine⟨by rw[bd,n],?_⟩;rw[bd,<-tF _ _ (nK _ a),<-qz _ a,n];have⟨ts,L,a1,a2,a3,a4,a5⟩:=g;rw[jh b a1 a4 (by omega) a5]
theorem adz{t k g:Tm}{xs:List ah}{kd b:ah}(d:qk P e t=I)(f:db xs=I)(a:mD P e=I->xs.map strip=xs/\strip ((gy kd xs).getD b)=(gy kd xs).getD b)(m:ai ν t=O (.l xs))(i:ai ν k=O kd)(h:ai ν g=O b):ai ν (Z9 t k g)=O ((gy kd xs).getD b):=by refine pZ d m (λu c=>F' c f i h) (λu c=> ?_) λj=>⟨by rw[bd,(a j).1],(a j).2⟩;rw[bd]at c;rw[F' c (iH f) i (du h),sI _ f];simp_all
theorem Qy(h:aL P w0 A ν s w){b:ag}{i g:Nat}{a:Tm}(f:Ff P s b e i=O a)(d:ν i=O g):∃o arr c xs,s.h.get i=O o/\x6 o=I/\w.heap[g]? =O (.map arr c)/\ai ν a=O (.l xs)/\oN P ν.z b e xs arr.toList c:=by have⟨j,o,q,p⟩:=UN f;have⟨arr,c,xs,n,m,k⟩:=LP h.Ph j d;grind
theorem CX(Iz:bS lm)(h:aL P w0 A ν s w)(a:NK P lm s t m k v=O s')(hm:den ν m=O M)(hk:den ν k=O K)(hv:den ν v=O V):∃n w',Nm.le ν n/\aL P w0 A n s' w'/\(Instr.mapUpdate t M K V).run P w=.ok () w':=by
 unfold NK at a
 split at a
 ·rename_i C e i ht
  simp only at a
  have⟨l,u,d,Y⟩:=G1 Iz h hv
  split at a
  ·rename_i L S J f E Gz D
   split at a
   ·rename_i F
    simp at a
    subst a
    obtain⟨g,H,rfl⟩:=jr (cY u _ _ hm)
    have⟨o,arr,c,xs,U,q,h1,h2,z⟩:=Qy d E H
    have⟨kd,Zz,y⟩:=mj Iz d.ctx.pc d.nU Gz (cY u _ _ hk)
    have⟨vd,v1,B⟩:=mj Iz d.ctx.pc d.nU D Y
    have⟨ys,T,W⟩:=z.all
    have b:=BX f F z y B h2 Zz v1
    have⟨R,Oz,r2⟩:=t_ (P:=P) (w:=w) f y W
    have N:(Instr.mapUpdate t (.map (O g)) K V).run P w=((Instr.findKey C K arr.toList).bind λr=>match r with
     |O (i,_)=>(Instr.keyThatStays (((arr[i]?).map (·.key)).getD K) K).bind λkey=>setObj g (.map (arr.modify i λe=>{e with key,val:=V}) c)
     |G=>setObj g (.map (arr.push {key:=K,val:=V,born:=c}) (c+1))).run P w:=by
     simp[Instr.mapUpdate,bind]
     rw[run_bind,run_underlying ht]
     simp
     rw[run_bind,dT h1 (by simp)]
     grind[run_bind,rR]
    cases R with
    |none=>
     refine⟨l,_,u,d.putObj U H (obj:=.map (arr.push {key:=K,val:=V,born:=c}) (c+1)) ⟨_,b,?_,f,trivial⟩ q,?_⟩
     ·rw[Af]
      exact GY f z (λx hx=>Oz x (T.mem_iff.2 hx)) y B
     grind[run_bind,gL]
    |some p=>
     have⟨j,V0⟩:=p
     obtain⟨me,v0,_,X,Q,rfl,q3,q4⟩:=Oz
     rw[Nat.sub_zero]at X Q
     refine⟨l,_,u,d.putObj U H (obj:=.map (arr.modify j λe=>{e with key:=K,val:=V}) c) ⟨_,b,?_,f,trivial⟩ q,?_⟩
     ·rw[wx]
      exact BW f z T W Q y B
     grind[run_bind,wN,gL]
   ·cases a
  ·cases a
 ·cases a
theorem UO(hL:bS lm)(h:aL P w0 A ν s w)(f:TK P lm s t m k=O (v,s'))(hm:den ν m=O M)(hk:den ν k=O K):lN P w0 A ν s' v ((Instr.mapEntry t M K).run P w):=by
 unfold TK at f
 split at f
 ·rename_i X e i ht
  split at f
  ·rename_i F B zt u htm hkT hzt
   split at f
   ·rename_i v' H hv'
    injection f with f
    injection f with hu1 hu2
    subst hu1 hu2
    obtain⟨g,hg,rfl⟩:=jr hm
    have⟨o,arr,c,xs,ho,hnr,h1,h2,E⟩:=Qy h htm hg
    have⟨kd,Y,Gz⟩:=mj hL h.ctx.pc h.nU hkT hk
    have⟨zd,Zz,z1,z2,z3⟩:=G0 hL h.ctx.pc h.nU hzt
    have⟨ys,Iz,ha⟩:=E.all
    have⟨px,py⟩:=sv u Iz ha
    have hs:=pY u Gz
    have pp:=mi px
    have⟨R,r1,r2⟩:=t_ (P:=P) (w:=w) u Gz ha
    have anC:(Instr.mapEntry t (.map (O g)) K).run P w=((Instr.findKey X K arr.toList).bind λr=>match r with
     |O (i,v)=>(Instr.keyThatStays (((arr[i]?).map (·.key)).getD K) K).bind λkey=>(setObj g (.map (arr.modify i λe=>{e with key}) c)).bind λ_=>pure (.tuple #[v,goInt (((arr[i]?).map (·.born)).getD 0)])
     |G=>(zeroValue e).bind λzero=>(setObj g (.map (arr.push {key:=K,val:=zero,born:=c}) (c+1))).bind λ_=>pure (.tuple #[zero,goInt c])).run P w:=by
     simp[Instr.mapEntry,bind]
     rw[run_bind,run_underlying ht]
     simp
     rw[run_bind,dT h1 (by simp)]
     grind[run_bind,rR]
    have q:∀{V:aa}{b:Nat}{uK:Array bQ}{c':Nat}{me:bQ},fA P ν.z e ((gy kd xs).getD zd) V->oN P ν.z X e (gf kd ((gy kd xs).getD zd) (e_ kd xs)) uK.toList c'->me∈uK.toList->me.key=K->me.born=b->(Instr.mapEntry t (.map (O g)) K).run P w=.ok (.tuple #[V,goInt b]) (w.putObj g (.map uK c'))->
     lN P w0 A ν (Di (lK s i (.dmap X e (K0 F B (Z9 F B zt)) (O (B,s.n))))) (.il [v',.sym .i64 (.x (bm+s.n))]) ((Instr.mapEntry t (.map (O g)) K).run P w):=λ{V b uK c' me} g1 g2 g3 g4 g5 g6=>by
     have a:ai ν (Z9 F B zt)=O ((gy kd xs).getD zd):=adz H pp (λQ=>⟨qM u Q E,by
      have⟨ts,L,a1,a2,a3,a4,a5⟩:=g1
      exact jh Q a1 a4 (by omega) a5⟩) h2 Y z1
     have S:=BX u H E Gz g1 h2 Y a
     have hv:=GZ hv' h2 pp Y z1 g1
     have⟨ν1,D,n2,n3,n4,n5⟩:=h.newAtom (d:=.n b) (by simp[ch])
     have hW:=n2.putObj (i:=i) (g:=g) (o0:=o) ho (D _ _ hg) (o:=.dmap X e (K0 F B (Z9 F B zt)) (O (B,s.n))) (obj:=.map uK c') ⟨_,aX D _ _ S,g2.mono D.z,u,kd,b,me,aX D _ _ Y,n3,g3,by rw[g4];simp_all,by rw[g5]⟩ hnr
     refine⟨ν1,.tuple #[V,goInt b],_,D,hW,?_,g6⟩
     simp only[den,bw,cY D _ _ hv,ai,n3]
     rfl
    cases R with
    |none=>
     have J:gy kd xs=G:=FW hs px λx hx=>r1 x (Iz.mem_iff.2 hx)
     have hnk:∀x∈xs,qQ x≠kd:=λx hx=>r1 x (Iz.mem_iff.2 hx)
     refine q (V:=Zz) (b:=c) (uK:=arr.push {key:=K,val:=Zz,born:=c}) (c':=c+1) (me:={key:=K,val:=Zz,born:=c}) (by rw[J];exact z2) ?_ (by simp) rfl rfl ?_
     ·rw[Af,J]
      exact GY u E hnk Gz z2
     simp_all[run_bind,gL]
    |some p=>
     have⟨j,V0⟩:=p
     obtain⟨me,v0,_,C,W,rfl,q3,q4⟩:=r1
     rw[Nat.sub_zero]at C W
     have N:.l [kd,v0]∈xs:=Iz.mem_iff.1 (bE W)
     have J:gy kd xs=O v0:=FX hs px E.keys N
     have⟨me',U,k',v'',T,q7,q8⟩:=cJ.X6 ha W
     rw[C]at U
     simp at U
     subst U
     injection T with T
     injection T with T q9
     injection q9 with q9 _
     subst q9
     have hme:arr[j]? =O me:=by simpa using C
     have hjl:j<arr.toList.length:=(cj.1 C).1
     have y:(arr.modify j λe=>{e with key:=K}).toList=arr.toList.modify j λe=>{e with key:=K,val:=me.val}:=by
      rw[wx]
      have e:∀(L:List bQ)(j:Nat),L[j]? =O me->(L.modify j λe=>{e with key:=K})=(L.modify j λe=>{e with key:=K,val:=me.val}):=λL=>by
       induction L with
       |nil=>intro j Oz;simp at Oz
       |cons m L ih=>
        intro j Oz
        cases j with
        |zero=>simp at Oz;subst Oz;rfl
        |succ j=>simp only[List.modify_succ_cons];rw[ih j (by simpa using Oz)]
      exact e _ _ C
     have a:(arr.toList.modify j λe=>{e with key:=K,val:=me.val})[j]? =O me:=by
      have e0:({me with key:=K,val:=me.val})=me:=by rw[<-q3]
      rw[List.getElem?_modify,C]
      simp only[if_true]
      exact congrArg O e0
     refine q (V:=me.val) (b:=me.born) (uK:=arr.modify j λe=>{e with key:=K}) (c':=c) (me:=me) (by rw[J];exact q8) ?_ ?_ q3 rfl ?_
     ·rw[y,J]
      exact BW u E Iz ha W Gz q8
     ·rw[y]
      exact bE a
     simp_all[run_bind,wN,gL]
   ·cases f
  ·cases f
 ·cases f
theorem find_born{a:List bQ}{me:bQ}(b:me∈a)(c:(a.map (·.born)).Nodup):∃j,a.findIdx? (λe=>(e.born:Int)==(me.born:Int))=O j/\a[j]? =O me:=by induction a with|nil=>cases b|cons m a d=>rw[eJ,mT]at c;rw[List.findIdx?_cons];rcases aO.1 b with rfl|b;exact⟨0,by simp,rfl⟩;grind
theorem Dy(R:bS lm)(h:aL P w0 A ν s w){b:AV}{B:aa}(a:vE P lm s m b v=O s')(hm:den ν m=O M)(hb:den ν b=O B)(hv:den ν v=O V):∃d w',Nm.le ν d/\aL P w0 A d s' w'/\(Instr.entryStore t M B V).run P w=.ok () w':=by unfold vE at a;split at a;rename_i i k0 a0;simp only at a;have⟨u,x,n,X⟩:=G1 R h hv;split at a;rename_i Y e W Zz j0 K;split at a;rename_i U Oz C;simp only[ay]at Oz;have⟨H,D⟩:=Oz;have H:=an H;subst H;simp at a;subst a;obtain⟨g,N,rfl⟩:=jr (cY x _ _ hm);have⟨obj,T,F⟩:=n.at_ K N;(cases obj<;>simp only[bN]at F<;>try exact F.elim);rename_i arr c;have⟨xs,k1,q,r,kd,Iz,me,k3,k4,k5,z,k7⟩:=F;have⟨vd,v1,J⟩:=mj R n.ctx.pc n.nU C X;have f:=BX r D q z J k1 k3 v1;have S:=cY x _ _ hb;simp[den,ai,k4]at S;subst S;have⟨j,f1,f2⟩:=find_born k5 q.once;have⟨ys,hp,Q⟩:=q.all;have⟨y,hy,k',v',e0,e1,e2⟩:=cJ.alj Q f2;have E:k'=kd:=agm r e1 z;subst E e0;refine⟨u,_,x,n.putObj K N (obj:=.map (arr.modify j λe=>{e with val:=V}) c) ⟨_,f,?_,r,trivial⟩,?_⟩;(have k:(arr.modify j λe=>{e with val:=V}).toList=arr.toList.modify j λe=>{e with key:=me.key,val:=V}:=by rw[wx];(have e:∀(L:List bQ)(j:Nat),L[j]? =O me->(L.modify j λe=>{e with val:=V})=(L.modify j λe=>{e with key:=me.key,val:=V}):=λL=>by induction L with|nil=>simp_all|cons m L ih=>grind);exact e _ _ f2);rw[k];exact BW r q hp Q hy z J;(have Gz:arr.findIdx? (λe=>(e.born:Int)==Iz)=O j:=by have:=List.findIdx?_toArray (p:=λe:bQ=>(e.born:Int)==Iz) (l:=arr.toList);rw[Array.toArray_toList]at this;rw[this,<-k7];exact f1);simp[Instr.entryStore,bind];rw[run_bind,dT T (by simp)];simp;rw[run_bind];show(match arr.findIdx? (λe=>(e.born:Int)==Iz)with|O i=>_|G=>_:Sem Unit).run P w=_;rw[Gz];exact gL _ T (by simp);cases a;cases a;cases a
end
end
section
open RowKit
variable{xs zs:List ah}{ms:List bQ}{bl:List Nat}{t:Tm}
section
variable{P:aw}{w0 w:aj}{A:en}{ν:Nm}{s:St}{lm:List fV}
theorem qm{c:Bool}(h:ai ν t=O (jC c)):bh ν t c:=by refine⟨if c then 1 else 0,?_,?_⟩;rw[h];rfl;simp_all
open Classical in
theorem W5{a b:Tm}{ys:List ah}(d:ai ν a=O (.l xs))(c:ai ν b=O (.l ys)):bh ν (.f 41 [a,b]) (decide (xs.Perm ys)):=qm ((eR (g:=Cr) rfl (by decide) λ_=>rfl).2 ⟨_,_,d,c,rfl⟩)
open Classical in
theorem W6{a b:Tm}{ys:List ah}(d:ai ν a=O (.l xs))(c:ai ν b=O (.l ys)):bh ν (.f 43 [a,b]) (decide (∃zs,(xs++zs).Perm ys)):=qm ((eR (g:=Ct) rfl (by decide) λ_=>rfl).2 ⟨_,_,d,c,rfl⟩)
theorem tO:ai ν (.f 11 [])=O (.l []):=(dn rfl (by decide)).2 ⟨[],eX.2 rfl,rfl⟩
theorem Ot(h:ai ν t=O (.l xs)):bh ν (.f 43 [.f 11 [],cK t]) I:=by
 classical
 have hc:=du h
 rw[bd]at hc
 have:=W6 (tO (ν:=ν)) hc
 rw[decide_eq_true ⟨_,List.Perm.refl _⟩]at this
 exact this
theorem YG{kt vt:ag}{clock:Nat}(h:ai ν t=O (.l xs))(hf:gk P kt=I)(q:oN P ν.z kt vt xs ms clock):bh ν (.f 49 [cK t]) I:=by
 classical
 have hc:=du h
 rw[bd]at hc
 have⟨ys,hp,ha⟩:=q.all
 have pl:=(sv hf hp ha).1
 have e:(xs.map strip).map qQ=xs.map qQ:=by
  rw[List.map_map]
  refine kF λx hx=> ?_
  obtain⟨k,v,rfl,hk⟩:=pl x hx
  simp_all[bd,qQ,jD]
 have:=qm (ν:=ν) (t:=.f 49 [cK t]) (c:=decide ((xs.map strip).map qQ).Nodup) ((lB (g:=oH qQ) rfl (by decide) λ_=>rfl).2 ⟨_,hc,rfl⟩)
 rw[e,decide_eq_true q.keys]at this
 exact this
theorem aL.Fx(h:aL P w0 A ν s w){b:Bool}(f:bh ν t b):aL P w0 A ν {s with x:={s.x with pc:=(t,b)::s.x.pc}} w:=
 ⟨h.pos,h.dz,h.top,h.fX,h.inj,h.ext,h.xb,h.same,h.sT,h.nv,h.own,⟨h.ctx.gl,λc d a=>by
  rcases aO.1 a with e|a
  ·simp_all
  ·exact h.ctx.pc c d a⟩,h.mu,h.lq,h.nU,h.kR,h.kS⟩
theorem UP(h:aL P w0 A ν s w){t:ag}{x v:AV}{X:aa}{Gz:St}(m:TJ P s t x=O (v,Gz))(Y:den ν x=O X):lN P w0 A ν Gz v ((Instr.range t X).run P w):=by unfold TJ at m;split at m;rename_i Iz p i hu;split at m;rename_i U S r u;split at m;rename_i F;simp only[ay]at F;have e1:=an F.1;have e2:=an F.2;subst e1 e2;simp at m;obtain⟨rfl,rfl⟩:=m;obtain⟨g,y,rfl⟩:=jr Y;have⟨obj,T,D⟩:=h.at_ u y;(cases obj<;>simp only[bN]at D<;>try exact D.elim);rename_i arr clock;have⟨xs,C,B,H,_⟩:=D;(have q:(Instr.range t (.map (O g))).run P w=.ok (.pointer (O ⟨w.heap.size,0,G⟩)) (w.alloc (.mapIter (O g) clock #[] clock)):=by simp_all[Instr.range,run_underlying,dT]);have⟨c,j,W,J,V,kz⟩:=h.newAtom (d:=.n (cq clock)) qZ;have E:({s with n:=s.n+1}:St).h.get i=O (.dmap Iz p r G):=u;have⟨zs,N,M⟩:=B.all;have hS:ai c (oT P p (.f 11 []))=O (.l []):=AE c p;have L:ai c (.f 11 [])=O (.l []):=(dn rfl (by decide)).2 ⟨[],eX.2 rfl,rfl⟩;have R:=W.lS (o:=.g_ Iz p r (.x (bm+s.n)) (.f 11 []) (oT P p (.f 11 [])) G) E (j _ _ y) (h.nz u y) T ⟨xs,zs,[],[],aX j _ _ C,B.mono j.z,H,J,L,hS,N,cJ.imp (λ_ _ he=>he.mono j.z) M,List.nodup_nil,trivial,trivial⟩;have K:c s.n=G:=V▸(h.top _ (ba _));have a:=Nm.fP K w.heap.size;have Zz:i≠s.n:=λe=>h.named (h.top s.n (ba _)) _ (e▸u);have Q:=R.alloc (k:=s.n) (n':=s.n+1) (o:=.jk i (.x (bm+s.n)) (.f 11 [])) (obj:=.mapIter (O g) clock #[] clock) K (ba _) (by omega) ⟨g,a _ _ (j _ _ y),rfl,aX a _ _ J,rfl,aX a _ _ L⟩;have Oz:=(Q.Fx (t:=.f 49 [cK r]) (b:=I) (YG (aX (j.trans a) _ _ C) H (B.mono (j.trans a).z))).Fx (t:=.f 43 [.f 11 [],cK r]) (b:=I) (Ot (aX (j.trans a) _ _ C));refine⟨_,_,_,j.trans a,Oz,?_,q⟩;simp[den,Nm.cx];cases m;cases m;cases m
theorem YH{e:ag}(h:ai ν t=O (.l xs))(b:mD P e=I->xs.map strip=xs):ai ν (oT P e t)=O (.l xs):=by have a:=du h;rw[bd]at a;unfold oT;split;simp_all;refine(eR rfl (by simp) λ_=>rfl).2 ⟨_,_,h,a,?_⟩;unfold Cv;rw[bd,eD.2 rfl]
theorem adA{d:ah}(h:ai ν t=O d):ai ν (.f 22 [t,.f 23 [t]])=O d:=by refine(eR rfl (by simp) λ_=>rfl).2 ⟨_,strip d,h,(lB rfl (by simp) λ_=>rfl).2 ⟨_,h,rfl⟩,?_⟩;unfold Cv;rw[eD.2 rfl]
theorem G2:∀{ts:List ag}{n:Nat}{kl:List AV}{kT:List Tm}{L:List aa}{ds:List ah}{s:St}{ν:Nm},rI P ts n=O (kl,kT)->s.n=n->aL P w0 A ν s w->L.length=ts.length->ds.length=ts.length->(∀(j:Nat)(t:ag)(V:aa)(d:ah),ts[j]? =O t->L[j]? =O V->ds[j]? =O d->cU P ν.z t V d)->∃ed,Nm.le ν ed/\aL P w0 A ed {s with n:=n+ts.length} w/\bw ed kl=O L/\bA ed kT=O ds|[],n,kl,kT,L,ds,s,ν,h,hn,hW,hL,hd,_=>by simp only[rI,aG,Prod.mk.injEq]at h;obtain⟨rfl,rfl⟩:=h;have:=jv.1 hL;have:=jv.1 hd;subst_vars;exact⟨ν,Nm.le.refl _,hW,rfl,eX.2 rfl⟩|t::ts,n,kl,kT,L,ds,s,ν,h,hn,hW,hL,hd,hC=>by unfold rI at h;split at h;(·rename_i dd hu;split at h;(·rename_i v r hv hr;injection h with h;simp only[Prod.mk.injEq]at h;obtain⟨rfl,rfl⟩:=h;match L,ds,hL,hd with|V::L,d::ds,hL,hd=>subst hn;have h0:=hC 0 t V d rfl rfl rfl;obtain⟨ν1,k1,k2,k3,kf,kz⟩:=hW.newAtom h0.ok;obtain⟨ν2,l1,l2,l3,l4⟩:=G2 (s:={s with n:=s.n+1}) hr rfl k2 (by simpa using hL) (by simpa using hd) λj t' V' d' h1 h2 h3=>(hC (j+1) t' V' d' (by simpa using h1) (by simpa using h2) (by simpa using h3)).mono k1.z;refine⟨ν2,k1.trans l1,?_,?_,?_⟩;(·rw[ij,show s.n+(ts.length+1)=s.n+1+ts.length by omega];exact l2);(·refine eQ (qE (z:=ν1.z) hu ?_ (h0.mono k1.z) hv|>cY l1 _ _) l3;split;(·exact adA (t:=.x (bm+s.n)) k3);·exact k3);·exact aP.2 ⟨_,_,aX l1 _ _ (show ai ν1 (.x (bm+s.n))=O d from k3),l4,rfl⟩);·cases h);·cases h
theorem Qz{t:ag}{ts:List ag}{n:Nat}{p:List AV}{o:List Tm}{E:Bool}{K:AV}{d:ah}{V:aa}{s:St}{ν:Nm}(B:dG P 8 t=O ts)(Gz:fD P t=O E)(h:rI P ts n=O (p,o))(Q:s.n=n)(H:Z8 E p=O K)(R:aL P w0 A ν s w)(hC:fA P ν.z t d V):∃b,Nm.le ν b/\aL P w0 A b {s with n:=n+ts.length} w/\den b K=O V/\ai b (mE o)=O d:=by have⟨J,L,y,W,U,Iz,T⟩:=hC;rw[B]at y;simp at y;subst y;(have q:∀{ts:List ag}{n:Nat}{p:List AV}{o:List Tm},rI P ts n=O (p,o)->o.length=ts.length:=by intro ts;induction ts with|nil=>simp_all[rI]|cons t ts X=>grind[rI]);have f:=q h;(have⟨ds,C,i⟩:∃ds:List ah,(ts.length=1->ds=[d])/\(ts.length≠1->d=.l ds)/\ds.length=ts.length/\∀(j:Nat)(c:ah),ds[j]? =O c->dQ d j=O c:=by by_cases e:ts.length=1;(·refine⟨[d],λ_=>rfl,λh=>absurd e h,by simp[e],λj c r=> ?_⟩;match j with|0=>simp at r;subst r;exact Iz.2 e|j+1=>simp at r);·obtain⟨ds,rfl,m⟩:=AD Iz e;exact⟨ds,λh=>absurd h e,λ_=>rfl,m,λj c r=>r⟩);have⟨u,i,k⟩:=i;have⟨b,Oz,N,F,g⟩:=G2 h Q R W i λj M V' d' D m S=>T j d' M V' (k j d' S) D m;refine⟨b,Oz,N,?_,?_⟩;(·obtain⟨e,rfl⟩|⟨e,rfl,_⟩:=U;(·rw[Gz]at e;grind[Z8,den]);·rw[Gz]at e;simp at e;subst e;match p,H,F with|[v],H,F=>grind[Z8,cd]);·match o,f,g with|[a],f,g=>rw[C (by simp_all)]at g;have⟨x,D,m⟩:=gF.1 g;injection m with m;rw[m];exact D|[],f,g=>(have e:ts.length≠1:=by simp[<-f]);rw[u e];exact(dn rfl (by simp)).2 ⟨_,g,rfl⟩|_::_::_,f,g=>(have e:ts.length≠1:=by simp[<-f]);rw[u e];exact(dn rfl (by simp)).2 ⟨_,g,rfl⟩
noncomputable def atB(bl:List Nat)(zs:List ah)(b:Nat):ah:=(zs[bl.idxOf b]?).getD (.n 0)
theorem RF(h:bl.Nodup){i b:Nat}(a:bl[i]? =O b):bl.idxOf b=i:=by grind
theorem Ga(once:(ms.map (·.born)).Nodup):∀{ys:List ah}{a:List Nat},cJ (λy b=>∃(i:Nat)(m:bQ),zs[i]? =O y/\ms[i]? =O m/\m.born=b) ys a->ys=a.map (atB (ms.map (·.born)) zs)|[],[],_=>rfl|y::ys,b::a,h=>by obtain⟨⟨i,m,e,d,rfl⟩,c⟩:=h;rw[eJ,<-Ga once c];congr 1;unfold atB;rw[RF once (i:=i) (b:=m.born) (by rw[dg,d];rfl),e];rfl|[],_::_,h=>h.elim|_::_,[],h=>h.elim
theorem agn(once:bl.Nodup)(a:zs.length=bl.length):bl.map (atB bl zs)=zs:=by apply ig;grind[atB]
theorem wS:∀{ys:List ah}{c:List Nat},cJ (λy b=>∃(i:Nat)(m:bQ),zs[i]? =O y/\ms[i]? =O m/\m.born=b) ys c->∀b∈c,b∈ms.map (·.born)|[],[],_,b,a=>by cases a|y::ys,j::c,h,b,a=>(by have⟨⟨i,m,g,f,e⟩,d⟩:=h;rcases aO.1 a with rfl|a;rw[<-e];grind;exact wS d b a)|[],_::_,h,_,_=>h.elim|_::_,[],h,_,_=>h.elim
theorem LQ{a:List Nat}(e:a.Nodup)(d:bl.Nodup)(c:∀b∈a,b∈bl):(a++bl.filter λx=> !a.contains x).Perm bl:=by grind
theorem YI (h:aL P w0 A ν s w) {it:AV} {IT:aa} {l:List (AV×St)} (F:aaH P s it=O l) (hi:den ν it=O IT) (ty:ag):∃p∈l,lN P w0 A ν p.2 p.1 ((Instr.next IT Z ty).run P w):=by
 classical
 unfold aaH at F
 split at F
 ·rename_i i
  obtain⟨g,hg,rfl⟩:=jT hi
  split at F
  ·rename_i m c B J
   split at F
   ·rename_i kt Gz t c' B' S last hm
    split at F
    ·rename_i ks us ka va hc hks OP hka hva
     split at F
     ·rename_i kl Q vl N hkc hvc
      split at F
      ·rename_i K V hK hV
       simp at hc
       have e1:=bj hc.1
       have e2:=bj hc.2
       subst e1 e2
       injection F with F
       subst F
       have⟨o1,p1,p2⟩:=h.at_ J hg
       cases o1<;>simp only[bN]at p2<;>try exact p2.elim
       rename_i m' a seen D
       obtain⟨gm,p3,rfl,p4,hst,p5⟩:=p2
       have⟨o2,q1,q2⟩:=h.at_ hm p3
       cases o2<;>simp only[bN]at q2<;>try exact q2.elim
       rename_i arr clock
       have⟨xs,zs,v,ys,a1,a2,a3,a4,a5,a6,a7,a8,a9,De,Eg⟩:=q2
       rw[p4]at a4
       injection a4 with a4
       injection a4 with a4
       have a4:a=clock:=cq.inj a4
       have W:seen.toList=v:=by
        rw[p5]at a5
        grind[List.map_inj_right]
       subst a4
       have once:=a2.once
       have hzl:zs.length=(arr.toList.map (·.born)).length:=by rw[fR];exact a8.length
       have hys:=Ga once De
       have hzs:=agn once hzl
       have alW:(!seen.isEmpty&& !arr.isEmpty&&arr.all λx=>decide (x.born>=D))=Z:=by
        rw[hst]
        cases hL:arr.toList with
        |nil=>
         simp_all
        |cons x L=>
         have hx:=a2.born x (by rw[hL];simp)
         have:(arr.all λx=>decide (x.born>=a))=Z:=by
          rw[<-Array.all_toList,hL,List.all_cons]
          grind
         simp[this]
       have Oz:(Instr.next (.pointer (O ⟨g,0,G⟩)) Z ty).run P w=(Sem.run P (do
        let left:=arr.filter λe:bQ=> !seen.contains e.born
        let old:=left.filter λe:bQ=>decide (e.born<a)
        let new:=left.filter λe:bQ=>decide (e.born>=a)
        let k:=(if old.isEmpty then #[G]else #[])++(old++new).map O
        match k[<-choose (.mapNext k.size)]? with
        |O (O e)=>
         setObj g (.mapIter (O gm) a (seen.push e.born) a)
         pure (.tuple #[.bool I,e.key,e.val])
        |O G=>pure (.tuple #[.bool Z])
        |G=>stuck "Next: no such candidate") w):=by
        simp only[Instr.next,bind]
        rw[run_bind,dT p1 (by simp)]
        simp only
        rw[run_bind,dT q1 (by simp)]
        simp only[alW]
        rfl
       rw[Oz]
       clear Oz
       have⟨L,hL⟩:∃L,L=arr.filter λe:bQ=> !seen.contains e.born:=⟨_,rfl⟩
       rw[<-hL]
       have H:∀x∈L.toList,x∈arr.toList/\x.born∉v:=λx hx=>by
        rw[hL,Array.toList_filter,List.mem_filter]at hx
        grind
       have hcS:=du a6
       have hct:=du a1
       rw[bd]at hcS hct
       rcases Nat.eq_zero_or_pos L.size with h0|Ky
       ·
        have hLn:L= #[]:=Array.eq_empty_of_size_eq_zero h0
        have Ez:∀b∈arr.toList.map (·.born),b∈v:=λb hb=>by
         grind
        have E:∀b∈v,b∈arr.toList.map (·.born):=λb hb=>by
         exact wS De b hb
        have X:ys.Perm xs:=by
         have:v.Perm (arr.toList.map (·.born)):=(List.perm_ext_iff_of_nodup a9 once).2 λb=>⟨E b,Ez b⟩
         grind
        refine⟨_,aU ..,?_⟩
        have M:=h.lS (o:= .dmap kt Gz t G) hm p3 (h.nz hm p3) q1 ⟨xs,a1,a2,a3,trivial⟩
        have hso:bh ν (.f 41 [cK S,cK t]) I:=by
         have:=W5 hcS hct
         rw[decide_eq_true (X.map strip)]at this
         exact this
        have w2:=(M.Fx hso).kill i
        refine⟨ν,.tuple #[.bool Z],w,Nm.le.refl _,w2,rfl,?_⟩
        rw[hLn]
        simp[Question.forced]
       ·
        have ant:∀x∈L.toList,x.born<a:=λx hx=>a2.born x (H x hx).1
        have f1:(L.filter λe:bQ=>decide (e.born<a))=L:=by
         rw[Array.filter_eq_self]
         simp_all
        have f2:(L.filter λe:bQ=>decide (e.born>=a))= #[]:=by
         rw[Array.filter_eq_empty_iff]
         simp_all
        have amL:L.isEmpty=Z:=by
         rw[Array.isEmpty_eq_false_iff_exists_mem]
         simp_all
        refine⟨_,aS _ (aR.2 rfl),?_⟩
        have alX:∀(M:aj),aL P w0 A ν s M->M.heap=w.heap->∀j,j<L.size->lN P w0 A ν {s with h:=(s.h.put m (O (.g_ kt Gz t c (.f 2 [B,.f 11 [.x (bm+s.n)]]) (lj S (oT P Gz (.f 11 [.f 13 [mE Q,mE N]]))) (O (.x (bm+s.n),K,V))))).put i (O (.jk m c (.f 2 [B,.f 11 [.x (bm+s.n)]]))),log:=i::s.log,n:=s.n+1+ks.length+us.length,x:={s.x with pc:=(.f 43 [cK (lj S (oT P Gz (.f 11 [.f 13 [mE Q,mE N]]))),cK t],I)::(.f 41 [cK S,cK t],Z)::s.x.pc}} (.il [.bool I,K,V]) ((match(L.map O)[j]? with
         |O (O e)=>(setObj g (.mapIter (O gm) a (seen.push e.born) a)).bind λ_=>pure (.tuple #[.bool I,e.key,e.val])
         |O G=>pure (.tuple #[.bool Z])
         |G=>stuck "Next: no such candidate":Sem aa).run P M):=λM h1 hw1 j hj=>by
         have⟨e,he⟩:∃e,e=L[j]:=⟨_,rfl⟩
         have⟨hea,heb⟩:=H e (by rw[he];simp)
         have⟨ix,Zz⟩:=jV.1 hea
         have anD:=(cj.1 Zz).1
         have⟨y,hy⟩:∃y,zs[ix]? =O y:=⟨_,aZ (by simp_all)⟩
         have⟨m0,Iz,Η⟩:=cJ.X6 a8 hy
         rw[Zz]at Iz
         simp at Iz
         subst Iz
         obtain⟨kd,U,rfl,hkd,hvd⟩:=Η
         have⟨ν1,k1,k2,k3,_,_⟩:=h1.newAtom (d:= .n (cq e.born)) qZ
         have⟨ν2,l1,l2,l3,l4⟩:=Qz (s:={s with n:=s.n+1}) hks hka hkc rfl hK k2 (hkd.mono k1.z)
         have⟨C,n1,n2,n3,n4⟩:=Qz (s:={s with n:=s.n+1+ks.length}) OP hva hvc rfl hV l2 ((hvd.mono k1.z).mono l1.z)
         have r:=(k1.trans l1).trans n1
         have zq:ai C (.x (bm+s.n))=O (.n (cq e.born)):=aX (l1.trans n1) _ _ (show ai ν1 (.x (bm+s.n))=_ from k3)
         have hy3:ai C (.f 11 [.f 13 [mE Q,mE N]])=O (.l [.l [kd,U]]):=by
          refine(dn rfl (by simp)).2 ⟨_,gF.2 ⟨.l [kd,U],(dn rfl (by simp)).2 ⟨_,aP.2 ⟨_,_,aX n1 _ _ l4,gF.2 ⟨_,n4,rfl⟩,rfl⟩,rfl⟩,rfl⟩,rfl⟩
         have hyx:ah.l [kd,U]∈xs:=a7.mem_iff.1 (bE hy)
         have ajH:ai C (oT P Gz (.f 11 [.f 13 [mE Q,mE N]]))=O (.l [.l [kd,U]]):=YH hy3 λhf=>by
          have:=qM a3 hf a2
          have hid:∀x∈xs,strip x=x:=by
           intro x hx
           have⟨q,hq⟩:=jV.1 hx
           grind
          rw[eJ,List.map_nil,hid _ hyx]
         have hS3:ai C (lj S (oT P Gz (.f 11 [.f 13 [mE Q,mE N]])))=O (.l (ys++[.l [kd,U]])):=oy (aX r _ _ a6) ajH
         have hB3:ai C (.f 2 [B,.f 11 [.x (bm+s.n)]])=O (.l ((v++[e.born]).map λb:Nat=>ah.n (cq b))):=by
          refine(eR rfl (by simp) λ_=>rfl).2 ⟨_,_,aX r _ _ a5,(dn rfl (by simp)).2 ⟨_,gF.2 ⟨_,zq,rfl⟩,rfl⟩,?_⟩
          rw[List.map_append]
          rfl
         have Y:(v++[e.born]).Nodup:=by
          rw[List.nodup_append]
          grind
         have u:cJ (λy b=>∃(i:Nat) (m:bQ),zs[i]? =O y/\arr.toList[i]? =O m/\m.born=b) (ys++[.l [kd,U]]) (v++[e.born]):=by
          have key:∀{ys:List ah} {v:List Nat},cJ (λy b=>∃(i:Nat) (m:bQ),zs[i]? =O y/\arr.toList[i]? =O m/\m.born=b) ys v->cJ (λy b=>∃(i:Nat) (m:bQ),zs[i]? =O y/\arr.toList[i]? =O m/\m.born=b) (ys++[.l [kd,U]]) (v++[e.born]):=by
           intro ys
           induction ys with
           |nil=>intro v h;cases v with
            |nil=>exact⟨⟨ix,e,hy,Zz,rfl⟩,trivial⟩
            |cons _ _=>cases h
           |cons y ys ih=>intro v h;cases v with
            |nil=>cases h
            |cons b0 v=>exact⟨h.1,ih h.2⟩
          exact key De
         have abT:M.heap[gm]? =O (.map arr a):=by rw[hw1];exact q1
         have anu:M.heap[g]? =O (.mapIter (O gm) a seen D):=by rw[hw1];exact p1
         have g3:=r _ _ p3
         have w2:=n2.lS (o:= .g_ kt Gz t c (.f 2 [B,.f 11 [.x (bm+s.n)]]) (lj S (oT P Gz (.f 11 [.f 13 [mE Q,mE N]]))) (O (.x (bm+s.n),K,V))) hm g3 (h.nz hm p3) abT
          ⟨xs,zs,_,_,aX r _ _ a1,a2.mono r.z,a3,aX r _ _ p4,hB3,hS3,a7,cJ.imp (λ_ _ he=>he.mono r.z) a8,Y,u,e,zq,hea,cY n1 _ _ l3,n3⟩
         have zk:i≠m:=λe=>by rw[e,hm]at J;cases J
         have amM:(s.h.put m (O (.g_ kt Gz t c (.f 2 [B,.f 11 [.x (bm+s.n)]]) (lj S (oT P Gz (.f 11 [.f 13 [mE Q,mE N]]))) (O (.x (bm+s.n),K,V))))).get i=O (.jk m c B):=by
          rw[Tr.bJ,if_neg zk]
          exact J
         have w3:=w2.putObj (o:= .jk m c (.f 2 [B,.f 11 [.x (bm+s.n)]])) (obj:= .mapIter (O gm) a (seen.push e.born) a) amM (r _ _ hg) ⟨gm,g3,rfl,aX r _ _ p4,rfl,by rw[Af,W];exact hB3⟩
         have T:=du hS3
         have R:=aX r _ _ hct
         have hf1:bh C (.f 41 [cK S,cK t]) Z:=by
          have:=W5 (aX r _ _ hcS) R
          rw[decide_eq_false λhp=> ?_]at this
          ·exact this
          ·have hlen:=hp.length_eq
           rw[fR,fR]at hlen
           have l1:=a7.length_eq
           have l2:ys.length=v.length:=by rw[hys,fR]
           have l3:=a8.length
           have E:(v++[e.born]).length<=(arr.toList.map (·.born)).length:=by
            have:=(LQ Y once (wS u)).length_eq
            rw[cL]at this
            omega
           rw[cL,fR]at E
           grind
         have hf2:bh C (.f 43 [cK (lj S (oT P Gz (.f 11 [.f 13 [mE Q,mE N]]))),cK t]) I:=by
          rw[bd]at T
          have:=W6 T R
          rw[decide_eq_true ?_]at this
          ·exact this
          ·have E:∀b∈v++[e.born],b∈arr.toList.map (·.born):=λb hb=>by
            exact wS u b hb
           have hp:=(LQ Y once E).map (atB (arr.toList.map (·.born)) zs)
           rw[hzs,List.map_append,<-Ga once u]at hp
           grind
         have w4:=(w3.Fx hf1).Fx hf2
         refine⟨C,.tuple #[.bool I,e.key,e.val],_,r,w4,?_,?_⟩
         ·simp[den,bw,cY n1 _ _ l3,n3]
         ·have:(L.map O)[j]? =O (O e):=by simp[he]
          rw[this]
          simp_all[run_bind,gL]
        simp only[f1,f2,amL,kG,if_false,Array.append_empty,Array.empty_append,Array.size_map,bind]
        rw[run_bind]
        simp only[choose,Sem.run]
        by_cases hf:Question.forced (.mapNext L.size)=I
        ·rw[if_pos hf]
         grind
        ·rw[if_neg hf]
         exact alX _ h.drew rfl _ (Nat.mod_lt _ Ky)
      ·cases F
     ·cases F
    ·cases F
   ·cases F
  ·cases F
 ·cases F
theorem YJ(h:aL P w0 A ν s w){it:AV}{IT:aa}{l:List (AV×St)}(a:aaI P s it=O l)(b:den ν it=O IT)(ty:ag):∃p∈l,lN P w0 A ν p.2 p.1 ((Instr.next IT Z ty).run P w):=by unfold aaI at a;split at a;rename_i d c;simp at a;subst a;exact Yu h c b ty;exact YI h a b ty
end
end
section
open RowKit
variable{v:AV}{xs:List ah}{L VS:List aa}{e g i n off p:Nat}{z:Nat->Option Obj}{s':St}{it u:Tm}{t:ag}{V X:aa}
section
variable{P:aw}{w0 w:aj}{A:en}{ν:Nm}{s:St}{T:Tr AV}{N:Nat}{a:Act}{lm:List fV}
theorem yF(h:aL P w0 A ν s w){e:ag}{m:Tm}{c:Option Nat}{arr:Array aa}{R:List aa}{fz:Nat×Nat}{d':ah}(y:s.h.get i=O (.row u e c))(B:ν i=O g)(E:g≠0)(hh:w.heap[g]? =O (.cells arr e fz))(k:MO fz arr.size)(D:arr.toList=L++R)(p:off+VS.length<=L.length)(f:VS.all plainCell=I)(C:ai ν m=O d')(v:bT P ν.z e d' (bx L off VS))(Gz:(c=G->R=[])/\∀c',c=O c'->∃cap b,ν c'=O cap/\P.info? e=O b/\arr.size=cap*b.size):aL P w0 A ν (lK s i (.row m e c)) (putCells w g off VS)/\(storeCells ⟨g,off,G⟩ VS 0).run P w=.ok () (putCells w g off VS):=by have d:arr=(L++R).toArray:=iK D;subst d;have q:nq w g e (L++R).toArray:=⟨fz,hh,k⟩;(have a:off+VS.length<=(L++R).length:=by simp;omega);have⟨o,n⟩:=eF (P:=P) VS 0 (L++R) w off q (by simpa using a) f;simp at o n;refine⟨?_,o⟩;have j:bx (L++R) off VS=bx L off VS++R:=m_ VS L R off (by omega);have⟨F,l,t,_⟩:=Dd.put q.lt off VS n;refine h.write y B ?_ t (λx r=>aS _ r) (λ_ _=>aU) E;refine⟨rfl,l,d',bx L off VS,R,C,v,by simp[j],?_⟩;grind[cF]
theorem LR:∀{a b:List Nat},SE a b=I->a=b|[],[],_=>rfl|x::a,y::b,h=>by unfold SE at h;split at h;rename_i c;rw[an c,LR h];cases h|[],_::_,h=>by cases h|_::_,[],h=>by cases h
theorem jF(h:off+VS.length<=L.length):(bx L off VS)[p]? =if off<=p/\p<off+VS.length then VS[p - off]? else L[p]?:=by rw[jz _ _ _ h];by_cases a:p<off;rw[if_neg (by omega),i7,dw (by rw[bD];omega),eT,if_pos a];grind
theorem LS{k size:Nat}{ts:List ag}{x x':ah}(h:bT P z e (.l xs) L)(f:dG P 8 e=O ts)(g:(P.info? e).map (·.size)=O size)(y:xs[k]? =O x)(A:gK size x')(u:off+VS.length<=size)(t:∀(j:Nat)(c:ah)(p:ag)(v:aa),dQ x' j=O c->ts[j]? =O p->off<=j->j<off+VS.length->VS[j - off]? =O v->cU P z p v c)(s:∀(j:Nat)(c:ah),dQ x' j=O c->¬(off<=j/\j<off+VS.length)->dQ x j=O c):bT P z e (.l (xs.set k x')) (bx L (k*size+off) VS):=by have⟨Gz,w,q,o,n,F,E,Oz,N⟩:=h;rw[f]at o;rw[g]at n;simp at o;simp at n;subst o n;have D:=(cj.1 y).1;have B:(k+1)*size<=xs.length*size:=cV _ D;(have C:(k+1)*size=k*size+size:=by rw[df,fG]);(have b:k*size+off+VS.length<=L.length:=by omega);refine⟨Gz,ts,size,f,g,F,by rw[cF,List.length_set];exact E,λi d m=> ?_,λi j d c p v m M J r=> ?_⟩;rw[List.getElem?_set]at m;grind;(have K:j<size:=by grind);rw[jF b]at r;rw[List.getElem?_set]at m;split at m;grind;rename_i Q;(have:¬(k*size+off<=i*size+j/\i*size+j<k*size+off+VS.length):=λ⟨Iz,H⟩=>by rcases eu i k with a|a;have:(i+1)*size<=k*size:=cV _ a;rw[df,fG]at this;omega;(have a:k<i:=by omega);have:(k+1)*size<=i*size:=cV _ a;omega);rw[if_neg this]at r;grind
theorem xG(b:di P t=O n)(a:V.cells.size=n){w w':aj}(h:(storeCells ⟨g,off,G⟩ V.cells.toList 0).run P w=.ok () w'):(storeVar t ⟨g,off,G⟩ V).run P w=.ok () w':=by show(Sem.bind _ _).run P w=_;rw[run_bind,d_ b];simp_all
theorem UQ(hL:bS lm)(h:aL P w0 A ν s w){t k:Nat}(b:TG P lm s t i e k it off v=O s')(Iz:den ν (.jM i e k it off)=O X)(hv:den ν v=O V):∃q w',Nm.le ν q/\aL P w0 A q s' w'/\(Instr.storeAt t X V).run P w=.ok () w':=by unfold TG at b;simp only at b;split at b;rename_i tm e' c y;split at b;rename_i ts us n z hc hts OP hn hz;split at b;rename_i cs Ke OS;simp only[ay]at hc Ke;have⟨⟨W,c2⟩,c3⟩:=hc;have⟨⟨⟨⟨⟨⟨⟨d1,d2⟩,d3⟩,d4⟩,d5⟩,d6⟩,d7⟩,d8⟩:=Ke;have W:=an W;have d1:=LR d1;have d2:=an d2;have d3:=an d3;have d4:=an d4;have d6:=bz d6;subst W;have uv:=F_ d5;have hcv:=lY hv uv;have⟨p,k1,Y,k3⟩:=qu hL h hcv;have⟨q1,q2,o,q3,q4⟩:=kq hL Y.ctx.pc Y.nU OS k3;(have hVl:V.cells.toList.length=us.length:=by have:=fK k3;omega);simp only[den]at Iz;split at Iz;rename_i g kz hg hk;split at Iz;rename_i C;injection Iz with Iz;subst Iz;have S:=k1 _ _ hg;have B:=aX k1 _ _ hk;obtain⟨f,rfl⟩:=gR C;(have lt:∀(d:ah)(m:Nat),ai p tm=O d->bM d=O m->f<m:=λd m hd hm=>by have:=ea hL Y.ctx.pc B (cM hd hm) rfl c3;grind);(have g0:g≠0:=λe0=>by subst e0;have⟨d,r1,r2,r3,_⟩:=Y.Ey y S;grind);have⟨obj,r1,r2⟩:=Y.VH y S g0;(cases obj<;>simp only[bN]at r2<;>try exact r2.elim);rename_i arr t' fz;obtain⟨rfl,ZC,d,L,R,r3,M,r5,r6⟩:=r2;(have hd':∃xs:List ah,d=.l xs:=by (cases d<;>simp only[bT]at M<;>try exact M.elim);rw[M.1]at d8;cases d8;grind);obtain⟨xs,rfl⟩:=hd';have hkl:=lt _ xs.length r3 (by rfl);have⟨x,Oz⟩:∃x,xs[f]? =O x:=⟨_,aZ hkl⟩;have⟨N,amN,ajI⟩:=ee hz;(have Q:(P.info? t').map (·.size)=O k:=by rw[amN];grind);(have hvs:off+V.cells.toList.length<=k:=by omega);(have hL4:L.length=xs.length*k:=by have⟨_,ts',K,a,D,h3,h4,_⟩:=M;rw[Q]at D;grind);(have S8:f*k+off+V.cells.toList.length<=L.length:=by have:(f+1)*k<=xs.length*k:=cV _ hkl;rw[df,fG]at this;omega);have hpl:V.cells.toList.all plainCell=I:=(qq d5 k3).2;(have amO:gK k x:=by have⟨_,ts',K,a,D,h3,h4,h5,_⟩:=M;rw[Q]at D;grind);(have amP:∀(j:Nat)(F:ag),ts[j]? =O F->off<=j->j<off+us.length->us[j - off]? =O F:=λj F Zz a D=>by have e:=congrArg (λl:List ag=>l[j - off]?) d1;have e:us[j - off]? =(List.take us.length (List.drop off ts))[j - off]?:=e;rw[e,eT,if_pos (by omega),fw,<-Zz];congr 1;omega);(have Β:(c=G->R=[])/\∀c',c=O c'->∃cap N,p c'=O cap/\P.info? t'=O N/\arr.size=cap*N.size:=by grind);(have done:∀{u':Tm}{x':ah},((mD P t'=I->(xs.set f x').map strip=xs.set f x')->ai p u'=O (.l (xs.set f x')))->gK k x'->(∀(j:Nat)(c:ah)(F:ag)(v:aa),dQ x' j=O c->ts[j]? =O F->off<=j->j<off+V.cells.toList.length->V.cells.toList[j - off]? =O v->cU P p.z F v c)->(∀(j:Nat)(c:ah),dQ x' j=O c->¬(off<=j/\j<off+V.cells.toList.length)->dQ x j=O c)->∃q w',Nm.le ν q/\aL P w0 A q (lK (uo P lm (da v) s).2 i (.row u' t' c)) w'/\(Instr.storeAt t (.pointer (O ⟨g,f*k+off,G⟩)) V).run P w=.ok () w':=λ{u' x'} p1 p2 p3 p4=>by have hr:=LS M hts Q Oz p2 hvs p3 p4;have⟨w1,w2⟩:=yF (P:=P) Y y S g0 r1 ZC r5 S8 hpl (p1 λH=>iR H hr) hr Β;exact⟨p,_,k1,w1,xG hn (by rw[<-nZ,hVl,d2]) w2⟩);(have hcd:o.length=us.length:=by have:=lZ q3;omega);(have E:mD P t'=I->strip (.l xs)=.l xs:=λH=>by rw[bd,iR H M]);split at b;rename_i x1 r;have r:=an r;injection b with b;subst b;(have hs1:k=1:=by omega);subst hs1;simp only[ij,List.length_nil]at q2;(have ho:off=0:=by omega);subst ho;obtain⟨W,rr,y1,y2,rfl⟩:=aP.1 q3;rw[eX.1 y2]at*;have⟨V0,hV0⟩:∃V0,V.cells.toList[0]? =O V0:=⟨_,aZ (by omega)⟩;have⟨u0,hu0⟩:∃u0,us[0]? =O u0:=⟨_,aZ (by omega)⟩;have U:=q4 0 u0 W V0 hu0 rfl hV0;refine done (x':=W) (λT=> ?_) ⟨λj=> ?_,λ_=> ?_⟩ (λj c F v a D h3 h4 h5=> ?_) λj c a D=> ?_;refine pZ d7 r3 (λu Gz=> ?_) (λu Gz=> ?_) λH=>⟨E H,by rw[bd,T H]⟩;refine(et (g:=Bg) rfl (by decide) λ_=>rfl).2 ⟨_,_,_,Gz,B,y1,?_⟩;simp only[Bg];rw[if_pos ⟨C,by omega⟩];rfl;rw[bd]at Gz⊢;refine(et (g:=Bg) rfl (by decide) λ_=>rfl).2 ⟨_,_,_,Gz,B,du y1,?_⟩;simp only[Bg];rw[if_pos ⟨C,by rw[fR];omega⟩,List.map_set];rfl;rw[gT U];by_cases Zz:j=0;subst Zz;simp;rw[if_neg Zz];simp;omega;rw[gT U];rfl;(have Zz:j=0:=by omega);subst Zz;rw[gT U]at a;injection a with a;subst a;exact q4 0 F W v (amP 0 F D (ba _) (by omega)) rfl h5;grind[gT];cases b;rename_i zk;injection b with b;subst b;have zk:=fQ zk;obtain⟨ds,rfl,kQ⟩:=AD amO (by omega);(have anv:(ds.take off++o++ds.drop (off+o.length)).length=k:=by grind);(have J:∀j,(ds.take off++o++ds.drop (off+o.length))[j]? =if off<=j/\j<off+o.length then o[j - off]? else ds[j]?:=λj=>by by_cases a:j<off;rw[if_neg (by omega),i7,dw (by rw[bD];omega),eT,if_pos a];by_cases D:j<off+o.length;rw[if_pos ⟨by omega,D⟩,i7,eh (by rw[bD];omega),dw (by rw[bD];omega)];grind;rw[if_neg (by omega),eh (by simp only[cL,bD];omega),fw];grind);refine done (x':=.l (ds.take off++o++ds.drop (off+o.length))) (λT=> ?_) ?_ (λj c F v a D h3 h4 h5=> ?_) λj c a D=> ?_;refine pZ d7 r3 (λu Gz=> ?_) (λu Gz=> ?_) λH=>⟨E H,by rw[bd,T H]⟩;refine(dn rfl (by decide)).2 ⟨_,aP.2 ⟨_,_,Gz,aP.2 ⟨_,_,B,aP.2 ⟨_,_,rfl,q3,rfl⟩,rfl⟩,rfl⟩,?_⟩;show om (.l xs::.n (f:Int)::.n (.ofNat off)::o)=_;simp only[om];rw[if_pos ⟨C,bO _⟩,show((f:Nat):Int).toNat=f from rfl,Oz];simp only[uq];rw[show(cq off).toNat=off from rfl,if_pos (by omega)];rw[bd]at Gz⊢;refine(dn rfl (by decide)).2 ⟨_,aP.2 ⟨_,_,Gz,aP.2 ⟨_,_,B,aP.2 ⟨_,_,rfl,nM (λt _ d hd=>du hd) q3,rfl⟩,rfl⟩,rfl⟩,?_⟩;show om (.l (xs.map strip)::.n (f:Int)::.n (.ofNat off)::o.map strip)=_;simp only[om];rw[if_pos ⟨C,bO _⟩,show((f:Nat):Int).toNat=f from rfl,dg,Oz];simp only[Option.map_some,bd,uq];rw[show(cq off).toNat=off from rfl,if_pos (by simp only[fR];omega)];grind[List.map_set,bd,List.map_take,List.map_drop];grind[BU];simp only[dQ]at a;rw[J,if_pos ⟨h3,by omega⟩]at a;grind;simp only[dQ]at a⊢;rw[J,if_neg (by omega)]at a;exact a;cases Iz;cases Iz;cases b;cases b;cases b
theorem ago(e:p+n<=L.length)(d:off+VS.length<=n):bx L (p+off) VS=bx L p (bx ((L.drop p).take n) off VS):=by (have b:((L.drop p).take n).length=n:=by rw[bD,dZ];omega);apply ig;intro j;rw[jF (by omega),jF (by rw[cF];omega),cF,b];by_cases c:p<=j/\j<p+n;rw[if_pos c,jF (by omega)];by_cases a:p+off<=j/\j<p+off+VS.length;rw[if_pos a,if_pos (by omega)];congr 1;omega;rw[if_neg a,if_neg (by omega),eT,if_pos (by omega),fw];congr 1;omega;grind
theorem agp{vs:List aa}(d:p+vs.length<=L.length)(c:off+VS.length<=vs.length):bx (bx L p vs) (p+off) VS=bx L p (bx vs off VS):=by apply ig;intro j;rw[jF (by rw[cF];omega),jF d,jF (by rw[cF];omega),cF];by_cases b:p<=j/\j<p+vs.length;rw[if_pos b,if_pos b,jF c];by_cases a:p+off<=j/\j<p+off+VS.length;rw[if_pos a,if_pos (by omega)];congr 1;omega;rw[if_neg a,if_neg (by omega)];grind
theorem adB(h:aL P w0 A ν s w){k:Nat}{e:ag}{c:Option Nat}{cs:List AV}{o0:bF}{arr:Array aa}{R vs:List aa}{fz:Nat×Nat}(N:s.h.get i=O o0)(Oz:ν i=O g)(T:g≠0)(hh:w.heap[g]? =O (.cells arr e fz))(q:MO fz arr.size)(S:arr.toList=bx L (k*vs.length) vs++R)(F:di P e=O vs.length)(Q:ai ν u=O (.l xs))(D:bT P ν.z e (.l xs) L)(t:ai ν it=O (.n (cq k)))(Gz:k<xs.length)(j:off+VS.length<=vs.length)(o:VS.all plainCell=I)(y:bw ν cs=O (bx vs off VS))(W:(c=G->R=[])/\∀c',c=O c'->∃cap b,ν c'=O cap/\P.info? e=O b/\arr.size=cap*b.size):aL P w0 A ν (lK s i (.lh u e c it cs)) (putCells w g (k*vs.length+off) VS)/\(storeCells ⟨g,k*vs.length+off,G⟩ VS 0).run P w=.ok () (putCells w g (k*vs.length+off) VS):=by (have r:k*vs.length+vs.length<=L.length:=by have⟨_,ts,size,Zz,J,Y,X,_⟩:=D;have⟨b,f,H⟩:=ee F;rw[f]at J;simp at J;have:(k+1)*size<=xs.length*size:=cV _ Gz;rw[df,fG]at this;(have V:size=vs.length:=by omega);subst V;omega);have m:arr=(bx L (k*vs.length) vs++R).toArray:=iK S;subst m;have Iz:nq w g e (bx L (k*vs.length) vs++R).toArray:=⟨fz,hh,q⟩;have a:(bx L (k*vs.length) vs).length=L.length:=cF _ _ _;(have d:k*vs.length+off+VS.length<=(bx L (k*vs.length) vs++R).length:=by simp[a];omega);have⟨C,B⟩:=eF (P:=P) VS 0 (bx L (k*vs.length) vs++R) w (k*vs.length+off) Iz (by simpa using d) o;simp at C B;refine⟨?_,C⟩;(have p:bx (bx L (k*vs.length) vs++R) (k*vs.length+off) VS=bx L (k*vs.length) (bx vs off VS)++R:=by rw[m_ VS _ R _ (by rw[a];omega),agp r j]);have⟨U,v,M,_⟩:=Dd.put Iz.lt (k*vs.length+off) VS B;refine h.write N Oz ?_ M (λx K=>aS _ K) (λ_ _=>aU) T;have E:=cF VS vs off;refine⟨rfl,v,xs,L,R,k,bx vs off VS,Q,D,t,Gz,y,by rw[E];exact F,by rw[E];simp[p],?_⟩;grind[cF]
theorem YK(h:p+n<=L.length):bx L p ((L.drop p).take n)=L:=by have:=ago (L:=L) (VS:=[]) (off:=0) h (dy _);simpa[bx]using this.symm
theorem UR(hL:bS lm)(h:aL P w0 A ν s w){t sz:Nat}(a:TH P lm s t i e sz it off v=O s')(f:den ν (.jM i e sz it off)=O X)(hv:den ν v=O V):∃x w',Nm.le ν x/\aL P w0 A x s' w'/\(Instr.storeAt t X V).run P w=.ok () w':=by unfold TH at a;split at a;rename_i n z hn hz;split at a;rename_i hc;simp only[ay]at hc;have⟨⟨Zz,c2⟩,j⟩:=hc;have Zz:=an Zz;have c2:=an c2;subst Zz;have r:=lY hv j;have K:=(qq j r).2;(have W:V.cells.toList.length=n:=by have:=fK r;omega);simp[den]at f;split at f;rename_i g kz S Q;split at f;rename_i E;simp at f;subst f;obtain⟨D,rfl⟩:=gR E;have⟨inf,F,ajI⟩:=ee hz;(have J:(P.info? e).map (·.size)=O z:=by rw[F];simp_all);split at a;rename_i tm e' c b;split at a;rename_i u o Oz;simp only[ay]at o;have⟨⟨⟨⟨d3,d4⟩,Y⟩,d1⟩,d2⟩:=o;have Y:=an Y;subst Y;split at a;rename_i T;simp only[ay]at T;have f1:=bz T.1;have f2:=an T.2;simp at a;subst a;(have lt:∀(d:ah)(m:Nat),ai ν tm=O d->bM d=O m->D<m:=λd m hd N=>by have:=ea hL h.ctx.pc Q (cM hd N) rfl d2;grind);(have g0:g≠0:=λe0=>by subst e0;have⟨d,r1,Iz,H,_⟩:=h.Ey b S;grind);have⟨obj,r1,Iz⟩:=h.VH b S g0;(cases obj<;>simp only[bN]at Iz<;>try exact Iz.elim);rename_i arr t' fz;obtain⟨rfl,M,d,L,R,H,B,r5,r6⟩:=Iz;(have U:∃xs:List ah,d=.l xs:=by (cases d<;>simp only[bT]at B<;>try exact B.elim);cases (jB d4) B.1;simp_all);obtain⟨xs,rfl⟩:=U;have q:=lt _ xs.length H (by rfl);have y:=B;simp only[bT]at y;have⟨q0,ts,size,q1,C,q3,q4,q5,q6⟩:=y;have Gz:=KE (L:=L) Oz H Q E q q1 C q3 (by omega) q5 q6;rw[J]at C;simp at C;subst C;simp at Gz;have N:(D+1)*z<=xs.length*z:=cV _ q;rw[df,fG]at N;(have p:((L.drop (D*z)).take u.length).length=z:=by rw[bD,dZ];omega);have:=adB (P:=P) h (vs:=(L.drop (D*z)).take u.length) (k:=D) (off:=off) (VS:=V.cells.toList) (cs:=KR u off (da v)) (L:=L) (R:=R) (c:=c) (u:=tm) (it:=it) b S g0 r1 M (by rw[p,f2,YK (by omega)];exact r5) (by rw[p];exact hz) H B Q q (by omega) K (wG off Gz r) (by grind);rw[p]at this;exact⟨ν,_,Nm.le.refl _,this.1,xG hn (by omega) this.2⟩;cases a;cases a;(first|contradiction|simp_all|grind|omega);cases a;cases f;cases f;cases a;cases a
theorem LU{size:Nat}{d:ah}{Zz:List aa}{ts:List ag}(r:P.underlying e≠O (.int .u8))(g:dG P 8 e=O ts)(h:(P.info? e).map (·.size)=O size)(o:ts.length=size)(q:Zz.length=size)(k:gK size d)(u:∀(j:Nat)(c:ah)(f:ag)(W:aa),dQ d j=O c->ts[j]? =O f->Zz[j]? =O W->cU P z f W c):bT P z e (.l (fF n d)) (lx Zz n):=by (have b:(lx Zz n).length=n*size:=by induction n with|zero=>simp[lx]|succ n m=>simp[lx,m,q,df];omega);refine⟨r,ts,size,g,h,o,by rw[b,D1],λi x a=> ?_,λi j x c f v a p t s=> ?_⟩;rw[List.getElem?_replicate]at a;split at a;simp at a;subst a;exact k;cases a;grind[FQ,Nat.mul_comm,Nat.mul_add_mod,Nat.mod_eq_of_lt]
theorem YL(hL:bS lm)(h:aL P w0 A ν s w){l c:AV}{L C:aa}(x:aaG P lm s t l c=O (v,s'))(hl:den ν l=O L)(hc:den ν c=O C):lN P w0 A ν s' v ((Instr.makeSlice t L C).run P w):=by unfold aaG at x;split at x;rename_i e n m hu hn hmm;split at x;rename_i b z X hz;split at x;rename_i E;simp only[ay]at E;have⟨⟨⟨⟨c1,c2⟩,c3⟩,c4⟩,c5⟩:=E;have c5:=bz c5;obtain⟨rfl,rfl⟩:=x;obtain⟨k1,n1,d1,rfl⟩:=nE hn hl;obtain⟨k2,n2,Oz,rfl⟩:=nE hmm hc;rw[<-bj c1,d1]at Oz;injection Oz with Oz;simp at Oz;subst Oz;have g1:=nQ hL h.ctx.pc d1 c3;have g2:=ea hL h.ctx.pc d1 (show ai ν (.c (.ofNat most))=O (.n (.ofNat most))from rfl) rfl c4;simp only[decide_eq_true_eq]at g2;obtain⟨a,rfl⟩:=gR g1;(have g2:a<=most:=by simpa using g2);have⟨hnb,ts,size,Q,F,j⟩:=kj c2;unfold uV at hz;split at hz;rename_i za hza;have⟨Zz,hZ,rz⟩:=jA (P:=P) (ν:=ν) hza;have⟨d,ts',q1,q2,q3,q4,q5,q6⟩:=BV hL h.ctx.pc h.nU hz hZ;rw[Q]at q1;simp at q1;subst q1;(have R:b.size=size:=by rw[X]at F;simpa using F);(have Gz:di P e=O b.size:=by unfold di;rw[X]);(have M:Zz.cells.size=b.size:=by rw[<-nZ,q4,j,R]);have r:bT P ν.z e (.l (fF a d)) (lx Zz.cells.toList a):=LU hnb Q F j (by rw[q4,j]) (by rw[<-j];exact q3) q6;(have T:ai ν (.f 29 [n,z])=O (.l (fF a d)):=by refine(eR rfl (by simp) λ_=>rfl).2 ⟨_,_,d1,q2,?_⟩;simp only[Ep];rw[if_pos (by omega)];rfl);have Iz:=Qk T r;have w1:=wrap_small g2;(have p:∀z0:Array aa,z0=(if a*b.size=0 then #[]else Zz.cells)->((tu (a*b.size)).map λi=>z0[i%z0.size]!).toList=lx Zz.cells.toList a:=λz0 hz0=>by subst hz0;by_cases y:a*b.size=0;rw[if_pos y];(have:lx Zz.cells.toList a=[]:=by rcases Nat.mul_eq_zero.1 y with h1|h1;rw[h1];rfl;have:Zz.cells.toList=[]:=lF (by simpa[h1]using M);rw[this];exact Az _);rw[this,y];simp;rw[if_neg y];have:=vw Zz.cells a;rw[M]at this;rw[M];exact this);(have S:(Instr.makeSlice t (.int k1 (a:Int)) (.int k2 (a:Int))).run P w=.ok (.slice (O ⟨w.heap.size,0,G⟩) a a) (w.alloc (.cells (lx Zz.cells.toList a).toArray e)):=by simp only[Instr.makeSlice,bind,asInt,asIntOf,pure,Sem.bind];rw[run_bind,run_underlying hu];simp only;rw[run_bind,vk X];have w1':IntKind.i64.wrap ((a:Nat):Int)=((a:Nat):Int):=w1;simp only[w1'];have q:a*b.bytes<=most*most:=Nat.mul_le_mul g2 c5;unfold most at q;(have J:(decide ((a:Int)<0)||decide ((b.bytes:Int)*(a:Int)>2^48)||decide ((a:Int)<0)||decide ((a:Int)>(a:Int)))=Z:=by (have xc:(b.bytes:Int)*(a:Int)<=1000000000000:=by have h1:a*b.bytes<=1000000000000:=q;have N:=Int.ofNat_le.2 h1;rw[Int.natCast_mul,Int.mul_comm]at N;exact N);(have p48:(2:Int)^48=281474976710656:=by rfl);rw[decide_eq_false (by omega:¬(a:Int)<0),decide_eq_false (by rw[p48];omega:¬(b.bytes:Int)*(a:Int)>2^48),decide_eq_false (by omega:¬(a:Int)>(a:Int))];rfl);rw[J];simp only[kG,if_false,ei];(have H:(askRoom (a*b.bytes)).run P w=.ok () w:=by unfold askRoom;split<;>rfl);rw[run_bind,H];simp only;rw[run_bind,d_ Gz];simp only;by_cases y:a*b.size=0;rw[if_pos y];have K:=p #[] (by rw[if_pos y]);show Result.ok _ (w.alloc _)=_;rw[<-K];rw[if_neg y,run_bind,rz];simp;have K:=p Zz.cells (by rw[if_neg y]);show Result.ok _ (w.alloc _)=_;rw[<-K]);have V:=h.top (s.n+1) (by omega);have hdn:=h.name (k:=s.n+1) (n':=s.n+2) V (by omega) (by omega) a;(have W:(ν.set (s.n+1) a) s.n=G:=by simp only[Nm.set];rw[if_neg (by omega)];exact h.top _ (ba _));have B:=Nm.fP V a;have u:=Nm.fP W w.heap.size;have Y:(Nm.set (ν.set (s.n+1) a) s.n w.heap.size) (s.n+1)=O a:=u _ _ (Nm.cx _ _ _);have D:=aX (B.trans u) _ _ Iz;(have U:(lx Zz.cells.toList a).length=a*b.size:=by have⟨_,ts2,anw,_,N,_,h4,_⟩:=r;rw[X]at N;simp at N;rw[h4,D1,N]);have hw:=hdn.alloc (k:=s.n) (n':=s.n+2) (o:=.row (oT P e (.f 29 [n,z])) e (O (s.n+1))) (obj:=.cells (lx Zz.cells.toList a).toArray e (0,0)) W (by simp) (by omega) ⟨rfl,K_ _,_,lx Zz.cells.toList a,[],D,r,by simp,a,b,Y,X,by simpa using U⟩;refine⟨_,.slice _ a a,_,B.trans u,hw,?_,S⟩;refine pV (Nm.cx _ _ _) (by have:=h.X4;omega) (cM D (by simp[bM])) ?_ (ba _);simp_all[cX];cases hz;cases x;cases x;cases x
theorem aL.Nj(h:aL P w0 A ν s w)(i:Nat):aL P w0 A ν {s with log:=i::s.log} w:=⟨h.pos,h.dz,h.top,h.fX,h.inj,h.ext,h.xb,λj o c a=>h.same j o c (λb=>a (aS _ b)),h.sT,h.nv,h.own,h.ctx,h.mu,h.lq,h.nU,h.kR,h.kS⟩
theorem LV{ys:List ah}{M:List aa}(h:bT P z e (.l xs) L)(k:bT P z e (.l ys) M):bT P z e (.l (xs++ys)) (L++M):=by have⟨u,ts,size,p,o,t,s,F,E⟩:=h;have⟨_,q,m,b,a,A,r,y,x⟩:=k;rw[p]at b;rw[o]at a;simp at b;simp at a;subst b a;refine⟨u,ts,size,p,o,t,by rw[cL,cL,s,r,df],λi d g=> ?_,λi j d c w v g D B n=> ?_⟩;rw[List.getElem?_append]at g;grind;(have C:j<size:=by grind);rw[List.getElem?_append]at g;split at g;rename_i f;have:(i+1)*size<=xs.length*size:=cV _ f;rw[df,fG]at this;rw[dw (by omega)]at n;grind;rename_i f;(have f:xs.length<=i:=by omega);have:xs.length*size<=i*size:=cV _ f;rw[eh (by omega)]at n;grind[Nat.sub_mul]
theorem QA{t:Tm}{ys:List ah}(h:ai ν t=O (.l xs))(k:ai ν u=O (.l ys))(o:ys.length<=xs.length):ai ν (Z7 t u)=O (.l (ys++xs.drop ys.length)):=by (have one:∀{a b:Tm}{p q:List ah},ai ν a=O (.l p)->ai ν b=O (.l q)->q.length<=p.length->ai ν (.f 30 [a,.c 0,b])=O (.l (q++p.drop q.length)):=λ{a b p q} j i e=>by refine(et rfl (by simp) λ_=>rfl).2 ⟨_,_,_,j,rfl,i,?_⟩;simp only[Ks];rw[if_pos ⟨by omega,by omega⟩];simp only[Int.toNat_zero,List.take_zero,fT,Nat.sub_zero,ew];rw[fJ e]);unfold Z7;split;rename_i a c b d j i;rw[fq j]at h;rw[fq i]at k;have⟨s,n⟩:=dr.1 h;have⟨r,m⟩:=dr.1 k;rw[bd]at n m;refine dr.2 ⟨one s r o,?_⟩;rw[bd,List.map_append,List.map_drop];have:=one n m (by simpa using o);simpa using this;simp_all
theorem YM(hL:bS lm)(h:aL P w0 A ν s w){tx ty:ag}{x y:AV}{Y:aa}(f:aaF P lm s t tx x y=O (v,s'))(hx:den ν x=O X)(hy:den ν y=O Y):lN P w0 A ν s' v ((Builtin.copy_ #[t,tx] ty #[X,Y]).run P w):=by
 unfold aaF at f
 split at f
 ·rename_i e i n c0 hu
  split at f
  ·rename_i u e' c j b hi
   split at f
   ·rename_i nt nl hc hn
    split at f
    ·rename_i K
     simp only[ay]at hc
     have⟨⟨⟨c1,c2⟩,c3⟩,c4⟩:=hc
     have c1:=an c1
     subst c1
     obtain⟨rfl,rfl⟩:=f
     have⟨d,m,dj,k1,Oz,k3,Gz,F⟩:=tN hL h hi hn hy
     have C:=jB c3
     have U:∃ys,d=.l ys:=by
      cases d<;>simp only[bT]at Gz<;>try exact Gz.elim
      ·cases C Gz.1
      simp_all
     obtain⟨ys,rfl⟩:=U
     simp[bM]at k3
     subst k3
     have B:di P e=O j.size:=by unfold di;rw[hi]
     have k:∀(base:Option Addr)(xl cap:Nat),ys.length<=xl->(Builtin.copy_ #[t,tx] ty #[.slice base xl cap,Y]).run P w=
      (match base with
       |O a=>((storeCells a dj 0).bind λ_=>pure (goInt ys.length)).run P w
       |G=>.ok (goInt ys.length) w):=λbase xl cap W=>by
      simp only[Builtin.copy_,js,List.getElem?_cons_zero,List.getElem?_cons_succ]
      show(Sem.bind _ _).run P w=_
      rw[run_bind,run_underlying hu]
      show(Sem.bind _ _).run P w=_
      rw[run_bind,F.len w]
      show(Sem.bind _ _).run P w=_
      rw[run_bind,d_ B]
      show(Sem.bind _ _).run P w=_
      rw[show Nat.min ys.length xl=ys.length from ju W,run_bind,F.cells]
      cases base<;>rfl
     obtain⟨E,N,_,⟨a',rfl⟩,_⟩|⟨g,m2,cap,E,q0,N,q3,q4,rfl⟩:=ek hx
     ·
      have hl0:=iG hL h.ctx.pc Oz N K
      have H:ys=[]:=jv.1 (by omega)
      subst H
      have hN:dj=[]:=lF (by have:=F.newsLen;grind)
      subst hN
      have⟨M,T,r,S,D⟩:=h.Ey b E
      have hd0:M=.l []:=by
       cases M<;>simp only[bT]at r<;>try exact r.elim
       ·cases C r.1
       simp_all[bM]
      subst hd0
      have p:=QA T k1 (ba _)
      have hW:aL P w0 A ν (lK s i (.row (Z7 u nt) e c)) w:=by
       have:=h.wy (o:=.row (Z7 u nt) e c) b E (.inl ⟨rfl,?_⟩)
       ·exact this.Nj i
       simp_all[iU]
      refine⟨ν,goInt 0,w,Nm.le.refl _,hW,by simp only[den,Oz];rfl,?_⟩
      rw[k a' 0 0 (ba _)]
      cases a'<;>rfl
     ·have hl0:=iG hL h.ctx.pc Oz N K
      have⟨obj,T,r⟩:=h.VH b E q0
      cases obj<;>simp only[bN]at r<;>try exact r.elim
      rename_i arr t' fz
      obtain⟨rfl,Zz,M,L,R,S,D,r5,r6⟩:=r
      have V:∃xs,M=.l xs:=by
       cases M<;>simp only[bT]at D<;>try exact D.elim
       ·cases C D.1
       ·exact⟨_,rfl⟩
      obtain⟨xs,rfl⟩:=V
      have hm2:m2=xs.length:=by
       have:=kK c2 N (cM S (n:=xs.length) (by simp[bM]))
       simp at this
       omega
      have Iz:(P.info? t').map (·.size)=O j.size:=by rw[hi];rfl
      have hLl:L.length=xs.length*j.size:=by
       have⟨_,_,size,_,Q,_,h4,_⟩:=D
       rw[Iz]at Q
       simp at Q
       rw[h4,Q]
      have q:0+dj.length<=L.length:=by
       rw[F.newsLen,hLl,ew]
       exact cV _ (by omega)
      have p:=QA S k1 (by omega)
      have J:bT P ν.z t' (.l (ys++xs.drop ys.length)) (bx L 0 dj):=by
       rw[jz _ _ _ q,ew,List.take_zero,fT,F.newsLen]
       exact LV Gz (GU Iz D (by omega))
      have⟨w1,w2⟩:=yF (P:=P) h b E q0 T Zz r5 q (cm.2 λv hv=>(nF Gz v hv).2) p J ⟨λe=>by subst e;exact r6,λc' e=>by subst e;exact r6⟩
      refine⟨ν,goInt ys.length,_,Nm.le.refl _,w1,by simp only[den,Oz];rfl,?_⟩
      rw[k _ m2 cap (by omega)]
      simp_all[run_bind]
    ·cases f
   ·cases f
  ·cases f
 ·cases f
theorem US(hL:bS lm)(h:aL P w0 A ν s w){ty:ag}{x:AV}(B:TI P lm s t x=O s')(hx:den ν x=O X):lN P w0 A ν s' jN ((Builtin.clear_ #[t] ty #[X]).run P w):=by
 unfold TI at B
 split at B
 ·rename_i e i e' sz C n c0 hu
  split at B
  ·rename_i u e'' c z d V
   split at B
   ·rename_i hc
    simp only[ay]at hc
    have⟨⟨⟨⟨⟨c1,c2⟩,c3⟩,c4⟩,c5⟩,c6⟩:=hc
    have c1:=an c1
    have c2:=an c2
    subst c1 c2
    injection B with B
    subst B
    have hnb:=jB c4
    have⟨y,hzz,hze⟩:∃y,di P e=O y/\y=sz:=by
     grind[an]
    subst hze
    have⟨inf,S,ajI⟩:=ee hzz
    have F:(P.info? e).map (·.size)=O y:=by rw[S];simp_all
    unfold uV at V
    split at V
    ·rename_i za hza
     have⟨Zz,hZ,rz⟩:=jA (P:=P) (ν:=ν) hza
     have⟨W,ts',v1,v2,v3,v4,v5,v6⟩:=BV hL h.ctx.pc h.nU V hZ
     have term:∀{Gz:ah}{L:List aa}{k:Nat},ai ν u=O Gz->bT P ν.z e Gz L->ai ν C=O (.n ((k:Nat):Int))->(∀m,bM Gz=O m->k<=m)->∃xs ts,Gz=.l xs/\dG P 8 e=O ts/\ts.length=y/\(∀L',bT P ν.z e (.l (xs.take k++fF (xs.length - k) W)) L'->ai ν (both u (λa=>.f 28 [a,C,z]) λc=>.f 28 [c,C,cK z])=O (.l (xs.take k++fF (xs.length - k) W))):=λ{Gz L k} h1 Iz h3 h4=>by
      cases Gz<;>simp only[bT]at Iz<;>try exact Iz.elim
      ·simp_all
      ·rename_i xs
       have OQ:bT P ν.z e (.l xs) L:=by simp only[bT];exact Iz
       have⟨_,ts,size,g1,g2,g3,_⟩:=Iz
       rw[F]at g2
       injection g2 with g2
       have hk:=h4 xs.length (by rfl)
       have one:∀{a b:Tm}{p:List ah}{q:ah},p.length=xs.length->ai ν a=O (.l p)->ai ν b=O q->ai ν (.f 28 [a,C,b])=O (.l (p.take k++fF (p.length - k) q)):=λ{a b p q} hp N hb=>by
        refine(et (g:=qV) rfl (by decide) λ_=>rfl).2 ⟨_,_,_,N,h3,hb,?_⟩
        simp_all[qV]
       refine⟨xs,ts,rfl,g1,by omega,λL' hL'=> ?_⟩
       refine pZ c5 h1 (λa N=>one rfl N v2) (λa N=> ?_) λhf=>⟨by rw[bd,iR hf OQ],by rw[bd,iR hf hL']⟩
       rw[bd]at N⊢
       have:=one (by simp) N (du v2)
       rw[this]
       simp
     have hZl:Zz.cells.toList.length=ts'.length:=v4
     rcases Oq hx with⟨J,q2,q3,a',rfl⟩|⟨g,j,b0,m0,J,q0,q2,q3,hab,hbm,rfl⟩
     ·have⟨Gz,U,M,r3,r4⟩:=h.Ey d J
      obtain⟨xs,ts,rfl,t1,T,t3⟩:=term (k:=0) U M q2 (λ_ _=>dy _)
      have hx0:xs=[]:=by
       simp_all[bM]
      subst hx0
      have E:=t3 [] (by simpa using M)
      have hW:aL P w0 A ν (lK s i (.row (both u (λa=>.f 28 [a,C,z]) λc=>.f 28 [c,C,cK z]) e c)) w:=by
       have:=h.wy (o:=.row (both u (λa=>.f 28 [a,C,z]) λc=>.f 28 [c,C,cK z]) e c) d J (.inl ⟨rfl,?_⟩)
       ·exact this.Nj i
       simp_all[iU]
      refine⟨ν,.tuple #[],w,Nm.le.refl _,hW,rfl,?_⟩
      unfold Builtin.clear_
      simp only[js,List.getElem?_cons_zero,bind]
      rw[run_bind,run_underlying hu]
      cases a'<;>rfl
     ·have⟨obj,U,M⟩:=h.VH d J q0
      cases obj<;>simp only[bN]at M<;>try exact M.elim
      rename_i arr Oz fz
      obtain⟨rfl,Q,Gz,L,R,r3,r4,r5,r6⟩:=M
      have Xz:∀m,bM Gz=O m->b0=m:=λm B=>by
       have:=kK c3 q3 (cM r3 B)
       grind
      obtain⟨xs,ts,rfl,t1,T,t3⟩:=term (k:=j) r3 r4 q2 (λm B=>by simp_all)
      have hb:=Xz xs.length (by rfl)
      subst hb
      rw[t1]at v1
      injection v1 with v1
      subst v1
      have hLl:L.length=xs.length*y:=by
       have⟨_,_,size,_,Iz,_,h4,_⟩:=r4
       rw[F]at Iz
       simp_all
      have D:bT P ν.z Oz (.l (fF (xs.length - j) W)) (lx Zz.cells.toList (xs.length - j)):=LU hnb t1 F T (by rw[hZl,T]) (by rw[<-T];exact v3) v6
      have hrl:(lx Zz.cells.toList (xs.length - j)).length=(xs.length - j)*y:=by
       have⟨_,_,size,_,Iz,_,h4,_⟩:=D
       rw[F]at Iz
       simp_all
      have hmul:j*y+(xs.length - j)*y=xs.length*y:=by rw[<-df];congr 1;omega
      have H:j*y+(lx Zz.cells.toList (xs.length - j)).length<=L.length:=by omega
      have K:bT P ν.z Oz (.l (xs.take j)) (L.take (j*y)):=by
       grind[yD]
      have r:bT P ν.z Oz (.l (xs.take j++fF (xs.length - j) W)) (bx L (j*y) (lx Zz.cells.toList (xs.length - j))):=by
       rw[jz _ _ _ H,List.drop_of_length_le (by omega),i_]
       exact LV K D
      have E:=t3 _ r
      have hpl:(lx Zz.cells.toList (xs.length - j)).all plainCell=I:=cm.2 λv hv=>(nF D v hv).2
      have⟨w1,Y⟩:=yF (P:=P) h d J q0 U Q r5 H hpl E r ⟨λe=>by grind,λc' e=>by grind⟩
      by_cases h0:xs.length - j=0
      ·
       rw[h0]at w1 Y r
       have e0:bx L (j*y) (lx Zz.cells.toList 0)=L:=by simp[lx,bx]
       rw[e0]at r
       have hW:aL P w0 A ν (lK s i (.row (both u (λa=>.f 28 [a,C,z]) λc=>.f 28 [c,C,cK z]) Oz c)) w:=by
        have:=h.wy (o:=.row (both u (λa=>.f 28 [a,C,z]) λc=>.f 28 [c,C,cK z]) Oz c) d J (.inr ⟨_,(h.Cx d J q0).elim λ_ hh=>hh.1,U,rfl,Q,_,L,R,E,by rw[h0];exact r,r5,r6⟩)
        exact this.Nj i
       refine⟨ν,.tuple #[],w,Nm.le.refl _,hW,rfl,?_⟩
       rw[h0]
       simp_all[Builtin.clear_,run_underlying]
      ·refine⟨ν,.tuple #[],_,Nm.le.refl _,w1,rfl,?_⟩
       rw[if_neg (by omega)]
       have⟨k,hk⟩:∃k,xs.length - j=k+1:=⟨xs.length - j - 1,by omega⟩
       rw[hk]at Y⊢
       unfold Builtin.clear_
       simp only[js,List.getElem?_cons_zero,bind]
       rw[run_bind,run_underlying hu]
       simp only[]
       rw[run_bind,rz w]
       simp only[]
       rw[show(Builtin.zeroCells Zz.cells (k+1)).toList=lx Zz.cells.toList (k+1)from vw _ _,run_bind,Y]
       rfl
    ·cases V
   ·cases B
  ·cases B
 ·cases B
theorem QB{o:aY}(Gz:bS lm)(h:aL P w0 A ν s w)(j:eG ν T N a.tmps)(d:Z' P lm s T o.op=O (v,s')):zV P w0 A ν s' v ((execOp a.eval o).run P w):=by (cases g:o.op<;>rw[g]at d<;>simp only[Z']at d<;>try(cases d;done));(case store t x y=>split at d;rename_i i e S it off u B L;(have fin:∀E,(∃f w',Nm.le ν f/\aL P w0 A f E w'/\(Instr.storeAt t (a.eval x) (a.eval y)).run P w=.ok () w')->zV P w0 A ν E jN ((execOp a.eval o).run P w):=λE ⟨f,w',J,Iz,H⟩=>by refine⟨f,undef,w',J,Iz,rfl,.inr ⟨?_,rfl⟩⟩;(have e:execOp a.eval o=Sem.bind (Instr.storeAt t (a.eval x) (a.eval y)) λ_=>Sem.pure Next.skip:=by unfold execOp;rw[g];rfl);rw[e];exact vu H);split at d;rename_i E D;simp at d;obtain⟨rfl,rfl⟩:=d;exact fin _ (UR Gz h D (j.evA B) (j.evA L));rw[bZ]at d;have⟨E,D,C⟩:=d;simp at C;obtain⟨rfl,rfl⟩:=C;exact fin _ (UQ Gz h D (j.evA B) (j.evA L));cases d);(case makeSlice t l c=>split at d;rename_i u R L Oz;have:=YL (P:=P) Gz h d (j.evA L) (j.evA Oz);(have e:execOp a.eval o=Sem.bind (Instr.makeSlice t (a.eval l) (a.eval c)) λv=>Sem.pure (Next.value v):=by unfold execOp;rw[g];rfl);rw[e];exact this.n;cases d);(case range t x=>split at d;rename_i u L;have:=UP (P:=P) h d (j.evA L);(have e:execOp a.eval o=Sem.bind (Instr.range t (a.eval x)) λv=>Sem.pure (Next.value v):=by unfold execOp;rw[g];rfl);rw[e];exact this.n;cases d);(case call c=>split at d;rename_i Q;split at d;rename_i x y t tx z K;split at d;rename_i p q B F;have:=YM (P:=P) (ty:=o.type) Gz h d (j.evA B) (j.evA F);rw[gw g Q,iK z,iK K];simp;exact this.n;cases d;cases d;(first|contradiction|simp_all|grind|omega);rename_i Q;split at d;rename_i x t z K;split at d;rename_i p B;rw[bZ]at d;have⟨E,D,C⟩:=d;simp at C;obtain⟨rfl,rfl⟩:=C;have:=US (P:=P) (ty:=o.type) Gz h D (j.evA B);rw[gw g Q,iK z,iK K];simp;exact this.n;cases d;cases d;cases d);(case mapUpdate t m k x=>split at d;rename_i p q r B F M;rw[bZ]at d;have⟨E,D,C⟩:=d;simp at C;obtain⟨rfl,rfl⟩:=C;have⟨f,w',J,Iz,H⟩:=CX (P:=P) Gz h D (j.evA B) (j.evA F) (j.evA M);refine⟨f,undef,w',J,Iz,rfl,.inr ⟨?_,rfl⟩⟩;(have e:execOp a.eval o=Sem.bind (Instr.mapUpdate t (a.eval m) (a.eval k) (a.eval x)) λ_=>Sem.pure Next.skip:=by unfold execOp;rw[g];rfl);rw[e];exact vu H;cases d);(case insert t m k x=>split at d;rename_i p q r B F M;rw[bZ]at d;have⟨E,D,C⟩:=d;simp at C;obtain⟨rfl,rfl⟩:=C;have⟨f,w',J,Iz,H⟩:=CX (P:=P) Gz h D (j.evA B) (j.evA F) (j.evA M);refine⟨f,undef,w',J,Iz,rfl,.inr ⟨?_,rfl⟩⟩;(have e:execOp a.eval o=Sem.bind (Instr.mapUpdate t (a.eval m) (a.eval k) (a.eval x)) λ_=>Sem.pure Next.skip:=by unfold execOp;rw[g];rfl);rw[e];exact vu H;cases d);(case mapEntry t m k=>split at d;rename_i p q B F;have:=UO (P:=P) Gz h d (j.evA B) (j.evA F);(have e:execOp a.eval o=Sem.bind (Instr.mapEntry t (a.eval m) (a.eval k)) λv=>Sem.pure (Next.value v):=by unfold execOp;rw[g];rfl);rw[e];exact this.n;cases d);case entryStore t m b x=>split at d;rename_i p q r B F M;rw[bZ]at d;have⟨E,D,C⟩:=d;simp at C;obtain⟨rfl,rfl⟩:=C;have⟨f,w',J,Iz,H⟩:=Dy (P:=P) (t:=t) Gz h D (j.evA B) (j.evA F) (j.evA M);refine⟨f,undef,w',J,Iz,rfl,.inr ⟨?_,rfl⟩⟩;(have e:execOp a.eval o=Sem.bind (Instr.entryStore t (a.eval m) (a.eval b) (a.eval x)) λ_=>Sem.pure Next.skip:=by unfold execOp;rw[g];rfl);rw[e];exact vu H;cases d
theorem adC{bk:Pr}{o:aY}(m:bS bk.lm)(h:aL P w0 A ν s w)(i:eG ν T N a.tmps)(e:aeS P bk s T o.op=O (v,s')):zV P w0 A ν s' v ((execOp a.eval o).run P w):=by unfold aeS at e;split at e;rename_i r b;simp at e;subst e;split at b;rename_i c g;split at b;rename_i l;split at b;rename_i x y t tx d f;split at b;rename_i p q _ k j;have:=RC (P:=P) (ty:=o.type) m h b (i.evA k) (i.evA j);rw[gw g l,iK d,iK f];simp;exact this.n;cases b;cases b;cases b;cases b;grind[ado,QB]
end
end
section
open RowKit
variable{K:Act->aj->Prop}{A:en}{VS:Array aa}{Q:Exit->Act->aj->Prop}{g:Nat}{ν ed:Nm}{o:aY}{ro:Option Nat}{P:aw}{w w0:aj}
theorem aL.ot{s:St}(h:aL P w0 A ν s w){t:Tm}{b:Bool}(d:bh ν t b):aL P w0 A ν (ot s t b) w:=⟨h.pos,h.dz,h.top,h.fX,h.inj,h.ext,h.xb,h.same,h.sT,h.nv,h.own,⟨h.ctx.gl,λu c a=>ri 12 d h.ctx.pc u c a⟩,h.mu,h.lq,h.nU,h.kR,h.kS⟩
theorem sK{s:St}{d:List fV}(g:bS d)(h:aL P w0 A ν s w){v:AV}{V:aa}(f:den ν v=O V):
 ∃p∈uO d v s,den ν p.1=O V/\aL P w0 A ν p.2 w/\p.2.h=s.h/\p.2.n=s.n/\p.2.log=s.log/\p.2.x.gl=s.x.gl:=by
 unfold uO
 split
 ·rename_i t
  obtain⟨n,e,rfl⟩:=vn f
  split
  ·rename_i b c
   refine⟨_,aR.2 rfl,?_,h,rfl,rfl,rfl,rfl⟩
   rw[ib g h.ctx.pc c e]
   rfl
  ·have a:aL P w0 A ν (ot s t (decide (n≠0))) w:=h.ot ⟨n,e,rfl⟩
   cases c:decide (n≠0)with
   |true=>rw[c]at a;exact⟨_,aU ..,rfl,a,rfl,rfl,rfl,rfl⟩
   |false=>rw[c]at a;exact⟨_,aS _ (aR.2 rfl),rfl,a,rfl,rfl,rfl,rfl⟩
 simp_all
theorem G3{b:List fV}:∀{l:List Out},∀o∈l,∀p∈uO b o.v o.s,{o with v:=p.1,s:=p.2}∈V1 b l|q::l,o,a,p,c=>by unfold V1;rcases aO.1 a with rfl|a;simp_all;exact i6 _ (G3 o a p c)
theorem G4{f:AV->St->oC}:∀{l:List (AV×St)}{a:List Out},EN f l=O a->∀p∈l,∃os,f p.1 p.2=O os/\∀o∈os,o∈a|[],_,_,p,b=>by simp at b|[(v,s)],a,h,p,b=>by rw[aR]at b;subst b;exact⟨a,h,λ_ h=>h⟩|(v,s)::q::l,a,h,p,b=>by unfold EN at h;split at h;cases h;rename_i x d;split at h;cases h;rename_i y c;simp at h;subst h;rcases aO.1 b with rfl|b;simp_all;have⟨os,g,e⟩:=G4 c p b;simp_all
def oK:Ex->Exit->Prop|.norm,.normal=>True|.ret,.ret=>True|.exit i,.exit j=>i=j|.goto i,.goto j=>i=j|_,_=>False
def aic(ν:Nm):List Nat->List Deferred->Prop:=cJ λi d=>∃g,ν i=O g/\d={target:=.collected g,args:= #[]}
def nj(D:List Deferred)(ν:Nm)(M:List Nat)(ds:List Deferred):Prop:=∃fr,ds=fr++D/\aic ν M fr
theorem nj.mono{D:List Deferred}(h:Nm.le ν ed){M:List Nat}{ds:List Deferred}(c:nj D ν M ds):nj D ed M ds:=let⟨e,b,a⟩:=c;⟨e,b,cJ.imp (λi d ⟨g,b,a⟩=>⟨g,h _ _ b,a⟩) a⟩
def RR(ν:Nm)(r ro:Option Nat):Prop:=match r with|G=>ro=G|O l=>∃g,ν l=O g/\ro=O g
theorem RR.mono(h:Nm.le ν ed){r:Option Nat}(a:RR ν r ro):RR ed r ro:=by cases r with|none=>exact a|some l=>have⟨g,c,b⟩:=a;exact⟨g,h _ _ c,b⟩
def kC(D:List Deferred)(P:aw)(w0:aj)(A:en)(ν:Nm)(N:Nat)(outs:List Out):Exit->Act->aj->Prop:=λe a w=>∃o∈outs,∃ed,Nm.le ν ed/\oK o.e e/\aL P w0 A ed o.s w/\eG ed o.T N a.tmps/\nj D ed o.M a.defers
def zW(P:aw)(w0:aj)(A:en)(ν:Nm)(outs:List Out):tf->aj->Prop:=λe w'=>∃o∈outs,∃ed V,Nm.le ν ed/\aL P w0 A ed o.s w'/\den ed o.v=O V/\e=.returned V
def alY(P:aw)(ro:Option Nat)(o:aY)(a:Act)(w w0:aj)(A:en)(ν:Nm)(outs:List Out):Prop:=∀(K:Act->aj->Prop)(Q:Exit->Act->aj->Prop),(∀out∈outs,∀ed V w',Nm.le ν ed->aL P w0 A ed out.s w'->den ed out.v=O V->K (a.put o.dst V) w')->o.wpIn (fz ro) 0 P a w K Q
theorem kC.mono{D:List Deferred}{N:Nat}{c b:List Out}(f:Nm.le ν ed)(g:∀o∈c,o∈b){e:Exit}{a:Act}(h:kC D P w0 A ed N c e a w):kC D P w0 A ν N b e a w:=by have⟨o,k,d,j,i⟩:=h;exact⟨o,g o k,d,f.trans j,i⟩
theorem zW.mono{b a:List Out}(d:Nm.le ν ed)(f:∀o∈b,o∈a){e:tf}(h:zW P w0 A ed b e w):zW P w0 A ν a e w:=by have⟨o,j,c,V,i,g⟩:=h;exact⟨o,f o j,c,V,d.trans i,g⟩
def mU (P:aw):Bool:=P.funcs.toList.all λfn=>fn.body.isNone|| !(fn.name=="runtime.NumGoroutine")
theorem Ou(h:mU P=I){fn:D2}(b:P.funcs[g]? =O fn){c:Code}(d:fn.body=O c)(args:Array aa)(w:aj):(callFunc g args).run P w=.ok (.enter g args) w:=by (have a:fn∈P.funcs.toList:=by have:=Array.mem_of_getElem? b;simpa using this);have:=cm.1 h fn a;rw[d]at this;simp_all[callFunc]
def ajJ(P:aw)(g:Nat)(VS:Array aa)(w:aj)(R:aa->aj->Prop):Prop:=(∃V w',(callFunc g VS).run P w=.ok (.value V) w'/\R V w')∨((callFunc g VS).run P w=.ok (.enter g VS) w/\Calls P g VS w λe w'=>∃V,e=.returned V/\R V w')
def TX(P:aw)(bk:Pr):Prop:=∀g k t,acf bk g=O (k,t)->∀lm:List fV,bS lm->∀(w0:aj)(A:en)(ν:Nm)(s:St)(w:aj)(args:List AV)(v:AV)(s':St)(VS:List aa),PC P lm k t args s=O (v,s')->aL P w0 A ν s w->bw ν args=O VS->ajJ P g VS.toArray w λV w'=>∃ed,Nm.le ν ed/\aL P w0 A ed s' w'/\den ed v=O V
section
variable{P:aw}{w0 w:aj}{A:en}{ν:Nm}{s:St}{T:Tr AV}{N:Nat}{a:Act}
theorem G5(j:eG ν T N a.tmps){g:akI}(h:Nz T o.op=O g):
 (∀c,o.op≠.defer c)/\match g with
 |.enter f args=>∃VS,bw ν args=O VS/\∀w,(execOp a.eval o).run P w=(callFunc f VS.toArray).run P w
 |.round l args=>∃lg VS,ν l=O lg/\bw ν args=O VS/\∀w,(execOp a.eval o).run P w=(Instr.yield lg VS.toArray).run P w:=by
 unfold Nz at h
 split at h
 ·rename_i c i
  refine⟨λc' e=>(by rw[i]at e;cases e),?_⟩
  split at h
  ·rename_i f p
   split at h
   ·rename_i r first cap args m b
    injection h with h
    subst h
    have⟨fn,A1,B1,d,n,q,e⟩:=qt (j.evA m)
    simp[lM]at d
    subst d
    refine⟨_,iE (iE n (vv j b)) q,λw=> ?_⟩
    unfold execOp
    rw[i]
    simp only[resolve,p,bind,e,Deferred.ofValue,pure,Sem.bind,invoke]
    have:(A1++c.args.toList.map a.eval++B1).toArray=A1.toArray++c.args.map a.eval++B1.toArray:=Array.ext' (by simp)
    rw[this]
   ·rename_i l first cap args m b
    simp at h
    subst h
    have⟨fn,A1,B1,d,n,q,e⟩:=qt (j.evA m)
    simp[lM]at d
    split at d
    ·rename_i lg k
     simp at d
     subst d
     refine⟨lg,_,k,iE n (vv j b),λw=> ?_⟩
     unfold execOp
     rw[i]
     simp[resolve,p,e,Deferred.ofValue,invoke]
     have:(A1++c.args.toList.map a.eval).toArray=A1.toArray++c.args.map a.eval:=Array.ext' (by simp)
     rw[this]
    ·cases d
   ·cases h
  ·cases h
 ·cases h
theorem jg(e:∀c,o.op≠.defer c){V:aa}{w':aj}(b:(execOp a.eval o).run P w=.ok (.value V) w'∨((execOp a.eval o).run P w=.ok .skip w'/\V=undef))(d:K (a.put o.dst V) w'):o.wpIn (fz ro) 0 P a w K Q:=by refine⟨λ_ _=>trivial,?_⟩;rw[show(fz ro).round=ro from rfl,XE e];rcases b with b|⟨b,rfl⟩;rw[b];exact d;rw[b];exact d
theorem LW(d:∀c,o.op≠.defer c)(b:(execOp a.eval o).run P w=.ok (.enter g VS) w)(hC:Calls P g VS w λe w'=>∃V,e=.returned V/\K (a.put o.dst V) w'):o.wpIn (fz ro) 0 P a w K Q:=by refine⟨λ_ _=>trivial,?_⟩;rw[show(fz ro).round=ro from rfl,XE d,b];refine⟨λh=>(by cases h),ab_ (hC.mono λe w' f=> ?_)⟩;grind
theorem adD(i:∀c,o.op≠.defer c){R:aa->aj->Prop}(f:∀w,(execOp a.eval o).run P w=(callFunc g VS).run P w)(l:ajJ P g VS w R)(k:∀V w',R V w'->K (a.put o.dst V) w'):o.wpIn (fz ro) 0 P a w K Q:=by obtain⟨V,w',d,b⟩|⟨d,b⟩:=l;grind[jg];exact LW i ((f w).trans d) (b.mono λe w' ⟨V,h,j⟩=>⟨V,h,k V w' j⟩)
theorem YN(d:∀c,o.op≠.defer c){lg:Nat}(b:(execOp a.eval o).run P w=(Instr.yield lg VS).run P w)(f:∃fn tmps assign body,(Instr.yield lg VS).run P w=.ok (.round lg fn tmps assign body) w/\RoundIn (fz ro) 0 P lg fn tmps assign body w λe w'=>∃V,e=.returned V/\K (a.put o.dst V) w'):o.wpIn (fz ro) 0 P a w K Q:=by have⟨fn,tmps,assign,body,i,g⟩:=f;refine⟨λ_ _=>trivial,?_⟩;rw[show(fz ro).round=ro from rfl,XE d,b,i];refine⟨λh=>(by cases h),g.mono λe w' j=> ?_⟩;grind
theorem YO(h:aL P w0 A ν s w){obj:bF}{f:Nat->AV}{x:aj->Result Next}(b:Lb P ν obj f x):∃ed V w',Nm.le ν ed/\aL P w0 A ed (oh s obj) w'/\den ed (f s.n)=O V/\x w=.ok (.value V) w':=by have⟨Ef,Vf,e,d,c⟩:=b;have a:=h.top s.n (ba _);exact⟨_,_,_,Nm.fP a _,h.alloc a (by simp) (by simp) (e _ (Nm.fP a _)),d _ _ _ (Nm.cx _ _ _),c w⟩
theorem qF(h:fC P o.op≠4∨M3 o.op≠G∨ZX P s T o.op≠G)(c:Call):o.op≠.defer c:=λe=>by rw[e]at h;simp[fC,M3,ZX]at h
theorem Dz(h:fC P o.op=2){v:AV}(b:oq P s T o.op=O v):worldless P o.op=I:=by cases c:o.op<;>rw[c]at h b<;>simp only[fC]at h<;>(try(cases h;done))<;>(try rfl);(simp[worldless];simp[oq]at b;split at h;cases h;rename_i f;rw[f];cases h;cases h;rename_i e _ _ _;cases a:P.underlying _ with|none=>rw[a]at b;simp at b;split at b<;>simp_all|some d=>cases d<;>first|rfl|cases (e _) a);grind[worldless]
end
end
end Go.Proofs.YtinknfobdleeeaaGreat
