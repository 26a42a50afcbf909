/- The statement ReplayBack is proved, as given, for every input: no condition. -/
import Derived.Test.YtinknfobdleeeaaGreatRows
import Derived.Test.YtinknfobdleeeaaGreatRj
import Derived.WalkKit
import Derived.ProofKit
import Derived.OpenShut
import Derived.Carry
set_option linter.all false
open Option.some renaming inj→bB
open List renaming all_eq_true→cm,mem_append_left→jw,mem_append_right→i6,append_assoc→i7
open Array renaming getElem?_eq_some_iff→ef
open Go renaming Value→aa,TypeId→ag,World→aj,Program→aw
namespace Go.Proofs.YtinknfobdleeeaaGreat
set_option maxRecDepth 100000
open Option renaming some→O,none→G
open Bool renaming true→I,false→Z
open ChangeShapes WideShapes ChangeAt RowKit
theorem ans:ownKnob Tryz.prog.godebug=none:=by kernel_rfl
theorem Gs:laidOutB Tryz.prog=true:=by kernel_rfl
theorem VG {P:aw} {w:aj} (h:w.ShapedOpen P) (hg:P.globals.size=0) (h0:0<(begin P (fun _ _=>0) default).world.heap.size):0<w.heap.size:=by
 obtain⟨o,_,hc,_⟩:=h.2 0 (Nat.le_of_eq hg) h0
 exact(ef.1 hc).1
set_option maxRecDepth 100000 in
theorem aeD (H:Type) (enc:ag×aa→H) (W:aj) (Ky:0<W.heap.size) (base:Nat) (args:Array aa) (ds gs:List (DataW H)) (before:List MemPlace)
 (Yd:∀(j:Nat) t v,Tryz.f4.params[j]? =some t→args[j]? =some v→Value.okWide Tryz.prog W .any base t v)
 (hW:DataW.Whole enc Tryz.prog Tryz.f4.params.toList Rows.replayBackSpec.vars false W args.toList ds gs before) (ZN:(DataW.weightsEach Tryz.prog (Tryz.f4.params.toList++Rows.replayBackSpec.plain.varTypes Tryz.prog) (ds++gs)).all (·≤reachBytes)=true):
 Calls Tryz.prog 4 args W fun e W'=>∃v,e= .returned v∧Rows.replayBackSpec.post enc Tryz.prog Tryz.f4 false true false false W args v W':=by
 have Sx:=hW
 obtain⟨p,q,hA0,hV,rfl,hfz,ZD⟩:=hW
 have hA:DataW.TrodAll enc Tryz.prog W 0 (fun _=>true) true Tryz.f4.params.toList args.toList ds p:=hA0
 rw[Tryz.params4]at hA Yd ZN
 obtain⟨v0,v1,v2,d0,d1,d2,p0,p1,p2,rfl,rfl,rfl,h0,h1,h2⟩:=trodAll_three hA
 obtain⟨rfl,rfl⟩:=trodVars_none hV
 clear hA0
 obtain⟨a0,b0,c0,rfl⟩:=okWide_slice Tryz.underlying46 (Yd 0 _ v0 rfl rfl)
 obtain⟨a1,b1,c1,rfl⟩:=okWide_slice Tryz.underlying47 (Yd 1 _ v1 rfl rfl)
 obtain⟨a2,rfl⟩:=okWide_int Tryz.underlying5 (Yd 2 _ v2 rfl rfl)
 have Ez:∀n∈DataW.weightsEach Tryz.prog ([46,47,5]++Rows.replayBackSpec.plain.varTypes Tryz.prog) ([d0,d1,d2]++[]),n≤reachBytes:=fun n hn=>of_decide_eq_true (cm.1 ZN n hn)
 have w0:∀n∈d0.weights Tryz.prog 46,n≤reachBytes:=fun n hn=>Ez n (lI (i:=0) rfl rfl n hn)
 have w1:∀n∈d1.weights Tryz.prog 47,n≤reachBytes:=fun n hn=>Ez n (lI (i:=1) rfl rfl n hn)
 have w2:∀n∈d2.weights Tryz.prog 5,n≤reachBytes:=fun n hn=>Ez n (lI (i:=2) rfl rfl n hn)
 obtain⟨f0,h0'⟩:=id h0
 obtain⟨f1,Kc⟩:=id h1
 obtain⟨f2,OQ⟩:=id h2
 have sO:∀x∈p0++p1++p2,x.block<W.heap.size:=fun x hx=>by simpa using Sx.lt x (by simpa using hx)
 have hg:=Zw (enc:=enc) Ky ⟨f0,(d0,p0),h0',w0⟩ ⟨f1,(d1,p1),Kc,w1⟩ ⟨f2,(d2,p2),OQ,w2⟩
 refine hg.mono ?_
 rintro e W' ⟨rfl,hb⟩
 refine⟨_,rfl,_,_,_,[]++[],p0++p1++p2,[],Sx,?_,?_,rfl,hb.frame _,fun h=>by cases h⟩
 ·exact trodAll_cons_mk (shut_bool Tryz.underlying4 _) trodAll_mk0
 ·rw[i7]
  exact trodAll_cons_mk (Below.trod Gs (by kernel_rfl) (of_decide_eq_true (by kernel_rfl)) h0 hb fun x hx=>sO x (jw _ (jw _ hx)))
   (trodAll_cons_mk (Below.trod Gs (by kernel_rfl) (of_decide_eq_true (by kernel_rfl)) h1 hb fun x hx=>sO x (jw _ (i6 _ hx)))
    (trodAll_mk1 (Below.trod Gs (by kernel_rfl) (of_decide_eq_true (by kernel_rfl)) h2 hb fun x hx=>sO x (i6 _ hx))))
theorem Zx:0<(begin Tryz.prog (fun _ _=>0) default).world.heap.size:=of_decide_eq_true (by kernel_rfl)
theorem Zy: Tryz.prog.globals.size=0:=by kernel_rfl
set_option maxRecDepth 100000 in
theorem lifted (os:Os) (started:os.Started) (H:Type) (enc:ag×aa→H):
 ReturnsInHanded {} Tryz.checked os 4 .any (Rows.replayBackSpec.pre6 enc Tryz.prog Tryz.f4 Rows.replayBackRow.domain false) (Rows.replayBackSpec.post enc Tryz.prog Tryz.f4 false true false false):=by
 refine returnsInHanded_of_calls (C:= Tryz.checked) ans started (by kernel_rfl) (ChangeSpec.witness6 (enc:=enc) (C:= Tryz.checked) false ⟨#[],#[.slice none 0 0,.slice none 0 0,.int .u8 0],[]⟩ 8 (by kernel_rfl) (by kernel_rfl) (by kernel_rfl) (by kernel_rfl)) ?_
 intro w tape i _ hs _ ZM Υ _
 obtain⟨_,_,_,fn,hfn,_,_,_,_,Yd⟩:=ZM
 obtain rfl:fn= Tryz.f4:=bB (hfn.symm.trans Tryz.func4)
 obtain⟨⟨ds,gs,before,hw,_⟩,hz⟩:=Υ
 have hw':=DataW.Whole.of_heap (w':=w.forCall tape i) (by rfl) hw
 refine(aeD H enc (w.forCall tape i) (VG hs Zy Zx) w.heap.size i.args ds gs before Yd hw' (hz.weights hw)).mono fun e W' ⟨v,he,hp⟩=> ?_
 subst he
 exact ChangeSpec.post_blind hp
theorem over:Rows.replayBackRow.holds Tryz.pinned (OpenSpec.ofChange Rows.replayBackSpec):=
 OpenClaim.holds_of_wide 4 Tryz.f4 rfl rfl rfl rfl rfl rfl rfl ⟨rfl,rfl,rfl,rfl,rfl⟩ rfl rfl rfl rfl rfl (by kernel_rfl) Tryz.func4 (by kernel_rfl)
  (of_decide_eq_true (by kernel_rfl)) (by unfold Func.isWrapper;first|(rw[if_pos (by decide+kernel)];kernel_rfl)|(rw[if_neg (by decide+kernel)];exact⟨rfl,rfl⟩))
  (fun os started H enc _=>lifted os started H enc)
theorem proved:Rows.ReplayBackSaid:=
 over
end Go.Proofs.YtinknfobdleeeaaGreat
