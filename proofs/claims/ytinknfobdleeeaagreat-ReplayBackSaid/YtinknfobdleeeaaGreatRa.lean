/- Part of the proof of a law: no condition. -/
import Derived.OrdersHeld
import Derived.RegionTactic
import Derived.TacticsIn
import Derived.OrdersIn
import Derived.Below
import Derived.Laws.OwnMore
import Derived.Deep.AppendLies
import Derived.Deep.Draws
import Derived.Laws.Rows
import Derived.Maps.AppendAt
import Derived.OwnWalk
import Derived.Deep.AppendSrc
set_option linter.all false
open Bool renaming and_eq_true→ay,or_eq_true→bW
open Array renaming getElem?_eq_some_iff→ef
open Nat renaming beq→ae,ble→aF,eq_of_beq_eq_true→an,le_of_ble_eq_true→bz,ble_eq_true_of_le→fe,lt_or_ge→eu,ne_of_beq_eq_false→fQ,le_refl→ba,le_trans→dU,lt_of_lt_of_le→jU
open List renaming replicate→fF,range'→bX,getElem?_eq_getElem→aZ
open Int renaming ofNat→cq
open Option.some renaming injEq→aG
open Option renaming map_eq_some_iff→bZ
open Go renaming Value→aa,TypeId→ag,World→aj,Program→aw,IntKind→bu,Operand→fh,Oper→aY,Ending→tf,FuncId→WH
namespace Go.Proofs.YtinknfobdleeeaaGreat
set_option maxRecDepth 100000
open Option renaming some→O,none→G
open Bool renaming true→I,false→Z
section
variable{i:Nat}{o:aY}{r:Option Nat}{w:aj}
def fz(r:Option Nat):Fence:={fn:=λ_=>True,depth:=G,alive:=Z,round:=r}
theorem ab_{n:Nat}{P:aw}{f:WH}{args:Array aa}{R:tf->aj->Prop}(h:Calls P f args w R):CallsIn (fz r) n P f args w R:=callsIn_wide.2 h
theorem afR{n:Nat}{P:aw}{f:WH}{args:Array aa}{R:tf->aj->Prop}(h:CallsIn (fz r) n P f args w R):Calls P f args w R:=callsIn_wide.1 (show CallsIn Fence.wide n P f args w R from h)
theorem XE{a:fh->aa}(h:∀c,o.op≠.defer c):o.semAt r a=execOp a o:=Oper.semAt_eq r a o h
section
variable{r:Option Nat}{P:aw}{ops:Array aY}{Q:Exit->Act->aj->Prop}{md:Region.Mode}{S:aj->Prop}{nd:Nat->Bool}
def tg(ops:Array aY):Bool:=ops.all λo=>match o.op with|.defer _=>Z|_=>I
theorem Ol(h:tg ops=I){j:Nat}(b:ops[j]? =O o)(c:Call):o.op≠.defer c:=λe=>by unfold tg at h;rw[Array.all_eq_true]at h;obtain⟨a,rfl⟩:=ef.1 b;have:=h j a;rw[e]at this;cases this
theorem vP{v:aa}{a:Act}(g:∀c,o.op≠.defer c)(f:ops[i]? =O o)(d:YieldsIf P ops S o v a)(j:S w){K:Act->aj->Prop}(h:K (a.put o.dst v) w):wpOpIn (fz r) 0 P ops Q i K a w:=by unfold Go.wpOpIn;rw[f];show if Region.wanted o _=I then _ else _;obtain⟨b,e⟩|⟨b,rfl⟩:=d;rw[if_pos b];refine⟨λ_ _=>trivial,?_⟩;rw[show(fz r).round=r from rfl,XE g,e w j];exact h;rw[if_neg (by simp[b])];exact⟨λ_ _=>trivial,h⟩
theorem Rk{j:Nat}{g i:aY}{v:aa}(p:∀c,i.op≠.defer c)(E:ops[j]? =O i)(y:g.apart ops i=I)(t:∀cs b,g.op≠.select cs b)(s:∀cs b,i.op≠.select cs b)(z:∀c a w,Q (.panic c) (a.put g.dst v) w->Q (.panic c) a w){K:Act->aj->Prop}{a:Act}(k:YieldsIf P ops S g v a)(h:wpOpIn (fz r) 0 P ops Q j K (a.put g.dst v) w):wpOpIn (fz r) 0 P ops Q j (λC w'=>YieldsIf P ops S g v C/\K (C.put g.dst v) w') a w:=by have⟨B,n,A⟩:=Oper.apart_spec y;(have dz:∀(a:Act),YieldsIf P ops S g v a->∀u,YieldsIf P ops S g v (a.put i.dst u):=λa k u=>by unfold YieldsIf at*;rw[execOp_put g t a i.dst u A,wanted_put g a i.dst u A];exact k);unfold wpOpIn at*;rw[E]at*;simp only at*;rw[wanted_put i a g.dst v B]at h;split;(·rename_i q;rw[if_pos q]at h;refine⟨λ_ _=>trivial,?_⟩;have h:=h.2;rw[show(fz r).round=r from rfl,XE p,execOp_put i s a g.dst v B]at h;rw[show(fz r).round=r from rfl,XE p];generalize(execOp a.eval i).run P w=D at*;cases D with|ok x w'=>(cases x<;>simp only[Oper.uponIn]at h⊢;(case value u=>exact⟨dz a k u,by rw[<-Act.put_comm a v u n];exact h⟩);(case skip=>exact⟨dz a k _,by rw[<-Act.put_comm a v undef n];exact h⟩);(case defer d=>refine⟨dz _ (show YieldsIf P ops S g v {a with defers:=d::a.defers}from k) _,?_⟩;rw[<-Act.put_comm _ v undef n,<-Act.put_defers];exact h);(case enter f args=>refine⟨h.1,CallsIn.mono h.2 λe o m=> ?_⟩;cases e with|returned u=>exact⟨dz a k u,by rw[<-Act.put_comm a v u n];exact m⟩|panicked F=>exact z _ _ _ m|outgrown=>exact m);(case row row args=>exact⟨h.1,RowsIn.mono h.2 λu o m=>⟨dz a k u,by rw[<-Act.put_comm a v u n];exact m⟩⟩);case round l f tmps as Gz=>refine⟨h.1,RoundIn.mono h.2 λe o m=> ?_⟩;cases e with|returned u=>exact⟨dz a k u,by rw[<-Act.put_comm a v u n];exact m⟩|panicked F=>exact z _ _ _ m|outgrown=>exact m)|halt x w'=>cases x<;>simp only[Oper.uponIn]at h⊢;exact z _ _ _ h);·rename_i q;rw[if_neg q]at h;exact⟨λ_ _=>trivial,dz a k _,by rw[<-Act.put_comm a v undef n];exact h.2⟩
def waits(md:Region.Mode)(ops:Array aY):Nat->Nat->Nat->Bool|0,_,_=>Z|n+1,j,i=>match ops[j]? with|G=>Z|O oj=>oj.after.any λe=>Region.binds md e&&(e.on==i||waits md ops n e.on i)
def uT(md:Region.Mode)(ops:Array aY)(listed:Array Bool):Prop:=∀j oj,ops[j]? =O oj->listed.getD j Z=I->∀e∈oj.after,Region.binds md e=I->listed.getD e.on Z=I
theorem pH{listed:Array Bool}(f:uT md ops listed):∀(n j:Nat)(a:aY),ops[j]? =O a->(∀e∈a.after,Region.binds md e=I->listed.getD e.on Z=I)->waits md ops n j i=I->listed.getD i Z=I|0,_,_,_,_,h=>by cases h|n+1,j,a,l,d,h=>by simp only[waits,l,Array.any_eq_true',ay,bW,beq_iff_eq]at h;obtain⟨e,c,g,h|h⟩:=h;rw[<-h];exact d e c g;have k:=d e c g;cases b:ops[e.on]? with|none=>(cases n with|zero=>cases h|succ n=>simp[waits,b]at h)|some ok=>exact pH f n e.on ok b (f e.on ok b k) h
theorem uT.set{listed:Array Bool}(m:uT md ops listed)(l:i∈Region.ready md ops listed):uT md ops (listed.setIfInBounds i I):=by intro j k b f e g h;apply getD_set_true;by_cases a:j=i;subst a;have⟨_,n,d,c⟩:=mem_ready.1 l;rw[d]at b;simp at b;subst b;exact c e g h;rw[getD_set_ne Z (Ne.symm a)]at f;exact m j k b f e g h
end
end
def amm(_:Nat):Option Int:=G
def ZI(o:Nat):Nat:=Nat.div (Nat.sub o 1000) 100
def jOf(o:Nat):Nat:=Nat.mod o 100
def aiP(o:Nat):Option Int×Option Int:=match aF 1000 o&&ae (jOf o) 91 with|I=>(O 0,G)|Z=>(G,G)
def aiQ(o:Nat):Bool:=match aF 1000 o with|I=>ae (jOf o) 90||ae (jOf o) 91|Z=>Z
def tbs:Nat->List Nat|0=>[29,41,30,6,3,3,3,1,1,1,1,1,1,1,1,5]|1=>[106,22]|2=>[59,25,5,2,1,5,1,1,1,1,3,1,1,1,1,20]|3=>[83,11,27,7]|4=>[25,11,6,13,6,11,3,3,2,2,6,4,1,1,1,33]|5=>[0,0,0,7,39,0,75,7]|6=>[0,0,128]|7=>[106,10,9,1,1,1]|8=>[14,8,4,7,5,5,6,14,4,3,1,2,1,1,2,51]|9=>[64,3,4,7,4,2,4,1,1,28,1,3,0,0,0,1,1,1,1,1,1]|10=>[16,9,1,4,4,3,3,10,3,9,5,4,8,1,3,45]|11=>[46,25,12,7,5,19,2,2,2,1,1,1,1,1,1,2]|12=>[47,34,18,23,1,1,1,1,2]|13=>[100,28]|14=>[77,51]|15=>[59,29,6,23,8,3]|16=>[41,1,59,10,2,1,1,13]|_=>[33,16,7,5,6,6,4,5,3,4,3,3,3,2,3,25]
section
inductive Tr(α:Type) where
 |e
 |n (l:Tr α) (v:Option α) (r:Tr α)
def Tr.get{α:Type}:Tr α->Nat->Option α|.e,_=>G|.n l v r,i=>match ae i 0 with|I=>v|Z=>match ae (Nat.mod i 2) 1 with|I=>l.get (Nat.div i 2)|Z=>r.get (Nat.sub (Nat.div i 2) 1)
def Tr.zx{α:Type}(x:Option α):Nat->Tr α->Nat->Tr α|0,t,_=>t|k+1,t,i=>match t with|.e=>(match ae i 0 with|I=>.n .e x .e|Z=>match ae (Nat.mod i 2) 1 with|I=>.n (Tr.zx x k .e (Nat.div i 2)) G .e|Z=>.n .e G (Tr.zx x k .e (Nat.sub (Nat.div i 2) 1)))|.n l v r=>match ae i 0 with|I=>.n l x r|Z=>match ae (Nat.mod i 2) 1 with|I=>.n (Tr.zx x k l (Nat.div i 2)) v r|Z=>.n l v (Tr.zx x k r (Nat.sub (Nat.div i 2) 1))
def Tr.put{α:Type}(t:Tr α)(i:Nat)(x:Option α):Tr α:=Tr.zx x (i+1) t i
inductive zj where
 |k (n:Nat)
 |u (c m:Nat)
inductive OL where
 |func (f:Nat)
 |yield (l:Nat)
inductive ah where
 |n (n:Int)
 |s (l:List UInt8)
 |l (xs:List ah)
 |v (v:aa)
 |r (e:ag) (v:aa) (xs:List ah)
inductive Tm where
 |c (n:Int)
 |x (i:Nat)
 |bin (o:BinOp) (k:bu) (a b:Tm)
 |conv (k:bu) (a:Tm)
 |f (o:Nat) (l:List Tm)
inductive AV where
 |bool (b:Bool)
 |int (k:bu) (n:Int)
 |str (s:List UInt8)
 |kv
 |ptr (i off:Nat)
 |cQ
 |slice (i off len:Nat) (c:zj)
 |lf
 |map (i:Nat)
 |func (f:OL) (first cap:List AV)
 |iq
 |iface (t:ag) (v:AV)
 |gP
 |agg (l:List AV)
 |il (l:List AV)
 |ext (i:Nat)
 |mw (g off:Nat)
 |sym (k:bu) (t:Tm)
 |iI (t:Tm)
 |tail (i off o2 len c m:Nat)
 |iJ (t:Tm)
 |deep (e:ag) (t:Tm)
 |mn (e sz:Nat) (t i:Tm) (off:Nat)
 |bK (i:Nat) (len:Tm) (c:zj)
 |jM (i e sz:Nat) (it:Tm) (off:Nat)
 |gZ (i e sz:Nat) (lo n:Tm) (c:zj)
def jN:AV:=.il []
inductive bF where
 |cells (l:List AV) (t:ag) (c:Option Nat)
 |map (es:List (AV×AV×Nat)) (clock:Nat)
 |iter (m:Option Nat) (since:Nat) (seen:List Nat) (qX:Nat)
 |loop (st:LoopState) (pending:Option Code) (T:Tr AV) (N:Nat) (ps:List Nat) (defers:Nat) (key:Nat×List Bool)
 |oR
 |row (t:Tm) (e:ag) (c:Option Nat)
 |dmap (kt vt:ag) (t:Tm) (p:Option (Tm×Nat))
 |lh (t:Tm) (e:ag) (c:Option Nat) (it:Tm) (cs:List AV)
 |g_ (kt vt:ag) (t c B S:Tm) (last:Option (Tm×AV×AV))
 |jk (m:Nat) (c B:Tm)
structure Ctx where
 gl:List (Nat×List AV)
 pc:List (Tm×Bool)
structure St where
 h:Tr bF
 n:Nat
 log:List Nat
 x:Ctx
inductive Ex where
 |norm
 |exit (id:Nat)
 |goto (l:Nat)
 |ret
 |VQ
structure Out where
 e:Ex
 v:AV
 T:Tr AV
 M:List Nat
 s:St
def ji{α β:Type}(f:α->Option β):List α->Option (List β)|[]=>O []|x::l=>match f x with|G=>G|O y=>match ji f l with|G=>G|O m=>O (y::m)
def ofC:aa->Option AV|.bool b=>O (.bool b)|.int k n=>O (.int k n)|.string s=>O (.str s.data.toList)|.pointer G=>O .kv|.slice G 0 0=>O .cQ|.map G=>O .lf|.nilFunc=>O .iq|.nilIface=>O .gP|.func (.func f) ⟨[]⟩ ⟨[]⟩=>O (.func (.func f) [] [])|_=>G
def ofV:aa->Option AV|.agg cs=>(ji ofC cs.toList).map .agg|.tuple cs=>(ji ofC cs.toList).map .il|v=>ofC v
def da:AV->List AV|.agg l=>l|v=>[v]
def oS:AV->Bool|.agg _=>Z|.il _=>Z|_=>I
def Em(l:List AV)(off n:Nat):Option (List AV):=let r:=(l.drop off).take n;match ae r.length n with|I=>O r|Z=>G
def KR:List AV->Nat->List AV->List AV|l,_,[]=>l|l,off,v::vs=>KR (l.set off v) (off+1) vs
section
variable(P:aw)
def fD(t:ag):Option Bool:=match P.underlying t with|O (.struct _)=>O I|O (.array _ _)=>O I|O _=>O Z|G=>G
def di(t:ag):Option Nat:=match P.info? t with|O i=>O i.size|G=>G
def ud(t:ag):Option AV:=match P.info? t with|O i=>(match i.zero with|O v=>ofV v|G=>G)|G=>G
def ir(t:ag)(cs:List AV)(off:Nat):Option AV:=match fD P t with|O I=>(match di P t with|O n=>(Em cs off n).map .agg|G=>G)|O Z=>cs[off]? |G=>G
def iW:List UInt8->List UInt8->Bool|[],[]=>I|a::x,b::y=>(match ae a.toNat b.toNat with|I=>iW x y|Z=>Z)|_,_=>Z
def qY:List UInt8->List UInt8->Bool|_,[]=>Z|[],_::_=>I|a::x,b::y=>match aF (a.toNat+1) b.toNat with|I=>I|Z=>match ae a.toNat b.toNat with|I=>qY x y|Z=>Z
def gj:Int->Int->Bool|.ofNat a,.ofNat b=>ae a b|.negSucc a,.negSucc b=>ae a b|_,_=>Z
def fy:bu->bu->Bool|.i8,.i8|.i16,.i16|.i32,.i32|.i64,.i64|.u8,.u8|.u16,.u16|.u32,.u32|.u64,.u64=>I|_,_=>Z
def jH (E:ag->AV->AV->Option Bool) (xs ys:List AV):List Field->Option Bool|[]=>O I|f::fs=>match f.name=="_" with|I=>jH E xs ys fs|Z=>match ir P f.type xs f.offset,ir P f.type ys f.offset with|O x,O y=>(match E f.type x y with|O I=>jH E xs ys fs|O Z=>O Z|G=>G)|_,_=>G
def mX(E:AV->AV->Option Bool)(e:ag)(size:Nat)(xs ys:List AV):Nat->Nat->Option Bool|0,_=>O I|n+1,i=>match ir P e xs (i*size),ir P e ys (i*size)with|O x,O y=>(match E x y with|O I=>mX E e size xs ys n (i+1)|O Z=>O Z|G=>G)|_,_=>G
def KL:Nat->ag->AV->AV->Option Bool|0,_,_,_=>G|d+1,t,x,y=>match P.underlying t with|O .bool=>(match x,y with|.bool a,.bool b=>O (a==b)|_,_=>G)|O (.int _)=>(match x,y with|.int k a,.int k' b=>(match fy k k' with|I=>O (gj a b)|Z=>G)|_,_=>G)|O .string=>(match x,y with|.str a,.str b=>O (iW a b)|_,_=>G)|O (.pointer _)=>(match x,y with|.kv,.kv=>O I|.kv,.ptr _ _=>O Z|.ptr _ _,.kv=>O Z|_,_=>G)|O (.slice _)=>(match x,y with|.cQ,.cQ=>O I|.cQ,.slice ..=>O Z|.slice ..,.cQ=>O Z|_,_=>G)|O (.map _ _)=>(match x,y with|.lf,.lf=>O I|.lf,.map _=>O Z|.map _,.lf=>O Z|_,_=>G)|O (.func ..)=>(match x,y with|.iq,.iq=>O I|.iq,.func ..=>O Z|.func ..,.iq=>O Z|_,_=>G)|O (.struct fields)=>(match x,y with|.agg xs,.agg ys=>(match P.stoodInHeld t with|I=>G|Z=>jH P (KL d) xs ys fields.toList)|_,_=>G)|O (.array len e)=>(match x,y with|.agg xs,.agg ys=>(match di P e with|O n=>mX P (KL d e) e n xs ys len 0|G=>G)|_,_=>G)|_=>G
def dX(op:BinOp)(k:bu)(x y:Int):Option AV:=match op with|.add=>O (.int k (k.wrap (x+y)))|.sub=>O (.int k (k.wrap (x - y)))|.mul=>O (.int k (k.wrap (x*y)))|.quo=>(match gj y 0 with|I=>G|Z=>O (.int k (k.wrap (x.tdiv y))))|.rem=>(match gj y 0 with|I=>G|Z=>O (.int k (x.tmod y)))|.and=>O (.int k (k.wrap (BitVec.ofInt k.bits x&&&BitVec.ofInt k.bits y).toNat))|.or=>O (.int k (k.wrap (BitVec.ofInt k.bits x|||BitVec.ofInt k.bits y).toNat))|.xor=>O (.int k (k.wrap (BitVec.ofInt k.bits x^^^BitVec.ofInt k.bits y).toNat))|.andNot=>O (.int k (k.wrap (BitVec.ofInt k.bits x&&& ~~~BitVec.ofInt k.bits y).toNat))|.eql=>O (.bool (gj x y))|.neq=>O (.bool (!gj x y))|.lss=>O (.bool (decide (x<y)))|.leq=>O (.bool (decide (x<=y)))|.gtr=>O (.bool (decide (x>y)))|.geq=>O (.bool (decide (x>=y)))|_=>G
def MY(op:BinOp)(k:bu)(x y:Int):Option AV:=match decide (y<0)with|I=>G|Z=>match op with|.shl=>O (.int k (k.wrap (x*2^(min y.toNat k.bits))))|.shr=>O (.int k (x.fdiv (2^(min y.toNat k.bits))))|_=>G
def DE(op:BinOp)(x y:List UInt8):Option AV:=match op with|.add=>(match decide (((x.length+y.length:Nat):Int)>IntKind.i64.max)with|I=>G|Z=>O (.str (x++y)))|.eql=>O (.bool (iW x y))|.neq=>O (.bool (!iW x y))|.lss=>O (.bool (qY x y))|.leq=>O (.bool (qY x y||iW x y))|.gtr=>O (.bool (!(qY x y||iW x y)))|.geq=>O (.bool (!qY x y))|_=>G
def Bc(op:BinOp)(t:ag)(x y:AV):Option AV:=match x,y with|.int k a,.int k' b=>(match op with|.shl=>MY .shl k a b|.shr=>MY .shr k a b|_=>match fy k k' with|I=>dX op k a b|Z=>G)|.str a,.str b=>DE op a b|x,y=>match op with|.eql=>(match P.eqGuardType P.depth t with|I=>G|Z=>(KL P 12 t x y).map .bool)|.neq=>(match P.eqGuardType P.depth t with|I=>G|Z=>(KL P 12 t x y).map λb=>.bool (!b))|_=>G
def ptrEq(t:ag)(x y:AV):Option Bool:=match P.underlying t,x,y with|O (.pointer e),.ptr i m,.ptr j n=>(match di P e,ae i j with|O (_+1),I=>O (ae m n)|_,_=>G)|_,_,_=>G
def Nu(t:ag)(c:Bool)(x y:AV):Option Bool:=match P.underlying t with|O (.interface _)=>G|_=>G
def isConst:fh->Bool|.const _=>I|_=>Z
def aiR(op:BinOp)(t:ag)(c:Bool)(x y:AV):Option AV:=match(match ptrEq P t x y with|O b=>O b|G=>Nu P t c x y)with|O b=>(match op with|.eql=>O (.bool b)|.neq=>O (.bool (!b))|_=>G)|G=>G
def unA(op:UnOp)(x:AV):Option AV:=match op,x with|.neg,.int k n=>O (.int k (k.wrap (0 - n)))|.xor,.int k n=>dX .xor k (if k.signed then -1 else k.max) n|.not,.bool b=>O (.bool (!b))|_,_=>G
def zy:AV->Option (bu×Tm)|.int k n=>O (k,.c n)|.sym k t=>O (k,t)|_=>G
def Tf(op:BinOp)(k:bu)(a b:Tm):Option AV:=match op with|.add=>O (.sym k (.bin .add k a b))|.sub=>O (.sym k (.bin .sub k a b))|.mul=>O (.sym k (.bin .mul k a b))|.and=>O (.sym k (.bin .and k a b))|.or=>O (.sym k (.bin .or k a b))|.xor=>O (.sym k (.bin .xor k a b))|.andNot=>O (.sym k (.bin .andNot k a b))|.eql=>O (.iI (.bin .eql k a b))|.neq=>O (.iI (.bin .neq k a b))|.lss=>O (.iI (.bin .lss k a b))|.leq=>O (.iI (.bin .leq k a b))|.gtr=>O (.iI (.bin .gtr k a b))|.geq=>O (.iI (.bin .geq k a b))|_=>G
def akH(op:BinOp)(x y:AV):Option AV:=match zy x,zy y with|O (k,a),O (k',b)=>(match fy k k' with|I=>Tf op k a b|Z=>G)|_,_=>G
def aiS(op:BinOp)(t:ag)(x y:AV):Option AV:=match Bc P op t x y with|O v=>O v|G=>akH op x y
def EH(place:Nat->Option (Nat×Nat)):List AV->List (Nat×AV)->Option (List AV)|cells,[]=>O cells|cells,(i,v)::rest=>match place i with|G=>G|O (off,size)=>match ae (da v).length size&&aF (off+size) cells.length&&(da v).all oS with|I=>EH place (KR cells off (da v)) rest|Z=>G
def placesOf(fields:List Field):Option (List (Nat×Nat)):=ji (λf=>(di P f.type).map λn=>(f.offset,n)) fields
def Tg(t:ag)(parts:List (Nat×AV)):Option AV:=match ud P t with|G=>G|O z=>match P.underlying t with|O (.struct fields)=>(match placesOf P fields.toList with|O pl=>(EH (λi=>pl[i]?) (da z) parts).map .agg|G=>G)|O (.array _ e)=>(match di P e with|O n=>(EH (λi=>O (i*n,n)) (da z) parts).map .agg|G=>G)|_=>G
def ZV(z:List AV):Nat->List AV|0=>[]|n+1=>z++ZV z n
def oh(s:St)(o:bF):St:={s with h:=s.h.put s.n (O o),n:=s.n+1}
def Di(s:St):St:={s with n:=s.n+1}
def lK(s:St)(i:Nat)(o:bF):St:={s with h:=s.h.put i (O o),log:=i::s.log}
def cw(s:St)(i:Nat):St:={s with h:=s.h.put i G,log:=i::s.log}
def VR(s:St)(t:ag)(i off:Nat):Option AV:=match s.h.get i with|O (.cells l _ _)=>ir P t l off|_=>G
def kp(s:St)(i off:Nat)(vs:List AV):Option St:=match s.h.get i with|O (.cells l t c)=>(match aF (off+vs.length) l.length&&vs.all oS with|I=>O (lK s i (.cells (KR l off vs) t c))|Z=>G)|_=>G
def Th(s:St)(t:ag)(i off:Nat)(v:AV):Option St:=match di P t with|O n=>(match ae (da v).length n with|I=>kp s i off (da v)|Z=>G)|G=>G
def ag6(n:Nat):zj->Bool|.k c=>aF n c|.u _ _=>Z
def se:AV->Option Nat|.int _ (.ofNat n)=>O n|_=>G
def ME(len:Nat)(c:zj)(n:Nat):Bool:=aF n len||ag6 n c
def XF(len:Nat)(c:zj):Option AV->Option (Option Nat)|G=>O G|O v=>match se v with|O m=>(match ME len c m with|I=>O (O m)|Z=>G)|G=>G
def hiB(len:Nat)(c:zj)(m:Option Nat):Option AV->Option Nat|G=>(match m with|G=>O len|O _=>G)|O v=>match se v with|O h=>(match m with|O m=>(match aF h m with|I=>O h|Z=>G)|G=>match ME len c h with|I=>O h|Z=>G)|G=>G
def loB(h:Nat):Option AV->Option Nat|G=>O 0|O v=>match se v with|O l=>(match aF l h with|I=>O l|Z=>G)|G=>G
def mK(len:Nat)(c:zj)(lo hi mx:Option AV):Option (Nat×Nat×Option Nat):=match XF len c mx with|G=>G|O m=>match hiB len c m hi with|G=>G|O h=>match loB h lo with|G=>G|O l=>O (l,h,m)
def XG(b:Bool)(x y:Nat):Nat:=match b with|I=>x|Z=>y
def Ti(t:ag)(x:AV)(lo hi mx:Option AV):Option AV:=match P.underlying t,x with|O .string,.str s=>(match mx with|O _=>G|G=>match mK s.length (.k s.length) lo hi G with|O (l,h,_)=>O (.str ((s.drop l).take (h - l)))|G=>G)|O (.slice e),.cQ=>(match mK 0 (.k 0) lo hi mx,di P e with|O _,O _=>O .cQ|_,_=>G)|O (.slice e),.slice i off len c=>(match mK len c lo hi mx,di P e with|O (l,h,G),O n=>(match c with|.k c=>O (.slice i (XG (ae c l) off (off+l*n)) (h - l) (.k (c - l)))|.u c m=>match ae l 0,aF (l+1) len with|I,_=>O (.slice i off h (.u c m))|Z,I=>O (.slice i (off+l*n) (h - l) (.u c (m+l)))|Z,Z=>match ae h l with|I=>O (.tail i off (off+l*n) l c m)|Z=>G)|O (l,h,O m),O n=>O (.slice i (XG (ae m l) off (off+l*n)) (h - l) (.k (m - l)))|_,_=>G)|O (.array n e),.ptr i off=>(match mK n (.k n) lo hi mx,di P e with|O (l,h,m),O z=>O (.slice i (XG (ae (m.getD n) l) off (off+l*z)) (h - l) (.k (m.getD n - l)))|_,_=>G)|_,_=>G
def gS(s:St)(size:Nat):AV->Option (List AV)|.cQ=>O []|.tail ..=>O []|.slice i off n _=>(match s.h.get i with|O (.cells l _ _)=>Em l off (n*size)|_=>G)|.str b=>O (b.map λc=>.int .u8 c.toNat)|_=>G
def Be:AV->Option Nat|.cQ=>O 0|.tail ..=>O 0|.slice _ _ n _=>O n|.str b=>O b.length|_=>G
def i64(n:Nat):AV:=.int .i64 (.ofNat n)
def most:Nat:=1000000
def VT(t:ag):Bool:=match P.underlying t with|O (.slice _)=>I|O .string=>I|_=>Z
def Nv(s:St)(t tx:ag)(x y:AV):Option (AV×St):=match VT P tx,P.underlying t with|I,O (.slice e)=>(match Be x,Be y,P.info? e with|O xl,O yl,O inf=>(let size:=inf.size;match gS s size y with|G=>G|O news=>match news.all oS&&aF (xl+yl) most&&aF inf.bytes most&&aF 1 size&&ae news.length (yl*size)&&(match inf.zero with|O z=>ae z.cells.size inf.size|G=>Z)with|Z=>G|I=>let fresh (olds:List AV) (s:St):Option (AV×St):=O (.slice s.n 0 (xl+yl) (.u (s.n+1) 0),Di (oh s (.cells (olds++news) e (O (s.n+1)))));match x with|.cQ=>(match ae yl 0 with|I=>G|Z=>fresh [] s)|.slice i off n (.k c)=>(match aF (n+yl) c with|I=>(match kp s i (off+n*size) news with|O s'=>O (.slice i off (n+yl) (.k c),s')|G=>G)|Z=>match gS s size x with|O olds=>fresh olds s|G=>G)|.slice i off n (.u c m)=>(match ae yl 0 with|I=>G|Z=>match ae off 0&&ae m 0,s.h.get i with|I,O (.cells l t' (O c'))=>(match ae c c'&&ae t' e,Em l 0 (n*size)with|I,O olds=>fresh olds (cw s i)|_,_=>G)|_,_=>G)|_=>G)|_,_,_=>G)|_,_=>G
def aak(s:St)(t:ag)(x y:AV):Option (AV×St):=match P.underlying t with|O (.slice e)=>(match di P e,Be x,Be y with|O size,O xl,O yl=>(let n:=XG (aF yl xl) yl xl;match gS s size y with|G=>G|O cs=>match ae cs.length (yl*size)with|Z=>G|I=>match x with|.cQ=>O (i64 0,s)|.slice i off _ _=>(match kp s i off (cs.take (n*size))with|O s'=>O (i64 n,s')|G=>G)|_=>G)|_,_,_=>G)|_=>G
def fZ:AV->AV->Bool|.bool a,.bool b=>a==b|.int j a,.int k b=>fy j k&&gj a b|.str a,.str b=>iW a b|_,_=>Z
def gE:List AV->List AV->Bool|[],[]=>I|a::x,b::y=>(match fZ a b with|I=>gE x y|Z=>Z)|_,_=>Z
def kN:AV->AV->Option Bool|.agg x,.agg y=>O (gE x y)|.bool a,.bool b=>O (a==b)|.int j a,.int k b=>(match fy j k with|I=>O (gj a b)|Z=>G)|.str a,.str b=>O (iW a b)|_,_=>G
def eM(d:TypeDesc):Bool:=match d with|.bool=>I|.int _=>I|.string=>I|_=>Z
def ke:List Field->Nat->Bool|[],_=>I|f::fs,i=>ae f.offset i&& !(f.name=="_")&&(match P.underlying f.type with|O d=>eM d|G=>Z)&&ke fs (i+1)
def gN(d:TypeDesc)(v:AV):Bool:=match d,v with|.bool,.bool _=>I|.int k,.int k' _=>fy k k'|.string,.str _=>I|_,_=>Z
def ia:List Field->List AV->Bool|[],[]=>I|f::fs,v::vs=>(match P.underlying f.type with|O d=>gN d v|G=>Z)&&ia fs vs|_,_=>Z
def gk(t:ag):Bool:=match P.underlying t with|O (.struct fields)=>!P.stoodInHeld t&&ke P fields.toList 0|O (.array _ e)=>(match di P e with|O n=>ae n 1|G=>Z)&&(match P.underlying e with|O d=>eM d|G=>Z)|O d=>eM d|G=>Z
def mB(t:ag)(k:AV):Bool:=match P.underlying t,k with|O (.struct fields),.agg l=>ia P fields.toList l|O (.array n e),.agg l=>ae l.length n&&(match P.underlying e with|O d=>l.all (gN d)|G=>Z)|O d,v=>gN d v|G,_=>Z
def xm(kt:ag)(k:AV):List (AV×AV×Nat)->Nat->Option (Option (Nat×AV×Nat))|[],_=>O G|(k',v,b)::es,i=>match mB P kt k',kN k k' with|I,O I=>O (O (i,v,b))|I,O Z=>xm kt k es (i+1)|_,_=>G
def mapOf(s:St):AV->Option (List (AV×AV×Nat)×Nat)|.lf=>O ([],0)|.map i=>(match s.h.get i with|O (.map es c)=>O (es,c)|_=>G)|_=>G
def Nw(s:St)(t:ag)(m k:AV)(ok:Bool):Option AV:=match P.underlying t with|O (.map kt e)=>(match gk P kt&&mB P kt k,mapOf s m with|I,O (es,_)=>(match xm P kt k es 0 with|O (O (_,v,_))=>O (match ok with|I=>.il [v,.bool I]|Z=>v)|O G=>(match ud P e with|O z=>O (match ok with|I=>.il [z,.bool Z]|Z=>z)|G=>G)|G=>G)|_,_=>G)|_=>G
def Al(k v:AV):List (AV×AV×Nat)->Nat->List (AV×AV×Nat)|[],_=>[]|(k',v',b)::es,0=>(k,v,b)::es|e::es,i+1=>e::Al k v es i
def Nx(s:St)(t:ag)(m k v:AV):Option St:=match P.underlying t,m with|O (.map kt _),.map i=>(match gk P kt&&mB P kt k,s.h.get i with|I,O (.map es c)=>(match xm P kt k es 0 with|O (O (j,_,_))=>O (lK s i (.map (Al k v es j) c))|O G=>O (lK s i (.map (es++[(k,v,c)]) (c+1)))|G=>G)|_,_=>G)|_,_=>G
def Tj(s:St)(t:ag)(m k:AV):Option (AV×St):=match P.underlying t,m with|O (.map kt e),.map i=>(match gk P kt&&mB P kt k,s.h.get i,ud P e with|I,O (.map es c),O z=>(match xm P kt k es 0 with|O (O (j,v,b))=>O (.il [v,i64 b],lK s i (.map (Al k v es j) c))|O G=>O (.il [z,i64 c],lK s i (.map (es++[(k,z,c)]) (c+1)))|G=>G)|_,_,_=>G)|_,_=>G
def DF(v:AV)(b:Nat):List (AV×AV×Nat)->Option (List (AV×AV×Nat))|[]=>G|(k,v',b')::es=>match ae b' b with|I=>O ((k,v,b')::es)|Z=>match DF v b es with|O r=>O ((k,v',b')::r)|G=>G
def vD(s:St)(m alL v:AV):Option St:=match m,se alL with|.map i,O b=>(match s.h.get i with|O (.map es c)=>(match DF v b es with|O nS=>O (lK s i (.map nS c))|G=>G)|_=>G)|_,_=>G
def aal(s:St)(it:AV):Option (List (AV×St)):=match it with|.ptr i 0=>(match s.h.get i with|O (.iter G _ _ _)=>O [(.il [.bool Z],s)]|O (.iter (O m) since seen qX)=>(match s.h.get m with|O (.map es clock)=>(match ae clock qX&&es.all (λe=>aF (e.2.2+1) clock)with|Z=>G|I=>let left:=es.filter λe=> !seen.any (ae e.2.2);match left with|[]=>O [(.il [.bool Z],cw s i)]|_=>match left.all (λe=>aF (e.2.2+1) since)with|I=>O (left.map λe=>(.il [.bool I,e.1,e.2.1],lK s i (.iter (O m) since (seen++[e.2.2]) clock)))|Z=>G)|_=>G)|_=>G)|_=>G
def VU:List Nat->Option Nat|[]=>G|[x]=>O x|_::l=>VU l
def Am(b:Nat):List (AV×AV×Nat)->Option (AV×AV)|[]=>G|(k,v,b')::es=>match ae b' b with|I=>O (k,v)|Z=>Am b es
def Ny(s:St)(it:AV):Option AV:=match it with|.ptr i 0=>(match s.h.get i with|O (.iter (O m) _ seen qX)=>(match VU seen,s.h.get m with|O b,O (.map es clock)=>(match ae clock qX with|I=>(Am b es).map λp=>.il [p.1,p.2]|Z=>G)|_,_=>G)|_=>G)|_=>G
def evA(T:Tr AV):fh->Option AV|.tmp t=>T.get t|.const v=>ofV v|.func f=>O (.func (.func f) [] [])|.global g=>O (.mw g 0)
def Dj(T:Tr AV):Option fh->Option (Option AV)|G=>O G|O x=>match evA T x with|O v=>O (O v)|G=>G
def bytesOf(cs:List AV):Option (List UInt8):=ji (λc=>match c with|.int .u8 (.ofNat n)=>O (UInt8.ofNat n)|_=>G) cs
def ZW(s:St)(d:TypeDesc)(v:AV):Option AV:=match d,v with|.string,.str b=>O (i64 b.length)|.slice _,.cQ=>O (i64 0)|.slice _,.slice _ _ n _=>O (i64 n)|.array n _,_=>O (i64 n)|.pointer a,_=>(match P.underlying a with|O (.array n _)=>O (i64 n)|_=>G)|.map _ _,.lf=>O (i64 0)|.map _ _,.map i=>(match s.h.get i with|O (.map es _)=>O (i64 es.length)|_=>G)|_,_=>G
def worldless(op:Op):Bool:=match op with|.load ..=>Z|.lookup ..=>Z|.entry _=>Z|.convert src _ _=>(match P.underlying src with|O (.slice _)=>Z|O _=>I|G=>Z)|.call c=>(match c.callee with|.builtin .len=>(match c.argTypes[0]? with|O t=>(match P.underlying t with|O (.map _ _)=>Z|O _=>I|G=>Z)|G=>Z)|.builtin .min=>I|.builtin .max=>I|_=>Z)|_=>I
def oq(s:St)(T:Tr AV)(op:Op):Option AV:=let ρ:=evA T;match op with|.move x|.assign x=>ρ x|.pick c a b=>(match ρ c with|O (.bool I)=>ρ a|O (.bool Z)=>ρ b|_=>G)|.build t parts=>(match ji (λp=>(ρ p.2).map λv=>(p.1,v)) parts.toList with|O ps=>Tg P t ps|G=>G)|.load t a=>(match ρ a with|O (.ptr i off)=>VR P s t i off|O (.mw g off)=>G|_=>G)|.nilCheck x=>(match ρ x with|O .kv=>G|O .gP=>G|O .iq=>G|O (.ext _)=>G|O (.deep _ _)=>G|r=>r)|.binOp op t x y _=>(match ρ x,ρ y with|O a,O b=>(match aiS P op t a b with|O v=>O v|G=>aiR P op t (isConst x||isConst y) a b)|_,_=>G)|.unOp op _ x=>(match ρ x with|O a=>unA op a|G=>G)|.convert src dst x=>(match ρ x with|O (.int _ n)=>(match P.underlying src,P.underlying dst with|O _,O (.int k)=>O (.int k (k.wrap n))|_,_=>G)|O (.str b)=>G|O (.sym _ u)=>(match P.underlying src,P.underlying dst with|O _,O (.int k)=>O (.sym k (.conv k u))|_,_=>G)|O v=>G|G=>G)|.makeInterface t x=>G|.makeFunc fn first cap=>(match fn,ji ρ first.toList,ji ρ cap.toList with|.func f,O a,O b=>O (.func (.func f) a b)|_,_,_=>G)|.slice t x lo hi mx=>(match ρ x,Dj T lo,Dj T hi,Dj T mx with|O v,O l,O h,O m=>Ti P t v l h m|_,_,_,_=>G)|.fieldAddr st x f=>(match P.underlying st,ρ x with|O (.struct fields),O (.ptr i off)=>(match fields[f]? with|O fd=>(match di P fd.type with|O 0=>G|O _=>O (.ptr i (off+fd.offset))|G=>G)|G=>G)|O (.struct fields),O (.mw g off)=>G|_,_=>G)|.field st x f=>(match P.underlying st,ρ x with|O (.struct fields),O (.agg cs)=>(match fields[f]? with|O fd=>ir P fd.type cs fd.offset|G=>G)|_,_=>G)|.indexAddr t x i=>(match P.underlying t,ρ x,(ρ i).bind se with|O (.array n e),O (.ptr b off),O j=>(match aF (j+1) n,di P e with|I,O z=>O (.ptr b (off+j*z))|_,_=>G)|O (.array n e),O (.mw b off),O j=>G|O (.slice e),O (.slice b off n _),O j=>(match aF (j+1) n,di P e with|I,O z=>O (.ptr b (off+j*z))|_,_=>G)|_,_,_=>G)|.index t x i=>(match P.underlying t,ρ x,(ρ i).bind se with|O (.array n e),O (.agg cs),O j=>(match aF (j+1) n,di P e with|I,O z=>ir P e cs (j*z)|_,_=>G)|O .string,O (.str b),O j=>(match b[j]? with|O c=>O (.int .u8 c.toNat)|G=>G)|_,_,_=>G)|.lookup t x i ok=>(match ρ x,ρ i with|O m,O k=>Nw P s t m k ok|_,_=>G)|.extract x i=>(match ρ x with|O (.il l)=>l[i]? |_=>G)|.entry it=>(ρ it).bind (Ny s)|.typeAssert x _ t ok=>G|.call c=>(match c.callee with|.builtin .len=>(match c.args.toList,c.argTypes[0]? with|[x],O t=>(match P.underlying t,ρ x with|O d,O v=>ZW P s d v|_,_=>G)|_,_=>G)|.builtin .min=>(match c.args.toList with|[x,y]=>(match ρ x,ρ y with|O (.int k a),O (.int _ b)=>O (.int k (if b<a then b else a))|_,_=>G)|_=>G)|.builtin .max=>G|_=>G)|_=>G
def Tk(s:St)(t:ag)(x:AV):Option (AV×St):=match P.underlying t,x with|O (.map _ _),.lf=>O (.ptr s.n 0,oh s (.iter G 0 [] 0))|O (.map _ _),.map i=>(match s.h.get i with|O (.map _ c)=>O (.ptr s.n 0,oh s (.iter (O i) c [] c))|_=>G)|_,_=>G
def xS(T:Tr AV)(op:Op):Option (bF×(Nat->AV)):=let ρ:=evA T;let mk (l:List AV) (t:ag) (f:Nat->AV):Option (bF×(Nat->AV)):=match l.all oS with|I=>O (.cells l t G,f)|Z=>G;match op with|.alloc t=>(match ud P t with|O z=>mk (da z) t λi=>.ptr i 0|G=>G)|.box t x=>(match ρ x with|O v=>mk (da v) t λi=>.ptr i 0|G=>G)|.buildSlice t len parts=>(match P.underlying t,ji (λp=>(ρ p.2).map λv=>(p.1,v)) parts.toList with|O (.slice e),O ps=>(match ud P e,di P e with|O z,O n=>(match aF (len*n) most&&ae (da z).length n&&(da z).all oS with|I=>(match EH (λi=>O (i*n,n)) (ZV (da z) len) ps with|O l=>mk l e λi=>.slice i 0 len (.k len)|G=>G)|Z=>G)|_,_=>G)|_,_=>G)|.makeSlice t l c=>(match P.underlying t,(ρ l).bind se,(ρ c).bind se with|O (.slice e),O l,O c=>(match ud P e,P.info? e with|O z,O inf=>(match aF l c&&aF c most&&aF inf.bytes most&&ae (da z).length inf.size&&(da z).all oS with|I=>mk (ZV (da z) c) e λi=>.slice i 0 l (.k c)|Z=>G)|_,_=>G)|_,_,_=>G)|.makeMap t r=>(match r with|G=>O (.map [] 0,λi=>.map i)|O x=>G)|_=>G
def Tl(s:St)(t:ag)(x:AV):Option St:=match P.underlying t with|G=>G|O d=>match x with|.cQ=>O s|.lf=>O s|.slice i off len _=>(match ae len 0 with|I=>O s|Z=>match d with|.slice e=>(match ud P e with|O z=>(match(da z).all oS with|I=>kp s i off (ZV (da z) len)|Z=>G)|G=>G)|_=>G)|.map i=>(match s.h.get i with|O (.map _ c)=>O (lK s i (.map [] c))|_=>G)|_=>G
def ZX(s:St)(T:Tr AV)(op:Op):Option (AV×St):=let ρ:=evA T;match op with|.convert src dst x=>G|.store t a x=>(match ρ a,ρ x with|O (.ptr i off),O v=>(Th P s t i off v).map λs=>(jN,s)|_,_=>G)|.mapUpdate t m k v|.insert t m k v=>(match ρ m,ρ k,ρ v with|O m,O k,O v=>(Nx P s t m k v).map λs=>(jN,s)|_,_,_=>G)|.mapEntry t m k=>(match ρ m,ρ k with|O m,O k=>Tj P s t m k|_,_=>G)|.entryStore _ m b v=>(match ρ m,ρ b,ρ v with|O m,O b,O v=>(vD s m b v).map λs=>(jN,s)|_,_,_=>G)|.range t x=>(match ρ x with|O v=>Tk P s t v|G=>G)|.call c=>(match c.callee with|.builtin .append=>(match c.args.toList,c.argTypes.toList with|[x,y],[t,tx]=>(match ρ x,ρ y with|O x,O y=>Nv P s t tx x y|_,_=>G)|_,_=>G)|.builtin .copy=>(match c.args.toList,c.argTypes.toList with|[x,y],[t,_]=>(match ρ x,ρ y with|O x,O y=>aak P s t x y|_,_=>G)|_,_=>G)|.builtin .delete=>G|.builtin .clear=>(match c.args.toList,c.argTypes.toList with|[x],[t]=>(match ρ x with|O x=>(Tl P s t x).map λs=>(jN,s)|G=>G)|_,_=>G)|.builtin .cap=>G|.builtin .unsafeSliceData=>G|.builtin .unsafeString=>G|_=>G)|_=>G
def fC(op:Op):Nat:=match op with|.move _|.assign _|.pick ..|.build ..|.nilCheck _|.binOp ..|.unOp ..|.makeInterface ..|.makeFunc ..|.slice ..|.fieldAddr ..|.field ..|.indexAddr ..|.index ..|.extract ..|.typeAssert ..=>2|.convert src dst _=>(match P.underlying src with|O (.slice _)=>1|O .string=>(match P.underlying dst with|O (.slice _)=>4|_=>2)|O (.pointer _)=>4|O .unsafePointer=>4|_=>2)|.load ..|.lookup ..|.entry _=>1|.alloc _|.box ..|.buildSlice ..|.makeSlice ..|.makeMap ..=>3|.call c=>(match c.callee with|.builtin .len=>(match worldless P op with|I=>2|Z=>1)|.builtin .min=>2|.builtin .max=>2|.builtin _=>4|_=>0)|_=>4
inductive akI where
 |enter (f:Nat) (args:List AV)
 |round (l:Nat) (args:List AV)
def Nz(T:Tr AV)(op:Op):Option akI:=match op with|.call c=>(match c.callee with|.value f=>(match evA T f,ji (evA T) c.args.toList with|O (.func (.func g) first cap),O args=>O (.enter g (first++args++cap))|O (.func (.yield l) first cap),O args=>O (.round l (first++args))|_,_=>G)|_=>G)|_=>G
def gg(ops:Array aY)(T:Tr AV)(o:aY):Option Bool:=match o.guard with|G=>O I|O (j,want)=>match(ops[j]?).bind (·.dst)with|O d=>(match T.get d with|O (.bool b)=>O (b==want)|O (.il _)=>O Z|_=>G)|G=>G
end
def EI:zj->zj->Bool|.k a,.k b=>ae a b|.u a b,.u c d=>ae a c&&ae b d|_,_=>Z
def aiT:OL->OL->Bool|.func a,.func b=>ae a b|.yield a,.yield b=>ae a b|_,_=>Z
def akJ:BinOp->BinOp->Bool|.add,.add|.sub,.sub|.mul,.mul|.quo,.quo|.rem,.rem|.and,.and|.or,.or|.xor,.xor|.andNot,.andNot|.shl,.shl|.shr,.shr=>I|.eql,.eql|.neq,.neq|.lss,.lss|.leq,.leq|.gtr,.gtr|.geq,.geq=>I|_,_=>Z
mutual
def dF:Tm->Tm->Bool|.c a,.c b=>gj a b|.x i,.x j=>ae i j|.bin o k a b,.bin p l c d=>akJ o p&&fy k l&&dF a c&&dF b d|.conv k a,.conv l b=>fy k l&&dF a b|.f o l,.f p m=>ae o p&&KS l m|_,_=>Z
def KS:List Tm->List Tm->Bool|[],[]=>I|a::l,b::m=>(match dF a b with|I=>KS l m|Z=>Z)|_,_=>Z
end
def VV:Option Int->Int->Option Int|G,n=>O n|O m,n=>O (match decide (m<=n)with|I=>n|Z=>m)
def VW:Option Int->Int->Option Int|G,n=>O n|O m,n=>O (match decide (m<=n)with|I=>m|Z=>n)
def aj6(a:Option Int):Option Int->Option Int|G=>a|O n=>VV a n
def Tn(a:Option Int):Option Int->Option Int|G=>a|O n=>VW a n
def zA:Option Int->Option Int->Option Int|O a,O b=>O (a+b)|_,_=>G
def Dk:Option Int->Option Int->Option Int|O a,O b=>O (a - b)|_,_=>G
def inK(k:bu)(p:Option Int×Option Int):Bool:=match p.1,p.2 with|O a,O b=>decide (k.min<=a)&&decide (b<=k.max)|_,_=>Z
def SC(k:bu)(p:Option Int×Option Int):Option Int×Option Int:=match inK k p with|I=>p|Z=>(O k.min,O k.max)
def uU(p:Option Int×Option Int):Bool:=match p.1 with|O a=>decide (0<=a)|G=>Z
def aam(a:Int):Option Int->Int|O c=>(match decide (0<c)with|I=>a/c|Z=>a)|G=>a
def ZY(o:BinOp)(k:bu)(p q:Option Int×Option Int):Option Int×Option Int:=match o with|.add=>SC k (zA p.1 q.1,zA p.2 q.2)|.sub=>SC k (Dk p.1 q.2,Dk p.2 q.1)|.mul=>(match uU p&&uU q,p.2,q.2 with|I,O a,O b=>SC k (O 0,O (a*b))|_,_,_=>(O k.min,O k.max))|.quo=>(match uU p&&uU q,p.2 with|I,O a=>SC k (O 0,O (aam a q.1))|_,_=>(O k.min,O k.max))|.rem=>(match uU p,q.1,q.2 with|I,O a,O b=>(match decide (0<a)with|I=>(O 0,Tn (O (b - 1)) p.2)|Z=>(G,G))|_,_,_=>(G,G))|.and|.or|.xor|.andNot=>(O k.min,O k.max)|.eql|.neq|.lss|.leq|.gtr|.geq=>(O 0,O 1)|_=>(G,G)
def un(o:Nat):Tm->Option Tm|.f p [a]=>(match ae p o with|I=>O a|Z=>G)|_=>G
def bi(o:Nat):Tm->Option (Tm×Tm)|.f p [a,b]=>(match ae p o with|I=>O (a,b)|Z=>G)|_=>G
def li(o:Nat):Tm->Option (List Tm)|.f p l=>(match ae p o with|I=>O l|Z=>G)|_=>G
def Tp:BinOp->BinOp|.lss=>.gtr|.leq=>.geq|.gtr=>.lss|.geq=>.leq|o=>o
def Po(o:BinOp)(b:Bool)(q:Option Int×Option Int):Option Int×Option Int:=match o,b with|.eql,I=>q|.neq,Z=>q|.lss,I=>(G,Dk q.2 (O 1))|.lss,Z=>(q.1,G)|.leq,I=>(G,q.2)|.leq,Z=>(zA q.1 (O 1),G)|.gtr,I=>(zA q.1 (O 1),G)|.gtr,Z=>(G,q.2)|.geq,I=>(q.1,G)|.geq,Z=>(G,Dk q.2 (O 1))|_,_=>(G,G)
def EJ(p q:Option Int×Option Int):Option Int×Option Int:=(aj6 p.1 q.1,Tn p.2 q.2)
def ZZ(E:Tm->Option Int×Option Int)(t:Tm):List (Tm×Bool)->Option Int×Option Int|[]=>(G,G)|(.bin o _ a c,b)::pc=>(let r:=ZZ E t pc;let r:=match dF a t with|I=>EJ r (Po o b (E c))|Z=>r;match dF c t with|I=>EJ r (Po (Tp o) b (E a))|Z=>r)|_::pc=>ZZ E t pc
def tight(t:Tm):List (Tm×Bool)->Option Int×Option Int->Option Int×Option Int|[],r=>r|(.bin o _ a (.c n),b)::pc,r=>tight t pc (match dF a t,o,b with|I,.neq,I=>(match r.1 with|O m=>(match gj m n with|I=>O (m+1)|Z=>O m)|G=>G,match r.2 with|O m=>(match gj m n with|I=>O (m - 1)|Z=>O m)|G=>G)|I,.eql,Z=>(match r.1 with|O m=>(match gj m n with|I=>O (m+1)|Z=>O m)|G=>G,match r.2 with|O m=>(match gj m n with|I=>O (m - 1)|Z=>O m)|G=>G)|_,_,_=>r)|_::pc,r=>tight t pc r
def aiU(E:Tm->Option Int×Option Int)(t:Tm):Option Int×Option Int:=match t with|.c n=>(O n,O n)|.x _=>(G,G)|.conv k a=>SC k (E a)|.bin o k a b=>ZY o k (E a) (E b)|.f o l=>match un 0 (.f o l)with|O u=>EJ (O 0,G) (match bi 2 u with|O (a,b)=>(G,zA (E (.f 0 [a])).2 (E (.f 0 [b])).2)|G=>match li 3 u with|O l=>(O (.ofNat l.length),O (.ofNat l.length))|G=>match li 8 u with|O [a,_,_]=>(G,(E (.f 0 [a])).2)|O _=>(G,G)|G=>match li 11 u with|O l=>(O (.ofNat l.length),O (.ofNat l.length))|G=>match un 15 u with|O a=>E (.f 0 [a])|G=>match u with|.f p _=>(G,match aF 100 p with|I=>amm p|Z=>G)|_=>(G,G))|G=>match ae o 4||ae o 5||ae o 10||ae o 20 with|I=>(O 0,O 1)|Z=>match ae o 9 with|I=>(O 0,O 255)|Z=>match bi 12 (.f o l)with|O (a,b)=>(Dk (E b).1 (E a).2,Dk (E b).2 (E a).1)|G=>match bi 6 (.f o l)with|O (a,_)=>(match uU (E a)with|I=>(O 0,(E a).2)|Z=>(G,G))|G=>match aF 100 o with|I=>aiP o|Z=>(G,G)
def aeE(E:Tm->Option Int×Option Int)(pc:List (Tm×Bool)):Nat->Tm->Option Int×Option Int|0,t=>E t|d+1,t=>match t with|.c n=>(O n,O n)|t=>tight t pc (EJ (ZZ E t pc) (aiU (aeE E pc d) t))
def MF:Nat->List (Tm×Bool)->Tm->Option Int×Option Int|0,_,t=>(match t with|.c n=>(O n,O n)|_=>(G,G))|d+1,pc,t=>aeE (MF d pc) pc 80 t
def leO:Option Int->Option Int->Bool|O a,O b=>decide (a<=b)|_,_=>Z
def ltO:Option Int->Option Int->Bool|O a,O b=>decide (a<b)|_,_=>Z
def aiV(o:BinOp)(p q:Option Int×Option Int):Option Bool:=match o with|.lss=>(match ltO p.2 q.1,leO q.2 p.1 with|I,_=>O I|_,I=>O Z|_,_=>G)|.geq=>(match ltO p.2 q.1,leO q.2 p.1 with|I,_=>O Z|_,I=>O I|_,_=>G)|.leq=>(match leO p.2 q.1,ltO q.2 p.1 with|I,_=>O I|_,I=>O Z|_,_=>G)|.gtr=>(match leO p.2 q.1,ltO q.2 p.1 with|I,_=>O Z|_,I=>O I|_,_=>G)|.eql=>(match ltO p.2 q.1||ltO q.2 p.1,leO p.2 q.1&&leO q.2 p.1 with|I,_=>O Z|_,I=>O I|_,_=>G)|.neq=>(match ltO p.2 q.1||ltO q.2 p.1,leO p.2 q.1&&leO q.2 p.1 with|I,_=>O I|_,I=>O Z|_,_=>G)|_=>G
def nA(t:Tm):List (Tm×Bool)->Option Bool|[]=>G|(u,b)::pc=>match dF u t with|I=>O b|Z=>nA t pc
def Pp:Nat:=5
structure fV where
 hs:List (Tm×Bool)
 t:Tm
 b:Bool
def EK(t:Tm):List (Tm×Bool)->Bool|[]=>(match t with|.c _=>I|_=>Z)|(.bin _ _ a c,_)::r=>dF a t||dF c t||EK t r|_::r=>EK t r
def aan(pc:List (Tm×Bool))(t:Tm)(b:Bool):Bool:=match t with|.bin o _ x y=>EK x pc&&EK y pc&&(match aiV o (MF Pp pc x) (MF Pp pc y)with|O c=>c==b|G=>Z)|_=>Z
def Bj(pc:List (Tm×Bool)):List (Tm×Bool)->Bool|[]=>I|(t,b)::l=>(match nA t pc with|O c=>c==b|G=>aan pc t b)&&Bj pc l
def Z0(pc:List (Tm×Bool))(t:Tm):List fV->Option Bool|[]=>G|e::r=>match dF e.t t with|Z=>Z0 pc t r|I=>match Bj pc e.hs with|I=>O e.b|Z=>Z0 pc t r
def akK:Option Bool->Option Bool|O b=>O (!b)|G=>G
def aeF:Option Bool->Option Bool->Option Bool|O Z,_=>O Z|_,O Z=>O Z|O I,O I=>O I|_,_=>G
def Km:Nat->List fV->List (Tm×Bool)->Tm->Option Bool|0,_,_,_=>G|d+1,lm,pc,t=>match nA t pc with|O b=>O b|G=>match Z0 pc t lm with|O b=>O b|G=>match t with|.c n=>O (!(gj n 0))|.bin o _ a b=>aiV o (MF Pp pc a) (MF Pp pc b)|t=>match un 10 t with|O a=>akK (Km d lm pc a)|G=>match bi 5 t with|O (a,b)=>aeF (Km d lm pc a) (Km d lm pc b)|G=>G
def MG(lm:List fV)(pc:List (Tm×Bool))(t:Tm):Option Bool:=Km 12 lm pc t
def KT:Nat->Tm->Bool->List (Tm×Bool)->List (Tm×Bool)|0,t,b,pc=>(t,b)::pc|d+1,t,b,pc=>match un 10 t with|O a=>(t,b)::KT d a (!b) pc|G=>match bi 5 t,b with|O (x,y),I=>(t,b)::KT d x I (KT d y I pc)|_,_=>(t,b)::pc
def bm:Nat:=1000000
def Cn(o:Nat):Bool:=ae o 0||ae o 3||ae o 4||ae o 5||ae o 6||ae o 7||ae o 8||ae o 9||ae o 10||ae o 12||ae o 16||ae o 20||ae o 32||ae o 33||ae o 45
def Tq(o:Nat)(l:List Tm):Option Tm:=match l with|[_,c]=>(match ae o 22 with|I=>O c|Z=>G)|_=>G
def Tt(o:Nat)(l:List Tm):Option Tm:=match l with|[_]=>(match ae o 14 with|I=>O (.f 11 [])|Z=>G)|_=>G
def Tu(o:Nat)(l:List Tm):Option Tm:=match l with|[a]=>(match ae o 15 with|I=>O a|Z=>G)|_=>G
def aao(o:Nat)(l m:List Tm):Option Tm:=match l with|[_,n]=>(match m with|a::_=>(match ae o 25||ae o 35||ae o 19||ae o 21 with|I=>O (.f o [a,n])|Z=>G)|_=>G)|_=>G
def aap(o:Nat)(l m:List Tm):Option Tm:=match l with|[_,i,j]=>(match m with|a::_=>(match ae o 26||ae o 31 with|I=>O (.f o [a,i,j])|Z=>G)|_=>G)|_=>G
def Tv(o:Nat)(l m:List Tm):Option Tm:=match l with|_::i::j::_=>(match m with|a::_::_::cs=>(match ae o 24 with|I=>O (.f 24 (a::i::j::cs))|Z=>G)|_=>G)|_=>G
def aaq(o:Nat)(l m:List Tm):Option Tm:=match l with|[_,i,_]=>(match m with|[a,_,z]=>(match ae o 28||ae o 30||ae o 17||ae o 18||ae o 36 with|I=>O (.f o [a,i,z])|Z=>G)|_=>G)|_=>G
def Tw(o:Nat)(l m:List Tm):Option Tm:=match l with|[n,_]=>(match m with|[_,z]=>(match ae o 29 with|I=>O (.f 29 [n,z])|Z=>G)|_=>G)|_=>G
def orT(a:Option Tm)(b:Tm):Tm:=match a with|O t=>t|G=>b
def aar(o:Nat)(l m:List Tm):Tm:=match Cn o||aF 1000 o with|I=>.f o l|Z=>match ae o 2||ae o 11||ae o 13 with|I=>.f o m|Z=>match ae o 23 with|I=>.f 23 l|Z=>orT (Tq o l) (orT (Tt o l) (orT (Tu o m) (orT (aao o l m) (orT (aap o l m) (orT (Tv o l m) (orT (aaq o l m) (orT (Tw o l m) (.f 23 [.f o l]))))))))
mutual
def cK:Tm->Tm|.c n=>.c n|.x i=>.f 23 [.x i]|.bin o k a b=>.bin o k a b|.conv k a=>.conv k a|.f o l=>aar o l (kV l)
def kV:List Tm->List Tm|[]=>[]|t::l=>cK t::kV l
end
def aeG:Tm->Tm|.f o (t::l)=>(match ae o 24||ae o 36||ae o 28||ae o 30||ae o 45 with|I=>aeG t|Z=>match ae o 29,l with|I,[_]=>t|_,_=>.f 0 [.f o (t::l)])|t=>.f 0 [t]
def xO(t:Tm):Tm:=match bi 22 t with|O (_,c)=>c|G=>t
def jY(t:Tm):Tm:=.f 0 [xO t]
def Z1(t:Tm):Tm:=match un 0 t with|O u=>aeG u|G=>t
def ns(a b:Tm):Bool:=dF a b||dF (Z1 a) (Z1 b)
def KU(own one:Bool)(t it:Tm)(j:Nat):Tm:=match own,one with|Z,_=>.f 1 [t,it,.c (.ofNat j)]|I,I=>.f 35 [t,it]|I,Z=>.f 31 [t,it,.c (.ofNat j)]
def VX(own one sl:Bool)(t it:Tm)(j:Nat):Tm:=match bi 22 t with|O (a,c)=>(match sl with|I=>.f 22 [KU own one a it j,KU I one c it j]|Z=>KU I one c it j)|G=>KU own one t it j
def SD:TypeDesc->Bool|.slice _=>I|_=>Z
def dG(P:aw):Nat->ag->Option (List ag)|0,_=>G|d+1,t=>match P.underlying t with|O (.struct fs)=>(ji (λf=>dG P d f.type) fs.toList).map List.flatten|O (.array n e)=>(dG P d e).map λl=>(fF n l).flatten|O _=>O [t]|G=>G
def uM:AV->Option Tm|.int _ n=>O (.c n)|.sym _ t=>O t|_=>G
def zY(l:List UInt8):Tm:=.f 3 (l.map λb=>.c (.ofNat b.toNat))
def KV:AV->Option Tm|.str l=>O (zY l)|.iJ t=>O t|_=>G
def oF(d:TypeDesc)(t:Tm):Option AV:=match d with|.bool=>O (.iI t)|.int k=>O (.sym k t)|.string=>O (.iJ t)|.slice e=>O (.deep e t)|_=>G
section
variable(P:aw)
def cellsD(own one:Bool)(tm it:Tm):List ag->Nat->Option (List AV)|[],_=>O []|t::l,j=>match P.underlying t with|O d=>(match oF d (VX own one (SD d) tm it j),cellsD own one tm it l (j+1)with|O v,O r=>O (v::r)|_,_=>G)|G=>G
def SE:List Nat->List Nat->Bool|[],[]=>I|a::l,b::m=>(match ae a b with|I=>SE l m|Z=>Z)|_,_=>Z
def zN(own:Bool)(t e:ag)(sz:Nat)(tm it:Tm)(off:Nat):Option AV:=match dG P 8 e,dG P 8 t,di P t,di P e,fD P t with|O ts,O us,O n,O z,O agg=>(match SE us ((ts.drop off).take us.length)&&ae us.length n&&ae z sz with|I=>(match cellsD P own (ae ts.length 1) tm it us off,agg with|O l,I=>O (.agg l)|O [v],Z=>O v|_,_=>G)|Z=>G)|_,_,_,_,_=>G
def aeH(a b:Tm):Tm:=match b with|.c n=>(match gj n 1 with|I=>a|Z=>.f 5 [a,b])|b=>.f 5 [a,b]
def aiW(k:bu)(a b:Tm):Tm:=match a,b with|.c x,.c y=>.c (match gj x y with|I=>1|Z=>0)|a,b=>.bin .eql k a b
def XH (E:ag->AV->AV->Option Tm) (xs ys:List AV):List Field->Option Tm|[]=>O (.c 1)|f::fs=>match f.name=="_" with|I=>XH E xs ys fs|Z=>match ir P f.type xs f.offset,ir P f.type ys f.offset with|O x,O y=>(match E f.type x y,XH E xs ys fs with|O a,O b=>O (aeH a b)|_,_=>G)|_,_=>G
def Z2(E:AV->AV->Option Tm)(e:ag)(size:Nat)(xs ys:List AV):Nat->Nat->Option Tm|0,_=>O (.c 1)|n+1,i=>match ir P e xs (i*size),ir P e ys (i*size)with|O x,O y=>(match E x y,Z2 E e size xs ys n (i+1)with|O a,O b=>O (aeH a b)|_,_=>G)|_,_=>G
def eqS:Nat->ag->AV->AV->Option Tm|0,_,_,_=>G|d+1,t,x,y=>match P.underlying t with|O (.int _)=>(match zy x,zy y with|O (k,a),O (l,b)=>(match fy k l with|I=>O (aiW k a b)|Z=>G)|_,_=>G)|O .string=>(match KV x,KV y with|O a,O b=>O (.f 4 [a,b])|_,_=>G)|O (.struct fields)=>(match x,y with|.agg xs,.agg ys=>(match P.stoodInHeld t with|I=>G|Z=>XH P (eqS d) xs ys fields.toList)|_,_=>G)|O (.array len e)=>(match x,y with|.agg xs,.agg ys=>(match di P e with|O n=>Z2 P (eqS d e) e n xs ys len 0|G=>G)|_,_=>G)|_=>G
def isAgg2:AV->AV->Bool|.agg _,.agg _=>I|_,_=>Z
def aj7:AV->AV->Bool|.iJ _,.iJ _=>I|.iJ _,.str _=>I|.str _,.iJ _=>I|_,_=>Z
variable(lm:List fV)
def bnd(s:St)(t:Tm):Option Int×Option Int:=MF Pp s.x.pc t
def gA(s:St)(t:Tm):Bool:=match MG lm s.x.pc t with|O I=>I|_=>Z
def Tx(s:St)(i j:Tm):Tm:=match j with|.bin .add k a m=>(match dF a i&&inK k (zA (bnd s a).1 (bnd s m).1,zA (bnd s a).2 (bnd s m).2)with|I=>m|Z=>.f 12 [i,j])|j=>.f 12 [i,j]
def EL(s:St)(t:Tm):Tm:=match li 3 t with|O l=>.c (.ofNat l.length)|G=>match li 8 t with|O [_,i,j]=>Tx s i j|_=>.f 0 [t]
def wa(s:St):List AV->Option (List Tm)|[]=>O []|v::l=>match v,wa s l with|.int .u8 n,O r=>(match decide (0<=n)&&decide (n<256)with|I=>O (.c n::r)|Z=>G)|.sym .u8 t,O r=>(match inK .u8 (bnd s t)with|I=>O (t::r)|Z=>G)|_,_=>G
def Tz(_:List fV)(s:St)(t:ag)(v:AV):Option Tm:=match P.underlying t,v with|O .bool,.bool b=>O (.c (match b with|I=>1|Z=>0))|O .bool,.iI u=>O (.f 10 [.f 10 [u]])|O (.int k),.int l n=>(match fy k l with|I=>O (.c n)|Z=>G)|O (.int k),.sym l u=>(match fy k l with|I=>O u|Z=>G)|O .string,.str l=>O (zY l)|O .string,.iJ u=>O u|O (.slice e),.cQ=>O (.f 22 [.f 14 [.c (.ofNat e)],.f 11 []])|O (.slice e),.deep e' u=>(match ae e e' with|I=>O u|Z=>G)|_,_=>G
def o_(s:St):List ag->List AV->Option (List Tm)|[],[]=>O []|t::ts,v::vs=>(match Tz P lm s t v,o_ s ts vs with|O a,O r=>O (a::r)|_,_=>G)|_,_=>G
def wb(s:St)(ts:List ag):Nat->List AV->Option (List Tm)|0,[]=>O []|0,_::_=>G|n+1,vs=>match o_ P lm s ts (vs.take ts.length),wb s ts n (vs.drop ts.length)with|O [a],O r=>O (a::r)|O l,O r=>O (.f 13 l::r)|_,_=>G
def VY(s:St)(e:ag)(n:Nat)(vs:List AV):Option Tm:=match di P e,dG P 8 e with|O z,O ts=>(match ae ts.length z&&ae vs.length (n*z)with|I=>(match P.underlying e with|O (.int .u8)=>(match ae z 1,wa s vs with|I,O l=>O (.f 3 l)|_,_=>G)|O _=>(match wb P lm s ts n vs with|O l=>O (.f 11 l)|G=>G)|G=>G)|Z=>G)|_,_=>G
def xn(s:St)(t:ag)(v:AV):Option Tm:=match dG P 8 t,fD P t,(da v).all oS with|O ts,O agg,I=>(match(match v with|.agg _=>agg|_=> !agg),o_ P lm s ts (da v)with|I,O [a]=>O a|I,O l=>O (.f 13 l)|_,_=>G)|_,_,_=>G
def flatK(t:ag):Bool:=match P.underlying t with|O .bool=>I|O (.int _)=>I|O .string=>I|_=>Z
def mD(t:ag):Bool:=match dG P 8 t with|O ts=>ts.all (flatK P)|G=>Z
def EM(e:ag)(a c:Tm):Tm:=match mD P e with|I=>c|Z=>.f 22 [.f 15 [a],c]
def uN(e:ag):Bool:=match dG P 8 e,di P e with|O ts,O z=>ae ts.length z&&(match P.underlying e with|O (.int .u8)=>Z|_=>I)|_,_=>Z
def oT(e:ag)(t:Tm):Tm:=match mD P e with|I=>cK t|Z=>.f 22 [t,cK t]
def both(t:Tm)(f:Tm->Tm)(g:Tm->Tm):Tm:=match bi 22 t with|O (a,c)=>.f 22 [f a,g c]|G=>g t
def xp(t n:Tm):Tm:=both t (λa=>.f 25 [a,n]) λc=>.f 25 [c,n]
def MH(s:St)(t n:Tm):Option Tm:=match ns n (jY t)with|I=>O t|Z=>match gA lm s (.bin .geq .i64 n (.c 0))&&gA lm s (.bin .leq .i64 n (jY t))with|I=>O (xp t n)|Z=>G
def DG(t k:Tm):Option Tm:=match li 18 t with|O [_,k',v]=>(match dF k k' with|I=>O v|Z=>G)|_=>G
def OZ(t k z:Tm):Tm:=match DG t k with|O v=>v|G=>.f 17 [t,k,z]
def aiX(t k:Tm):Tm:=match DG t k with|O _=>.c 1|G=>.f 16 [t,k]
def aeI(t k v:Tm):Tm:=match li 18 t with|O [u,k',_]=>(match dF k k' with|I=>.f 18 [u,k,v]|Z=>.f 18 [t,k,v])|_=>.f 18 [t,k,v]
def NA(one sl:Bool)(t k z:Tm)(j:Nat):Tm:=let f (t z:Tm):Tm:=match one with|I=>OZ t k z|Z=>.f 21 [OZ t k z,.c (.ofNat j)];match bi 22 t with|O (a,c)=>(match sl with|I=>.f 22 [f a z,f c (cK z)]|Z=>f c (cK z))|G=>f t z
def sn(one:Bool)(t k z:Tm):List ag->Nat->Option (List AV)|[],_=>O []|u::l,j=>match P.underlying u with|O d=>(match oF d (NA one (SD d) t k z j),sn one t k z l (j+1)with|O v,O r=>O (v::r)|_,_=>G)|G=>G
def mapVal(e:ag)(t k z:Tm):Option AV:=match dG P 8 e,fD P e with|O us,O agg=>(match sn P (ae us.length 1) t k z us 0,agg with|O l,I=>O (.agg l)|O [v],Z=>O v|_,_=>G)|_,_=>G
def uV(s:St)(e:ag):Option Tm:=match ud P e with|O z=>xn P lm s e z|G=>G
def Ff(s:St)(kt e:ag)(i:Nat):Option Tm:=match s.h.get i with|O (.dmap kt' e' t G)=>(match ae kt kt'&&ae e e' with|I=>O t|Z=>G)|O (.map [] _)=>O (oT P e (.f 11 []))|_=>G
def MZ(t:Tm):AV:=match t with|.c n=>.bool (!(gj n 0))|t=>.iI t
def wc(s:St)(kt e:ag)(i:Nat):Option Tm:=match s.h.get i with|O (.dmap kt' e' t _)=>(match ae kt kt'&&ae e e' with|I=>O t|Z=>G)|O (.map [] _)=>O (oT P e (.f 11 []))|_=>G
def NB(s:St)(t:ag)(m k:AV)(ok:Bool):Option AV:=match P.underlying t,m with|O (.map kt e),.map i=>(match gk P kt,wc P s kt e i,xn P lm s kt k,uV P lm s e with|I,O tm,O kT,O z=>(match mapVal P e tm kT z with|O v=>O (match ok with|I=>.il [v,MZ (aiX (cK tm) kT)]|Z=>v)|G=>G)|_,_,_,_=>G)|_,_=>G
def aiY(q:Tm):Tm:=match q with|.bin .eql k a b=>.bin .neq k a b|q=>.f 10 [q]
def aeJ(s:St)(t:ag)(x y:AV):Option Tm:=match aj7 x y,KV x,KV y with|I,O a,O b=>(match x,y with|.str [],_=>O (.bin .eql .i64 (EL s b) (.c 0))|_,.str []=>O (.bin .eql .i64 (EL s a) (.c 0))|_,_=>O (.f 4 [a,b]))|I,_,_=>G|Z,_,_=>match isAgg2 x y&& !P.eqGuardType P.depth t with|I=>eqS P 12 t x y|Z=>G
def aiZ(s:St)(op:BinOp)(t:ag)(x y:AV):Option AV:=match op with|.eql=>(match aeJ P s t x y with|O q=>O (.iI q)|G=>G)|.neq=>(match aeJ P s t x y with|O q=>O (.iI (aiY q))|G=>G)|.add=>G|.quo=>G|.rem=>(match x,y with|.sym k a,.int l m=>G|x,y=>match zy x,zy y with|O (k,a),O (l,b)=>(match fy k l&&gA lm s (.bin .neq k b (.c 0))with|I=>O (.sym k (.bin .rem k a b))|Z=>G)|_,_=>G)|.shr=>(match x,y with|.sym k a,.int _ (.ofNat m)=>O (.sym k (.f 6 [a,.c (.ofNat (min m k.bits))]))|_,_=>G)|.shl=>G|_=>G
def TA(s:St)(t:ag)(x i:AV):Option AV:=match P.underlying t,x,uM i with|O (.slice e),.deep e' tm,O it=>(match ae e e'&&gA lm s (.bin .geq .i64 it (.c 0))&&gA lm s (.bin .lss .i64 it (jY tm)),di P e with|I,O z=>O (.mn e z tm it 0)|_,_=>G)|O (.slice e),.bK b n _,O it=>(match gA lm s (.bin .geq .i64 it (.c 0))&&gA lm s (.bin .lss .i64 it n),di P e with|I,O z=>O (.jM b e z it 0)|_,_=>G)|_,_,_=>G
def ag7(s:St)(t:ag)(x i:AV):Option AV:=match P.underlying t,x,uM i with|O .string,.iJ tm,O it=>(match gA lm s (.bin .geq .i64 it (.c 0))&&gA lm s (.bin .lss .i64 it (EL s tm))with|I=>O (.sym .u8 (.f 9 [tm,it]))|Z=>G)|_,_,_=>G
def SF:Option AV->Tm->Option Tm|G,t=>O t|O v,_=>uM v
def sY(s:St)(a b:Tm):Bool:=ns a b||gA lm s (.bin .leq .i64 a b)
def aeK:Tm->Bool|.c n=>gj n 0|_=>Z
def Co(s:St)(a:Tm):Bool:=aeK a||gA lm s (.bin .leq .i64 (.c 0) a)
def NC(s:St)(t:ag)(x:AV)(lo hi mx:Option AV):Option AV:=match P.underlying t,x with|O (.slice e),.bK b n c=>(match mx,di P e,SF lo (.c 0),SF hi n with|G,O sz,O i,O j=>(match aeK i,hi with|I,_=>(match Co lm s j&&sY lm s j n with|I=>O (.bK b j c)|Z=>G)|Z,G=>(match Co lm s i&&sY lm s i n with|I=>O (.gZ b e sz i n c)|Z=>G)|Z,O _=>G)|_,_,_,_=>G)|_,_=>G
def M0(k:bu):List AV->Option (List Tm)|[]=>O []|v::l=>match zy v,M0 k l with|O (k',t),O r=>(match fy k k' with|I=>O (t::r)|Z=>G)|_,_=>G
def aas(s:St)(t:ag)(x i:AV):Option AV:=match P.underlying t,x,uM i with|O (.array n e),.agg cs,O it=>(match P.underlying e,di P e,gA lm s (.bin .geq .i64 it (.c 0))&&gA lm s (.bin .lss .i64 it (.c (.ofNat n)))&&ae cs.length n with|O (.int k),O 1,I=>(match M0 k cs with|O l=>O (.sym k (.f 34 (it::l)))|G=>G)|_,_,_=>G)|_,_,_=>G
def alM(s:St)(t:ag)(x:AV)(lo hi mx:Option AV):Option AV:=match P.underlying t,x,mx with|O .string,.iJ tm,G=>(match(match lo with|G=>O (.c 0)|O v=>uM v),(match hi with|G=>O (.f 0 [tm])|O v=>uM v)with|O i,O j=>(match gA lm s (.bin .geq .i64 i (.c 0))&&gA lm s (.bin .leq .i64 i j)&&gA lm s (.bin .leq .i64 j (.f 0 [tm]))with|I=>O (.iJ (.f 8 [tm,i,j]))|Z=>G)|_,_=>G)|_,_,_=>G
def akL(s:St)(d:TypeDesc)(x:AV):Option AV:=match d,x with|.slice _,.deep _ t=>O (.sym .i64 (jY t))|.slice _,.bK _ n _=>O (.sym .i64 n)|.slice _,.gZ _ _ _ lo n _=>O (.sym .i64 (.f 12 [lo,n]))|.string,.iJ t=>O (.sym .i64 (EL s t))|_,_=>G
def aat(s:St)(T:Tr AV)(op:Op):Option AV:=let ρ:=evA T;match op with|.binOp op t x y _=>(match ρ x,ρ y with|O a,O b=>aiZ P lm s op t a b|_,_=>G)|.slice t x lo hi mx=>(match ρ x,Dj T lo,Dj T hi,Dj T mx with|O v,O l,O h,O m=>(match alM P lm s t v l h m with|O r=>G|G=>NC P lm s t v l h m)|_,_,_,_=>G)|.fieldAddr st x f=>(match P.underlying st,ρ x with|O (.struct fields),O (.mn e sz tm it off)=>(match fields[f]? with|O fd=>(match di P fd.type with|O 0=>G|O _=>O (.mn e sz tm it (off+fd.offset))|G=>G)|G=>G)|O (.struct fields),O (.jM b e sz it off)=>(match fields[f]? with|O fd=>(match di P fd.type with|O 0=>G|O _=>O (.jM b e sz it (off+fd.offset))|G=>G)|G=>G)|_,_=>G)|.indexAddr t x i=>(match ρ x,ρ i with|O v,O j=>TA P lm s t v j|_,_=>G)|.index t x i=>(match ρ x,ρ i with|O v,O j=>(match ag7 P lm s t v j with|O r=>G|G=>aas P lm s t v j)|_,_=>G)|.convert src dst x=>G|.call c=>(match c.callee with|.builtin .len=>(match c.args.toList,c.argTypes[0]? with|[x],O t=>(match P.underlying t,ρ x with|O d,O v=>akL s d v|_,_=>G)|_,_=>G)|.builtin .min=>(match c.args.toList with|[x,y]=>(match(ρ x).bind zy,(ρ y).bind zy with|O (k,a),O (k',b)=>(match fy k k' with|I=>O (.sym k (.f 32 [a,b]))|Z=>G)|_,_=>G)|_=>G)|.builtin .max=>G|_=>G)|_=>G
def TB(s:St)(it:AV):Option AV:=match it with|.ptr i 0=>(match s.h.get i with|O (.jk m c B)=>(match s.h.get m with|O (.g_ _ _ _ c' B' _ (O (b,k,v)))=>(match B with|.f 2 [_,.f 11 [b']]=>(match dF c c'&&dF B B'&&dF b b' with|I=>O (.il [k,v])|Z=>G)|_=>G)|_=>G)|_=>G)|_=>G
def aau(s:St)(T:Tr AV)(op:Op):Option AV:=let ρ:=evA T;match op with|.load t a=>(match ρ a with|O (.mn e sz tm it off)=>zN P Z t e sz tm it off|O (.jM i e sz it off)=>(match s.h.get i with|O (.row tm e' _)=>(match ae e e'&&gA lm s (.bin .geq .i64 it (.c 0))&&gA lm s (.bin .lss .i64 it (jY tm))&& !(match P.underlying e with|O (.int .u8)=>I|_=>Z)with|I=>zN P I t e sz tm it off|Z=>G)|O (.lh _ e' _ it' cs)=>(match ae e e'&&dF it it'&&(match di P e with|O z=>ae z sz|G=>Z)with|I=>ir P t cs off|Z=>G)|_=>G)|_=>G)|.convert src dst x=>G|.lookup t x i ok=>(match ρ x,ρ i with|O m,O k=>NB P lm s t m k ok|_,_=>G)|.entry it=>(ρ it).bind (TB s)|.call c=>G|_=>G
def Cp(s:St)(T:Tr AV)(op:Op):Option AV:=match oq P s T op with|O v=>O v|G=>aat P lm s T op
def Cq(s:St)(T:Tr AV)(op:Op):Option AV:=match oq P s T op with|O v=>O v|G=>aau P lm s T op
end
section
variable(P:aw)(lm:List fV)
def xU(s:St)(e tx:ag)(size:Nat)(y:AV):Option (Tm×Tm):=match y with|.iJ t=>G|.bK i n _=>(match P.underlying tx,s.h.get i with|O (.slice e'),O (.row t e'' _)=>(match ae e e'&&ae e e''&&(uN P e||ns n (jY t)),MH lm s t n with|I,O t=>O (t,n)|_,_=>G)|_,_=>G)|.gZ i e2 sz lo n _=>G|.deep e' t=>(match P.underlying tx with|O (.slice e'')=>(match ae e e'&&ae e e''&&uN P e,bi 22 t with|I,O (a,c)=>O ((EM P e a c),jY t)|_,_=>G)|_=>G)|y=>match VT P tx,Be y,gS s size y with|I,O n,O cs=>(match ae cs.length (n*size)&&cs.all oS with|I=>(match VY P lm s e n cs with|O t=>O ((match P.underlying e with|O (.int .u8)=>t|_=>oT P e t),.c (.ofNat n))|G=>G)|Z=>G)|_,_,_=>G
def lj(t u:Tm):Tm:=match bi 22 t,bi 22 u with|O (a,c),O (b,d)=>.f 22 [.f 2 [a,b],.f 2 [c,d]]|_,_=>.f 2 [t,u]
def jl(s:St)(i:Option Nat)(e:ag)(t:Tm):AV×St:=let s:=match i with|O i=>cw s i|G=>s;(.bK s.n (jY t) (.u (s.n+1) 0),Di (oh s (.row t e (O (s.n+1)))))
def aav(pc:List (Tm×Bool))(t:Tm):Option (Tm×Tm):=match bi 22 t with|O (a,c)=>(match nA (.f 38 [a]) pc with|O I=>O (a,c)|_=>G)|G=>G
def alN(t:Tm):Bool:=match t with|.f o []=>ae o 11|.f o [_,i,j]=>ae o 26&&dF i j|_=>Z
def room(s:St)(n nl:Tm):Bool:=gA lm s (.bin .leq .i64 n (.c (.ofNat most)))&&gA lm s (.bin .leq .i64 nl (.c (.ofNat most)))
def DH(s:St)(t tx:ag)(x y:AV):Option (AV×St):=match P.underlying t with|O (.slice e)=>(match P.info? e with|O inf=>(match aF inf.bytes most&&aF 1 inf.size&&(match inf.zero with|O z=>ae z.cells.size inf.size|G=>Z),xU P lm s e tx inf.size y with|I,O (nt,nl)=>(match x with|.cQ=>G|.bK i n (.u c 0)=>(match s.h.get i with|O (.row u e' (O c'))=>(match ae c c'&&ae e e'&&room lm s n nl&&(uN P e||ns n (jY u)),MH lm s u n with|I,O u=>O (jl s (O i) e (lj u nt))|_,_=>G)|_=>G)|.deep e' u=>(match ae e e'&&room lm s (jY u) nl&&uN P e,aav s.x.pc u with|I,O (a,c)=>(match alN c with|I=>G|Z=>match gA lm s (.bin .gtr .i64 nl (.c 0))with|I=>O (jl s G e (lj (EM P e a c) nt))|Z=>G)|_,_=>G)|.slice _ _ n (.k m)=>(match ae n m,xU P lm s e t inf.size x with|I,O (xt,xl)=>(match room lm s xl nl with|I=>(match ae n 0 with|I=>O (jl s G e nt)|Z=>G)|Z=>G)|_,_=>G)|_=>G)|_,_=>G)|G=>G)|_=>G
end
def akM(b:Bool)(c:Code):Option Code:=match b,c with|Z,.seq x _=>O x|I,.seq _ y=>O y|Z,.cond _ x _=>O x|I,.cond _ _ y=>O y|Z,.block _ x=>O x|Z,.loop x=>O x|Z,.scope x=>O x|Z,.rangeFunc _ _ x _=>O x|I,.rangeFunc _ _ _ y=>O y|_,_=>G
def oG(P:aw)(f:Nat):List Bool->Option Code|[]=>(match P.funcs[f]? with|O fn=>fn.body|G=>G)|b::p=>match oG P f p with|O c=>akM b c|G=>G
structure An where
 h:Tr bF
 lm:List (Nat×Nat)
abbrev Loc:=Option (Nat×List Bool)
def Loc.go(z:Loc)(b:Bool):Loc:=match z with|O (f,p)=>O (f,b::p)|G=>G
inductive sQ where
 |code (z:Loc) (r:Option Nat) (c:Code) (T:Tr AV) (N:Nat) (M:List Nat) (s:St)
 |ops (r:Option Nat) (ops:Array aY) (l:List aY) (T:Tr AV) (N:Nat) (M:List Nat) (s:St)
 |one (r:Option Nat) (o:aY) (T:Tr AV) (s:St)
 |draw (r:Option Nat) (ops:Array aY) (T:Tr AV) (N:Nat) (M:List Nat) (s:St) (lm:List (Nat×Nat))
 |any (r:Option Nat) (ops:Array aY) (listed:Array Bool) (T:Tr AV) (N:Nat) (M:List Nat) (s:St) (z:An)
 |call (f:Nat) (args:List AV) (s:St)
 |round (l:Nat) (args:List AV) (s:St)
 |SG (z:Loc) (r:Option Nat) (c x:Code) (T:Tr AV) (N:Nat) (M:List Nat) (s:St)
abbrev oC:=Option (List Out)
def DI(f:Out->oC):List Out->oC|[]=>O []|o::l=>match f o with|G=>G|O a=>match DI f l with|G=>G|O b=>O (a++b)
def ue(x:oC)(f:Out->oC):oC:=match x with|G=>G|O l=>match l with|[o]=>f o|l=>DI f l
def zO(T:Tr AV)(M:List Nat)(s:St):oC:=O [⟨.norm,jN,T,M,s⟩]
def KM(N:Nat)(d:Option Nat):Bool:=match d with|G=>I|O d=>aF (d+1) N
def qd(T:Tr AV)(d:Option Nat)(v:AV):Tr AV:=match d with|G=>T|O d=>T.put d (O v)
def Pq:List AV->Nat->Tr AV->Tr AV|[],_,T=>T|v::vs,i,T=>Pq vs (i+1) (T.put i (O v))
def Fg(N:Nat):List Nat->List AV->Tr AV->Option (Tr AV)|[],[],T=>O T|p::ps,v::vs,T=>(match aF (p+1) N with|I=>Fg N ps vs (T.put p (O v))|Z=>G)|_,_,_=>G
def XI(P:aw)(T:Tr AV)(s:St):ResultVar->Option AV|.tmp t=>T.get t|.cell x t=>match T.get x with|O (.ptr i off)=>VR P s t i off|_=>G
def Z3:List AV->AV|[v]=>v|l=>.il l
def distinct:List Nat->Bool|[]=>I|i::l=>!(l.any (ae i))&&distinct l
def we:List Nat->St->St|[],s=>s|i::l,s=>we l (cw s i)
def M3:Op->Option (fh×Bool)|.next it b=>O (it,b)|_=>G
def aaw(P:aw)(k t:Nat)(args:List AV)(s:St):Option (AV×St):=match k with|1=>G|2=>G|3=>G|5=>G|_=>G
def xV(bk:List (Nat×Nat×Nat))(f:Nat):Option (Nat×Nat):=match bk with|[]=>G|(g,k,t)::l=>match ae g f with|I=>O (k,t)|Z=>xV l f
def Pt(acc:Array Nat):List Edge->Nat|[]=>0|e::es=>(match Region.binds .any e with|I=>2^e.on|||acc.getD e.on 0|Z=>0)|||Pt acc es
def kW:List aY->Array Nat->Array Nat|[],acc=>acc|o::rest,acc=>kW rest (acc.push (Pt acc o.after.toList))
def M4(P:aw):List aY->Tr AV->Tr AV|[],T=>T|o::l,T=>M4 P l (match ae (fC P o.op) 3,o.dst with|I,O d=>T.put d G|_,_=>T)
def KW(P:aw)(lm:List fV)(ops:Array aY)(listed:Array Bool)(T:Tr AV)(s:St)(N:Nat):List Nat->Option (Nat×Option Nat×AV)|[]=>G|i::rs=>match ops[i]? with|G=>G|O o=>match gg ops T o with|O Z=>(match Region.free .any ops listed i&&KM N o.dst with|I=>O (i,o.dst,jN)|Z=>KW P lm ops listed T s N rs)|O I=>(match ae (fC P o.op) 2&&Region.free .any ops listed i&&KM N o.dst with|I=>(match Cp P lm s T o.op with|O v=>O (i,o.dst,v)|G=>G)|Z=>KW P lm ops listed T s N rs)|G=>G
def SH(lm:List (Nat×Nat))(c i:Nat):Bool:=lm.any λp=>ae p.1 c&&ae p.2 i
def ND(z:An)(s:St):List Nat:=s.log.filter λi=>(z.h.get i).isSome&&(s.h.get i).isNone
def aca(z:An)(c:Nat)(s:St)(log:List Nat):Bool:=log.all λi=>match z.h.get i with|O _=>SH z.lm c i|G=>(ND z s).all (SH z.lm c)
def nW(T:Tr AV)(op:Op):Option Nat:=match op with|.load _ a=>(match evA T a with|O (.ptr i _)=>O i|_=>G)|.lookup _ m _ _=>(match evA T m with|O (.map i)=>O i|_=>G)|.call c=>(match c.args.toList with|[x]=>(match evA T x with|O (.map i)=>O i|_=>G)|_=>G)|_=>G
def Pu(b:Array Nat)(ops:Array aY)(listed:Array Bool)(z:An)(k i:Nat):Bool:=match ops[i]? with|G=>Z|O oi=>(List.range ops.size).all λj=>match ops[j]? with|G=>I|O oj=>ae j i||listed.getD j I||(b.getD j 0).testBit i||(oi.apart ops oj&& !(SH z.lm j k))
def KX(P:aw)(b:Array Nat)(ops:Array aY)(listed:Array Bool)(T:Tr AV)(s:St)(N:Nat)(z:An):List Nat->Option (Nat×Option Nat×AV)|[]=>G|i::rs=>match ops[i]? with|G=>G|O o=>match gg ops T o,nW T o.op with|O I,O k=>(match ae (fC P o.op) 1&&KM N o.dst&&(z.h.get k).isSome&&Pu b ops listed z k i with|I=>(match oq P s T o.op with|O v=>O (i,o.dst,v)|G=>G)|Z=>KX P b ops listed T s N z rs)|_,_=>KX P b ops listed T s N z rs
def uW(k:Nat):Bool:=ae k 1||ae k 2||ae k 3
def Pv(P:aw)(b:Array Nat)(ops:Array aY)(listed:Array Bool)(i:Nat):Bool:=match ops[i]? with|G=>Z|O oi=>(List.range ops.size).all λj=>match ops[j]? with|G=>I|O oj=>ae j i||listed.getD j I||(b.getD j 0).testBit i||(oi.apart ops oj&&uW (fC P oj.op))
def KY(P:aw)(lm:List fV)(b:Array Nat)(ops:Array aY)(listed:Array Bool)(T:Tr AV)(s:St)(N:Nat):List Nat->Option (Nat×Option Nat×AV)|[]=>G|i::rs=>match ops[i]? with|G=>G|O o=>match gg ops T o with|O I=>(match ae (fC P o.op) 1&&KM N o.dst&&Pv P b ops listed i with|I=>(match Cq P lm s T o.op with|O v=>O (i,o.dst,v)|G=>G)|Z=>KY P lm b ops listed T s N rs)|_=>KY P lm b ops listed T s N rs
def Fh(P:aw)(ops:Array aY)(T:Tr AV)(N:Nat)(o:aY):Bool:=ae (fC P o.op) 3&&KM N o.dst&&(match o.dst with|O d=>(T.get d).isNone&& !((o.looksAt ops).contains d)|G=>Z)&&(match gg ops T o with|O I=>I|_=>Z)&&(xS P T o.op).isSome
def Ao(ops:Array aY)(oj:aY)(j:Nat):List Nat->Bool|[]=>I|k::l=>(ae k j||(match ops[k]? with|O ok=>oj.apart ops ok|G=>I))&&Ao ops oj j l
def aax(P:aw)(ops:Array aY)(T:Tr AV)(N:Nat)(rs:List Nat):List Nat:=match rs.filter λi=>match ops[i]? with|O o=> !(Fh P ops T N o)|G=>Z with|[]=>rs.take 1|l=>l
def okB(P:aw)(b:Array Nat)(ops:Array aY)(listed:Array Bool)(T:Tr AV)(N:Nat)(rs B:List Nat):Bool:=aF B.length 3&&(B.all λc=>match ops[c]? with|G=>Z|O oc=>rs.any (ae c)&&KM N oc.dst&&(match gg ops T oc with|O I=>I|_=>Z))&&(List.range ops.size).all λj=>match ops[j]? with|G=>I|O oj=>B.any (ae j)||listed.getD j I||B.any (λc=>(b.getD j 0).testBit c)||(rs.any (ae j)&&Fh P ops T N oj&&(B.all λc=>match ops[c]? with|O oc=>oc.apart ops oj|G=>Z)&&Ao ops oj j rs)
def Pw(P:aw)(b:Array Nat)(ops:Array aY)(listed:Array Bool)(T:Tr AV)(N:Nat)(rs:List Nat):List Nat:=let B:=aax P ops T N rs;match okB P b ops listed T N rs B with|I=>B|Z=>match rs.find? λc=>okB P b ops listed T N rs [c]with|O c=>[c]|G=>rs
def DJ(f:Nat->oC):List Nat->oC|[]=>O []|[c]=>f c|c::l=>match f c with|G=>G|O x=>match DJ f l with|G=>G|O y=>O (x++y)
def XJ:List (Tm×Bool)->List (Tm×Bool)->Bool|[],[]=>I|(a,b)::l,(c,d)::m=>(match dF a c&&(b==d)with|I=>XJ l m|Z=>Z)|_,_=>Z
mutual
def ux:AV->AV->Bool|.bool a,.bool b=>a==b|.int j a,.int k b=>fy j k&&gj a b|.str a,.str b=>iW a b|.kv,.kv=>I|.ptr i m,.ptr j n=>ae i j&&ae m n|.cQ,.cQ=>I|.slice i m l c,.slice j n k d=>ae i j&&ae m n&&ae l k&&EI c d|.lf,.lf=>I|.map i,.map j=>ae i j|.func f a b,.func g c d=>aiT f g&&zB a c&&zB b d|.iq,.iq=>I|.iface t a,.iface u b=>ae t u&&ux a b|.gP,.gP=>I|.agg a,.agg b=>zB a b|.il a,.il b=>zB a b|.ext i,.ext j=>ae i j|.mw i a,.mw j b=>ae i j&&ae a b|.sym j a,.sym k b=>fy j k&&dF a b|.iI a,.iI b=>dF a b|.tail i a b l c m,.tail j p q k d n=>ae i j&&ae a p&&ae b q&&ae l k&&ae c d&&ae m n|.iJ a,.iJ b=>dF a b|.deep e a,.deep f b=>ae e f&&dF a b|.mn e z a i o,.mn f y b j p=>ae e f&&ae z y&&dF a b&&dF i j&&ae o p|.bK i a c,.bK j b d=>ae i j&&dF a b&&EI c d|.jM i e z a o,.jM j f y b p=>ae i j&&ae e f&&ae z y&&dF a b&&ae o p|.gZ i e z a n c,.gZ j f y b m d=>ae i j&&ae e f&&ae z y&&dF a b&&dF n m&&EI c d|_,_=>Z
def zB:List AV->List AV->Bool|[],[]=>I|a::l,b::m=>(match ux a b with|I=>zB l m|Z=>Z)|_,_=>Z
end
def aeL:List (AV×AV×Nat)->List (AV×AV×Nat)->Bool|[],[]=>I|(a,b,c)::l,(x,y,z)::m=>(match ux a x&&ux b y&&ae c z with|I=>aeL l m|Z=>Z)|_,_=>Z
def Bf:List Nat->List Nat->Bool|[],[]=>I|a::l,b::m=>(match ae a b with|I=>Bf l m|Z=>Z)|_,_=>Z
def XK:Option Nat->Option Nat->Bool|G,G=>I|O a,O b=>ae a b|_,_=>Z
def O0{α:Type}(f:α->α->Bool):Tr α->Tr α->Bool|.e,.e=>I|.n l v r,.n m w s=>(match v,w with|G,G=>I|O v,O w=>f v w|_,_=>Z)&&O0 f l m&&O0 f r s|_,_=>Z
def SI:List Bool->List Bool->Bool|[],[]=>I|I::l,I::m=>SI l m|Z::l,Z::m=>SI l m|_,_=>Z
def Px:bF->bF->Bool|.cells l t c,.cells m u d=>ae t u&&XK c d&&zB l m|.map l c,.map m d=>ae c d&&aeL l m|.iter m a l b,.iter n c k d=>XK m n&&ae a c&&ae b d&&Bf l k|.oR,.oR=>I|.row t e c,.row u f d=>dF t u&&ae e f&&XK c d|.lh t e c i l,.lh u f d j m=>dF t u&&ae e f&&XK c d&&dF i j&&zB l m|.g_ a b t c B S G,.g_ a' b' t' c' B' S' G=>ae a a'&&ae b b'&&dF t t'&&dF c c'&&dF B B'&&dF S S'|.jk m c B,.jk m' c' B'=>ae m m'&&dF c c'&&dF B B'|.dmap a b t p,.dmap c d u q=>ae a c&&ae b d&&dF t u&&(match p,q with|G,G=>I|O (x,m),O (y,n)=>dF x y&&ae m n|_,_=>Z)|.loop .ready G T N ps d (f,k),.loop .ready G T' N' ps' d' (f',k')=>O0 ux T T'&&ae N N'&&Bf ps ps'&&ae d d'&&ae f f'&&SI k k'|_,_=>Z
def NF(o p:Out):Bool:=match(match o.e,p.e with|.norm,.norm=>I|.ret,.ret=>I|_,_=>Z)with|I=>XJ o.s.x.pc p.s.x.pc&&Bf o.M p.M&&ux o.v p.v&&O0 ux o.T p.T&&O0 Px o.s.h p.s.h|Z=>Z
def SJ(a b:Nat):Nat:=match aF a b with|I=>b|Z=>a
def Bl(o:Out):List Out->List Out|[]=>[o]|p::r=>match NF o p with|I=>{p with s:={p.s with n:=SJ o.s.n p.s.n,log:=match Bf o.s.log p.s.log with|I=>p.s.log|Z=>o.s.log++p.s.log}}::r|Z=>p::Bl o r
def VZ:List Out->List Out|[]=>[]|[o]=>[o]|o::l=>Bl o (VZ l)
def ot(s:St)(t:Tm)(b:Bool):St:={s with x:={s.x with pc:=KT 12 t b s.x.pc}}
def uO(lm:List fV)(v:AV)(s:St):List (AV×St):=match v with|.iI t=>(match MG lm s.x.pc t with|O b=>[(.bool b,s)]|G=>[(.bool I,ot s t I),(.bool Z,ot s t Z)])|v=>[(v,s)]
def V1(lm:List fV):List Out->List Out|[]=>[]|o::l=>(uO lm o.v o.s).map (λp=>{o with v:=p.1,s:=p.2})++V1 lm l
def EN(f:AV->St->oC):List (AV×St)->oC|[]=>O []|[(v,s)]=>f v s|(v,s)::l=>match f v s with|G=>G|O x=>match EN f l with|G=>G|O y=>O (x++y)
mutual
def uX:AV->List Nat->List Nat|.ptr i _,l=>i::l|.slice i _ _ _,l=>i::l|.map i,l=>i::l|.func f a b,l=>(match f with|.func _=>sZ a (sZ b l)|.yield i=>i::sZ a (sZ b l))|.iface _ v,l=>uX v l|.agg vs,l=>sZ vs l|.il vs,l=>sZ vs l|.bK i _ _,l=>i::l|.jM i _ _ _ _,l=>i::l|.gZ i _ _ _ _ _,l=>i::l|_,l=>l
def sZ:List AV->List Nat->List Nat|[],l=>l|v::vs,l=>uX v (sZ vs l)
end
def TC:Tr AV->List Nat->List Nat|.e,l=>l|.n a v b,l=>TC a (TC b (match v with|O v=>uX v l|G=>l))
def acb:List (AV×AV×Nat)->List Nat->List Nat|[],l=>l|(k,v,_)::es,l=>uX k (uX v (acb es l))
def acd(o:bF)(l:List Nat):List Nat:=match o with|.cells vs _ _=>sZ vs l|.map es _=>acb es l|.iter (O m) _ _ _=>m::l|.loop _ _ T _ _ d _=>d::TC T l|.lh _ _ _ _ vs=>sZ vs l|.jk m _ _=>m::l|_=>l
def Bm(h:Tr bF)(n0:Nat):Nat->List Nat->Tr Unit->Tr Unit|0,_,m=>m|_,[],m=>m|f+1,i::l,m=>match aF n0 i with|Z=>Bm h n0 f l m|I=>match m.get i with|O _=>Bm h n0 f l m|G=>Bm h n0 f (match h.get i with|O o=>acd o l|G=>l) (m.put i (O ()))
def xW(m:Tr Unit):Nat->Nat->Tr bF->Tr bF|0,_,h=>h|k+1,i,h=>xW m k (i+1) (match m.get i with|O _=>h|G=>match h.get i with|O _=>h.put i G|G=>h)
def zP(n0:Nat):List Nat->List Nat->List Nat|[],acc=>acc|i::l,acc=>match aF (i+1) n0&& !(acc.any (ae i))with|I=>zP n0 l (i::acc)|Z=>zP n0 l acc
def M5(h:Tr bF):List Nat->List Nat->List Nat|[],l=>l|i::r,l=>M5 h r (match h.get i with|O o=>acd o l|G=>l)
def Fi(n0:Nat)(o:Out):Out:=let lg:=zP n0 o.s.log [];{o with s:={o.s with h:=xW (Bm o.s.h n0 1000000 (uX o.v (M5 o.s.h lg [])) .e) (o.s.n - n0) n0 o.s.h,log:=lg}}
def Kn:List (Nat×List AV)->List (Nat×List AV)->Bool|[],[]=>I|(a,x)::l,(b,y)::m=>(match ae a b&&zB x y with|I=>Kn l m|Z=>Z)|_,_=>Z
mutual
def XL:AV->List Nat->List Nat|.ptr i _,l=>i::l|.slice i _ _ c,l=>(match c with|.k _=>i::l|.u c _=>i::c::l)|.map i,l=>i::l|.func f a b,l=>(match f with|.func _=>MI a (MI b l)|.yield i=>i::MI a (MI b l))|.iface _ v,l=>XL v l|.agg vs,l=>MI vs l|.il vs,l=>MI vs l|.tail i _ _ _ c _,l=>i::c::l|.bK i _ c,l=>(match c with|.k _=>i::l|.u c _=>i::c::l)|.jM i _ _ _ _,l=>i::l|.gZ i _ _ _ _ c,l=>(match c with|.k _=>i::l|.u c _=>i::c::l)|_,l=>l
def MI:List AV->List Nat->List Nat|[],l=>l|v::vs,l=>XL v (MI vs l)
end
def akN:List (AV×AV×Nat)->List Nat->List Nat|[],l=>l|(k,v,_)::es,l=>XL k (XL v (akN es l))
def aeM(o:bF)(l:List Nat):List Nat:=match o with|.cells vs _ c=>(match c with|G=>MI vs l|O c=>c::MI vs l)|.map es _=>akN es l|.iter (O m) _ _ _=>m::l|.row _ _ (O c)=>c::l|_=>l
def aeN:List Nat->List Nat->List (Nat×Nat)->List (Nat×Nat)|a::l,b::m,r=>(a,b)::aeN l m r|_,_,r=>r
def Py(n0:Nat)(h k:Tr bF):Nat->List (Nat×Nat)->Tr Nat->Tr Nat->Tr Nat×Tr Nat|0,_,m,m'=>(m,m')|_,[],m,m'=>(m,m')|f+1,(j,i)::l,m,m'=>match aF (j+1) n0 with|I=>Py n0 h k f l m m'|Z=>match m.get j with|O _=>Py n0 h k f l m m'|G=>Py n0 h k f (match h.get j,k.get i with|O a,O b=>aeN (aeM a []) (aeM b []) l|_,_=>l) (m.put j (O i)) (m'.put i (O j))
def rC(n0 n1:Nat)(m:Tr Nat)(j:Nat):Option Nat:=match aF (j+1) n0 with|I=>O j|Z=>match aF (j+1) n1 with|I=>m.get j|Z=>G
section
variable(σ:Nat->Option Nat)
def Kd(j i:Nat):Bool:=match σ j with|O k=>ae k i|G=>Z
def xq:zj->zj->Bool|.k a,.k b=>ae a b|.u c m,.u d k=>Kd σ c d&&ae m k|_,_=>Z
def XM:OL->OL->Bool|.func a,.func b=>ae a b|.yield a,.yield b=>Kd σ a b|_,_=>Z
mutual
def xi:AV->AV->Bool|.bool a,.bool b=>a==b|.int k a,.int k' b=>fy k k'&&gj a b|.str a,.str b=>iW a b|.kv,.kv=>I|.ptr i n,.ptr j m=>Kd σ i j&&ae n m|.cQ,.cQ=>I|.slice i n l c,.slice j m k d=>Kd σ i j&&ae n m&&ae l k&&xq σ c d|.lf,.lf=>I|.map i,.map j=>Kd σ i j|.func f a b,.func g c d=>XM σ f g&&isL a c&&isL b d|.iq,.iq=>I|.iface t v,.iface u w=>ae t u&&xi v w|.gP,.gP=>I|.agg a,.agg b=>isL a b|.il a,.il b=>isL a b|.ext i,.ext j=>ae i j|.mw g n,.mw k m=>ae g k&&ae n m|.sym k t,.sym k' u=>fy k k'&&dF t u|.iI t,.iI u=>dF t u|.tail i x y l c m,.tail i' x' y' l' c' m'=>Kd σ i i'&&ae x x'&&ae y y'&&ae l l'&&Kd σ c c'&&ae m m'|.iJ a,.iJ b=>dF a b|.deep e a,.deep f b=>ae e f&&dF a b|.mn e z a i o,.mn f y b j p=>ae e f&&ae z y&&dF a b&&dF i j&&ae o p|.bK i a c,.bK j b d=>Kd σ i j&&dF a b&&xq σ c d|.jM i e z a o,.jM j f y b p=>Kd σ i j&&ae e f&&ae z y&&dF a b&&ae o p|.gZ i e z a n c,.gZ j f y b m d=>Kd σ i j&&ae e f&&ae z y&&dF a b&&dF n m&&xq σ c d|_,_=>Z
def isL:List AV->List AV->Bool|[],[]=>I|a::l,b::m=>(match xi a b with|I=>isL l m|Z=>Z)|_,_=>Z
end
def aeO:List (AV×AV×Nat)->List (AV×AV×Nat)->Bool|[],[]=>I|(a,b,c)::l,(x,y,z)::m=>(match xi σ a x&&xi σ b y&&ae c z with|I=>aeO l m|Z=>Z)|_,_=>Z
def zC:Option Nat->Option Nat->Bool|G,G=>I|O a,O b=>Kd σ a b|_,_=>Z
def isObj:bF->bF->Bool|.cells l t c,.cells m u d=>ae t u&&zC σ c d&&isL σ l m|.map es c,.map fs d=>ae c d&&aeO σ es fs|.iter m a l b,.iter m' a' l' b'=>zC σ m m'&&ae a a'&&ae b b'&&Bf l l'|.oR,.oR=>I|.row t e c,.row u f d=>dF t u&&ae e f&&zC σ c d|.dmap a b t G,.dmap c d u G=>ae a c&&ae b d&&dF t u|_,_=>Z
end
def zD{α:Type}(f:Nat->α->Bool):Tr α->Nat->Nat->Bool|.e,_,_=>I|.n l v r,a,b=>(match v with|O x=>f b x|G=>I)&&zD f l (2*a) (a+b)&&zD f r (2*a) (2*a+b)
def okJ(n0 n1:Nat)(h:Tr bF)(m m':Tr Nat)(j:Nat)(ob:bF):Bool:=match rC n0 n1 m j with|O i=>(match h.get i with|O ob2=>isObj (rC n0 n1 m) ob ob2|G=>Z)&&(match aF (j+1) n0 with|I=>I|Z=>aF n0 i&&(match m'.get i with|O k=>ae k j|G=>Z))|G=>Z
def okI(n0:Nat)(o p:Out)(mm:Tr Nat×Tr Nat):Bool:=xi (rC n0 p.s.n mm.1) p.v o.v&&zD (okJ n0 p.s.n o.s.h mm.1 mm.2) p.s.h 1 0&&zD (λi _=>match aF (i+1) n0 with|I=>(p.s.h.get i).isSome|Z=>I) o.s.h 1 0
def ace(h k:Tr bF):List Nat->List (Nat×Nat)->List (Nat×Nat)|[],r=>r|i::l,r=>ace h k l (match h.get i,k.get i with|O a,O b=>aeN (aeM a []) (aeM b []) r|_,_=>r)
def Fj(o:Out):Bool:=match o.e,o.T,o.M with|.ret,.e,[]=>I|_,_,_=>Z
def aay(n0:Nat)(o p:Out):Bool:=match Fj o&&Fj p&&aF n0 p.s.n&&aF o.s.n p.s.n with|I=>XJ o.s.x.pc p.s.x.pc&&Kn o.s.x.gl p.s.x.gl&&okI n0 o p (Py n0 p.s.h o.s.h 1000000 (aeN (XL p.v []) (XL o.v []) (ace p.s.h o.s.h p.s.log [])) .e .e)|Z=>Z
def later(n:Nat)(p:Out):Out:={p with s:={p.s with n:=SJ n p.s.n}}
def wh(n0:Nat)(o:Out):List Out->List Out|[]=>[o]|p::r=>match aay n0 o (later o.s.n p)with|I=>{p with s:={p.s with n:=SJ o.s.n p.s.n,log:=match Bf o.s.log p.s.log with|I=>p.s.log|Z=>o.s.log++p.s.log}}::r|Z=>p::wh n0 o r
def M6(n0:Nat):List Out->List Out|[]=>[]|[o]=>[o]|o::l=>wh n0 o (M6 n0 l)
def TD(gl:List (Nat×List AV))(n0:Nat)(x:oC):oC:=match x with|G=>G|O l=>match l with|[o]=>(match aF (n0+40) o.s.n with|I=>O [Fi n0 o]|Z=>O [{o with s:={o.s with log:=zP n0 o.s.log []}}])|l=>O (M6 n0 (l.map λo=>{Fi n0 o with s:={(Fi n0 o).s with x:=⟨gl,o.s.x.pc⟩}}))
structure sR where
 f:Nat
 args:List AV
 s:St
 outs:List Out
mutual
def tj:AV->Bool|.bool _=>I|.int _ _=>I|.str _=>I|.kv=>I|.cQ=>I|.lf=>I|.iq=>I|.gP=>I|.agg l=>mM l|.il l=>mM l|_=>Z
def mM:List AV->Bool|[]=>I|v::l=>tj v&&mM l
end
structure Dl where
 f:Nat
 gl:List (Nat×List AV)
 args:List AV
 v:AV
structure lk where
 z:Nat×List Bool
 r:Option Nat
 N:Nat
 T:Tr AV
 s:St
 outs:List Out
structure Pr where
 l:List (Nat×Nat×Nat)
 tab:List sR
 eH:List Dl
 lm:List fV
 lt:List lk
 rt:List ag
def acf(bk:Pr)(f:Nat):Option (Nat×Nat):=xV bk.l f
def ai0(a b:St):Bool:=ae a.n b.n&&Bf a.log b.log&&XJ a.x.pc b.x.pc&&Kn a.x.gl b.x.gl&&O0 Px a.h b.h
def Pz(f:Nat)(args:List AV)(s:St):List sR->Option (List Out)|[]=>G|e::r=>match ae e.f f with|Z=>Pz f args s r|I=>match zB e.args args&&ai0 e.s s with|I=>O e.outs|Z=>Pz f args s r
def Fk(f:Nat)(args:List AV)(s:St):List Dl->Option AV|[]=>G|e::r=>match ae e.f f with|Z=>Fk f args s r|I=>match zB e.args args&&Kn e.gl s.x.gl with|I=>O e.v|Z=>Fk f args s r
structure Fit where
 f:Tr Nat
 b:Tr Nat
 x:Tr Tm
 v:Tr AV
 w:List (Nat×Nat)
def uH(j i:Nat)(φ:Fit):Fit:=match φ.f.get j with|O _=>φ|G=>{φ with f:=φ.f.put j (O i),b:=φ.b.put i (O j),w:=(j,i)::φ.w}
mutual
def ny:Tm->Tm->Fit->Fit|.x j,t,φ=>(match φ.x.get j with|O _=>φ|G=>{φ with x:=φ.x.put j (O t)})|.f 23 [.x j],t,φ=>(match φ.x.get j with|O _=>φ|G=>{φ with x:=φ.x.put j (O t)})|.f _ l,.f _ m,φ=>ag8 l m φ|.bin _ _ a b,.bin _ _ c d,φ=>ny b d (ny a c φ)|.conv _ a,.conv _ b,φ=>ny a b φ|_,_,φ=>φ
def ag8:List Tm->List Tm->Fit->Fit|a::l,b::m,φ=>ag8 l m (ny a b φ)|_,_,φ=>φ
end
def ai1(c d:zj)(φ:Fit):Fit:=match c,d with|.u c _,.u d _=>uH c d φ|_,_=>φ
def amn(f g:OL)(φ:Fit):Fit:=match f,g with|.yield j,.yield i=>uH j i φ|_,_=>φ
mutual
def XN:AV->AV->Fit->Fit|.ptr j _,.ptr i _,φ=>uH j i φ|.slice j _ _ c,.slice i _ _ d,φ=>ai1 c d (uH j i φ)|.map j,.map i,φ=>uH j i φ|.func f a b,.func g c d,φ=>En b d (En a c (amn f g φ))|.iface _ a,.iface _ b,φ=>XN a b φ|.agg a,.agg b,φ=>En a b φ|.il a,.il b,φ=>En a b φ|.ext j,v,φ=>(match φ.v.get j with|O _=>φ|G=>{φ with v:=φ.v.put j (O v)})|.sym _ p,.sym _ t,φ=>ny p t φ|.sym _ p,.int _ n,φ=>ny p (.c n) φ|.iI p,.iI t,φ=>ny p t φ|.iI p,.bool b,φ=>ny p (.c (match b with|I=>1|Z=>0)) φ|.tail j _ _ _ c _,.tail i _ _ _ d _,φ=>uH c d (uH j i φ)|.iJ p,.iJ t,φ=>ny p t φ|.iJ p,.str l,φ=>ny p (zY l) φ|.deep _ p,.deep _ t,φ=>ny p t φ|.deep e p,.cQ,φ=>ny p (.f 22 [.f 14 [.c (.ofNat e)],.f 11 []]) φ|.mn _ _ p q _,.mn _ _ t u _,φ=>ny q u (ny p t φ)|.bK j _ c,.bK i _ d,φ=>ai1 c d (uH j i φ)|.jM j _ _ p _,.jM i _ _ t _,φ=>ny p t (uH j i φ)|.gZ j _ _ p q c,.gZ i _ _ t u d,φ=>ai1 c d (ny q u (ny p t (uH j i φ)))|_,_,φ=>φ
def En:List AV->List AV->Fit->Fit|a::l,b::m,φ=>En l m (XN a b φ)|_,_,φ=>φ
end
def ag9:List (AV×AV×Nat)->List (AV×AV×Nat)->Fit->Fit|(a,b,_)::l,(c,d,_)::m,φ=>ag9 l m (XN b d (XN a c φ))|_,_,φ=>φ
def cG{α:Type}:Tr α->Nat->Nat->List (Nat×α)->List (Nat×α)|.e,_,_,acc=>acc|.n l v r,a,b,acc=>cG l (2*a) (a+b) (cG r (2*a) (2*a+b) (match v with|O x=>(b,x)::acc|G=>acc))
def qp(T:Tr AV):List (Nat×AV)->Fit->Fit|[],φ=>φ|(i,p)::l,φ=>qp T l (match T.get i with|O v=>XN p v φ|G=>φ)
def akO(o p:bF)(φ:Fit):Fit:=match o,p with|.cells l _ c,.cells m _ d=>En l m (match c,d with|O j,O i=>uH j i φ|_,_=>φ)|.map es _,.map fs _=>ag9 es fs φ|.iter (O j) _ _ _,.iter (O i) _ _ _=>uH j i φ|.row p _ c,.row t _ d=>ny p t (match c,d with|O j,O i=>uH j i φ|_,_=>φ)|.dmap _ _ p G,.dmap _ _ t G=>ny p t φ|.g_ _ _ t c B S _,.g_ _ _ t' c' B' S' _=>ny S S' (ny B B' (ny c c' (ny t t' φ)))|.jk j c B,.jk i c' B'=>ny B B' (ny c c' (uH j i φ))|.lh p _ c q l,.lh t _ d u m=>En l m (ny q u (ny p t (match c,d with|O j,O i=>uH j i φ|_,_=>φ)))|.loop _ _ T _ _ j _,.loop _ _ T' _ _ i _=>qp T' (cG T 1 0 []) (uH j i φ)|_,_=>φ
def Ko(h k:Tr bF):Nat->Fit->Fit|0,φ=>φ|n+1,φ=>match φ.w with|[]=>φ|(j,i)::w=>Ko h k n (match h.get j,k.get i with|O a,O b=>akO a b {φ with w:=w}|_,_=>{φ with w:=w})
def oU(o:Nat):Bool:=ae o 50
section
variable(φ:Fit)(np na:Nat)
def nT(j:Nat):Option Nat:=match aF (j+1) np with|I=>(match φ.f.get j with|O i=>(match aF (i+1) na with|I=>O i|Z=>G)|G=>G)|Z=>O (na+(j - np))
def inE(j:Nat):Option AV:=match aF (j+1) bm with|I=>φ.v.get j|Z=>G
def Sq(j:Nat):Option Tm:=match aF (j+1) bm with|I=>(match φ.v.get j with|O _=>G|G=>φ.x.get j)|Z=>match aF (bm+np) j with|I=>O (.x (bm+(na+(j - (bm+np)))))|Z=>G
mutual
def rV:Tm->Option Tm|.c n=>O (.c n)|.x j=>Sq φ np na j|.bin o k a b=>(match rV a,rV b with|O a,O b=>O (.bin o k a b)|_,_=>G)|.conv k a=>(match rV a with|O a=>O (.conv k a)|G=>G)|.f o l=>match oU o,O2 l with|Z,O l=>(match ae o 23,l with|I,[t]=>(match dF (cK t) t with|I=>O t|Z=>O (.f o l))|_,_=>O (.f o l))|_,_=>G
def O2:List Tm->Option (List Tm)|[]=>O []|t::l=>match rV t,O2 l with|O t,O l=>O (t::l)|_,_=>G
end
def ZJ:zj->Option zj|.k n=>O (.k n)|.u c m=>match nT φ np na c with|O i=>O (.u i m)|G=>G
def SK:OL->Option OL|.func f=>O (.func f)|.yield l=>match nT φ np na l with|O i=>O (.yield i)|G=>G
def Fl(e:ag)(t:Tm):AV:=match bi 22 t with|O (a,.f 11 [])=>(match un 14 a with|O (.c n)=>(match gj n (.ofNat e)with|I=>.cQ|Z=>.deep e t)|_=>.deep e t)|_=>.deep e t
def aaz(k:bu)(t:Tm):AV:=match t with|.c n=>.int k n|t=>.sym k t
def vh:List Tm->Option (List UInt8)|[]=>O []|.c (.ofNat n)::l=>(match aF (n+1) 256,vh l with|I,O r=>O (UInt8.ofNat n::r)|_,_=>G)|_::_=>G
def TE(t:Tm):AV:=match li 3 t with|O l=>(match vh l with|O bs=>.str bs|G=>.iJ t)|G=>.iJ t
mutual
def k_:AV->Option AV|.bool b=>O (.bool b)|.int k n=>O (.int k n)|.str s=>O (.str s)|.kv=>O .kv|.ptr i o=>(match nT φ np na i with|O i=>O (.ptr i o)|G=>G)|.cQ=>O .cQ|.slice i o n c=>(match nT φ np na i,ZJ φ np na c with|O i,O c=>O (.slice i o n c)|_,_=>G)|.lf=>O .lf|.map i=>(match nT φ np na i with|O i=>O (.map i)|G=>G)|.func f a b=>(match SK φ np na f,Sr a,Sr b with|O f,O a,O b=>O (.func f a b)|_,_,_=>G)|.iq=>O .iq|.iface t v=>(match k_ v with|O v=>O (.iface t v)|G=>G)|.gP=>O .gP|.agg l=>(match Sr l with|O l=>O (.agg l)|G=>G)|.il l=>(match Sr l with|O l=>O (.il l)|G=>G)|.ext j=>(match inE φ j with|O v=>(match oS v with|I=>O v|Z=>G)|G=>G)|.mw g o=>O (.mw g o)|.sym k t=>(match rV φ np na t with|O t=>O (aaz k t)|G=>G)|.iI t=>(match rV φ np na t with|O t=>O (MZ t)|G=>G)|.tail i a b l c m=>(match nT φ np na i,nT φ np na c with|O i,O c=>O (.tail i a b l c m)|_,_=>G)|.iJ t=>(match rV φ np na t with|O t=>O (TE t)|G=>G)|.deep e t=>(match rV φ np na t with|O t=>O (Fl e t)|G=>G)|.mn e z t i o=>(match rV φ np na t,rV φ np na i with|O t,O i=>O (.mn e z t i o)|_,_=>G)|.bK i t c=>(match nT φ np na i,rV φ np na t,ZJ φ np na c with|O i,O t,O c=>O (.bK i t c)|_,_,_=>G)|.jM i e z t o=>(match nT φ np na i,rV φ np na t with|O i,O t=>O (.jM i e z t o)|_,_=>G)|.gZ i e z t u c=>match nT φ np na i,rV φ np na t,rV φ np na u,ZJ φ np na c with|O i,O t,O u,O c=>O (.gZ i e z t u c)|_,_,_,_=>G
def Sr:List AV->Option (List AV)|[]=>O []|v::l=>match k_ v,Sr l with|O v,O l=>O (v::l)|_,_=>G
end
def jS:List (Nat×AV)->Tr AV->Option (Tr AV)|[],T=>O T|(i,p)::l,T=>match k_ φ np na p with|O v=>jS l (T.put i (O v))|G=>G
def O3:List (AV×AV×Nat)->Option (List (AV×AV×Nat))|[]=>O []|(a,b,c)::l=>match k_ φ np na a,k_ φ np na b,O3 l with|O a,O b,O l=>O ((a,b,c)::l)|_,_,_=>G
def nk:bF->Option bF|.cells l t G=>(match Sr φ np na l with|O l=>O (.cells l t G)|G=>G)|.cells l t (O c)=>(match Sr φ np na l,nT φ np na c with|O l,O c=>O (.cells l t (O c))|_,_=>G)|.map es c=>(match O3 φ np na es with|O es=>O (.map es c)|G=>G)|.iter G a l b=>O (.iter G a l b)|.iter (O m) a l b=>(match nT φ np na m with|O m=>O (.iter (O m) a l b)|G=>G)|.oR=>O .oR|.row t e G=>(match rV φ np na t with|O t=>O (.row t e G)|G=>G)|.row t e (O c)=>(match rV φ np na t,nT φ np na c with|O t,O c=>O (.row t e (O c))|_,_=>G)|.dmap a b t G=>(match rV φ np na t with|O t=>O (.dmap a b t G)|G=>G)|.g_ a b t c B S G=>(match rV φ np na t,rV φ np na c,rV φ np na B,rV φ np na S with|O t,O c,O B,O S=>O (.g_ a b t c B S G)|_,_,_,_=>G)|.jk m c B=>(match nT φ np na m,rV φ np na c,rV φ np na B with|O m,O c,O B=>O (.jk m c B)|_,_,_=>G)|.lh t e (O c) q l=>(match rV φ np na t,nT φ np na c,rV φ np na q,Sr φ np na l with|O t,O c,O q,O l=>O (.lh t e (O c) q l)|_,_,_,_=>G)|.loop .ready G T N ps d k=>(match jS φ np na (cG T 1 0 []) .e,nT φ np na d with|O T,O d=>O (.loop .ready G T N ps d k)|_,_=>G)|_=>G
def okF(h:Tr bF)(j:Nat)(ob:bF):Bool:=aF (j+1) np&&match nT φ np na j with|O i=>(match h.get i,nk φ np na ob with|O a,O b=>Px b a|_,_=>Z)&&(match φ.b.get i with|O k=>ae k j|G=>Z)|G=>Z
def MJ:List (Tm×Bool)->Option (List (Tm×Bool))|[]=>O []|(t,b)::l=>match rV φ np na t,MJ l with|O t,O l=>O ((t,b)::l)|_,_=>G
def xu:List (Nat×bF)->Tr bF->Tr bF|[],h=>h|(j,_)::l,h=>xu l (match nT φ np na j with|O i=>h.put i G|G=>h)
def zE:List (Nat×bF)->Tr bF->Option (Tr bF)|[],h=>O h|(j,ob)::l,h=>match nT φ np na j,nk φ np na ob with|O i,O ob=>zE l (h.put i (O ob))|_,_=>G
end
def ai2(φ:Fit)(e:sR)(s:St)(o:Out):Option Out:=match Fj o,k_ φ e.s.n s.n o.v,zE φ e.s.n s.n (cG o.s.h 1 0 []) (xu φ e.s.n s.n (cG e.s.h 1 0 []) s.h),ji (nT φ e.s.n s.n) o.s.log,MJ φ e.s.n s.n o.s.x.pc with|I,O v,O h,O lg,O pc=>O ⟨.ret,v,.e,[],⟨h,s.n+(o.s.n - e.s.n),lg++s.log,⟨s.x.gl,pc++s.x.pc⟩⟩⟩|_,_,_,_,_=>G
def PA(g k:List (Nat×List AV)):Bool:=match g with|[]=>I|_=>Kn g k&&g.all λp=>mM p.2
mutual
def ag_:AV->List Tm->List Tm|.sym _ t,l=>t::l|.iI t,l=>t::l|.iJ t,l=>.f 0 [t]::l|.deep _ t,l=>.f 0 [xO t]::l|.bK _ n _,l=>n::l|.jM _ _ _ t _,l=>t::l|.agg vs,l=>qT vs l|.il vs,l=>qT vs l|.func _ a b,l=>qT a (qT b l)|_,l=>l
def qT:List AV->List Tm->List Tm|[],l=>l|v::vs,l=>ag_ v (qT vs l)
end
def aaA(o:bF)(l:List Tm):List Tm:=match o with|.cells vs _ _=>qT vs l|.row t _ _=>.f 0 [xO t]::l|.dmap _ _ t _=>.f 0 [xO t]::l|.lh t _ _ q vs=>.f 0 [xO t]::q::qT vs l|.g_ _ _ t _ _ S _=>.f 0 [xO t]::.f 0 [xO S]::l|.loop _ _ T _ _ _ _=>qT ((cG T 1 0 []).map (·.2)) l|_=>l
def EO:List (Nat×bF)->List Tm->List Tm|[],l=>l|(_,o)::r,l=>aaA o (EO r l)
def NG:BinOp->Bool|.add|.sub|.mul|.and|.or|.xor|.andNot|.eql|.neq|.lss|.leq|.gtr|.geq=>I|_=>Z
def ai3(o:Nat):List Tm->Bool|[_]=>ae o 47||ae o 49|[_,_,_]=>ae o 48|[_,_]=>ae o 41||ae o 43||ae o 44||ae o 46|_=>Z
mutual
def uf(D:List Tm):Tm->Bool|.c _=>I|.x i=>D.any (dF (.x i))|.bin o k a b=>(NG o&&uf D a&&uf D b)||D.any (dF (.bin o k a b))|.conv k a=>uf D a||D.any (dF (.conv k a))|.f o l=>(ae o 50&&l.isEmpty)||(aF 100 o&&aiQ o&&Fm D l)||(ai3 o l&&Fm D l)||D.any (dF (.f o l))
def Fm(D:List Tm):List Tm->Bool|[]=>I|t::l=>(D.any (dF (.f 0 [t]))||uf D t)&&Fm D l
end
section
variable(φ:Fit)(np na:Nat)
def Z4(t:Tm):Option Tm:=match t with|.bin o k a (.f 50 [])=>(match rV φ np na a with|O a=>O (.bin o k a (.f 50 []))|G=>G)|t=>rV φ np na t
def KZ(lm:List fV)(D:List Tm)(pc:List (Tm×Bool)):List (Tm×Bool)->Bool|[]=>I|(t,b)::l=>(match Z4 φ np na t with|O u=>(match nA u pc with|O c=>b==c|G=>match MG lm pc u with|O c=>b==c&&uf D t|G=>Z)|G=>Z)&&KZ lm D pc l
end
def PB(lm:List fV)(pc:List (Tm×Bool)):List (Tm×Bool)->Bool|[]=>I|(t,b)::l=>match MG lm pc t with|O c=>(match c==b with|I=>PB lm pc l|Z=>Z)|G=>PB lm pc l
def aaB(lm:List fV)(pc:List (Tm×Bool))(o:Out):Bool:=PB lm pc (o.s.x.pc.take (Nat.sub o.s.x.pc.length pc.length))
def DK(lm:List fV)(φ:Fit)(e:sR)(args:List AV)(s:St):Option (List Out):=match(match Sr φ e.s.n s.n e.args with|O l=>zB l args|G=>Z)&&e.s.log.isEmpty&&PA e.s.x.gl s.x.gl&&KZ φ e.s.n s.n lm (qT e.args (EO (cG e.s.h 1 0 []) [])) s.x.pc e.s.x.pc&&zD (okF φ e.s.n s.n s.h) e.s.h 1 0 with|Z=>G|I=>match ji (ai2 φ e s) e.outs with|O l=>O (l.filter (aaB lm s.x.pc))|G=>G
mutual
def aj8:AV->AV->Bool|.bool a,v=>Z|.int k a,v=>(match v with|.int l b=>fy k l&&gj a b|_=>Z)|.str a,v=>Z|.agg l,v=>(match v with|.agg m=>TF l m|_=>Z)|.kv,v=>(match v with|.kv=>I|_=>Z)|.cQ,v=>(match v with|.cQ=>I|_=>Z)|_,_=>I
def TF:List AV->List AV->Bool|[],[]=>I|a::l,b::m=>(match aj8 a b with|I=>TF l m|Z=>Z)|_,_=>Z
end
def Bn(lm:List fV)(f:Nat)(args:List AV)(s:St):List sR->Option (List Out)|[]=>G|e::r=>match ae e.f f with|Z=>Bn lm f args s r|I=>match TF e.args args with|Z=>Bn lm f args s r|I=>match DK lm (Ko e.s.h s.h 100000 (En e.args args ⟨.e,.e,.e,.e,[]⟩)) e args s with|O outs=>O outs|G=>Bn lm f args s r
def aaC(v u:AV):Bool:=match v,u with|.bK i n c,.bK j m d=>ae i j&&ns n m&&EI c d|.slice i a n c,.slice j b m d=>ae i j&&ae a b&&ae n m&&EI c d|_,_=>Z
def ai4(v u w:AV):AV:=match aaC v w with|I=>u|Z=>w
def V2(v u:AV):bF->bF|.cells l t c=>.cells (l.map (ai4 v u)) t c|o=>o
def EP(v u:AV):Tr bF->Tr bF|.e=>.e|.n l o r=>.n (EP v u l) (o.map (V2 v u)) (EP v u r)
def XO(v:AV)(r:AV×St):AV×St:=(r.1,{r.2 with h:=EP v r.1 r.2.h})
section
variable(P:aw)
def mN(e:ag):Bool:=match P.underlying e with|O (.int .u8)=>Z|O _=>I|G=>Z
def XP(s:St)(i:Nat)(e:ag)(t:Tm):AV×St:=(.deep e (.f 22 [.x (bm+s.n),cK t]),{s with h:=s.h.put i G,log:=i::s.log,n:=s.n+1})
section
variable(lm:List fV)
def Z5(s:St)(v:AV):Option (AV×St):=match v with|.bK i n _=>(match s.h.get i with|O (.row t e _)=>(match mN P e,MH lm s t n with|I,O t=>O (XO v (XP s i e t))|_,_=>G)|_=>G)|.slice i off n _=>(match s.h.get i with|O (.cells l e _)=>(match di P e,mN P e with|O z,I=>(match aF (off+n*z) l.length,Em l off (n*z)with|I,O vs=>(match VY P lm s e n vs with|O t=>O (XO v (XP s i e t))|G=>G)|_,_=>G)|_,_=>G)|_=>G)|_=>G
def uo:List AV->St->List AV×St
 |[],s=>([],s)
 |v::l,s=>match Z5 P lm s v with
  |O (u,s1)=>let r:=uo l s1
   (u::r.1,r.2)
  |G=>let r:=uo l s
   (v::r.1,r.2)
def aeP(s:St)(j:Nat):St:=
 match s.h.get j with
 |O (.cells l t c)=>let r:=uo P lm l s
  match r.2.h.get j with
  |O _=>{r.2 with h:=r.2.h.put j (O (.cells r.1 t c))}
  |G=>s
 |_=>s
end
end
def ai5(P:aw)(lm:List fV)(s:St)(e:ag)(x:AV)(lo hi mx:Option AV):Option (AV×St):=match x with|.deep e' tm=>(match ae e e'&&(match bi 22 tm with|O _=>I|G=>Z),di P e,SF lo (.c 0),SF hi (jY tm)with|I,O _,O i,O j=>(match Co lm s i&&sY lm s i j&&sY lm s j (jY tm)with|I=>(let v:AV:=.deep e (.f 22 [.x (bm+s.n),.f 26 [xO tm,i,j]]);match mx with|G=>O (v,{s with n:=s.n+1})|O m=>match uM m,hi with|O m,O _=>(match ns m j with|I=>O (v,{s with n:=s.n+1,x:={s.x with pc:=(.f 38 [.x (bm+s.n)],I)::s.x.pc}})|Z=>G)|_,_=>G)|Z=>G)|_,_,_,_=>G)|_=>G
def aeQ(P:aw)(lm:List fV)(s:St)(T:Tr AV)(op:Op):Option (AV×St):=match op with|.slice t x lo hi mx=>(match P.underlying t,evA T x,Dj T lo,Dj T hi,Dj T mx with|O (.slice e),O v,O lo,O hi,O mx=>(match v,mx with|.bK _ _ _,O _=>G|_,_=>ai5 P lm s e v lo hi mx)|_,_,_,_,_=>G)|_=>G
section
variable(P:aw)(lm:List fV)
def aaD(s:St)(e:ag):AV×St:=let t:=oT P e (.f 11 []);(.bK s.n (jY t) (.u (s.n+1) 0),Di (oh s (.row t e (O (s.n+1)))))
def qk(e:ag)(t:Tm):Bool:=match bi 22 t with|O _=>I|G=>mD P e
def akP(t it:Tm)(off:Nat)(cs:List Tm):Tm:=both t (λa=>.f 24 (a::it::.c (.ofNat off)::cs)) λc=>.f 24 (c::it::.c (.ofNat off)::kV cs)
def DL(s:St)(i:Nat)(t:Tm)(e:ag)(c:Option Nat)(it:Tm)(cs:List AV):Option St:=let r:=uo P lm cs s;let s:=r.2;match dG P 8 e,di P e with|O ts,O z=>(match ae ts.length z&&aF 2 z&&r.1.all oS&&qk P e t&&mN P e,o_ P lm s ts r.1 with|I,O l=>(match s.h.get i with|O (.lh _ _ _ _ _)=>O {s with h:=s.h.put i (O (.row (akP t it 0 l) e c))}|_=>G)|_,_=>G)|_,_=>G
def ai6(k:Tr bF)(s:St)(p v:AV):Option (AV×St):=match p with|.bK j _ _=>(match k.get j with|O (.row _ e _)=>(match v with|.cQ=>(match uN P e with|I=>O (aaD P s e)|Z=>G)|.bK i n c=>(match s.h.get i with|O (.row t e' (O c'))=>(match dF n (jY t)with|I=>G|Z=>match MH lm s t n,mN P e' with|O u,I=>O (.bK i (jY u) c,{s with h:=s.h.put i (O (.row u e' (O c')))})|_,_=>G)|O (.lh t e' c' it cs)=>(match DL P lm s i t e' c' it cs with|O s=>(match s.h.get i with|O (.row u _ _)=>(match ns n (jY u)with|I=>O (.bK i (jY u) c,s)|Z=>G)|_=>G)|G=>G)|_=>G)|_=>G)|_=>G)|.deep _ _=>Z5 P lm s v|_=>G
mutual
def ky(k:Tr bF):AV->AV->St->AV×St
 |.agg ps,v,s=>match v with
  |.agg l=>let r:=Eo k ps l s
   (.agg r.1,r.2)
  |v=>(v,s)
 |.il ps,v,s=>match v with
  |.il l=>let r:=Eo k ps l s
   (.il r.1,r.2)
  |v=>(v,s)
 |p,v,s=>match ai6 P lm k s p v with
  |O r=>r
  |G=>(v,s)
def Eo(k:Tr bF):List AV->List AV->St->List AV×St
 |p::ps,l,s=>match l with
  |v::l=>let a:=ky k p v s
   let r:=Eo k ps l a.2
   (a.1::r.1,r.2)
  |[]=>([],s)
 |[],l,s=>(l,s)
end
def xf(k:Tr bF):List (Nat×AV)->Tr AV->St->Tr AV×St
 |[],T,s=>(T,s)
 |(i,p)::l,T,s=>match T.get i with
  |O v=>let a:=ky P lm k p v s
   xf k l (T.put i (O a.1)) a.2
  |G=>xf k l T s
def ai7(k:Tr bF)(s:St)(j i:Nat):St:=
 match k.get j,s.h.get i with
 |O (.cells ps _ _),O (.cells l t c)=>let r:=Eo P lm k ps l s
  match r.2.h.get i with
  |O _=>{r.2 with h:=r.2.h.put i (O (.cells r.1 t c))}
  |G=>s
 |O (.loop _ _ pT _ _ _ _),O (.loop st pe T N ps d key)=>let r:=xf P lm k (cG pT 1 0 []) T s
  match r.2.h.get i with
  |O _=>{r.2 with h:=r.2.h.put i (O (.loop st pe r.1 N ps d key))}
  |G=>s
 |O (.dmap kt e _ G),O (.map [] _)=>match gk P kt with
  |I=>{s with h:=s.h.put i (O (.dmap kt e (oT P e (.f 11 [])) G))}
  |Z=>s
 |O (.dmap _ _ _ G),O (.g_ kt e t _ _ _ _)=>{s with h:=s.h.put i (O (.dmap kt e t G))}
 |O (.g_ _ _ _ _ _ _ G),O (.g_ kt e t c B S (O _))=>{s with h:=s.h.put i (O (.g_ kt e t c B S G))}
 |O (.row _ _ _),O (.lh t e c it cs)=>match DL P lm s i t e c it cs with
  |O s=>s
  |G=>s
 |O (.lh _ _ _ _ ps),O (.lh t e c it cs)=>let r:=Eo P lm k ps cs s
  match r.2.h.get i with
  |O _=>{r.2 with h:=r.2.h.put i (O (.lh t e c it r.1))}
  |G=>s
 |_,_=>s
def Z6(k:Tr bF):List (Nat×Nat)->St->St
 |[],s=>s
 |(j,i)::l,s=>Z6 k l (ai7 P lm k s j i)
def Bo(φ:Fit):List (Nat×bF)->List (Nat×Nat)
 |[]=>[]
 |(j,_)::l=>match φ.f.get j with
  |O i=>(j,i)::Bo φ l
  |G=>Bo φ l
end
section
variable(φ:Fit)(np na:Nat)
def DM(T:Tr AV):List (Nat×AV)->Bool|[]=>I|(i,p)::l=>(match T.get i,k_ φ np na p with|O v,O u=>ux u v|_,_=>Z)&&DM T l
def WI(q r:Option Nat):Bool:=match q,r with|G,G=>I|O j,O i=>(match nT φ np na j with|O k=>ae k i|G=>Z)|_,_=>Z
end
def aaE(o:Out):Bool:=match o.e,o.v,o.M with|.norm,.il [],[]=>I|.exit _,.il [],[]=>I|.goto _,.il [],[]=>I|.ret,.il [],[]=>I|_,_,_=>Z
def ai8(φ:Fit)(e:lk)(s:St)(o:Out):Option Out:=match aaE o,jS φ e.s.n s.n (cG o.T 1 0 []) .e,zE φ e.s.n s.n (cG o.s.h 1 0 []) (xu φ e.s.n s.n (cG e.s.h 1 0 []) s.h),ji (nT φ e.s.n s.n) o.s.log,MJ φ e.s.n s.n o.s.x.pc with|I,O T,O h,O lg,O pc=>O ⟨o.e,jN,T,[],⟨h,s.n+(o.s.n - e.s.n),lg++s.log,⟨s.x.gl,pc++s.x.pc⟩⟩⟩|_,_,_,_,_=>G
def Ap(lm:List fV)(φ:Fit)(e:lk)(r:Option Nat)(T:Tr AV)(s:St):Option (List Out):=match DM φ e.s.n s.n T (cG e.T 1 0 [])&&WI φ e.s.n s.n e.r r&&e.s.log.isEmpty&&PA e.s.x.gl s.x.gl&&KZ φ e.s.n s.n lm (qT ((cG e.T 1 0 []).map (·.2)) (EO (cG e.s.h 1 0 []) [])) s.x.pc e.s.x.pc&&zD (okF φ e.s.n s.n s.h) e.s.h 1 0 with|Z=>G|I=>match ji (ai8 φ e s) e.outs with|O l=>O (l.filter (aaB lm s.x.pc))|G=>G
def aeR(q r:Option Nat):Fit:=match q,r with|O j,O i=>uH j i ⟨.e,.e,.e,.e,[]⟩|_,_=>⟨.e,.e,.e,.e,[]⟩
def zZ(lm:List fV)(f:Nat)(p:List Bool)(r:Option Nat)(T:Tr AV)(N:Nat)(s:St):List lk->Option (List Out)|[]=>G|e::l=>match ae e.z.1 f&&SI e.z.2 p&&ae e.N N with|Z=>zZ lm f p r T N s l|I=>match Ap lm (Ko e.s.h s.h 100000 (qp T (cG e.T 1 0 []) (aeR e.r r))) e r T s with|O outs=>O outs|G=>zZ lm f p r T N s l
def NH(P:aw)(lm:List fV)(e:lk)(r:Option Nat)(T:Tr AV)(s:St):Tr AV×St:=
 let a:=xf P lm e.s.h (cG e.T 1 0 []) T s
 let φ:=Ko e.s.h a.2.h 100000 (qp a.1 (cG e.T 1 0 []) (aeR e.r r))
 (a.1,Z6 P lm e.s.h (Bo φ (cG e.s.h 1 0 [])) a.2)
def vi(P:aw)(lm:List fV)(f:Nat)(p:List Bool)(r:Option Nat)(T:Tr AV)(N:Nat)(s:St):List lk->Option (List Out)|[]=>G|e::l=>match ae e.z.1 f&&SI e.z.2 p&&ae e.N N with|Z=>vi P lm f p r T N s l|I=>let a:=NH P lm e r T s;match Ap lm (Ko e.s.h a.2.h 100000 (qp a.1 (cG e.T 1 0 []) (aeR e.r r))) e r a.1 a.2 with|O outs=>O outs|G=>vi P lm f p r T N s l
def yf(P:aw)(bk:Pr)(z:Loc)(r:Option Nat)(T:Tr AV)(N:Nat)(s:St):Option (List Out):=match z with|O (f,p)=>(match zZ bk.lm f p r T N s bk.lt with|O outs=>O outs|G=>vi P bk.lm f p r T N s bk.lt)|G=>G
def BB(P:aw)(bk:Pr)(z:Loc)(r:Option Nat)(T:Tr AV)(N:Nat)(M:List Nat)(s:St):Option (List Out):=match yf P bk z r T N s with|O outs=>(match outs.all λo=>o.M.isEmpty with|I=>O (outs.map λo=>{o with M:=M})|Z=>G)|G=>G
def NI(P:aw)(lm:List fV)(e:sR)(args:List AV)(s:St):List AV×St:=
 let a:=Eo P lm e.s.h e.args args s
 let φ:=Ko e.s.h a.2.h 100000 (En e.args a.1 ⟨.e,.e,.e,.e,[]⟩)
 (a.1,Z6 P lm e.s.h (Bo φ (cG e.s.h 1 0 [])) a.2)
def z7(P:aw)(lm:List fV)(f:Nat)(args:List AV)(s:St):List sR->Option (List Out)|[]=>G|e::r=>match ae e.f f with|Z=>z7 P lm f args s r|I=>let a:=NI P lm e args s;match DK lm (Ko e.s.h a.2.h 100000 (En e.args a.1 ⟨.e,.e,.e,.e,[]⟩)) e a.1 a.2 with|O outs=>O outs|G=>z7 P lm f args s r
section
variable(P:aw)
def aj9(rt:List ag)(t:ag):Bool:=match P.underlying t with|O (.slice e)=>rt.any (ae e)|_=>Z
def NJ(lm:List fV)(s:St)(t tx:ag)(x y:AV):Option (AV×St):=match y with|.slice j _ _ _=>DH P lm (aeP P lm s j) t tx x y|y=>DH P lm s t tx x y
def alO(t it x:Tm):Tm:=both t (λa=>.f 36 [a,it,x]) λc=>.f 36 [c,it,cK x]
def TG(lm:List fV)(s:St)(t:ag)(i e sz:Nat)(it:Tm)(off:Nat)(v:AV):Option St:=let r:=uo P lm (da v) s;let s:=r.2;match s.h.get i with|O (.row tm e' c)=>(match ae e e'&&Co lm s it&&gA lm s (.bin .lss .i64 it (jY tm)),dG P 8 e,dG P 8 t,di P t,di P e with|I,O ts,O us,O n,O z=>(match SE us ((ts.drop off).take us.length)&&ae us.length n&&ae z sz&&ae ts.length z&&r.1.all oS&&aF (off+us.length) ts.length&&qk P e tm&&(match P.underlying e with|O (.int .u8)=>Z|_=>I),o_ P lm s us r.1 with|I,O cs=>(match ae ts.length 1,cs with|I,[x]=>O (lK s i (.row (alO tm it x) e' c))|I,_=>G|Z,cs=>O (lK s i (.row (akP tm it off cs) e' c)))|_,_=>G)|_,_,_,_,_=>G)|_=>G
def afS(s:St)(v:AV):Bool:=match v with|.bK i _ _=>(match s.h.get i with|O (.row _ e _)=>!(mD P e)|_=>Z)|_=>Z
def TH(lm:List fV)(s:St)(t:ag)(i e sz:Nat)(it:Tm)(off:Nat)(v:AV):Option St:=match di P t,di P e with|O n,O z=>(match ae z sz&&ae (da v).length n&&(da v).all oS with|I=>(match s.h.get i with|O (.row tm e' c)=>(match(da v).any (afS P s)&&mN P e&&ae e e'&&gA lm s (.bin .geq .i64 it (.c 0))&&gA lm s (.bin .lss .i64 it (jY tm)),zN P I e e sz tm it 0 with|I,O (.agg u)=>(match aF (off+n) u.length&&ae u.length sz with|I=>O (lK s i (.lh tm e' c it (KR u off (da v))))|Z=>G)|_,_=>G)|O (.lh tm e' c it' cs)=>G|_=>G)|Z=>G)|_,_=>G
def Z7(t u:Tm):Tm:=match bi 22 t,bi 22 u with|O (a,c),O (b,d)=>.f 22 [.f 30 [a,.c 0,b],.f 30 [c,.c 0,d]]|_,_=>.f 30 [t,.c 0,u]
def aaF(lm:List fV)(s:St)(t tx:ag)(x y:AV):Option (AV×St):=match P.underlying t,x with|O (.slice e),.bK i n _=>(match s.h.get i,P.info? e with|O (.row u e' c),O inf=>(match ae e e'&&ns n (jY u)&&mN P e&&(match y with|.bK j _ _=> !(ae i j)|_=>I),xU P lm s e tx inf.size y with|I,O (nt,nl)=>(match sY lm s nl n with|I=>O (.sym .i64 nl,lK s i (.row (Z7 u nt) e' c))|Z=>G)|_,_=>G)|_,_=>G)|_,_=>G
def TI(lm:List fV)(s:St)(t:ag)(x:AV):Option St:=match P.underlying t,x with|O (.slice e),.gZ i e' sz lo n _=>(match s.h.get i,uV P lm s e with|O (.row u e'' c),O z=>(match ae e e'&&ae e e''&&ns n (jY u)&&mN P e&&qk P e u&&(match di P e with|O z=>ae z sz|G=>Z)with|I=>O (lK s i (.row (both u (λa=>.f 28 [a,lo,z]) λc=>.f 28 [c,lo,cK z]) e'' c))|Z=>G)|_,_=>G)|_,_=>G
def aaG(lm:List fV)(s:St)(t:ag)(l c:AV):Option (AV×St):=
 match P.underlying t,uM l,uM c with
 |O (.slice e),O n,O m=>match P.info? e,uV P lm s e with
  |O inf,O z=>match dF n m&&uN P e&&Co lm s n&&gA lm s (.bin .leq .i64 n (.c (.ofNat most)))&&aF inf.bytes most with
   |I=>let u:=oT P e (.f 29 [n,z])
    O (.bK s.n (jY u) (.u (s.n+1) 0),Di (oh s (.row u e (O (s.n+1)))))
   |Z=>G
  |_,_=>G
 |_,_,_=>G
def rI:List ag->Nat->Option (List AV×List Tm)|[],_=>O ([],[])|t::l,n=>match P.underlying t with|O d=>(match oF d (match SD d with|I=>.f 22 [.x (bm+n),.f 23 [.x (bm+n)]]|Z=>.x (bm+n)),rI l (n+1)with|O v,O r=>O (v::r.1,.x (bm+n)::r.2)|_,_=>G)|G=>G
def mE:List Tm->Tm|[a]=>a|l=>.f 13 l
def Z8(agg:Bool)(l:List AV):Option AV:=match agg,l with|I,l=>O (.agg l)|Z,[v]=>O v|Z,_=>G
def TJ(s:St)(t:ag)(x:AV):Option (AV×St):=match P.underlying t,x with|O (.map kt vt),.map i=>(match s.h.get i with|O (.dmap kt' vt' tm G)=>(match ae kt kt'&&ae vt vt' with|I=>O (.ptr s.n 0,{s with h:=(s.h.put i (O (.g_ kt vt tm (.x (bm+s.n)) (.f 11 []) (oT P vt (.f 11 [])) G))).put s.n (O (.jk i (.x (bm+s.n)) (.f 11 []))),n:=s.n+1,x:={s.x with pc:=(.f 43 [.f 11 [],cK tm],I)::(.f 49 [cK tm],I)::s.x.pc}})|Z=>G)|_=>G)|_,_=>G
def aaH(s:St)(it:AV):Option (List (AV×St)):=match it with|.ptr i 0=>(match s.h.get i with|O (.jk m c B)=>(match s.h.get m with|O (.g_ kt vt t c' B' S _)=>(match dF c c'&&dF B B',dG P 8 kt,dG P 8 vt,fD P kt,fD P vt with|I,O ks,O us,O ka,O va=>(match rI P ks (s.n+1),rI P us (s.n+1+ks.length)with|O (kl,kT),O (vl,vT)=>(match Z8 ka kl,Z8 va vl with|O K,O V=>let b:Tm:=.x (bm+s.n);let S1:=lj S (oT P vt (.f 11 [.f 13 [mE kT,mE vT]]));let B1:Tm:=.f 2 [B,.f 11 [b]];let all:Tm:=.f 41 [cK S,cK t];let s0:=cw {s with h:=s.h.put m (O (.dmap kt vt t G)),x:={s.x with pc:=(all,I)::s.x.pc}} i;let s1:St:={s with h:=(s.h.put m (O (.g_ kt vt t c B1 S1 (O (b,K,V))))).put i (O (.jk m c B1)),log:=i::s.log,n:=s.n+1+ks.length+us.length,x:={s.x with pc:=(.f 43 [cK S1,cK t],I)::(all,Z)::s.x.pc}};O [(.il [.bool Z],s0),(.il [.bool I,K,V],s1)]|_,_=>G)|_,_=>G)|_,_,_,_,_=>G)|_=>G)|_=>G)|_=>G
def aaI(s:St)(it:AV):Option (List (AV×St)):=match aal s it with|O l=>O l|G=>aaH P s it
def K0(t k v:Tm):Tm:=both t (λa=>aeI a k v) λc=>aeI c k (cK v)
def NK(lm:List fV)(s:St)(t:ag)(m k v:AV):Option St:=match P.underlying t,m with|O (.map kt e),.map i=>(let r:=uo P lm (da v) s;let s:=r.2;match gk P kt,Ff P s kt e i,xn P lm s kt k,xn P lm s e (match v with|.agg _=>.agg r.1|v=>r.1.headD v)with|I,O tm,O kT,O vT=>(match qk P e tm with|I=>O (lK s i (.dmap kt e (K0 tm kT vT) G))|Z=>G)|_,_,_,_=>G)|_,_=>G
def Z9(t k z:Tm):Tm:=both t (λa=>OZ a k z) λc=>OZ c k (cK z)
def TK(lm:List fV)(s:St)(t:ag)(m k:AV):Option (AV×St):=match P.underlying t,m with|O (.map kt e),.map i=>(match gk P kt,Ff P s kt e i,xn P lm s kt k,uV P lm s e with|I,O tm,O kT,O z=>(match qk P e tm,mapVal P e tm kT z with|I,O v=>O (.il [v,.sym .i64 (.x (bm+s.n))],Di (lK s i (.dmap kt e (K0 tm kT (Z9 tm kT z)) (O (kT,s.n)))))|_,_=>G)|_,_,_,_=>G)|_,_=>G
def vE(lm:List fV)(s:St)(m b v:AV):Option St:=match m,b with|.map i,.sym _ (.x a)=>(let r:=uo P lm (da v) s;let s:=r.2;match s.h.get i with|O (.dmap kt e tm (O (kT,j)))=>(match ae a (bm+j)&&qk P e tm,xn P lm s e (match v with|.agg _=>.agg r.1|v=>r.1.headD v)with|I,O vT=>O (lK s i (.dmap kt e (K0 tm kT vT) G))|_,_=>G)|_=>G)|_,_=>G
def Z'(lm:List fV)(s:St)(T:Tr AV)(op:Op):Option (AV×St):=let ρ:=evA T;match op with|.store t a x=>(match ρ a,ρ x with|O (.jM i e sz it off),O v=>(match TH P lm s t i e sz it off v with|O s=>O (jN,s)|G=>(TG P lm s t i e sz it off v).map λs=>(jN,s))|_,_=>G)|.mapUpdate t m k v|.insert t m k v=>(match ρ m,ρ k,ρ v with|O m,O k,O v=>(NK P lm s t m k v).map λs=>(jN,s)|_,_,_=>G)|.mapEntry t m k=>(match ρ m,ρ k with|O m,O k=>TK P lm s t m k|_,_=>G)|.entryStore _ m b v=>(match ρ m,ρ b,ρ v with|O m,O b,O v=>(vE P lm s m b v).map λs=>(jN,s)|_,_,_=>G)|.makeSlice t l c=>(match ρ l,ρ c with|O l,O c=>aaG P lm s t l c|_,_=>G)|.range t x=>(match ρ x with|O v=>TJ P s t v|G=>G)|.call c=>(match c.callee with|.builtin .copy=>(match c.args.toList,c.argTypes.toList with|[x,y],[t,tx]=>(match ρ x,ρ y with|O x,O y=>aaF P lm s t tx x y|_,_=>G)|_,_=>G)|.builtin .delete=>G|.builtin .clear=>(match c.args.toList,c.argTypes.toList with|[x],[t]=>(match ρ x with|O x=>(TI P lm s t x).map λs=>(jN,s)|G=>G)|_,_=>G)|_=>G)|_=>G
def aeS(bk:Pr)(s:St)(T:Tr AV)(op:Op):Option (AV×St):=match(match op with|.call c=>(match c.callee with|.builtin .append=>(match c.args.toList,c.argTypes.toList with|[x,y],[t,tx]=>(match aj9 P bk.rt t,evA T x,evA T y with|I,O x,O y=>NJ P bk.lm s t tx x y|_,_,_=>G)|_,_=>G)|_=>G)|_=>G)with|O r=>O r|G=>match ZX P s T op with|O r=>O r|G=>Z' P bk.lm s T op
end
def NL(P:aw)(T:Tr AV)(op:Op):Option (Nat×bu×Tm×Nat):=match op with|.index t x (.tmp d)|.indexAddr t x (.tmp d)=>(match T.get d,P.underlying t,evA T x with|O (.sym k u),O (.array n _),_=>(match aF n 64 with|I=>O (d,k,u,n)|Z=>G)|O (.sym k u),O (.slice _),O (.slice _ _ n _)=>(match aF n 64 with|I=>O (d,k,u,n)|Z=>G)|_,_,_=>G)|_=>G
def M7(f:Nat->oC):Nat->Nat->oC|0,_=>O []|n+1,j=>match f j,M7 f n (j+1)with|O x,O y=>O (x++y)|_,_=>G
def M8(P:aw)(s:St)(x:AV):Option Tm:=match x with|.deep _ t=>(match bi 22 t with|O (_,c)=>O c|G=>G)|.bK i n _=>(match s.h.get i with|O (.row t e _)=>(match mN P e&&ns n (jY t)with|I=>O (xO t)|Z=>G)|_=>G)|_=>G
def aaJ(P:aw)(s:St)(x y:AV):Option Tm:=match x with|.cQ=>M8 P s y|x=>match y with|.cQ=>M8 P s x|_=>G
def aaK(P:aw)(t:ag):Bool:=match P.underlying t with|O (.slice _)=>!(P.eqGuardType P.depth t)|_=>Z
def M9(P:aw)(lm:List fV)(s:St)(T:Tr AV)(op:Op):Option (List (AV×St)):=match op with|.binOp o t x y _=>(match(match o with|.eql=>O I|.neq=>O Z|_=>G),evA T x,evA T y with|O b,O u,O v=>(match(match aaK P t with|I=>aaJ P s u v|Z=>G)with|O c=>(match gA lm s (.bin .gtr .i64 (.f 0 [c]) (.c 0))with|I=>G|Z=>O [(.bool b,ot s (.f 20 [c,.f 11 []]) I),(.bool (!b),s)])|G=>G)|_,_,_=>G)|_=>G
def V3(P:aw)(lm:List fV)(s:St)(t:Nat)(x y:AV):Option (AV×St):=match P.underlying (t%65536),x,y with|O (.slice e),.bK i n (.u c 0),.func (.func g) [] []=>(match s.h.get i with|O (.row u e' (O c'))=>(match ae g (t/65536)&&ae c c'&&ae e e'&&mD P e&&ns n (jY u)&&gA lm s (.f 47 [cK u])&&sY lm s n (.c 1000000000000)with|I=>O (.il [],lK s i (.row (.f 45 [u]) e (O c)))|Z=>G)|_=>G)|_,_,_=>G
def Kq(t i j:Tm):Tm:=both t (λa=>.f 26 [a,i,j]) λc=>.f 26 [c,i,j]
def DN(P:aw)(lm:List fV)(s:St)(t:ag)(x it y:AV):Option (AV×St):=match P.underlying t,x,zy it,y with|O (.slice e),.bK i n (.u c 0),O (kd,k),.slice j o (m+1) d=>(match s.h.get i,s.h.get j,P.info? e with|O (.row u e' (O c')),O (.cells _ _ G),O inf=>(match fy kd .i64&&ae c c'&&ae e e'&&uN P e&&ns n (jY u)&&Co lm s k&&sY lm s k n&&aF inf.bytes most&&aF 1 inf.size&&(match inf.zero with|O z=>ae z.cells.size inf.size|G=>Z),xU P lm s e t inf.size (.slice j o (m+1) d)with|I,O (nt,nl)=>(match room lm s n nl with|I=>O (jl s (O i) e (lj (xp u k) (lj nt (Kq u k n))))|Z=>G)|_,_=>G)|_,_,_=>G)|_,_,_,_=>G
def aaL(P:aw)(lm:List fV)(k t:Nat)(args:List AV)(s:St):Option (AV×St):=match args with|[x,i,y]=>(match ae k 6 with|I=>DN P lm (match y with|.slice j _ _ _=>aeP P lm s j|_=>s) t x i y|Z=>G)|[x,y]=>(match ae k 7 with|I=>V3 P lm s t x y|Z=>G)|_=>G
def PC(P:aw)(lm:List fV)(k t:Nat)(args:List AV)(s:St):Option (AV×St):=match aaw P k t args s with|O r=>O r|G=>aaL P lm k t args s
def PY:List Out->List (Nat×Nat)|[]=>[]|o::l=>(match o.e with|.VQ=>(match o.M with|c::ids=>ids.map λi=>(c,i)|[]=>[])|_=>[])++PY l
def aaM:List aY->Nat->Tr Nat->Tr Nat|[],_,D=>D|o::l,i,D=>aaM l (i+1) (match o.dst with|O d=>D.put d (O i)|G=>D)
def Fo(P:aw)(ops:Array aY)(b:Array Nat)(D:Tr Nat)(j:Nat)(o:aY):Bool:=(ae (fC P o.op) 1||ae (fC P o.op) 2)&&(o.after.toList.all λe=>aF (e.on+1) j)&&(match o.dst with|O d=>(match D.get d with|O i=>ae i j|G=>Z)|G=>I)&&(o.looksAt ops).all λt=>match D.get t with|O i=>(b.getD j 0).testBit i|G=>I
def V4(P:aw)(ops:Array aY)(b:Array Nat)(D:Tr Nat):List aY->Nat->Bool|[],_=>I|o::l,j=>Fo P ops b D j o&&V4 P ops b D l (j+1)
def V5(P:aw)(ops:Array aY):Bool:=V4 P ops (kW ops.toList #[]) (aaM ops.toList 0 .e) ops.toList 0
def aeT(f:AV->St->Option (List (Tr AV×St))):List (AV×St)->Option (List (Tr AV×St))|[]=>O []|[(v,s)]=>f v s|(v,s)::l=>match f v s with|G=>G|O x=>match aeT f l with|G=>G|O y=>O (x++y)
def SM(P:aw)(lm:List fV)(ops:Array aY)(N:Nat):List aY->Tr AV->St->Option (List (Tr AV×St))|[],T,s=>O [(T,s)]|o::l,T,s=>match KM N o.dst with|Z=>G|I=>match gg ops T o with|O Z=>SM P lm ops N l (qd T o.dst jN) s|O I=>(match(match ae (fC P o.op) 2 with|I=>Cp P lm s T o.op|Z=>Cq P lm s T o.op)with|O v=>aeT (λv s=>SM P lm ops N l (qd T o.dst v) s) (uO lm v s)|G=>G)|G=>G
section
variable(P:aw)(bk:Pr)
def gW:Code->List Nat->List Nat|.region _ ops _,l=>ops.toList.foldl (λl o=>o.looksAt ops++l) l|.seq a b,l=>gW a (gW b l)|.cond c a b,l=>(match c with|.tmp t=>[t]|_=>[])++gW a (gW b l)|.block _ a,l=>gW a l|.loop a,l=>gW a l|.scope a,l=>gW a l|.rangeFunc f _ a b,l=>(match f with|.tmp t=>[t]|_=>[])++gW a (gW b l)|_,l=>l
def V6(T:Tr AV):List Nat->Tr AV->Tr AV|[],acc=>acc|i::l,acc=>V6 T l (match T.get i with|O v=>acc.put i (O v)|G=>acc)
def WJ(P:aw)(bk:Pr)(rec:sQ->oC)(z:Loc)(r:Option Nat)(f:fh)(ps:Array Tmp)(assign body:Code)(T:Tr AV)(N:Nat)(M:List Nat)(s:St):oC:=match evA T f,z with|O (.func (.func g) first cap),O key=>(match(match r with|G=>O (s.n,s.n::M,oh s .oR)|O l0=>match s.h.get l0 with|O (.loop _ _ _ _ _ d _)=>O (d,M,s)|_=>G)with|G=>G|O (d,M,s)=>let l:=s.n;ue (rec (.call g (first++[.func (.yield l) [] []]++cap) (oh s (.loop .ready G (V6 T (gW assign (gW body [])) .e) N ps.toList d key)))) λo=>match o.s.h.get l with|O (.loop st aeU _ _ _ _ _)=>(match st with|.busy=>G|_=>match aeU with|G=>zO T M (cw o.s l)|O c=>rec (.code G r c T N M (cw o.s l)))|_=>G)|_,_=>G
def TL(P:aw)(bk:Pr)(rec:sQ->oC)(z:Loc)(r:Option Nat)(c:Code)(T:Tr AV)(N:Nat)(M:List Nat)(s:St):oC:=match c with|.skip=>zO T M s|.label _=>zO T M s|.ret=>O [⟨.ret,jN,T,M,s⟩]|.exit id=>O [⟨.exit id,jN,T,M,s⟩]|.goto l=>O [⟨.goto l,jN,T,M,s⟩]|.scope c=>rec (.SG (z.go Z) r c c T N M s)|.region _ ops Z=>rec (.ops r ops ops.toList T N M s)|.region _ ops I=>rec (.draw r ops (M4 P ops.toList T) N M s [])|.seq x y=>(ue (rec (.code (z.go Z) r x T N M s)) λo=>match o.e with|.norm=>rec (.code (z.go I) r y o.T N o.M o.s)|_=>O [o])|.cond c x y=>(match evA T c with|O (.bool I)=>rec (.code (z.go Z) r x T N M s)|O (.bool Z)=>rec (.code (z.go I) r y T N M s)|O (.iI t)=>(match MG bk.lm s.x.pc t with|O I=>rec (.code (z.go Z) r x T N M s)|O Z=>rec (.code (z.go I) r y T N M s)|G=>match rec (.code (z.go Z) r x T N M (ot s t I))with|G=>G|O a=>match rec (.code (z.go I) r y T N M (ot s t Z))with|G=>G|O b=>O (a++b))|_=>G)|.block id c=>(ue (rec (.code (z.go Z) r c T N M s)) λo=>match o.e with|.exit j=>(match ae j id with|I=>zO o.T o.M o.s|Z=>O [o])|_=>O [o])|.loop c=>(match BB P bk z r T N M s with|O outs=>O outs|G=>ue (rec (.code (z.go Z) r c T N M s)) λo=>match o.e with|.norm=>rec (.code z r (.loop c) o.T N o.M o.s)|_=>O [o])|.rangeFunc f ps assign body=>WJ P bk rec z r f ps assign body T N M s|_=>G
def aha(P:aw)(bk:Pr)(rec:sQ->oC)(r:Option Nat)(ops:Array aY)(l:List aY)(T:Tr AV)(N:Nat)(M:List Nat)(s:St):oC:=match l with|[]=>zO T M s|o::rest=>match(match KM N o.dst with|I=>gg ops T o|Z=>G)with|G=>G|O Z=>rec (.ops r ops rest (qd T o.dst jN) N M s)|O I=>ue (rec (.one r o T s)) λout=>rec (.ops r ops rest (qd T o.dst out.v) N M out.s)
def ahb(P:aw)(bk:Pr)(rec:sQ->oC)(r:Option Nat)(o:aY)(T:Tr AV)(s:St):oC:=match fC P o.op with|2=>(match Cp P bk.lm s T o.op with|O v=>O ((uO bk.lm v s).map λp=>⟨.norm,p.1,.e,[],p.2⟩)|G=>match NL P T o.op with|O (d,k,u,n)=>(match gA bk.lm s (.bin .geq .i64 u (.c 0))&&gA bk.lm s (.bin .lss .i64 u (.c (.ofNat n)))with|I=>M7 (λj=>match MG bk.lm s.x.pc (.bin .eql .i64 u (.c (.ofNat j)))with|O Z=>O []|_=>rec (.one r o (T.put d (O (.int k (.ofNat j)))) (ot s (.bin .eql .i64 u (.c (.ofNat j))) I))) n 0|Z=>G)|G=>match aeQ P bk.lm s T o.op with|O (v,s)=>O [⟨.norm,v,.e,[],s⟩]|G=>match M9 P bk.lm s T o.op with|O l=>O (l.map λp=>⟨.norm,p.1,.e,[],p.2⟩)|G=>G)|1=>(match Cq P bk.lm s T o.op with|O v=>O ((uO bk.lm v s).map λp=>⟨.norm,p.1,.e,[],p.2⟩)|G=>G)|3=>(match xS P T o.op with|O (obj,f)=>O [⟨.norm,f s.n,.e,[],oh s obj⟩]|G=>match Z' P bk.lm s T o.op with|O (v,s)=>O [⟨.norm,v,.e,[],s⟩]|G=>G)|0=>(match Nz T o.op with|O (.enter g args)=>(match acf bk g with|O (k,t)=>(match PC P bk.lm k t args s with|O (v,s)=>O [⟨.norm,v,.e,[],s⟩]|G=>G)|G=>match rec (.call g args s)with|O outs=>O (V1 bk.lm outs)|G=>G)|O (.round l args)=>rec (.round l args s)|G=>G)|_=>match M3 o.op with|O (it,Z)=>(match(evA T it).bind (aaI P s)with|O l=>O (l.map λp=>⟨.norm,p.1,.e,[],p.2⟩)|G=>G)|O (_,I)=>G|G=>match aeS P bk s T o.op with|O (v,s)=>O [⟨.norm,v,.e,[],s⟩]|G=>G
def DP(P:aw)(bk:Pr)(rec:sQ->oC)(r:Option Nat)(ops:Array aY)(T:Tr AV)(N:Nat)(M:List Nat)(s:St)(lm:List (Nat×Nat)):oC:=match tg ops&&Region.noSelect ops with|Z=>G|I=>match rec (.any r ops (Array.replicate ops.size Z) T N M {s with log:=[]} ⟨s.h,lm⟩)with|G=>G|O outs=>match PY outs with|[]=>(match outs.all λo=>match o.e with|.norm=>I|_=>Z with|I=>O ((VZ outs).map λo=>{o with s:={o.s with log:=o.s.log++s.log,x:=⟨s.x.gl,o.s.x.pc⟩}})|Z=>G)|l=>rec (.draw r ops T N M s (l++lm))
def acg(P:aw)(bk:Pr)(rec:sQ->oC)(r:Option Nat)(ops:Array aY)(T:Tr AV)(N:Nat)(M:List Nat)(s:St)(lm:List (Nat×Nat)):oC:=match tg ops&&Region.noSelect ops&&V5 P ops with|Z=>DP P bk rec r ops T N M s lm|I=>match SM P bk.lm ops N ops.toList T {s with log:=[]}with|O l=>O (l.map λp=>⟨.norm,jN,p.1,M,{p.2 with log:=p.2.log++s.log}⟩)|G=>DP P bk rec r ops T N M s lm
def ahc(P:aw)(bk:Pr)(rec:sQ->oC)(r:Option Nat)(ops:Array aY)(listed:Array Bool)(T:Tr AV)(N:Nat)(M:List Nat)(s:St)(z:An):oC:=match Region.ready .any ops listed with|[]=>zO T M s|rs=>match KW P bk.lm ops listed T s N rs with|O (i,d,v)=>EN (λv s=>rec (.any r ops (listed.setIfInBounds i I) (qd T d v) N M s z)) (uO bk.lm v s)|G=>match KX P (kW ops.toList #[]) ops listed T s N z rs with|O (i,d,v)=>EN (λv s=>rec (.any r ops (listed.setIfInBounds i I) (qd T d v) N M s z)) (uO bk.lm v s)|G=>match KY P bk.lm (kW ops.toList #[]) ops listed T s N rs with|O (i,d,v)=>EN (λv s=>rec (.any r ops (listed.setIfInBounds i I) (qd T d v) N M s z)) (uO bk.lm v s)|G=>match okB P (kW ops.toList #[]) ops listed T N rs (Pw P (kW ops.toList #[]) ops listed T N rs)with|Z=>G|I=>DJ (λc=>match ops[c]? with|G=>G|O o=>match ae (fC P o.op) 3 with|I=>(match xS P T o.op with|O (obj,f)=>rec (.any r ops (listed.setIfInBounds c I) (qd T o.dst (f s.n)) N M (oh s obj) z)|G=>G)|Z=>ue (rec (.one r o T {s with log:=[]})) λout=>let s1:St:={out.s with log:=out.s.log++s.log};match aca z c s out.s.log&&(!(uW (fC P o.op))||out.s.log.isEmpty)with|I=>rec (.any r ops (listed.setIfInBounds c I) (qd T o.dst out.v) N M s1 z)|Z=>match(out.s.log.filter λi=>(z.h.get i).isSome&& !(SH z.lm c i))++(match out.s.log.all λi=>(z.h.get i).isSome with|I=>[]|Z=>(ND z s).filter λi=> !(SH z.lm c i))with|[]=>G|ids=>O [⟨.VQ,jN,.e,c::ids,s1⟩]) (Pw P (kW ops.toList #[]) ops listed T N rs)
def ach(P:aw)(bk:Pr)(rec:sQ->oC)(f:Nat)(args:List AV)(s:St):oC:=
 match Fk f args s bk.eH with
 |O v=>O [⟨.ret,v,.e,[],s⟩]
 |G=>
 match Pz f args s bk.tab with
 |O outs=>O outs
 |G=>
 match Bn bk.lm f args s bk.tab with
 |O outs=>O outs
 |G=>
 match z7 P bk.lm f args s bk.tab with
 |O outs=>O outs
 |G=>
  match P.funcs[f]? with
  |G=>G
  |O fn=>match fn.body with
   |G=>G
   |O c=>match aF args.length fn.ntmps with
    |Z=>G
    |I=>TD s.x.gl s.n (ue (rec (.code (O (f,[])) G c (Pq args 0 .e) fn.ntmps [] s)) λo=>match o.e with
     |.exit _=>G
     |.goto _=>G
     |.VQ=>G
     |_=>match(o.M.all λi=>match o.s.h.get i with|O .oR=>I|_=>Z)&&distinct o.M with
      |Z=>G
      |I=>match ji (XI P o.T (we o.M o.s)) fn.results.toList with
       |O vs=>O [⟨.ret,Z3 vs,.e,[],we o.M o.s⟩]
       |G=>G)
def aci(P:aw)(bk:Pr)(rec:sQ->oC)(z:Loc)(r:Option Nat)(c x:Code)(T:Tr AV)(N:Nat)(M:List Nat)(s:St):oC:=ue (rec (.code z r x T N M s)) λo=>match o.e with|.goto l=>(match findLabel c l with|O y=>rec (.SG G r c y o.T N o.M o.s)|G=>O [o])|_=>O [o]
def WK(P:aw)(bk:Pr)(rec:sQ->oC)(l:Nat)(args:List AV)(s:St):oC:=match s.h.get l with|O (.loop .ready G T N ps d (f,k))=>(match oG P f k with|O (.rangeFunc _ _ assign body)=>(match Fg N ps args T with|G=>G|O T1=>ue (rec (.code (O (f,Z::k)) (O l) assign T1 N [] s)) λo=>match o.e with|.norm=>(match o.s.h.get l with|O (.loop .ready G T2 N2 ps2 d2 rZ)=>(ue (rec (.code (O (f,I::k)) (O l) body o.T N o.M (lK o.s l (.loop .busy G T2 N2 ps2 d2 rZ)))) λo=>match o.s.h.get l with|O (.loop _ _ T3 N3 ps3 d3 ai9)=>(match o.e,o.M with|.norm,[]=>O [⟨.ret,.bool I,.e,[],lK o.s l (.loop .ready G T3 N3 ps3 d3 ai9)⟩]|.ret,[]=>O [⟨.ret,.bool Z,.e,[],lK o.s l (.loop .done (O .ret) T3 N3 ps3 d3 ai9)⟩]|.exit id,[]=>O [⟨.ret,.bool Z,.e,[],lK o.s l (.loop .done (O (.exit id)) T3 N3 ps3 d3 ai9)⟩]|_,_=>G)|_=>G)|_=>G)|_=>G)|_=>G)|_=>G
def fk(rec:sQ->oC):sQ->oC|.code z r c T N M s=>TL P bk rec z r c T N M s|.ops r ops l T N M s=>aha P bk rec r ops l T N M s|.one r o T s=>ahb P bk rec r o T s|.draw r ops T N M s lm=>acg P bk rec r ops T N M s lm|.any r ops listed T N M s z=>ahc P bk rec r ops listed T N M s z|.call f args s=>ach P bk rec f args s|.SG z r c x T N M s=>aci P bk rec z r c x T N M s|.round l args s=>WK P bk rec l args s
def eval(n:Nat):sQ->oC:=Nat.rec (λ_=>G) (λ_ ih=>fk P bk ih) n
end
end
section
def dQ(d:ah)(j:Nat):Option ah:=match d with|.l ds=>ds[j]? |d=>match j with|0=>O d|_=>G
def kX:List ah->Option (List UInt8)|[]=>O []|.n n::l=>(match decide (0<=n)&&decide (n<256),kX l with|I,O m=>O (UInt8.ofNat n.toNat::m)|_,_=>G)|_::_=>G
def jC(b:Bool):ah:=.n (if b then 1 else 0)
open Classical in
noncomputable def sf(a b:ah):Bool:=decide (a=b)
theorem eD{a b:ah}:sf a b=I↔a=b:=by simp[sf]
mutual
def strip:ah->ah|.n n=>.n n|.s l=>.s l|.l xs=>.l (j_ xs)|.v _=>.n 0|.r _ _ xs=>.l (j_ xs)
def j_:List ah->List ah|[]=>[]|d::l=>strip d::j_ l
end
theorem dR(l:List ah):j_ l=l.map strip:=by induction l with|nil=>rfl|cons d l a=>simp[j_,a]
mutual
theorem dP:∀d:ah,strip (strip d)=strip d|.n _=>by rfl|.s _=>by rfl|.v _=>by rfl|.l xs=>by simp[strip,tX xs]|.r _ _ xs=>by simp[strip,tX xs]
theorem tX:∀l:List ah,j_ (j_ l)=j_ l|[]=>by rfl|d::l=>by simp[j_,dP d,tX l]
end
def OM:List UInt8->List UInt8->Bool|_,[]=>Z|[],_::_=>I|a::x,b::y=>decide (a.toNat<b.toNat)||(decide (a.toNat=b.toNat)&&OM x y)
mutual
noncomputable def sS:ah->ah->Bool|.n a,.n b=>decide (a<b)|.s a,.s b=>OM a b|.l a,.l b=>sU a b|.n _,.s _=>I|.n _,.l _=>I|.s _,.l _=>I|_,_=>Z
noncomputable def sU:List ah->List ah->Bool|[],_::_=>I|[],[]=>Z|_::_,[]=>Z|a::l,b::m=>sS a b||(sf a b&&sU l m)
end
def xv(a i j:ah):Option ah:=match a with|.s a=>(match i with|.n i=>(match j with|.n j=>if 0<=i/\i<=j/\j<=a.length then O (.s ((a.drop i.toNat).take (j.toNat - i.toNat)))else G|_=>G)|_=>G)|_=>G
def PD(a i j:ah):Option ah:=match a with|.r _ _ l=>(match i with|.n i=>(match j with|.n j=>if 0<=i/\0<=j then(l[i.toNat]?).bind λd=>dQ d j.toNat else G|_=>G)|_=>G)|_=>G
def fO(d:ah)(j:Nat):Option ah:=match d with|.l ds=>ds[j]? |_=>G
def lX(a i j:ah):Option ah:=match a with|.l l=>(match i with|.n i=>(match j with|.n j=>if 0<=i/\0<=j then(l[i.toNat]?).bind λd=>fO d j.toNat else G|_=>G)|_=>G)|_=>G
def xw(a i:ah):Option ah:=match a with|.l l=>(match i with|.n i=>if 0<=i then l[i.toNat]? else G|_=>G)|_=>G
def jo:ah->Option ah|.s l=>O (.n l.length)|.l l=>O (.n l.length)|.r _ _ l=>O (.n l.length)|_=>G
def mq(a b:ah):Option ah:=match a with|.s a=>(match b with|.s b=>O (.s (a++b))|_=>G)|.l a=>(match b with|.l b=>O (.l (a++b))|_=>G)|_=>G
def eqF(a b:ah):Option ah:=match a with|.s a=>(match b with|.s b=>O (jC (a==b))|_=>G)|_=>G
def rD(g:Int->Int->ah)(a b:ah):Option ah:=match a with|.n a=>(match b with|.n b=>O (g a b)|_=>G)|_=>G
def ER(a i:ah):Option ah:=match a with|.s a=>(match i with|.n i=>if 0<=i then(a[i.toNat]?).map λb=>.n b.toNat else G|_=>G)|_=>G
def O4:ah->Option ah|.n a=>O (jC (a==0))|_=>G
def M_:ah->Option ah|.n e=>O (.r e.toNat (.slice G 0 0) [])|_=>G
def aeV:ah->Option ah|.r _ _ xs=>O (.l xs)|_=>G
def SN(a b:Int):ah:=jC (a !=0&&b !=0)
def Z_(a m:Int):ah:=.n (a.fdiv (2^m.toNat))
def amo(a m:Int):ah:=.n (a*2^m.toNat)
def amp(a b:Int):ah:=.n (b - a)
def eI(g:ah->Option ah):List ah->Option ah|[a]=>g a|_=>G
def cn(g:ah->ah->Option ah):List ah->Option ah|[a,b]=>g a b|_=>G
def bt(g:ah->ah->ah->Option ah):List ah->Option ah|[a,b,c]=>g a b c|_=>G
def jD:ah->Option (ah×ah)|.l [k,v]=>O (k,v)|_=>G
noncomputable def gy(k:ah):List ah->Option ah|[]=>G|d::xs=>match jD d with|O (k',v)=>(match sf (strip k) (strip k')with|I=>O v|Z=>gy k xs)|G=>gy k xs
noncomputable def e_(k:ah):List ah->List ah|[]=>[]|d::xs=>match jD d with|O (k',_)=>(match sf (strip k) (strip k')with|I=>e_ k xs|Z=>d::e_ k xs)|G=>d::e_ k xs
noncomputable def gf(k v:ah):List ah->List ah|[]=>[.l [strip k,v]]|d::xs=>match jD d with|O (k',_)=>(match sS (strip k) (strip k')with|I=>.l [strip k,v]::d::xs|Z=>d::gf k v xs)|G=>d::gf k v xs
def db:List ah->Bool|[]=>I|d::l=>match d with|.l [_,_]=>db l|_=>Z
noncomputable def Dm(t k:ah):Option ah:=match t with|.l xs=>(match db xs with|I=>O (jC (gy k xs).isSome)|Z=>G)|_=>G
noncomputable def sV(t k z:ah):Option ah:=match t with|.l xs=>(match db xs with|I=>O ((gy k xs).getD z)|Z=>G)|_=>G
noncomputable def uI(t k v:ah):Option ah:=match t with|.l xs=>(match db xs with|I=>O (.l (gf k v (e_ k xs)))|Z=>G)|_=>G
noncomputable def Kr(t k:ah):Option ah:=match t with|.l xs=>(match db xs with|I=>O (.l (e_ k xs))|Z=>G)|_=>G
def zF(d j:ah):Option ah:=match j with|.n j=>if 0<=j then fO d j.toNat else G|_=>G
def uq(d:ah)(off:Nat)(cs:List ah):Option ah:=match d with|.l ds=>if off+cs.length<=ds.length then O (.l (ds.take off++cs++ds.drop (off+cs.length)))else G|_=>G
def om:List ah->Option ah
 |.l xs::.n i::.n off::cs=>if 0<=i/\0<=off then match xs[i.toNat]? with
  |O d=>match uq d off.toNat cs with
   |O d'=>O (.l (xs.set i.toNat d'))
   |G=>G
  |G=>G
  else G
 |_=>G
def Bg(t i x:ah):Option ah:=match t with|.l xs=>(match i with|.n i=>if 0<=i/\i<xs.length then O (.l (xs.set i.toNat x))else G|_=>G)|_=>G
def qU(t n:ah):Option ah:=match t with|.l xs=>(match n with|.n n=>if 0<=n/\n<=xs.length then O (.l (xs.take n.toNat))else G|_=>G)|_=>G
def r_(t i j:ah):Option ah:=match t with|.l xs=>(match i with|.n i=>(match j with|.n j=>if 0<=i/\i<=j/\j<=xs.length then O (.l ((xs.drop i.toNat).take (j.toNat - i.toNat)))else G|_=>G)|_=>G)|_=>G
def PE:ah->Option ah|.r _ (.slice _ n c) _=>O (jC (n==c))|_=>G
def qV(t i z:ah):Option ah:=match t with|.l xs=>(match i with|.n i=>if 0<=i/\i<=xs.length then O (.l (xs.take i.toNat++fF (xs.length - i.toNat) z))else G|_=>G)|_=>G
def Ep(n z:ah):Option ah:=match n with|.n n=>if 0<=n then O (.l (fF n.toNat z))else G|_=>G
def Ks(t i u:ah):Option ah:=match t with|.l xs=>(match i with|.n i=>(match u with|.l ys=>if 0<=i/\i<=xs.length then O (.l (xs.take i.toNat++ys.take (xs.length - i.toNat)++xs.drop (i.toNat+ys.length)))else G|_=>G)|_=>G)|_=>G
def PF:List ah->Option ah|.n i::l=>if 0<=i then l[i.toNat]? else G|_=>G
def eA:List ah->List ah|[]=>[]|d::l=>match d with|.l [.l [a,b],.n z]=>(match decide (0<z)with|I=>.l [a,b,.n z]::eA l|Z=>eA l)|_=>eA l
noncomputable def rE(x:ah):List ah->List ah|[]=>[x]|y::l=>match sS x y with|I=>x::y::l|Z=>y::rE x l
noncomputable def iS:List ah->List ah|[]=>[]|x::l=>rE x (iS l)
noncomputable def xX:ah->Option ah|.l xs=>O (.l (iS (eA xs)))|_=>G
open Classical in
noncomputable def Cr(a b:ah):Option ah:=match a with|.l xs=>(match b with|.l ys=>O (jC (decide (xs.Perm ys)))|_=>O (jC Z))|_=>O (jC Z)
open Classical in
noncomputable def Ct(a b:ah):Option ah:=match a with|.l xs=>(match b with|.l ys=>O (jC (decide (∃zs,(xs++zs).Perm ys)))|_=>O (jC Z))|_=>O (jC Z)
def qQ(d:ah):ah:=match jD d with|O (k,_)=>k|G=>d
def qe(d:ah):ah:=match d with|.l (a::b::_)=>.l [a,b]|d=>d
open Classical in
noncomputable def Cu(a b:ah):Option ah:=match a with|.l xs=>(match b with|.l ys=>O (jC (decide (ys=eA xs)))|_=>O (jC Z))|_=>O (jC Z)
open Classical in
noncomputable def uY(a b:ah):Option ah:=match a with|.l xs=>(match b with|.l ys=>O (jC (decide (ys.Perm (eA xs))))|_=>O (jC Z))|_=>O (jC Z)
open Classical in
noncomputable def uZ(a i b:ah):Option ah:=match a with|.l xs=>(match i with|.n i=>(match b with|.l ys=>O (jC (decide (0<=i/\i<=xs.length/\ys=xs.take i.toNat/\∀x∈xs,∃a b c,x=.l [a,b,c])))|_=>O (jC Z))|_=>O (jC Z))|_=>O (jC Z)
noncomputable def V7:ah->Option ah|.l xs=>O (.l (iS (j_ xs)))|_=>G
open Classical in
noncomputable def oH(g:ah->ah):ah->Option ah|.l xs=>O (jC (decide (xs.map g).Nodup))|_=>O (jC Z)
noncomputable def Cv(a c:ah):Option ah:=match sf (strip a) c with|I=>O a|Z=>G
noncomputable def dD(o:Nat)(ds:List ah):Option ah:=match o with|0=>eI jo ds|1=>bt PD ds|2=>cn mq ds|3=>(kX ds).map .s|4=>cn eqF ds|5=>cn (rD SN) ds|6=>cn (rD Z_) ds|7=>cn (rD amo) ds|8=>bt xv ds|9=>cn ER ds|10=>eI O4 ds|11=>O (.l ds)|12=>cn (rD amp) ds|13=>O (.l ds)|14=>eI M_ ds|15=>eI aeV ds|16=>cn Dm ds|17=>bt sV ds|18=>bt uI ds|19=>cn Kr ds|21=>cn zF ds|20=>cn (λa b=>O (jC (sf a b))) ds|22=>cn Cv ds|23=>eI (λa=>O (strip a)) ds|24=>om ds|25=>cn qU ds|26=>bt r_ ds|28=>bt qV ds|29=>cn Ep ds|30=>bt Ks ds|31=>bt lX ds|32=>cn (rD λa b=>.n (if b<a then b else a)) ds|33=>cn (rD λa b=>.n (if b>a then b else a)) ds|34=>PF ds|35=>cn xw ds|36=>bt Bg ds|38=>eI PE ds|40=>eI xX ds|41=>cn Cr ds|43=>cn Ct ds|44=>cn Cu ds|45=>eI V7 ds|46=>cn uY ds|47=>eI (oH qe) ds|48=>bt uZ ds|49=>eI (oH qQ) ds|_=>G
def gH(op:BinOp)(k:bu)(x y:Int):Option ah:=match dX op k x y with|O (.int _ n)=>O (.n n)|O (.bool b)=>O (.n (if b then 1 else 0))|_=>G
end
inductive Way where
 |bad
 |out (g:Nat) (ts:List Tm)
 |again (ts:List Tm)
 |ite (t:Tm) (a b:Way)
 |aW (t:Tm) (a:Way)
 |call (k:Nat) (ts:List Tm) (g:Nat) (xs:List (Nat×Bool)) (a b:Way)
structure bq where
 args:List (Nat×Bool)
 jL:Way
def cu:List (Nat×Bool)->List Nat|[]=>[]|p::l=>p.1::cu l
def zQ(p:Nat×Bool):Tm:=match p.2 with|I=>.f 23 [.x p.1]|Z=>.x p.1
def uA(k j:Nat):Nat:=1000+100*k+j
mutual
def zG(σ:Tr Tm):Tm->Option Tm|.c n=>O (.c n)|.x i=>σ.get i|.bin o k a b=>(match zG σ a,zG σ b with|O a,O b=>O (.bin o k a b)|_,_=>G)|.conv k a=>(match zG σ a with|O a=>O (.conv k a)|G=>G)|.f o l=>match ug σ l with|O l=>(match ae o 23,l with|I,[t]=>(match dF (cK t) t with|I=>O t|Z=>O (.f o l))|_,_=>O (.f o l))|G=>G
def ug(σ:Tr Tm):List Tm->Option (List Tm)|[]=>O []|t::l=>match zG σ t,ug σ l with|O t,O l=>O (t::l)|_,_=>G
end
def xy:List Nat->List Tm->Tr Tm->Option (Tr Tm)|[],[],σ=>O σ|a::l,t::m,σ=>xy l m (σ.put a (O t))|_,_,_=>G
def wi:List Tm->List Tm->Option (List Tm)|[],m=>O m|a::l,b::m=>(match dF a b with|I=>wi l m|Z=>G)|_::_,[]=>G
def Bp(k:Nat)(us:List Tm):List (Tm×Bool)->Option (Nat×List Tm×List (Tm×Bool))|[]=>G|(.f o l,I)::r=>(match ae o (uA k 95),wi us l with|I,O (.c (.ofNat g)::ys)=>O (g,ys,r)|_,_=>Bp k us r)|_::r=>Bp k us r
inductive Got where
 |out (g:Nat) (ts:List Tm)
 |again (ts:List Tm)
def walk(lm:List fV)(pc:List (Tm×Bool)):Way->Tr Tm->List (Tm×Bool)->Option Got|.bad,_,_=>G|.out g ts,σ,_=>(match ug σ ts with|O us=>O (.out g us)|G=>G)|.again ts,σ,_=>(match ug σ ts with|O us=>O (.again us)|G=>G)|.ite t a b,σ,fs=>(match zG σ t with|O u=>(match MG lm pc u with|O I=>walk lm pc a σ fs|O Z=>walk lm pc b σ fs|G=>G)|G=>G)|.aW _ a,σ,fs=>walk lm pc a σ fs|.call k ts g xs a b,σ,fs=>match ug σ ts with|O us=>(match Bp k us fs with|O (g',ys,r)=>(match ae g g' with|I=>(match xy (cu xs) ys σ with|O σ'=>walk lm pc a σ' r|G=>G)|Z=>walk lm pc b σ fs)|G=>G)|G=>G
def eqU(pc:List (Tm×Bool))(t u:Tm):Bool:=dF t u||(match nA (.f 20 [t,u]) pc with|O b=>b|G=>Z)
def SO(pc:List (Tm×Bool)):List Tm->List Tm->Bool|[],[]=>I|t::l,u::m=>(match eqU pc t u with|I=>SO pc l m|Z=>Z)|_,_=>Z
def Fp:Nat->List Tm->Option (List Tm×List Tm)|0,l=>O ([],l)|n+1,t::l=>(match Fp n l with|O (a,b)=>O (t::a,b)|G=>G)|_+1,[]=>G
def wj(k:Nat)(us:List Tm)(g:Nat)(ys:List Tm)(pc:List (Tm×Bool)):List (Tm×Bool)->Bool|[]=>Z|(.f o l,I)::r=>(ae o (uA k 95)&&(match wi us l with|O (.c (.ofNat g')::zs)=>ae g g'&&SO pc zs ys|_=>Z))||wj k us g ys pc r|_::r=>wj k us g ys pc r
def TM(lm:List fV)(k:Nat)(F:bq)(pc:List (Tm×Bool))(us:List Tm)(g:Nat)(ys:List Tm):Bool:=(match nA (.f (uA k 90) us) pc with|O b=>b|G=>Z)&&match xy (cu F.args) us .e with|O σ=>(match walk lm pc F.jL σ pc.reverse with|O (.out g' vs)=>ae g g'&&SO pc vs ys|O (.again vs)=>wj k vs g ys pc pc|G=>Z)|G=>Z
def zH(k:Nat)(ON:List Tm):Way->Option (Nat×List Tm×List Nat)->Tr Tm->List (Tm×Bool)->List fV|.again ts,G,σ,hs=>(match ug σ ts with|O us=>[⟨hs,.f (uA k 90) us,I⟩,⟨(.bin .leq .i64 (.f (uA k 91) ON) (.f 50 []),I)::hs,.bin .lss .i64 (.f (uA k 91) us) (.f 50 []),I⟩]|G=>[])|.ite t a b,G,σ,hs=>(match zG σ t with|O u=>zH k ON a G σ ((u,I)::hs)++zH k ON b G σ ((u,Z)::hs)|G=>[])|.aW t a,G,σ,hs=>(match zG σ t with|O u=>⟨hs,u,I⟩::zH k ON a G σ hs|G=>[])|.call j ts g xs a b,G,σ,hs=>(match ug σ ts with|O us=>⟨hs,.f (uA j 90) us,I⟩::((match xy (cu xs) (xs.map zQ) σ with|O σ'=>zH k ON a G σ' ((.f (uA j 95) (us++ .c (.ofNat g)::xs.map zQ),I)::hs)|G=>[])++zH k ON b (O (j,us,[g])) σ hs)|G=>[])|.call j ts g xs a b,O (j',us,Gz),σ,hs=>(match ug σ ts with|O us'=>(match ae j j'&&KS us' us&& !(Gz.any (ae g))with|I=>(match xy (cu xs) (xs.map zQ) σ with|O σ'=>zH k ON a G σ' ((.f (uA j' 95) (us++ .c (.ofNat g)::xs.map zQ),I)::hs)|G=>[])++zH k ON b (O (j',us,g::Gz)) σ hs|Z=>[])|G=>[])|_,_,_,_=>[]
def O5(k:Nat)(F:bq):List fV:=match xy (cu F.args) (F.args.map zQ) .e with|O σ=>zH k (F.args.map zQ) F.jL G σ [(.f (uA k 90) (F.args.map zQ),I)]|G=>[]
section
variable(U:Nat->List ah->Option ah)(ξ:Nat->Option ah)
mutual
def aD:Tm->Option ah|.c n=>O (.n n)|.x i=>ξ i|.bin o k a b=>(match aD a,aD b with|O (.n x),O (.n y)=>gH o k x y|_,_=>G)|.conv k a=>(match aD a with|O (.n x)=>O (.n (k.wrap x))|_=>G)|.f o l=>match aA l with|O ds=>U o ds|G=>G
def aA:List Tm->Option (List ah)|[]=>O []|t::l=>match aD t,aA l with|O d,O ds=>O (d::ds)|_,_=>G
end
end
def dN:List Nat->List ah->(Nat->Option ah)->Option (Nat->Option ah)|[],[],ξ=>O ξ|a::l,d::ds,ξ=>dN l ds λi=>if i=a then O d else ξ i|_,_,_=>G
abbrev dI:=Nat->List ah->Option (Nat×Nat×List ah)
open Classical in
noncomputable def aQ(R:dI)(o:Nat)(ds:List ah):Option ah:=match aF 1000 o with|I=>O (if jOf o=90 then jC (R (ZI o) ds).isSome else if jOf o=91 then(match R (ZI o) ds with|O (m,_,_)=>.n m|G=>.n 0)else if jOf o=95 then jC (decide (∃as g m rs,ds=as++ .n (cq g)::rs/\R (ZI o) as=O (m,g,rs)))else .n 0)|Z=>match aF 100 o with|I=>G|Z=>dD o ds
noncomputable def jR(R:dI):Way->(Nat->Option ah)->Option (Option Nat×List ah)|.bad,_=>G|.out g ts,ξ=>(match aA (aQ R) ξ ts with|O ds=>O (O g,ds)|G=>G)|.again ts,ξ=>(match aA (aQ R) ξ ts with|O ds=>O (G,ds)|G=>G)|.ite t a b,ξ=>(match aD (aQ R) ξ t with|O (.n n)=>(match decide (n≠0)with|I=>jR R a ξ|Z=>jR R b ξ)|_=>G)|.aW t a,ξ=>(match aD (aQ R) ξ t with|O (.n n)=>(match decide (n≠0)with|I=>jR R a ξ|Z=>G)|_=>G)|.call k ts g xs a b,ξ=>match aA (aQ R) ξ ts with|O ds=>(match R k ds with|O (_,g',rs)=>(match decide (g'=g)with|I=>(match dN (cu xs) rs ξ with|O mr=>jR R a mr|G=>G)|Z=>jR R b ξ)|G=>G)|G=>G
noncomputable def R_(R:dI)(F:bq):Nat->List ah->Option (Nat×Nat×List ah)|0,_=>G|n+1,ds=>match dN (cu F.args) ds λ_=>G with|G=>G|O ξ=>match jR R F.jL ξ with|O (O g,rs)=>O (0,g,rs)|O (G,qP)=>(match R_ R F n qP with|O (k,g,rs)=>O (k+1,g,rs)|G=>G)|G=>G
open Classical in
noncomputable def ur(R:dI)(F:bq)(ds:List ah):Option (Nat×Nat×List ah):=if h:∃n r,R_ R F n ds=O r then O (Classical.choose (Classical.choose_spec h))else G
noncomputable def aI:List bq->dI|[],_,_=>G|F::r,k,ds=>if k=r.length then ur (aI r) F ds else aI r k ds
def xz:List bq->Nat->Option bq|[],_=>G|F::r,k=>match ae k r.length with|I=>O F|Z=>xz r k
def TN(D:Tr bq)(lm:List fV)(pc:List (Tm×Bool))(u:Tm):Bool:=match u with|.f o l=>(match ae o (uA (ZI o) 95),D.get (ZI o)with|I,O F=>(match Fp F.args.length l with|O (us,.c (.ofNat g)::ys)=>TM lm (ZI o) F pc us g ys|_=>Z)|_,_=>Z)|_=>Z
theorem PZ{R:dI}{F:bq}:∀{n m:Nat}{ds:List ah}{r:Nat×Nat×List ah},R_ R F n ds=O r->n<=m->R_ R F m ds=O r|0,_,_,_,h,_=>by cases h|n+1,0,_,_,_,c=>by omega|n+1,m+1,ds,r,h,c=>by unfold R_ at h⊢;split at h;cases h;rename_i ξ a;split at h;simp_all;rename_i qP d;split at h;rename_i k g rs b;rw[PZ b (by omega:n<=m)];exact h;cases h;cases h
theorem z_{R:dI}{F:bq}{n:Nat}{ds:List ah}{r:Nat×Nat×List ah}(h:R_ R F n ds=O r):ur R F ds=O r:=by unfold ur;have hex:∃n r,R_ R F n ds=O r:=⟨n,r,h⟩;rw[dif_pos hex];grind[PZ]
theorem sE{R:dI}{F:bq}{ds:List ah}{r:Nat×Nat×List ah}(h:ur R F ds=O r):∃n,R_ R F n ds=O r:=by unfold ur at h;split at h;grind;cases h
theorem sF{R:dI}{F:bq}{ds:List ah}{r:Nat×Nat×List ah}(h:ur R F ds=O r):∃ξ,dN (cu F.args) ds (λ_=>G)=O ξ/\((∃g rs,jR R F.jL ξ=O (O g,rs)/\r=(0,g,rs))∨∃qP k g rs,jR R F.jL ξ=O (G,qP)/\ur R F qP=O (k,g,rs)/\r=(k+1,g,rs)):=by have⟨n,h⟩:=sE h;cases n with|zero=>cases h|succ n=>grind[R_,z_]
theorem P1{R:dI}{F:bq}{ds:List ah}{ξ:Nat->Option ah}{g:Nat}{rs:List ah}(a:dN (cu F.args) ds (λ_=>G)=O ξ)(b:jR R F.jL ξ=O (O g,rs)):ur R F ds=O (0,g,rs):=z_ (n:=1) (by unfold R_;rw[a];simp_all)
theorem Gt{R:dI}{F:bq}{ds qP:List ah}{ξ:Nat->Option ah}{k g:Nat}{rs:List ah}(c:dN (cu F.args) ds (λ_=>G)=O ξ)(b:jR R F.jL ξ=O (G,qP))(a:ur R F qP=O (k,g,rs)):ur R F ds=O (k+1,g,rs):=by have⟨n,a⟩:=sE a;exact z_ (n:=n+1) (by simp_all[R_])
mutual
def Kt(k:Nat):Tm->Bool|.c _=>I|.x _=>I|.bin _ _ a b=>Kt k a&&Kt k b|.conv _ a=>Kt k a|.f o l=>(aF (o+1) 1000||aF (ZI o+1) k)&&ET k l
def ET(k:Nat):List Tm->Bool|[]=>I|t::l=>Kt k t&&ET k l
end
def sW(k:Nat):Way->Bool|.bad=>I|.out _ ts=>ET k ts|.again ts=>ET k ts|.ite t a b=>Kt k t&&sW k a&&sW k b|.aW t a=>Kt k t&&sW k a|.call j ts _ _ a b=>aF (j+1) k&&ET k ts&&sW k a&&sW k b
def SP:List bq->Bool|[]=>I|F::r=>sW r.length F.jL&&SP r
section
variable{R S:dI}{k:Nat}(hRS:∀j,j<k->R j=S j)
include hRS
theorem afT{o:Nat}(h:(aF (o+1) 1000||aF (ZI o+1) k)=I)(ds:List ah):aQ R o ds=aQ S o ds:=by unfold aQ;cases a:aF 1000 o with|false=>rfl|true=>rcases(bW ..).mp h with h|h;have:=bz h;have:=bz a;omega;rw[hRS _ (bz h)]
mutual
theorem wk{ξ:Nat->Option ah}:∀{t:Tm},Kt k t=I->aD (aQ R) ξ t=aD (aQ S) ξ t|.c _,_=>rfl|.x _,_=>rfl|.bin o _ a b,h=>by simp[Kt]at h;simp[aD,wk h.1,wk h.2]|.conv _ a,h=>by simp[Kt]at h;simp[aD,wk h]|.f o l,h=>by simp only[Kt,ay]at h;simp[aD,vj h.2,afT hRS h.1]
theorem vj{ξ:Nat->Option ah}:∀{l:List Tm},ET k l=I->aA (aQ R) ξ l=aA (aQ S) ξ l|[],_=>rfl|t::l,h=>by simp[ET]at h;simp[aA,wk h.1,vj h.2]
end
theorem wo:∀{w:Way}{ξ:Nat->Option ah},sW k w=I->jR R w ξ=jR S w ξ|.bad,_,_=>rfl|.out g ts,ξ,h=>by grind[sW,jR,vj]|.again ts,ξ,h=>by grind[sW,jR,vj]|.ite t a b,ξ,h=>by simp[sW]at h;simp[jR,wk hRS h.1.1,wo h.1.2,wo h.2]|.aW t a,ξ,h=>by simp[sW]at h;simp[jR,wk hRS h.1,wo h.2]|.call j ts g xs a b,ξ,h=>by simp only[sW,ay]at h;simp[jR,vj hRS h.1.1.2,hRS j (bz h.1.1.1),λξ=>wo (ξ:=ξ) h.1.2,λξ=>wo (ξ:=ξ) h.2]
theorem NM{F:bq}(h:sW k F.jL=I):∀(n:Nat)(ds:List ah),R_ R F n ds=R_ S F n ds|0,_=>rfl|n+1,ds=>by simp[R_,λξ=>wo hRS (ξ:=ξ) h,NM h n]
theorem P2{F:bq}(h:sW k F.jL=I)(ds:List ah):ur R F ds=ur S F ds:=by cases b:ur S F ds with|some r=>have⟨n,a⟩:=sE b;exact z_ ((NM hRS h n ds).trans a)|none=>cases c:ur R F ds with|none=>rfl|some r=>have⟨n,a⟩:=sE c;rw[z_ (n:=n) ((NM hRS h n ds).symm.trans a)]at b;cases b
end
theorem BC{F:bq}{r:List bq}{j:Nat}(h:j<r.length):aI (F::r) j=aI r j:=by funext ds;simp only[aI];rw[if_neg (by omega)]
theorem P3:∀{D:List bq}{k:Nat}{F:bq},xz D k=O F->k<D.length|[],_,_,h=>by cases h|Gz::r,k,F,h=>by unfold xz at h;split at h;simp_all;have:=P3 h;grind
theorem tk:∀{D:List bq}{k:Nat}{F:bq},SP D=I->xz D k=O F->sW k F.jL=I/\∀ds,aI D k ds=ur (aI D) F ds|[],_,_,_,h=>by cases h|Gz::r,k,F,b,h=>by simp[SP]at b;unfold xz at h;split at h;rename_i d;have c:=an d;simp at h;subst h;refine⟨by rw[c];exact b.1,λds=> ?_⟩;(have e:aI (Gz::r) k ds=ur (aI r) Gz ds:=by simp only[aI];rw[if_pos c]);rw[e];grind[P2,BC];have a:=P3 h;have⟨g,f⟩:=tk b.2 h;refine⟨g,λds=> ?_⟩;rw[BC a,f];grind[P2,BC]
def sy(a:Nat):Tm:=.f 23 [.x a]
def xr:Nat->Nat->List Tm->List Tm|_,0,r=>r|a,n+1,r=>.x a::xr (a+1) n r
def cr(o:Nat)(pre:List Tm):List (Option bu)->Nat->List Tm->List Tm|[],_,r=>r|k::l,j,r=>(match k with|O k=>.conv k (.f o (pre++[.c (.ofNat j)]))|G=>.f o (pre++[.c (.ofNat j)]))::cr o pre l (j+1) r
def Ka:bu->Int
 |.i8=>127|.i16=>32767|.i32=>2147483647|.i64=>9223372036854775807
 |.u8=>255|.u16=>65535|.u32=>4294967295|.u64=>18446744073709551615
def MA:bu->Int
 |.i8=> -128|.i16=> -32768|.i32=> -2147483648|.i64=> -9223372036854775808
 |_=>0
def sfT(k:Nat)(l:List Tm):Tm×Bool:=(.f (uA k 90) l,I)
def ftT(k:Nat)(l:List Tm):Tm×Bool:=(.f (uA k 95) l,I)
def fa:List (Nat×Nat×Bool)->List (Nat×Bool)|[]=>[]|(a,n,b)::l=>(bX a n).map (λi=>(i,b))++fa l
def dpr(e a c:Nat):AV:=.deep e (.f 22 [.x a,sy c])
def rwo(e a c n:Nat):bF:=.row (.f 22 [.x a,sy c]) e (O n)
def rwf(e c n:Nat):bF:=.row (sy c) e (O n)
def sls(i c n:Nat):AV:=.bK i (.f 0 [sy c]) (.u n 0)
def hp(l:List (Nat×bF)):Tr bF:=l.foldl (λh p=>h.put p.1 (O p.2)) .e
def tp(l:List (Nat×AV)):Tr AV:=l.foldl (λh p=>h.put p.1 (O p.2)) .e
section
inductive Ty where
 |any
 |bot
 |int
 |bool
 |MB
 |num (k:bu)
 |str
 |row (t:Ty)
 |il (l:List Ty)
 |map (k v:Ty)
 |sp (n:Nat) (t:Ty)
def leK(a b:bu):Bool:=decide (MA b<=MA a)&&decide (Ka a<=Ka b)
def sa:Ty->Ty|.sp _ t=>sa t|t=>t
mutual
def iT:Ty->Ty->Bool|.bot,_=>I|_,.any=>I|.int,.int=>I|.num _,.int=>I|.bool,.bool=>I|.bool,.int=>I|.bool,.MB=>I|.bool,.num _=>I|.MB,.int=>I|.MB,.MB=>I|.MB,.num .i64=>I|.MB,.num .u64=>I|.num j,.MB=>decide (0<=MA j)&&leK j .i64|.num j,.num k=>leK j k|.str,.str=>I|.row t,.row u=>iT t u|.row .bot,.map _ _=>I|.row .bot,.sp _ u=>(match sa u with|.row _=>I|.map _ _=>I|_=>Z)|.il l,.il m=>xY l m|.map a b,.map c d=>iT a c&&iT b d|.sp n t,.sp m u=>(ae n m&&iT t u)|.sp _ t,u=>iT t u|_,_=>Z
def xY:List Ty->List Ty->Bool|[],[]=>I|t::l,u::m=>iT t u&&xY l m|_,_=>Z
end
def uh(t u:Ty):Option Ty:=match iT t u with|I=>O u|Z=>match iT u t with|I=>O t|Z=>G
structure f_ where
 c:Int
 l:List (Int×Nat×Tm)
def SQ(c:Int)(k:Nat)(t:Tm):List (Int×Nat×Tm)->List (Int×Nat×Tm)|[]=>[(c,k,t)]|(d,j,u)::l=>match ae j k&&dF u t with|I=>(match gj (c+d) 0 with|I=>l|Z=>(c+d,j,u)::l)|Z=>(d,j,u)::SQ c k t l
def SR(m:Int):List (Int×Nat×Tm)->List (Int×Nat×Tm)->List (Int×Nat×Tm)|[],r=>r|(c,k,t)::l,r=>SR m l (SQ (m*c) k t r)
def f_.plus(a:f_)(m:Int)(b:f_):f_:=⟨a.c+m*b.c,SR m b.l a.l⟩
def gI(n:Int):f_:=⟨n,[]⟩
def eY(k:Nat)(t:Tm):f_:=⟨0,[(1,k,t)]⟩
def uk:Tm->Tm|.f 23 [t]=>uk t|t=>t
def PG(N:List Tm)(t:Tm):Bool:=N.any (dF t)
mutual
def bG(N:List Tm):Tm->f_|.c n=>gI n|.x i=>eY 0 (.x i)|.bin o k a b=>(match PG N (.bin o k a b)with|I=>(match o with|.add=>(bG N a).plus 1 (bG N b)|.sub=>(bG N a).plus (-1) (bG N b)|_=>eY 0 (.bin o k a b))|Z=>eY 0 (.bin o k a b))|.conv k a=>(match PG N (.conv k a)with|I=>bG N a|Z=>eY 0 (.conv k a))|.f 0 [t]=>jZ N t|.f 23 [t]=>bG N t|.f o l=>eY 0 (.f o l)
def jZ(N:List Tm):Tm->f_|.f 11 l=>gI (.ofNat l.length)|.f 13 l=>gI (.ofNat l.length)|.f 2 [a,b]=>(jZ N a).plus 1 (jZ N b)|.f 8 [_,i,j]=>(bG N j).plus (-1) (bG N i)|.f 23 [t]=>jZ N t|.f 24 (t::_::_)=>jZ N t|.f 25 [_,n]=>bG N n|.f 26 [_,i,j]=>(bG N j).plus (-1) (bG N i)|.f 28 [t,_,_]=>jZ N t|.f 29 [n,_]=>bG N n|.f 30 [t,_,_]=>jZ N t|.f 36 [t,_,_]=>jZ N t|t=>eY 1 t
end
def V8(N:List Tm)(k:Nat)(t:Tm):f_:=match k with|0=>bG N t|1=>jZ N t|_=>eY k (uk t)
def akQ(n:Int):Ty:=match decide (0<=n)with|I=>(match decide (n<=255)with|I=>(match decide (n<=1)with|I=>.bool|Z=>.num .u8)|Z=>match decide (n<=4294967295)with|I=>.num .u32|Z=>match decide (n<=9223372036854775807)with|I=>.MB|Z=>match decide (n<=18446744073709551615)with|I=>.num .u64|Z=>.int)|Z=>match decide (-9223372036854775808<=n)with|I=>.num .i64|Z=>.int
def isNum:Ty->Bool|.int=>I|.num _=>I|.MB=>I|.bool=>I|_=>Z
def Xu(t:Ty):Option Ty:=match sa t with|.row u=>O u|_=>G
def O6(t:Ty):Option (Ty×Ty):=match sa t with|.map k v=>O (k,v)|.row .bot=>O (.bot,.bot)|_=>G
def aeW(t:Ty):Option (List Ty):=match sa t with|.il l=>O l|_=>G
def Na:List Ty->Option Ty|[]=>O .bot|t::l=>match Na l with|O u=>uh t u|G=>G
def K3(l:List Ty):Nat->List Ty->Bool|_,[]=>I|j,t::r=>(match l[j]? with|O u=>iT t u|G=>Z)&&K3 l (j+1) r
def ty0(ts:List Ty):Option Ty:=match ts with|[t]=>(match sa t with|.row _=>O .int|.str=>O .int|.map _ _=>O .int|.il _=>O .int|_=>G)|_=>G
def ty2(ts:List Ty):Option Ty:=match ts with|[t,u]=>(match sa t,sa u with|.str,.str=>O .str|.row a,.row b=>(match uh a b with|O c=>O (.row c)|G=>G)|_,_=>G)|_=>G
def ty4(ts:List Ty):Option Ty:=match ts with|[t,u]=>(match sa t,sa u with|.str,.str=>O .bool|_,_=>G)|_=>G
def ty5(ts:List Ty):Option Ty:=match ts with|[t,u]=>(match isNum t&&isNum u with|I=>O .bool|Z=>G)|_=>G
def ty6(ts:List Ty):Option Ty:=match ts with|[t,u]=>(match isNum t&&isNum u with|I=>O t|Z=>G)|_=>G
def ty7(ts:List Ty):Option Ty:=match ts with|[t,u]=>(match isNum t&&isNum u with|I=>O .int|Z=>G)|_=>G
def akR(ts:List Ty):Option Ty:=match ts with|[t,u]=>(match isNum t&&isNum u with|I=>O .int|Z=>G)|_=>G
def ty8(ts:List Ty):Option Ty:=match ts with|[t,u,v]=>(match sa t,isNum u&&isNum v with|.str,I=>O .str|_,_=>G)|_=>G
def ty9(ts:List Ty):Option Ty:=match ts with|[t,u]=>(match sa t,isNum u with|.str,I=>O (.num .u8)|_,_=>G)|_=>G
def aeX(ts:List Ty):Option Ty:=match ts with|[t]=>(match isNum t with|I=>O .bool|Z=>G)|_=>G
def ai_(ts:List Ty):Option Ty:=match Na ts with|O t=>O (.row t)|G=>G
def amq(ts:List Ty):Option Ty:=O (.il ts)
def aeY(ts:List Ty):Option Ty:=match ts with|[t,_]=>(match O6 t with|O _=>O .bool|G=>G)|_=>G
def aeZ(ts:List Ty):Option Ty:=match ts with|[t,_,u]=>(match O6 t with|O (_,v)=>uh v u|G=>G)|_=>G
def ae0(ts:List Ty):Option Ty:=match ts with|[t,u,v]=>(match O6 t with|O (a,b)=>(match uh a u,uh b v with|O a,O b=>O (.map a b)|_,_=>G)|G=>G)|_=>G
def ae1(ts:List Ty):Option Ty:=match ts with|[t,_]=>(match O6 t with|O (a,b)=>O (.map a b)|G=>G)|_=>G
def aja(ts:List Ty):Option Ty:=match ts with|[_,_]=>O .bool|_=>G
def ae2(l:List Tm)(ts:List Ty):Option Ty:=match ts with|[t,_]=>(match aeW t,l with|O ts,[_,.c (.ofNat j)]=>ts[j]? |_,_=>G)|_=>G
def ae3(ts:List Ty):Option Ty:=match ts with|[t]=>O t|_=>G
def ae4(l:List Tm)(ts:List Ty):Option Ty:=match ts with|t::i::_::c::cs=>(match Xu t,isNum i,l with|O (.il us),I,_::_::.c (.ofNat j)::_=>(match K3 us j (c::cs)with|I=>O (.row (.il us))|Z=>G)|_,_,_=>G)|_=>G
def ae5(ts:List Ty):Option Ty:=match ts with|[t,n]=>(match Xu t,isNum n with|O u,I=>O (.row u)|_,_=>G)|_=>G
def ae6(ts:List Ty):Option Ty:=match ts with|[t,i,j]=>(match Xu t,isNum i&&isNum j with|O u,I=>O (.row u)|_,_=>G)|_=>G
def ae7(ts:List Ty):Option Ty:=match ts with|[t,i,z]=>(match Xu t,isNum i with|O u,I=>(match uh u z with|O u=>O (.row u)|G=>G)|_,_=>G)|_=>G
def ae8(ts:List Ty):Option Ty:=match ts with|[n,z]=>(match isNum n with|I=>O (.row z)|Z=>G)|_=>G
def ae9(ts:List Ty):Option Ty:=match ts with|[t,i,u]=>(match Xu t,isNum i,Xu u with|O a,I,O b=>(match uh a b with|O c=>O (.row c)|G=>G)|_,_,_=>G)|_=>G
def ae_(l:List Tm)(ts:List Ty):Option Ty:=match ts with|[t,i,_]=>(match Xu t,isNum i,l with|O u,I,[_,_,.c (.ofNat j)]=>(match aeW u with|O us=>us[j]? |G=>G)|_,_,_=>G)|_=>G
def afa(ts:List Ty):Option Ty:=match ts with|[t,u]=>(match isNum t&&isNum u with|I=>uh t u|Z=>G)|_=>G
def akS(ts:List Ty):Option Ty:=match ts with|[t,u]=>(match isNum t&&isNum u with|I=>uh t u|Z=>G)|_=>G
def afb(ts:List Ty):Option Ty:=match ts with|[t,i]=>(match Xu t,isNum i with|O u,I=>O u|_,_=>G)|_=>G
def afc(ts:List Ty):Option Ty:=match ts with|[t,i,x]=>(match Xu t,isNum i with|O u,I=>(match uh u x with|O u=>O (.row u)|G=>G)|_,_=>G)|_=>G
def afd(ts:List Ty):Option Ty:=match ts with|[t]=>(match O6 t with|O (k,v)=>(match sa k,isNum v with|.il [a,b],I=>O (.row (.il [a,b,v]))|_,_=>G)|G=>G)|_=>G
def tyF(o:Nat)(l:List Tm)(ts:List Ty):Option Ty:=match o with|0=>ty0 ts|2=>ty2 ts|4=>ty4 ts|5=>ty5 ts|6=>ty6 ts|7=>ty7 ts|12=>akR ts|8=>ty8 ts|9=>ty9 ts|10=>aeX ts|11=>ai_ ts|13=>amq ts|16=>aeY ts|17=>aeZ ts|18=>ae0 ts|19=>ae1 ts|20=>aja ts|21=>ae2 l ts|23=>ae3 ts|24=>ae4 l ts|25=>ae5 ts|26=>ae6 ts|28=>ae7 ts|29=>ae8 ts|30=>ae9 ts|31=>ae_ l ts|32=>afa ts|33=>akS ts|35=>afb ts|36=>afc ts|40=>afd ts|_=>G
def K4:BinOp->Bool|.eql|.neq|.lss|.leq|.gtr|.geq=>I|_=>Z
def XQ:BinOp->Bool|.add|.sub|.mul|.and|.or|.xor|.andNot|.quo=>I|_=>Z
section
variable(Γ:Tr Ty)
mutual
def Ec:Tm->Option Ty|.c n=>O (akQ n)|.x i=>Γ.get i|.bin o k a b=>(match Ec a,Ec b with|O t,O u=>(match isNum t&&isNum u with|I=>(match K4 o with|I=>O .bool|Z=>match XQ o with|I=>O (.num k)|Z=>match o with|.rem=>O t|_=>G)|Z=>G)|_,_=>G)|.conv k a=>(match Ec a with|O t=>(match isNum t with|I=>O (.num k)|Z=>G)|G=>G)|.f o l=>match O7 l with|O ts=>tyF o l ts|G=>G
def O7:List Tm->Option (List Ty)|[]=>O []|t::l=>match Ec t,O7 l with|O a,O b=>O (a::b)|_,_=>G
end
end
def uC(a b:f_):f_:=a.plus (-1) b
def v_(a b:f_):f_:=(a.plus (-1) b).plus 1 (gI (-1))
def Sj(N:List Tm)(o:Nat)(l:List Tm):List f_:=match o,l with|8,[t,i,j]=>[bG N i,uC (bG N j) (bG N i),uC (jZ N t) (bG N j)]|9,[t,i]=>[bG N i,v_ (jZ N t) (bG N i)]|24,t::i::_=>[bG N i,v_ (jZ N t) (bG N i)]|25,[t,n]=>[bG N n,uC (jZ N t) (bG N n)]|26,[t,i,j]=>[bG N i,uC (bG N j) (bG N i),uC (jZ N t) (bG N j)]|28,[t,i,_]=>[bG N i,uC (jZ N t) (bG N i)]|29,[n,_]=>[bG N n]|30,[t,i,_]=>[bG N i,uC (jZ N t) (bG N i)]|31,[t,i,_]=>[bG N i,v_ (jZ N t) (bG N i)]|35,[t,i]=>[bG N i,v_ (jZ N t) (bG N i)]|36,[t,i,_]=>[bG N i,v_ (jZ N t) (bG N i)]|_,_=>[]
def obB(N:List Tm)(o:BinOp)(b:Tm):List f_:=match o with|.quo=>[v_ (bG N b) (gI 0)]|.rem=>[v_ (bG N b) (gI 0)]|_=>[]
def aaN:Option Ty->Bool|O t=>isNum t|G=>Z
section
variable(Γ:Tr Ty)(N:List Tm)
def mH:List Tm->List f_|[]=>[]|t::l=>match aaN (Ec Γ t)with|I=>mH l|Z=>jZ N t::eY 2 (uk t)::mH l
def upW(o:Nat)(l:List Tm):List (List f_):=match o,l with|2,[a,b]=>[[eY 2 (uk a),eY 2 (uk b)]]|11,ts=>[gI 0::mH Γ N ts]|13,ts=>[gI 0::mH Γ N ts]|18,[m,k,v]=>[gI 2::eY 2 (uk m)::mH Γ N [k,v]]|17,[m,_,z]=>[eY 2 (uk m)::gI 0::mH Γ N [z]]|24,t::_::_::cs=>[eY 2 (uk t)::mH Γ N cs]|28,[t,_,z]=>[eY 2 (uk t)::gI 0::mH Γ N [z]]|29,[_,z]=>[gI 0::mH Γ N [z]]|30,[t,_,u]=>[[eY 2 (uk t),eY 2 (uk u)]]|36,[t,_,x]=>[eY 2 (uk t)::gI 0::mH Γ N [x]]|40,[m]=>[[gI 3,eY 2 (uk m)]]|19,m::_=>[[eY 2 (uk m)]]|21,m::_=>[[eY 2 (uk m)]]|25,m::_=>[[eY 2 (uk m)]]|26,m::_=>[[eY 2 (uk m)]]|31,m::_=>[[eY 2 (uk m)]]|35,m::_=>[[eY 2 (uk m)]]|_,_=>[]
def upL(o:Nat)(l:List Tm):List (List f_):=match o,l with|31,m::_=>[[eY 2 (uk m)]]|21,m::_=>[[eY 2 (uk m)]]|35,m::_=>[[eY 2 (uk m)]]|17,[m,_,z]=>[[eY 2 (uk m),jZ N z]]|18,[m,_,_]=>[[(jZ N m).plus 1 (gI 1)]]|19,[m,_]=>[[jZ N m]]|40,[m]=>[[jZ N m]]|_,_=>[]
def TO(t:Tm):List (List f_):=match Ec Γ t with|O (.num k)=>[[gI (Ka k)]]|O .MB=>[[gI (Ka .i64)]]|O .bool=>[[gI 1]]|_=>[]
def TP(t:Tm):List (List f_):=match Ec Γ t with|O (.num k)=>[[gI (MA k)]]|O .MB=>[[gI 0]]|O .bool=>[[gI 0]]|_=>[]
def fam(up:Bool)(k:Nat)(t:Tm):List (List f_):=match up,k with|I,0=>TO Γ t++(match t with|.f 17 [m,_,z]=>[[eY 3 (uk m),bG N z]]|.f 32 [a,b]=>[[bG N a],[bG N b]]|.f 33 [a,b]=>[[bG N a,bG N b]]|_=>[])|Z,0=>TP Γ t++(match t with|.f 17 [m,_,z]=>[[eY 4 (uk m),bG N z]]|.f 32 [a,b]=>[[bG N a,bG N b]]|.f 33 [a,b]=>[[bG N a],[bG N b]]|_=>[])|I,1=>(match t with|.f o l=>upL N o l|_=>[])|Z,1=>[[gI 0]]|I,2=>(match t with|.f o l=>upW Γ N o l|_=>[])|Z,2=>[[gI 0]]|I,3=>(match t with|.f 18 [m,_,v]=>[[eY 3 (uk m),bG N v]]|.f 19 [m,_]=>[[eY 3 (uk m)]]|.f 11 []=>[[gI (-1)]]|_=>[])|Z,4=>(match t with|.f 18 [m,_,v]=>[[eY 4 (uk m),bG N v]]|.f 19 [m,_]=>[[eY 4 (uk m)]]|.f 11 []=>[[gI 0]]|_=>[])|_,_=>[]
end
inductive Xv where
 |d
 |s (n:Nat) (r:Xv)
 |u (i m:Nat) (r:Xv)
 |a (i j:Nat) (rs:List Xv)
 |n (r:Xv)
 |o
 |g (l:f_)
def Fq(R:f_):Bool:=decide (0<=R.c)&&R.l.all λp=>gj p.1 0||(decide (0<=p.1)&&(ae p.2.1 1||ae p.2.1 2))
section
variable(Γ:Tr Ty)(N:List Tm)(H:List f_)
mutual
def Ku:Xv->f_->Bool|.d,R=>Fq R|.n r,_=>Ku r (gI (-1))|.s n r,R=>aF 1 n&&Ku r (f_.plus ⟨.ofNat n - 1,[]⟩ (.ofNat n) R)|.u i m r,R=>(match H[i]? with|O f=>Ku r (R.plus (-(.ofNat m)) f)|G=>Z)|.a i j rs,R=>(match R.l[i]? with|O (c,k,t)=>(match(fam Γ N (decide (c<0)) k t)[j]? with|O alts=>V9 rs (R.plus (-c) (eY k t)) c alts|G=>Z)|G=>Z)|.o,_=>Z|.g _,_=>Z
def V9:List Xv->f_->Int->List f_->Bool|[],_,_,[]=>I|r::rs,R,c,A::as=>Ku r (R.plus c A)&&V9 rs R c as|_,_,_,_=>Z
end
def δ(L:f_):Bool:=Fq L||H.any λf=>Fq (L.plus (-1) f)
end
abbrev Cs:=List Xv
structure CS where
 H:List f_
 N:List Tm
 σ:Cs
 D:List f_
section
variable(Γ:Tr Ty)
def ask(s:CS)(L:f_):Option CS:=match δ s.H L with|I=>O s|Z=>match s.σ with|r::σ=>(match Ku Γ s.N s.H r L with|I=>O ⟨L::s.H,s.N,σ,s.D⟩|Z=>G)|[]=>G
def asks(s:CS):List f_->Option CS|[]=>O s|L::l=>match ask Γ s L with|O s=>asks s l|G=>G
def ajb(N:List Tm):Tm->Option (f_×f_)
 |.bin .add k a b=>let L:=(bG N a).plus 1 (bG N b)
  O (uC L (gI (MA k)),uC (gI (Ka k)) L)
 |.bin .sub k a b=>let L:=(bG N a).plus (-1) (bG N b)
  O (uC L (gI (MA k)),uC (gI (Ka k)) L)
 |.conv k a=>let L:=bG N a
  O (uC L (gI (MA k)),uC (gI (Ka k)) L)
 |_=>G
def aaO(Γ:Tr Ty):Tm->Bool|.conv k a=>(match Ec Γ a with|O (.num j)=>leK j k|_=>Z)|_=>Z
def ε(s:CS)(t:Tm):Option CS:=match aaO Γ t with|I=>O ⟨s.H,t::s.N,s.σ,s.D⟩|Z=>match s.σ with|[]=>G|.o::σ=>O ⟨s.H,s.N,σ,s.D⟩|_::σ=>match ajb s.N t with|O (A,B)=>(match ask Γ ⟨s.H,s.N,σ,s.D⟩ A with|O s=>(match ask Γ s B with|O s=>O ⟨s.H,t::s.N,s.σ,s.D⟩|G=>G)|G=>G)|G=>G
def akT(s:CS)(t a b:Tm):Option CS:=match s.σ with|[]=>G|.o::σ=>O ⟨s.H,s.N,σ,s.D⟩|_::σ=>match ask Γ ⟨s.H,s.N,σ,s.D⟩ (bG s.N a)with|O s=>O ⟨eY 0 t::v_ (bG s.N b) (eY 0 t)::s.H,t::s.N,s.σ,s.D⟩|G=>G
def amr(s:CS)(t x:Tm):CS:=⟨uC (bG s.N x) ((eY 0 t).plus 1 (eY 0 t))::v_ (((eY 0 t).plus 1 (eY 0 t)).plus 1 (gI 2)) (bG s.N x)::s.H,t::s.N,s.σ,s.D⟩
def ζ(s:CS)(t:Tm):Option CS:=match PG s.N t with|I=>O s|Z=>match t with|.bin .add _ _ _=>ε Γ s t|.bin .sub _ _ _=>ε Γ s t|.bin .rem _ a b=>akT Γ s t a b|.conv _ _=>ε Γ s t|.f 6 [x,.c 1]=>O (amr s t x)|_=>O s
def TQ:Option Tm->Tm->Bool|O (.f 31 [a,b,.c _]),.f 31 [c,d,.c _]=>dF b d&&dF a c|_,_=>Z
mutual
def Kv:Tm->CS->Option CS|.c _,s=>O s|.x _,s=>O s|.bin o k a b,s=>(match Kv a s with|O s=>(match Kv b s with|O s=>(match asks Γ s (obB s.N o b)with|O s=>ζ Γ s (.bin o k a b)|G=>G)|G=>G)|G=>G)|.conv k a,s=>(match Kv a s with|O s=>ζ Γ s (.conv k a)|G=>G)|.f o l,s=>match EU l G s with|O s=>(match asks Γ s (Sj s.N o l)with|O s=>ζ Γ s (.f o l)|G=>G)|G=>G
def EU:List Tm->Option Tm->CS->Option CS|[],_,s=>O s|t::l,p,s=>match TQ p t with|I=>EU l (O t) s|Z=>match Kv t s with|O s=>EU l (O t) s|G=>G
end
def visit(s:CS)(ts:List Tm):Option (CS×List Ty):=match O7 Γ ts with|O Xw=>(match EU Γ ts G s with|O s=>O (s,Xw)|G=>G)|G=>G
def xZ(N:List Tm):Tm->Bool->List f_|.bin .leq _ a c,I=>[uC (bG N c) (bG N a)]|.bin .leq _ a c,Z=>[v_ (bG N a) (bG N c)]|.bin .lss _ a c,I=>[v_ (bG N c) (bG N a)]|.bin .lss _ a c,Z=>[uC (bG N a) (bG N c)]|.bin .geq _ a c,I=>[uC (bG N a) (bG N c)]|.bin .geq _ a c,Z=>[v_ (bG N c) (bG N a)]|.bin .gtr _ a c,I=>[v_ (bG N a) (bG N c)]|.bin .gtr _ a c,Z=>[uC (bG N c) (bG N a)]|.bin .eql _ a c,I=>[uC (bG N a) (bG N c),uC (bG N c) (bG N a)]|.bin .neq _ a c,Z=>[uC (bG N a) (bG N c),uC (bG N c) (bG N a)]|.bin .eql _ _ _,Z=>[]|.bin .neq _ _ _,I=>[]|.f 5 [a,b],I=>xZ N a I++xZ N b I|.f 10 [a],b=>xZ N a (!b)|.f 16 [m,k],I=>(match(Ec Γ m).bind O6 with|O (_,v)=>(match isNum v with|I=>[uC (eY 3 (uk m)) (eY 4 (uk m)),v_ (eY 0 (.f 16 [m,k])) (gI 0)]|Z=>[v_ (eY 0 (.f 16 [m,k])) (gI 0)])|G=>[])|t,Z=>(match aaN (Ec Γ t)with|I=>[bG N t,uC (gI 0) (bG N t)]|Z=>[])|t,I=>match Ec Γ t with|O (.num k)=>(match decide (0<=MA k)with|I=>[v_ (bG N t) (gI 0)]|Z=>[])|O .bool=>[v_ (bG N t) (gI 0)]|_=>[]
def η(N:List Tm):Tm->Bool->List f_|.bin .eql _ a c,Z=>[uC (bG N a) (bG N c)]|.bin .neq _ a c,I=>[uC (bG N a) (bG N c)]|.f 10 [.bin .eql _ a c],I=>[uC (bG N a) (bG N c)]|_,_=>[]
def DQ:List f_->List f_->List f_|[],H=>H|d::D,H=>DQ D (match δ H d with|I=>v_ d (gI 0)::H|Z=>match δ H (uC (gI 0) d)with|I=>v_ (gI 0) d::H|Z=>H)
def settle:List f_->List f_->List f_->List f_|[],_,H=>H|_::n,D,H=>settle n D (DQ D H)
def Nb(s:CS)(t:Tm)(b:Bool):CS:=let D:=η s.N t b++s.D;let H:=xZ Γ s.N t b++s.H;match η s.N t b with|[]=>⟨H,s.N,s.σ,D⟩|_=>⟨settle D D H,s.N,s.σ,D⟩
def prC(s:CS):Tm->Bool->Option CS|.bin .leq _ a c,I=>ask Γ s (uC (bG s.N c) (bG s.N a))|.bin .lss _ a c,I=>ask Γ s (v_ (bG s.N c) (bG s.N a))|.bin .geq _ a c,I=>ask Γ s (uC (bG s.N a) (bG s.N c))|.bin .gtr _ a c,I=>ask Γ s (v_ (bG s.N a) (bG s.N c))|.bin .eql _ a c,I=>asks Γ s [uC (bG s.N a) (bG s.N c),uC (bG s.N c) (bG s.N a)]|.bin .neq _ a c,I=>(match ask Γ s (v_ (bG s.N a) (bG s.N c))with|O s=>O s|G=>ask Γ s (v_ (bG s.N c) (bG s.N a)))|.f 10 [.bin .eql _ a c],I=>(match ask Γ s (v_ (bG s.N a) (bG s.N c))with|O s=>O s|G=>ask Γ s (v_ (bG s.N c) (bG s.N a)))|t,I=>ask Γ s (v_ (bG s.N t) (gI 0))|_,Z=>G
end
structure lJ where
 args:List Ty
 pre:List f_
 XR:f_
 ends:List (Nat×List Ty×List f_)
mutual
def qh(ts rs:List Tm):Tm->Option Tm|.c n=>O (.c n)|.x p=>(match aF 1000 p with|I=>rs[p - 1000]? |Z=>ts[p]?)|.bin o k a b=>(match qh ts rs a,qh ts rs b with|O a,O b=>O (.bin o k a b)|_,_=>G)|.conv k a=>(match qh ts rs a with|O a=>O (.conv k a)|G=>G)|.f o l=>match Bq ts rs l with|O l=>O (.f o l)|G=>G
def Bq(ts rs:List Tm):List Tm->Option (List Tm)|[]=>O []|t::l=>match qh ts rs t,Bq ts rs l with|O a,O b=>O (a::b)|_,_=>G
end
def EV(N:List Tm)(ts rs:List Tm)(γ:f_):List (Int×Nat×Tm)->Option f_|[]=>O (gI 0)|(c,k,t)::l=>match EV N ts rs γ l with|O L=>(match ae k 5 with|I=>O (L.plus c γ)|Z=>match qh ts rs t with|O t=>O (L.plus c (V8 N k t))|G=>G)|G=>G
def Cw(N:List Tm)(ts rs:List Tm)(γ:f_)(L:f_):Option f_:=match EV N ts rs γ L.l with|O M=>O (M.plus 1 (gI L.c))|G=>G
def oI(N:List Tm)(ts rs:List Tm)(γ:f_):List f_->Option (List f_)|[]=>O []|L::l=>match Cw N ts rs γ L,oI N ts rs γ l with|O a,O b=>O (a::b)|_,_=>G
def uP(g:Nat):List (Nat×List Ty×List f_)->Option (List Ty×List f_)|[]=>G|(h,a,b)::l=>match ae h g with|I=>O (a,b)|Z=>uP g l
def zR:List (Nat×Bool)->List Ty->Tr Ty->Option (Tr Ty)|[],[],Γ=>O Γ|(i,_)::l,t::ts,Γ=>(match Γ.get i with|G=>zR l ts (Γ.put i (O t))|O _=>G)|_,_,_=>G
def rJ:List (Nat×Bool)->List Tm|[]=>[]|p::l=>zQ p::rJ l
def Bh:f_:=eY 5 (.c 0)
def aaP(Γ:Tr Ty)(s:CS):Option (f_×CS):=match s.σ with|.g L::σ=>(match L.l.all λp=>ae p.2.1 5||(match p.2.2 with|.x i=>(Γ.get i).isSome|_=>Z)with|I=>O (L,⟨s.H,s.N,σ,s.D⟩)|Z=>G)|_=>G
def s5:List (Int×Nat×Tm)->List Tm|[]=>[]|(_,k,t)::l=>match ae k 5,t with|I,_=>s5 l|Z,.x _=>s5 l|Z,t=>t::s5 l
def extras:List f_->List Tm|[]=>[]|L::l=>s5 L.l++extras l
def Br(Γ:Tr Ty)(s:CS)(ts rs:List Tm)(γ:f_)(ls:List f_):Option CS:=match Bq ts rs (extras ls)with|O us=>(match visit Γ s us with|O (s,_)=>(match oI s.N ts rs γ ls with|O Ms=>asks Γ s Ms|G=>G)|G=>G)|G=>G
structure Mo where
 k:Nat
 us:List Tm
 Gz:List Nat
 γ:f_
def endsIn(Gz:List Nat)(l:List (Nat×List Ty×List f_)):Bool:=l.all λp=>Gz.any (ae p.1)
def Nc:List Ty->Nat->List (Nat×Bool)|[],_=>[]|_::l,n=>(n,Z)::Nc l (n+1)
def V_(as ts:List Tm)(Γ:Tr Ty):List (Nat×List Ty×List f_)->CS->Option CS|[],s=>O s|(_,us,post)::l,s=>match zR (Nc us 9000000) us Γ,oI s.N ts (rJ (Nc us 9000000)) Bh post with|O Ss,O ps=>(match Br Ss ⟨ps++s.H,s.N,s.σ,s.D⟩ as (rJ (Nc us 9000000)) Bh post with|O s'=>V_ as ts Γ l ⟨s.H,s.N,s'.σ,s.D⟩|G=>G)|_,_=>G
def oV(T:Tr lJ)(A:lJ)(as:List Tm):Way→Option Mo→Tr Ty→CS→Option Cs
 |.bad,none,Γ,s=>match ask Γ s (gI (-1))with
  |some s=>some s.σ
  |none=>none
 |.bad,some m,_,s=>match T.get m.k with
  |some B=>match endsIn m.Gz B.ends with
   |true=>some s.σ
   |false=>none
  |none=>none
 |.out g ts,none,Γ,s=>match visit Γ s ts with
  |some (s,Xw)=>match uP g A.ends with
   |some (us,post)=>match xY Xw us with
    |true=>match Br Γ s as ts Bh post with
     |some s=>some s.σ
     |none=>none
    |false=>none
   |none=>none
  |none=>none
 |.again ts,none,Γ,s=>match visit Γ s ts with
  |some (s,Xw)=>match xY Xw A.args,s5 A.XR.l,Cw s.N as [] Bh A.XR,Cw s.N ts [] Bh A.XR with
   |true,[],some m0,some m1=>match asks Γ s [m0,v_ m0 m1]with
    |some s=>match Br Γ s ts [] Bh A.pre with
     |some s=>match V_ as ts Γ A.ends s with
      |some s=>some s.σ
      |none=>none
     |none=>none
    |none=>none
   |_,_,_,_=>none
  |none=>none
 |.ite t a b,none,Γ,s=>match visit Γ s [t]with
  |some (s,[ty])=>match isNum ty with
   |true=>match oV T A as a none Γ (Nb Γ s t true)with
    |some σ=>oV T A as b none Γ (Nb Γ ⟨s.H,s.N,σ,s.D⟩ t false)
    |none=>none
   |false=>none
  |_=>none
 |.aW t a,none,Γ,s=>match visit Γ s [t]with
  |some (s,[ty])=>match isNum ty,prC Γ s t true with
   |true,some s=>oV T A as a none Γ s
   |_,_=>none
  |_=>none
 |.call k ts g xs a b,none,Γ,s=>match visit Γ s ts with
  |some (s,Xw)=>match T.get k,aaP Γ s with
   |some B,some (γ,s)=>match xY Xw B.args with
    |true=>match Br Γ s ts [] γ B.pre with
     |some s=>match(match uP g B.ends with
      |none=>some s.σ
      |some (us,post)=>match zR xs us Γ,oI s.N ts (rJ xs) γ post with
       |some Ss,some ps=>oV T A as a none Ss ⟨ps++s.H,s.N,s.σ,s.D⟩
       |_,_=>none)with
      |some σ=>oV T A as b (some ⟨k,ts,[g],γ⟩) Γ ⟨s.H,s.N,σ,s.D⟩
      |none=>none
     |none=>none
    |false=>none
   |_,_=>none
  |none=>none
 |.call k ts g xs a b,some m,Γ,s=>match ae k m.k&&KS ts m.us&& !(m.Gz.any (ae g)),T.get k with
  |true,some B=>match(match uP g B.ends with
   |none=>some s.σ
   |some (us,post)=>match zR xs us Γ,oI s.N ts (rJ xs) m.γ post with
    |some Ss,some ps=>oV T A as a none Ss ⟨ps++s.H,s.N,s.σ,s.D⟩
    |_,_=>none)with
   |some σ=>oV T A as b (some ⟨k,ts,g::m.Gz,m.γ⟩) Γ ⟨s.H,s.N,σ,s.D⟩
   |none=>none
  |_,_=>none
 |_,_,_,_=>none
def ln(c:Int)(l:List (Int×Nat×Nat)):f_:=⟨c,l.map λp=>(p.1,p.2.1,.x p.2.2)⟩
def us:List Nat->Xv|[]=>.d|i::l=>.u i 1 (us l)
def gz:Xv:=.g Bh
def SS(T:Tr lJ)(F:bq)(A:lJ)(σ:Cs):Bool:=match zR F.args A.args .e,oI [] (rJ F.args) [] Bh A.pre with|O Γ,O H=>(match oV T A (rJ F.args) F.jL G Γ ⟨H,[],σ,[]⟩with|O _=>I|G=>Z)|_,_=>Z
end
def kd0:List (Option bu):=[G,G,G,G,G,G,G,G,G,G,G,G,G,G,G,G,G,G,G,G,G,G,G,G,G,G,G,G,G,G,G]
def kd1:List (Option bu):=[G,G,G,G,G,G,G,G,G,G,G,G,G,G,G,G,G,G,G,G,G,G,G,G,G,G,G,G]
def Sk:List (Option bu):=[G,G,G,G,G,G,G,G,G,G,G,G,G,G,G,G,G,G,G,G,G,G,G,G,G,G,G,G,G]
def kd3:List (Option bu):=[G,G,G,G,G,G,G,G,G,G,G]
def kd4:List (Option bu):=[G,G,G,G,G]
def kd5:List (Option bu):=[G,G,G,G,G,G,G,G,G,G]
def kd6:List (Option bu):=[G,G,G,G,G,G,G]
def kd7:List (Option bu):=[G,G,G]
abbrev aaQ:List Tm:=[(sy 0),(.x 3),(.c 0)]
abbrev afe:Tm:=.f 13 [(.f 31 aaQ),(.f 31 [(sy 0),(.x 3),(.c 1)])]
abbrev OO:Tm:=.f 17 [(sy 38),afe,(.c 0)]
abbrev A8:Tm:=.bin .add .i64 (.x 0) (.x 4)
abbrev aaR:Tm:=.conv .i64 (.x 4)
abbrev aaS:Tm:=.f 0 [(sy 1000051)]
abbrev θ:Tm:=.bin .rem .i64 aaR aaS
abbrev O8:Tm:=.f 31 [(sy 1000047),θ,(.c 0)]
abbrev O9:Tm:=.f 31 [(sy 1000047),θ,(.c 1)]
abbrev zI:Tm:=.f 31 [(sy 0),(.c 0),(.c 12)]
abbrev zJ:Tm:=.f 31 [(sy 0),(.c 0),(.c 13)]
abbrev aaT:List (Nat×Bool):=fa [(1000055,1,Z),(1000057,1,I),(1000061,1,I),(1000062,1,Z)]
abbrev aaU:Tm:=.bin .neq .i64 (.x 1000055) (.c 0)
abbrev dM:Way:=.out 0 [(.c 0)]
abbrev O':List Tm:=[zI,zJ,(sy 1000057),(sy 1000061),(.x 1000062),(.c 1)]
abbrev aaV:List (Nat×Bool):=fa [(1000063,2,Z),(1000066,1,I),(1000070,1,I),(1000073,1,I)]
abbrev aaW:List (Nat×Bool):=fa [(1000082,1,I),(1000086,1,I)]
abbrev aaX:List (Nat×Bool):=fa [(1000090,1,Z),(1000092,1,I),(1000096,1,I),(1000097,1,Z)]
abbrev aaY:Tm:=.bin .neq .i64 (.x 1000090) (.c 0)
abbrev aaZ:List (Nat×Bool):=fa [(1000098,1,Z),(1000100,1,I),(1000104,1,I),(1000105,1,Z)]
abbrev ahd:Tm:=.bin .neq .i64 (.x 1000098) (.c 0)
abbrev ahe:Tm:=.bin .eql .i64 (.f 0 [(sy 1000044)]) (.f 0 [(sy 1000077)])
abbrev akU:List Tm:=[(.x 1000106),(.x 1000107),(sy 1000109),(sy 1000113),(sy 1000116),(.x 1000063),(.x 1000064),(sy 1000066),(sy 1000070),(sy 1000073)]
abbrev fW:Way:=.out 0 [(.c 1)]
abbrev akV:Way:=.ite ahd
 dM
 (.ite ahe
 (.call 117 [zI,zJ,(sy 1000100),(sy 1000104),(.x 1000105),(.c 1)] 0 (fa [(1000106,2,Z),(1000109,1,I),(1000113,1,I),(1000116,1,I)])
 (.call 134 akU 0 (fa [(1000119,1,Z)])
 (.ite (.x 1000119)
 (.call 115 [zI,zJ,(sy 1000100),(sy 1000104),(.x 1000105),(.c 1)] 0 (fa [(1000121,1,I)])
 (.call 136 [(sy 1000121),(sy 1000077)] 0 (fa [(1000123,1,Z)])
 (.ite (.x 1000123)
 fW
 dM) .bad) .bad)
 dM) .bad) .bad)
 dM)
abbrev qT2:Way:=.call 116 [O8,O9,(.c 1),zI,zJ,(sy 1000007),(sy 1000011),(.x 1000012),(.c 1)] 0 aaT
 (.ite aaU
 dM
 (.call 117 O' 0 aaV
 (.call 115 O' 0 (fa [(1000077,1,I)])
 (.call 119 O' 1 []
 (.call 121 [O8,O9,(.c 0)] 0 []
 dM .bad) (.call 119 O' 0 aaW
 (.call 116 [O8,O9,(.c 0),zI,zJ,(sy 1000082),(sy 1000086),(.x 1000062),(.c 1)] 0 aaX
 (.ite aaY
 dM
 (.call 116 [O8,O9,(.c 1),zI,zJ,(sy 1000092),(sy 1000096),(.x 1000097),(.c 1)] 0 aaZ
 akV .bad)) .bad) .bad)) .bad) .bad)) .bad
abbrev aa0:Tm:=.bin .add .i64 (.x 6) (.c 1)
abbrev Wa:List Tm:=[(sy 0),(.x 6)]
abbrev qT3:List Tm:=([(sy 0),(sy 2),(.x 4),(.x 5),aa0,(.x 7),(.x 8),(sy 1000007),(sy 1000011),(.x 1000012),(.x 14)]++(cr 31 Wa Sk 0 []))
abbrev qT4:List Tm:=([(sy 0),(sy 2),(.x 4),(.x 5),aa0,(.x 7),(.x 8),(sy 1000007),(sy 1000011),(.x 1000012)]++(xr 14 29 [(sy 43)]))
abbrev Wb:List (Nat×Bool):=fa [(1000012,1,I)]
abbrev aff:Tm:=.f 0 [(sy 1000012)]
abbrev aa1:Tm:=.bin .leq .i64 aff (.c 1000000)
abbrev aa2:Tm:=.bin .leq .i64 (.x 1000009) aff
abbrev aa3:Tm:=.bin .leq .i64 (.c 0) (.x 1000009)
abbrev ι:Tm:=.f 25 [(sy 1000012),(.x 1000009)]
abbrev κ:Tm:=.f 26 [(sy 1000012),(.x 1000009),aff]
abbrev aa4:List (Nat×Bool):=fa [(1000019,1,I),(1000022,1,I),(1000023,1,Z)]
abbrev aa5:List Tm:=[(.c 0),(sy 1000019),(sy 1000022),(.x 1000023)]
abbrev qT5:Way:=.ite (.x 30)
 (.call 18 [(sy 33)] 0 Wb
 (.aW aa1 (.aW aa2 (.aW aa3 (.call 109 [(.x 1000009),(.x 31),(.x 32),(.f 2 [ι,(.f 2 [(.f 11 [(.f 13 [(sy 0),(sy 1),(sy 2),(sy 3),(sy 4),(sy 5),(sy 6),(sy 7),(sy 8),(sy 9),(sy 10),(sy 11),(sy 12),(sy 13),(sy 14),(sy 15),(sy 16),(sy 17),(sy 18),(sy 19),(sy 20),(sy 21),(sy 22),(sy 23),(sy 24),(sy 25),(sy 26),(sy 27),(sy 1000007),(.c 1),(.c 0)])]),κ])]),(sy 35),(.x 37),(.x 38)] 0 aa4
 (.out 0 aa5) .bad)))) .bad)
 (.call 18 [(sy 33)] 0 Wb
 (.aW aa1 (.aW aa2 (.aW aa3 (.call 109 [(.x 1000009),(.x 31),(.x 32),(.f 2 [ι,(.f 2 [(.f 11 [(.f 13 [(sy 0),(sy 1),(sy 2),(sy 3),(sy 4),(sy 5),(sy 6),(sy 7),(sy 8),(sy 9),(sy 10),(sy 11),(sy 12),(sy 13),(sy 14),(sy 15),(sy 16),(sy 17),(sy 18),(sy 19),(sy 20),(sy 21),(sy 22),(sy 23),(sy 24),(sy 25),(sy 26),(sy 27),(sy 1000007),(.c 0),(.c 0)])]),κ])]),(sy 35),(.x 37),(.x 38)] 0 aa4
 (.out 0 aa5) .bad)))) .bad)
abbrev qT6:Tm:=.f 13 [(.c 0),(.c 0),(.c 0),(.c 0),(.c 0),(.c 0),(.c 0),(.c 0),(.c 0),(.c 0),(.c 0)]
abbrev Su:List Tm:=[(.x 7),(.x 8),(sy 1000007),(sy 1000011),(.x 1000012),(.x 14)]
abbrev qT8:List Tm:=[(.c 0),(.c 0),(.c 0),(.c 0),(.c 0),(.c 0),(.c 0),(.c 0),(.c 0),(.c 0),(.c 0),(.c 0),(.c 0),(.c 0),(.c 0),(.c 0),(.c 0),(.c 0),(.c 0),(.c 0),(.c 0),(.c 0),(.c 0),(.c 0),(.c 0),(.c 0),(.c 0),(.c 0),(.f 11 [])]
abbrev Ed:Tm:=.f 24 [(sy 7),A8,(.c 30),(.c 0)]
abbrev Bi:Tm:=.f 24 ([(sy 33),OO,(.c 0)]++(cr 31 [(sy 33),OO] kd6 0 [(sy 1000014),(sy 1000017),(sy 1000019)]))
abbrev Wc:List (Nat×Bool):=fa [(1000019,1,I)]
abbrev ahf:Tm:=.bin .eql .i64 (.f 0 [(sy 1000019)]) (.c 1)
abbrev MK:Tm:=.bin .geq .i64 (.x 6) (.c 0)
abbrev Wd:Way:=.aW MK (.again qT3)
abbrev O_:List Tm:=xr 15 28 ([(sy 43)]++(cr 31 Wa Sk 0 []))
abbrev ahg:Tm:=.bin .lss .i64 (.x 1000022) (.c 0)
abbrev afg:Way:=.call 20 Su 0 Wc
 (.ite ahf
 Wd
 (.aW MK (.call 112 O_ 0 (fa [(1000022,1,Z)])
 (.ite ahg
 Wd
 (.again qT4)) .bad))) .bad
abbrev lL:Tm:=.f 0 [(sy 0)]
abbrev ajc:List Tm:=xr 8 28 [(sy 36),(.x 0),(.x 1),(sy 1000009),(sy 1000013),(sy 1000016),(sy 38),(sy 39)]
abbrev afh:Way:=.call 95 ajc 0 (fa [(1000020,1,Z),(1000021,1,I)])
 (.out 0 [(sy 1000021),(sy 1000013),(sy 1000016),(.x 1000020)]) .bad
abbrev ajd:List Tm:=xr 8 28 [(sy 36),(.x 0),(.x 1),(sy 1000006),(sy 1000010),(sy 1000013)]
abbrev afi:Way:=.call 104 ajd 0 (fa [(1000017,1,Z),(1000018,1,I)])
 (.out 0 [(sy 1000018),(sy 1000010),(sy 1000013),(.x 1000017)]) .bad
abbrev Er:Tm:=.f 13 [(.x 0),(.x 1)]
abbrev aje:Tm:=.f 18 [(sy 31),Er,(.f 13 [(sy 0),(sy 1),(sy 2),(sy 3),(sy 4),(sy 5),(sy 6),(sy 7),(sy 8),(sy 9),(sy 10),(sy 11),(sy 12),(sy 13),(sy 14),(sy 15),(sy 16),(sy 17),(sy 18),(sy 19),(sy 20),(sy 21),(sy 22),(sy 23),(sy 24),(sy 25),(sy 26),(sy 27),(sy 28)])]
abbrev XT:List Tm:=xr 0 6 ([aa0]++(xr 7 28 ([(sy 35)]++(xr 37 12 [(sy 49),(sy 50)]))))
abbrev SU:Tm:=.conv .i64 (.f 6 [(.conv .u64 (.bin .add .i64 (.x 34) (.x 35))),(.c 1)])
abbrev aa6:List (Nat×Bool):=fa [(1000020,1,I)]
abbrev ahh:Tm:=.bin .eql .i64 (.f 0 [(sy 1000020)]) (.c 1)
abbrev ahi:Tm:=.bin .lss .i64 (.x 1000023) (.c 0)
abbrev akW:Way:=.call 20 Su 0 aa6
 (.ite ahh
 Wd
 (.aW MK (.call 112 O_ 0 (fa [(1000023,1,Z)])
 (.ite ahi
 Wd
 (.again qT4)) .bad))) .bad
abbrev Es:Tm:=.bin .add .i64 (.x 3) (.c 1)
abbrev Et:Tm:=.bin .add .i64 (.x 4) (.c 1)
abbrev afj:List Tm:=([(.x 0),(sy 1),(.x 3),Et,(.x 5),(.x 6),Ed,(.f 2 [(sy 9),(.f 11 [(.f 13 [(sy 13),(sy 14),(sy 15),(sy 17),(sy 19)])])])]++(xr 11 4 [(sy 15),(sy 17),(sy 19)]))
abbrev XU:Tm:=.bin .leq .i64 lL (.c 1000000)
abbrev PH:Way:=.out 0 [(sy 0)]
abbrev ML:Way:=.aW XU PH
abbrev aa7:Tm:=.f 17 [(sy 30),(.f 13 [(.x 15),(.x 16)]),qT6]
abbrev afk:List Tm:=cr 21 [aa7] kd3 0 [(sy 30),(sy 31)]
abbrev XV:Way:=.out 0 ([(sy 1000007),(sy 1000011),(.x 1000012)]++(xr 15 28 [(sy 43)]))
abbrev akX:List Tm:=[(sy 0),(sy 2),(.x 4),(.c 0),(.c 0),zI,zJ,(.f 11 []),(.f 11 []),(.c 0),(.c 1),(.c 0),(.c 0),(.c 0),(.c 0),(.c 0),(.c 0),(.c 0),(.c 0),(.c 0),(.c 0),(.c 0),(.c 0),(.c 0),(.c 0),(.c 0),(.c 0),(.c 0),(.c 0),(.c 0),(.c 0),(.c 0),(.c 0),(.c 0),(.c 0),(.c 0),(.c 0),(.c 0),(.c 0),(.f 11 [])]
abbrev ahj:Tm:=.f 2 [(sy 12),(.f 11 [(.f 13 [(sy 1),(sy 2)])])]
abbrev μ:List Tm:=[ahj,(sy 13),(sy 14)]
abbrev Dn:Tm:=.bin .lss .i64 A8 (.f 0 [Ed])
abbrev Pc:Tm:=.bin .leq .i64 (.f 0 [(sy 9)]) (.c 1000000)
abbrev Dp:Tm:=.bin .geq .i64 (.x 3) (.c 0)
abbrev We:Tm:=.bin .lss .i64 (.x 5) lL
abbrev zK:Tm:=.f 0 [(sy 2)]
abbrev SV:Tm:=.bin .lss .i64 (.x 5) zK
abbrev Pd:Tm:=.bin .geq .i64 (.x 5) (.c 0)
abbrev Wf:Tm:=.f 35 [(sy 2),(.x 5)]
abbrev ο:Tm:=.bin .add .i64 (.x 5) (.c 1)
abbrev ahk:Way:=.again [(sy 0),(sy 2),(.x 4),ο]
abbrev akY:Way:=.ite We
 (.aW SV (.aW Pd (.ite (.bin .neq .u32 (.f 35 [(sy 0),(.x 5)]) Wf)
 (.out 0 [])
 ahk)))
 (.out 1 [])
abbrev π:Tm:=.conv .i64 (.f 6 [(.conv .u64 (.bin .add .i64 (.x 6) (.x 7))),(.c 1)])
abbrev XW:List Tm:=[(.c 0),(.c 2),(.c 272),(.c 273),(.c 274),(.c 275),(.c 0)]
abbrev XX:List (Nat×Bool):=fa [(0,2,Z),(2,1,I),(4,1,I),(6,2,Z)]
abbrev Eu:Tm:=.bin .lss .i64 (.x 3) lL
abbrev ajf:Tm:=.f 18 [(sy 30),Er,(.f 13 [(sy 0),(sy 1),(sy 0),(sy 1),(.c 0),(.c 0),(sy 11),(.c 7),(.c 8),(.c 1099511627776),(.c 0)])]
abbrev akZ:Way:=.call 20 Su 0 Wc
 (.ite ahf
 (.again qT3)
 (.call 112 O_ 0 (fa [(1000022,1,Z)])
 (.ite ahg
 (.again qT3)
 (.again qT4)) .bad)) .bad
abbrev afl:List (Nat×Bool):=fa [(0,28,Z),(28,1,I),(30,7,Z),(37,1,I),(39,1,I),(41,1,Z)]
abbrev Dq:List (Nat×Bool):=fa [(1000004,1,Z)]
abbrev PI:Tm:=.f 0 [(sy 4)]
abbrev SX:Tm:=.bin .sub .i64 PI (.c 1)
abbrev Kw:Tm:=.bin .geq .i64 A8 (.c 0)
abbrev ajg:Tm:=.bin .add .i64 (.f 17 [(sy 30),Er,(.c 0)]) (.c 1)
abbrev xg:List (Nat×Bool):=fa [(0,1,I)]
abbrev ajh:Tm:=.bin .add .i64 (.bin .mul .i64 (.conv .i64 (.x 2)) (.c 8589934592)) (.conv .i64 (.x 3))
abbrev aji:Tm:=.bin .add .i64 (.bin .mul .i64 (.conv .i64 (.x 0)) (.c 8589934592)) (.conv .i64 (.x 1))
abbrev ς:List Tm:=[(sy 13),(.f 13 [(.x 5),(.x 6)]),qT6]
abbrev ak0:List Tm:=[(sy 0),(sy 1),(sy 12),(sy 13),(sy 15),(sy 16),(sy 17),(sy 18),(sy 19),(sy 20),(.bin .add .i64 (.f 21 [aa7,(.c 10)]) (.c 1))]
abbrev aa8:Tm:=.f 31 [(sy 1),(.x 3),(.c 0)]
abbrev aa9:Tm:=.f 31 [(sy 1),(.x 3),(.c 1)]
abbrev ak1:Tm:=.f 5 [(.bin .eql .u8 (.f 31 aaQ) aa8),(.bin .eql .u32 (.f 31 [(sy 0),(.x 3),(.c 1)]) aa9)]
abbrev Pe:Tm:=.bin .leq .i64 (.c 0) A8
abbrev MM:List (Nat×Bool):=fa [(1000003,1,Z)]
abbrev Ev:Way:=.out 0 [(.c (-1))]
abbrev XY:Tm:=.bin .lss .i64 A8 (.f 0 [(sy 7)])
abbrev υ:List Tm:=[(.x 0),(.x 1),(sy 2),(sy 4),(.x 6),(.x 7)]
abbrev aa_:List Tm:=xr 0 7 [(sy 7),(sy 9),(.x 11)]
abbrev afm:List Tm:=xr 12 28 ([(sy 40)]++aa_)
abbrev SY:Tm:=.bin .lss .i64 (.x 4) (.x 3)
abbrev ajj:List (Nat×Bool):=fa [(0,28,Z),(28,1,I),(30,2,Z),(32,1,I),(34,2,I),(37,2,I)]
abbrev Pf:Tm:=.f 31 [Ed,A8,(.c 29)]
abbrev MN:List Tm:=[(sy 7),A8,(.c 14)]
abbrev ajk:List (Nat×Bool):=fa [(1000005,1,Z),(1000007,1,I),(1000011,1,I),(1000012,1,Z)]
abbrev χ:List (Nat×Bool):=fa [(0,1,I),(2,1,I),(4,2,Z)]
abbrev Pg:List (Nat×Bool):=fa [(1000005,1,Z)]
abbrev ak2:Way:=.ite (.f 5 [(.bin .eql .u8 (.x 35) (.x 23)),(.bin .eql .u32 (.x 36) (.x 24))])
 (.out 0 [(.c 1),(sy 1000003)])
 (.out 0 [(.c 0),(sy 1000003)])
abbrev afn:Way:=.ite (.bin .eql .u8 (.x 0) (.x 15))
 fW
 dM
abbrev aba:Tm:=.f 31 [(sy 0),(.x 5),(.c 7)]
abbrev ak3:Tm:=.f 24 [(sy 2),(.x 5),(.c 7),(.f 30 [(.f 29 [(.f 0 [aba]),(.c 0)]),(.c 0),aba])]
abbrev XZ:Tm:=.bin .lss .i64 (.x 3) (.x 2)
abbrev X0:Tm:=.bin .geq .i64 (.x 4) (.c 0)
abbrev ajl:List (Nat×Bool):=fa [(0,28,Z),(28,1,I),(30,2,Z),(32,1,I),(34,2,I)]
abbrev ajm:Tm:=.bin .add .i64 (.x 1000004) (.c 1)
abbrev X1:List Tm:=[(sy 0),(sy 2),(.c 0),(.c 0)]
abbrev ajn:Way:=.out 0 (xr 0 7 [(sy 1000006),(sy 1000009),(.x 11),(.c 278)])
abbrev X2:Tm:=.bin .add .i64 A8 (.c 1)
abbrev SZ:List (Nat×Bool):=fa [(1000003,1,I)]
abbrev afo:List Tm:=[(.x 13),(.x 14),(sy 15),(sy 17),(sy 19)]
abbrev ak4:List (Nat×Bool):=fa [(0,1,Z),(1,1,I),(3,4,Z),(7,1,I),(9,1,I),(11,4,Z),(15,1,I),(17,1,I),(19,1,I)]
abbrev ajo:List (Nat×Bool):=fa [(0,28,Z),(28,1,I),(30,28,Z),(58,1,I)]
abbrev ajp:List (Nat×Bool):=fa [(1000010,1,I),(1000013,1,I),(1000014,1,Z),(1000016,1,I),(1000018,1,I),(1000020,1,I)]
abbrev K5:Way:=.out 0 [(.c 2),(sy 32)]
abbrev abb:Way:=.out 0 [(sy 1000009),(sy 1000013),(sy 1000016),(.c 1)]
abbrev abd:Way:=.out 0 [(sy 1000006),(sy 1000010),(sy 1000013),(.c 1)]
abbrev K6:List (Nat×Bool):=fa [(1000017,1,Z)]
abbrev EW:List (Nat×Bool):=fa [(1000008,1,Z)]
abbrev abe:List (Nat×Bool):=fa [(0,7,Z),(7,1,I),(9,1,I),(11,1,Z)]
abbrev ahl:Tm:=.f 29 [lL,(.f 13 [(.c 0),(.c 0),(.c 0),(.c 0),(.c 0),(.c 0),(.c 0),(.f 11 []),(.f 11 []),(.c 0)])]
abbrev PJ:List (Nat×Bool):=fa [(0,1,I),(2,1,I)]
abbrev Wg:Tm:=.bin .neq .i64 (.x 1000005) (.c 0)
abbrev EX:List (Nat×Bool):=fa [(1000007,1,I)]
abbrev PK:List Tm:=[(sy 1000007)]
abbrev abf:Tm:=.bin .lss .i64 (.x 1000005) (.f 0 PK)
abbrev EY:Tm:=.f 0 [(sy 1)]
abbrev abg:List Tm:=[(.c 0),(sy 1000010),(sy 1000013),(.x 1000014)]
abbrev ahm:Way:=.out 0 [(.c 0),(.c 0),(.c 0),(.c 0),(.c 0),(.f 11 []),(.c 0),(sy 1000012),(sy 2),(.c 0)]
abbrev abh:List Tm:=[(.x 7),(.x 8),(sy 9),(sy 11),(.x 13),(.x 14)]
abbrev ahn:List Tm:=[(.c 0),(.c 0),(.x 0),(.x 1),(sy 2),(sy 4),(sy 5),(.x 7),(.x 8),(sy 9),(sy 11),(sy 12)]
abbrev abi:Tm:=.bin .eql .i64 (.f 0 [(sy 1000014)]) (.c 1)
abbrev Wh:List (Nat×Bool):=fa [(0,29,Z),(29,1,I)]
abbrev Wi:Tm:=.bin .add .i64 (.x 11) (.c 1)
abbrev PL:List (Nat×Bool):=fa [(1000002,1,Z)]
abbrev EZ:List (Nat×Bool):=fa [(1000000,1,Z)]
abbrev aho:List Tm:=cr 31 Wa Sk 0 [(.c 1),(.x 7),(.x 8),(sy 9),(sy 11),(.x 13),(.x 14)]
abbrev Wj:Tm:=.bin .sub .i64 (.x 0) (.c 1)
abbrev Wk:Tm:=.bin .lss .i64 (.x 5) (.x 4)
abbrev Wl:Tm:=.bin .add .i64 (.x 2) (.c 1)
abbrev Wm:List Tm:=[(sy 0),(sy 1),(.c 0),(.c 0)]
abbrev K7:List Tm:=xr 0 28 [(sy 28)]
abbrev abj:List Tm:=[(sy 0),(.c 0),lL,(.c 0),(sy 2),(sy 3)]
abbrev abk:List Tm:=[(sy 0),(.c 0),lL,(.c 0),(.x 2),(.x 3)]
abbrev abl:List (Nat×Bool):=fa [(1000005,1,Z),(1000006,2,I)]
abbrev Wn:List (Nat×Bool):=fa [(1000004,1,Z),(1000005,1,I)]
abbrev abm:Tm:=.bin .rem .i64 aaR zK
abbrev abn:List Tm:=[(sy 1000010),(sy 1000013),(.x 1000014)]
abbrev ahp:List (Nat×Bool):=fa [(1000007,1,I),(1000011,1,I),(1000012,29,Z),(1000042,1,I)]
abbrev Wo:Tm:=.bin .lss .i64 (.x 4) lL
abbrev Wp:List Tm:=[(sy 0),(.x 2),Es]
abbrev ahq:Way:=.again (Wp++(xr 4 28 [(sy 33),(sy 35),(.x 37),(sy 38)]))
abbrev K8:List (Nat×Bool):=fa [(0,2,Z)]
abbrev abo:Tm:=.bin .sub .i64 (.f 0 [(sy 3)]) (.x 0)
abbrev ahr:Tm:=.f 5 [(.bin .eql .u8 (.x 0) (.x 32)),(.bin .eql .u32 (.x 1) (.x 33))]
abbrev ahs:Tm:=.f 13 [(.f 31 [(sy 2),(.x 4),(.c 0)]),(.f 31 [(sy 2),(.x 4),(.c 1)])]
abbrev aht:Tm:=.f 13 [(.f 31 [(sy 0),(.x 2),(.c 0)]),(.f 31 [(sy 0),(.x 2),(.c 1)])]
abbrev K9:List Tm:=[(sy 0),(.x 3)]
abbrev abp:Tm:=.bin .lss .i64 OO (.f 0 [(sy 33)])
abbrev ahu:List Tm:=cr 21 [(.f 17 [(sy 2),Er,qT6])] kd3 0 [(.f 11 []),(sy 2),(sy 3)]
abbrev abq:Tm:=.bin .lss .i64 (.x 1000017) (.c 0)
abbrev abr:List Tm:=[(sy 0),(.c 0),lL,(.c 0),(sy 2)]
abbrev abt:List Tm:=[(.c 0),(.c 0),(sy 0),lL,(.c 0)]
abbrev Wq:List (Nat×Bool):=fa [(1000011,1,Z)]
abbrev PM:List (Nat×Bool):=fa [(1000007,1,Z)]
abbrev abu:Tm:=.f 0 [(sy 32)]
abbrev ahv:List Tm:=[(.c 0),(.c (-1)),(sy 4),PI,(.c 0),(.x 0),(.x 1)]
abbrev Wr:List (Nat×Bool):=fa [(1000006,1,I)]
abbrev ahw:Way:=.out 0 (xr 0 7 [(sy 1000019),(sy 1000022),(.x 11),(.c 0)])
abbrev abv:List (Nat×Bool):=fa [(1000010,1,I),(1000013,1,I),(1000014,1,Z)]
abbrev abw:Tm:=.f 31 [(sy 0),(.x 4),(.c 28)]
abbrev ahx:Way:=.out 0 [(sy 7),(sy 9),(.x 11),(sy 15),(sy 17),(sy 19)]
abbrev ahy:Way:=.out 0 [(sy 1000006),(sy 1000010),(sy 1000013),(.c 0)]
abbrev abx:Way:=.out 0 [(.x 1000000),(.c 0)]
abbrev aby:Tm:=.f 31 [(sy 0),(.x 5),(.c 8)]
abbrev abz:Tm:=.f 31 [(sy 0),(.x 3),(.c 5)]
abbrev abA:Tm:=.f 31 [(sy 0),(.x 3),(.c 2)]
abbrev abB:Tm:=.f 26 [(sy 5),(.c 0),(.x 0)]
abbrev ahz:Tm:=.f 24 ([(sy 0),(.x 2),(.c 0)]++(cr 31 K9 Sk 0 []))
abbrev abC:Tm:=.bin .neq .u32 (.x 1) (.x 1)
abbrev abD:Tm:=.bin .lss .u32 (.x 0) (.x 1)
abbrev abE:Tm:=.bin .geq .i64 (.x 2) (.c 0)
abbrev Ws:Tm:=.f 0 [(sy 1000003)]
abbrev abF:List Tm:=[(.c 0),(sy 5),(sy 7),(.x 9)]
abbrev abG:Tm:=.f 35 [(sy 0),(.x 1000000)]
abbrev abH:Tm:=.bin .lss .i64 (.x 3) EY
abbrev abI:Tm:=.bin .lss .i64 (.x 2) lL
abbrev abJ:Tm:=.f 18 [(sy 30),Er,ajg]
abbrev abK:Tm:=.bin .geq .i64 OO (.c 0)
abbrev PN:Tm:=.f 0 [(sy 5)]
abbrev abL:Tm:=.bin .neq .i64 lL zK
abbrev ahA:List Tm:=xr 0 5 ([(sy 5)]++(xr 7 6 [(sy 13),(.x 15)]))
abbrev ahB:Tm:=.f 28 [(sy 1000009),(.x 1000011),(.f 13 qT8)]
abbrev ahC:Tm:=.f 28 [(sy 1000006),(.x 1000008),(.f 13 qT8)]
abbrev ahD:Tm:=.bin .leq .i64 (.f 0 [(sy 35)]) (.c 1000000)
abbrev abM:List (Nat×Bool):=fa [(1000018,1,Z)]
abbrev ahE:Tm:=.bin .geq .i64 (.conv .i64 (.x 22)) (.c 9)
abbrev ahF:List (Nat×Bool):=fa [(0,28,Z),(28,1,I),(30,2,I)]
abbrev PO:Way:=.out 0 [(.x 3)]
abbrev ahG:Tm:=.f 24 [(sy 0),(.x 3),(.c 7),(sy 1000016)]
abbrev abN:List (Nat×Bool):=fa [(1000016,1,I)]
abbrev abO:List (Nat×Bool):=fa [(1000014,1,I)]
abbrev abP:List (Nat×Bool):=fa [(1000009,1,I)]
abbrev Wt:List (Nat×Bool):=fa [(1000004,1,I)]
abbrev ahH:List (Nat×Bool):=fa [(0,1,I),(2,28,Z),(30,1,I)]
abbrev ahI:List (Nat×Bool):=fa [(1000019,1,I),(1000022,1,I)]
abbrev ahJ:Tm:=.bin .lss .i64 (.x 1) (.f 0 [(sy 7)])
abbrev ahK:Tm:=.f 31 [(sy 5),(.x 1000005),(.c 29)]
abbrev ahL:List Tm:=[(.x 0),(.x 1),(sy 2),(sy 4),(sy 6)]
abbrev ahM:Tm:=.bin .lss .i64 (.x 1000005) (.c 0)
abbrev ahN:Tm:=.bin .geq .i64 (.x 1000011) (.c 0)
abbrev ahO:Tm:=.bin .geq .i64 (.x 1000008) (.c 0)
abbrev ahP:Tm:=.bin .geq .i64 (.x 1000005) (.c 0)
abbrev ahQ:Tm:=.bin .geq .i64 (.x 1000000) (.c 0)
abbrev ahR:Tm:=.bin .add .i64 (.x 1000004) (.c 0)
abbrev ahS:Way:=.again [(sy 0),(sy 1),(.x 2),Es]
abbrev ahT:Tm:=.bin .lss .i64 (.x 1000011) abu
abbrev ahU:Tm:=.bin .lss .i64 (.x 1000008) abu
abbrev ahV:Tm:=.bin .leq .i64 abu (.c 1000000)
abbrev ahW:Tm:=.bin .eql .u8 (.f 31 MN) (.c 8)
abbrev ahX:List Tm:=[(sy 0),(.c 0),lL,(.c 0),(.x 1)]
abbrev abQ:List Tm:=xr 4 28 [(sy 32)]
abbrev ahY:List Tm:=xr 0 28 ([(sy 28),(.c 1)]++afk)
abbrev ahZ:List Tm:=xr 0 28 ([(sy 28),(.c 0)]++afk)
abbrev ah0:Tm:=.bin .neq .i64 (.x 1000018) ajm
abbrev ah1:Tm:=.bin .neq .i64 (.x 1000017) ajm
abbrev ah2:Tm:=.bin .lss .i64 OO (.f 0 [Bi])
abbrev ah3:Tm:=.bin .leq .i64 zK (.c 1000000)
abbrev ah4:List Tm:=cr 21 [(.f 17 ς)] kd3 0 μ
abbrev ah5:Way:=.out 0 [(.c 0),(sy 30),(sy 31)]
def F0:bq:=⟨(fa [(0,1,I),(2,3,Z)]),(.ite Wo (.ite (.bin .lss .i64 (.x 4) (.c 100)) (.aW X0 (.again [(sy 0),(.x 2),(.bin .add .i64 (.x 3) (.f 0 [abw])),Et])) PO) PO)⟩
def F1:bq:=⟨xg,(.call 0 [(sy 0),(.c 0),(.c 0),(.c 0)] 0 EZ (.ite (.bin .gtr .i64 lL (.c 80)) fW (.ite (.bin .gtr .i64 (.x 1000000) (.c 300)) fW dM)) .bad)⟩
def F2:bq:=⟨XX,(.ite (.x 7) dM fW)⟩
def F3:bq:=⟨XX,(.call 2 υ 0 MM (.ite (.x 1000003) dM (.out 0 [(.x 6)])) .bad)⟩
def F4:bq:=⟨(fa [(0,28,Z),(28,1,I),(30,4,Z)]),(.ite ahr fW dM)⟩
def F5:bq:=⟨(fa [(0,1,I),(2,5,Z)]),(.ite SY (.aW Wo (.aW X0 (.call 4 (cr 31 [(sy 0),(.x 4)] kd0 0 [(.x 5),(.x 6)]) 0 MM (.ite (.x 1000003) (.out 0 [(.x 4)]) (.again [(sy 0),(.x 2),(.x 3),Et,(.x 5),(.x 6)])) .bad))) (.out 1 []))⟩
def F6:bq:=⟨(fa [(0,1,I),(2,2,Z)]),(.call 5 abk 1 [] Ev (.call 5 abk 0 MM (.out 0 [(.x 1000003)]) .bad))⟩
def F7:bq:=⟨(fa [(0,4,Z),(4,1,I),(6,1,I),(8,2,Z)]),(.call 6 [(sy 4),(.x 0),(.x 1)] 0 Dq (.out 0 [(.x 1000004)]) .bad)⟩
def F8:bq:=⟨xg,ML⟩
def F9:bq:=⟨K8,(.ite (.bin .neq .u64 (.x 0) (.x 0)) (.ite (.bin .neq .u64 (.x 1) (.x 1)) dM Ev) (.ite (.bin .neq .u64 (.x 1) (.x 1)) fW (.ite (.bin .lss .u64 (.x 0) (.x 1)) Ev (.ite (.bin .gtr .u64 (.x 0) (.x 1)) fW dM))))⟩
def F10:bq:=⟨K8,(.ite (.bin .neq .u8 (.x 0) (.x 0)) (.ite (.bin .neq .u8 (.x 1) (.x 1)) dM Ev) (.ite (.bin .neq .u8 (.x 1) (.x 1)) fW (.ite (.bin .lss .u8 (.x 0) (.x 1)) Ev (.ite (.bin .gtr .u8 (.x 0) (.x 1)) fW dM))))⟩
def F11:bq:=⟨K8,(.ite (.bin .neq .u32 (.x 0) (.x 0)) (.ite abC dM Ev) (.ite abC fW (.ite abD Ev (.ite (.bin .gtr .u32 (.x 0) (.x 1)) fW dM))))⟩
def F12:bq:=⟨(fa [(0,2,Z),(2,1,I),(4,2,Z)]),(.ite Wk (.aW SV (.aW Pd (.ite (.bin .neq .i64 Wf (.x 1)) (.out 0 [Wf]) (.again [(.x 0),(.x 1),(sy 2),(.x 4),ο])))) (.out 1 []))⟩
def F13:bq:=⟨xg,(.call 12 abt 1 [] dM (.call 12 abt 0 EZ (.out 0 [(.x 1000000)]) .bad))⟩
def F14:bq:=⟨ajo,(.call 9 [(.x 10),(.x 40)] 0 Dq (.call 10 [(.x 0),(.x 30)] 0 Pg (.call 11 [(.x 1),(.x 31)] 0 (fa [(1000006,1,Z)]) (.call 13 [(.f 11 [(sy 1000004),(sy 1000005),(sy 1000006)])] 0 (fa [(1000009,1,Z)]) (.out 0 [(.x 1000009)]) .bad) .bad) .bad) .bad)⟩
def F15:bq:=⟨(fa [(0,28,Z),(28,1,I),(29,28,Z),(57,1,I),(59,2,Z)]),(.call 14 (xr 29 28 ([(sy 57)]++K7)) 0 Pg (.out 0 [(.x 1000005)]) .bad)⟩
def F16:bq:=⟨(fa [(0,1,I),(2,28,Z),(30,1,I),(31,5,Z)]),(.ite (.bin .lss .i64 (.x 34) (.x 35)) (.aW (.bin .lss .i64 SU lL) (.aW (.bin .geq .i64 SU (.c 0)) (.call 15 (xr 2 28 ([(sy 30)]++(cr 31 [(sy 0),SU] kd0 0 []))) 0 Pg (.ite ahM (.again ([(sy 0)]++(xr 2 28 ([(sy 30)]++(xr 31 3 [(.bin .add .i64 SU (.c 1)),(.x 35)]))))) (.again ([(sy 0)]++(xr 2 28 ([(sy 30)]++(xr 31 4 [SU])))))) .bad))) (.out 0 [(.x 34)]))⟩
def F17:bq:=⟨ahH,(.call 16 ([(sy 0)]++(xr 2 28 [(sy 30),(.c 0),(.c 0),lL,(.c 0),lL])) 0 Pg (.ite (.bin .lss .i64 (.x 1000005) lL) (.aW ahP (.call 15 (xr 2 28 ([(sy 30)]++(cr 31 [(sy 0),(.x 1000005)] kd0 0 []))) 0 (fa [(1000006,1,Z)]) (.ite (.bin .eql .i64 (.x 1000006) (.c 0)) (.out 0 [(.x 1000005),(.c 1)]) (.out 0 [(.x 1000005),(.c 0)])) .bad)) (.out 0 [(.x 1000005),(.c 0)])) .bad)⟩
def F18:bq:=⟨xg,ML⟩
def F19:bq:=⟨χ,(.ite Wk (.aW SV (.aW Pd (.call 8 [(.f 31 [(sy 2),(.x 5),(.c 28)])] 0 Wr (.aW XU (.again [(.f 2 [(sy 0),(.f 11 [(.f 13 (cr 31 [(sy 2),(.x 5)] kd1 0 [(sy 1000006)]))])]),(sy 2),(.x 4),ο])) .bad))) PH)⟩
def F20:bq:=⟨XX,(.call 2 υ 0 MM (.ite (.x 1000003) (.out 0 [(.f 11 [])]) (.call 19 [(.f 11 []),(sy 2),zK,(.c 0)] 0 EX (.out 0 PK) .bad)) .bad)⟩
def F21:bq:=⟨xg,ML⟩
def F22:bq:=⟨(fa [(0,28,Z),(28,1,I),(30,1,I)]),(.ite (.bin .gtr .i64 ajg (.c 1)) (.out 0 [(.c 1),abJ]) (.ite (.bin .gtr .u8 (.x 14) (.c 1)) (.out 0 [(.c 1),abJ]) (.out 0 [(.c 0),abJ])))⟩
def F23:bq:=⟨(fa [(0,1,I),(2,3,Z),(5,1,I)]),(.ite SY (.aW Wo (.aW X0 (.call 22 (cr 31 [(sy 0),(.x 4)] Sk 0 [(sy 5)]) 0 Wn (.ite (.x 1000004) (.out 0 [(.x 4),(sy 1000005)]) (.again [(sy 0),(.x 2),(.x 3),Et,(sy 1000005)])) .bad))) (.out 1 [(sy 5)]))⟩
def F24:bq:=⟨PJ,(.call 23 abr 1 Wt (.out 0 [(.c (-1)),(sy 1000004)]) (.call 23 abr 0 Wn (.out 0 [(.x 1000004),(sy 1000005)]) .bad))⟩
def F25:bq:=⟨(fa [(0,1,I),(2,2,Z),(4,1,I)]),(.ite Eu (.aW Dp (.call 22 (cr 31 K9 Sk 0 [(sy 4)]) 0 (fa [(1000005,1,Z),(1000006,1,I)]) (.ite (.x 1000005) (.again [(sy 0),(.x 2),Es,(sy 1000006)]) (.aW (.bin .leq .i64 (.c 0) (.x 2)) (.aW abI (.aW abE (.again [ahz,Wl,Es,(sy 1000006)]))))) .bad)) (.out 0 [(sy 0),(.x 2),(sy 4)]))⟩
def F26:bq:=⟨PJ,(.call 24 [(sy 0),(sy 2)] 0 Wn (.ite (.bin .eql .i64 (.x 1000004) (.c (-1))) (.out 0 [(sy 0),(sy 1000005)]) (.call 25 [(sy 0),(.x 1000004),ajm,(sy 1000005)] 0 (fa [(1000006,1,I),(1000008,1,Z),(1000009,1,I)]) (.aW (.bin .leq .i64 (.x 1000008) (.f 0 [(sy 1000006)])) (.aW (.bin .leq .i64 (.c 0) (.x 1000008)) (.aW ahO (.aW (.bin .leq .i64 (.x 1000008) (.f 0 [ahC])) (.out 0 [(.f 25 [ahC,(.x 1000008)]),(sy 1000009)]))))) .bad)) .bad)⟩
def F27:bq:=⟨(fa [(0,2,I)]),(.out 0 [])⟩
def F28:bq:=⟨(fa [(0,28,Z),(28,1,I),(30,11,Z)]),(.ite (.bin .eql .u8 (.x 18) (.c 0)) fW (.ite (.bin .neq .u8 (.bin .andNot .u8 (.x 18) (.x 37)) (.c 0)) fW (.ite (.bin .eql .u32 (.x 17) (.c 0)) fW (.ite (.bin .geq .u8 (.x 19) (.x 38)) fW (.ite (.bin .gtr .u64 (.x 20) (.x 39)) fW dM)))))⟩
def F29:bq:=⟨(fa [(0,39,Z),(39,1,I)]),(.ite (.bin .neq .u32 (.x 6) (.x 22)) fW dM)⟩
def F30:bq:=⟨K8,(.ite (.bin .lss .u8 (.x 0) (.c 8)) (.ite (.bin .gtr .u32 (.x 1) (.c 0)) fW dM) dM)⟩
def F31:bq:=⟨(fa [(0,10,Z)]),(.call 30 [(.x 8),(.x 9)] 0 PL (.ite (.x 1000002) (.aW (.bin .lss .i64 (.x 8) (.c 8)) (.aW (.bin .geq .i64 (.x 8) (.c 0)) (.ite (.bin .eql .i64 (.x 8) (.c 0)) (.ite (.bin .geq .u32 (.x 0) (.x 9)) fW dM) (.ite (.bin .eql .i64 (.x 8) (.c 1)) (.ite (.bin .geq .u32 (.x 1) (.x 9)) fW dM) (.ite (.bin .eql .i64 (.x 8) (.c 2)) (.ite (.bin .geq .u32 (.x 2) (.x 9)) fW dM) (.ite (.bin .eql .i64 (.x 8) (.c 3)) (.ite (.bin .geq .u32 (.x 3) (.x 9)) fW dM) (.ite (.bin .eql .i64 (.x 8) (.c 4)) (.ite (.bin .geq .u32 (.x 4) (.x 9)) fW dM) (.ite (.bin .eql .i64 (.x 8) (.c 5)) (.ite (.bin .geq .u32 (.x 5) (.x 9)) fW dM) (.ite (.bin .eql .i64 (.x 8) (.c 6)) (.ite (.bin .geq .u32 (.x 6) (.x 9)) fW dM) (.ite (.bin .eql .i64 (.x 8) (.c 7)) (.ite (.bin .geq .u32 (.x 7) (.x 9)) fW dM) .bad)))))))))) dM) .bad)⟩
def F32:bq:=⟨ajo,(.call 31 (xr 32 8 [(.x 0),(.x 1)]) 0 PL (.ite (.x 1000002) fW dM) .bad)⟩
def F33:bq:=⟨(fa [(0,40,Z),(40,1,I),(42,2,I)]),(.ite (.x 0) (.ite (.f 10 [(.f 5 [(.bin .eql .u8 (.x 3) (.x 24)),(.bin .eql .u32 (.x 4) (.x 25))])]) fW (.call 32 (cr 21 [(.f 17 [(sy 43),(.f 13 [(.x 27),(.x 28)]),(.f 13 qT8)])] Sk 0 (xr 12 28 [(sy 40)])) 0 PM (.ite (.x 1000007) dM fW) .bad)) fW)⟩
def F34:bq:=⟨(fa [(0,35,Z),(35,1,I),(37,12,Z),(49,2,I)]),(.ite (.bin .lss .i64 (.x 6) (.c 5)) (.aW MK (.ite (.bin .eql .i64 (.x 6) (.c 4)) (.call 28 (xr 7 28 ([(sy 35)]++(xr 38 11 []))) 0 EW (.ite (.x 1000008) (.out 0 [(.x 5)]) (.again XT)) .bad) (.ite (.bin .eql .i64 (.x 6) (.c 2)) (.call 29 (xr 38 11 (xr 7 28 [(sy 35)])) 0 EW (.ite (.x 1000008) PO (.again XT)) .bad) (.ite (.bin .eql .i64 (.x 6) (.c 1)) (.call 33 (xr 37 12 (xr 7 28 [(sy 35),(sy 49),(sy 50)])) 0 EW (.ite (.x 1000008) (.out 0 [(.x 2)]) (.again XT)) .bad) (.ite (.bin .eql .i64 (.x 6) (.c 0)) (.ite (.bin .neq .u8 (.x 21) (.c 1)) (.out 0 [(.x 1)]) (.again XT)) (.ite (.bin .eql .i64 (.x 6) (.c 3)) (.ite (.bin .eql .u8 (.bin .and .u8 (.x 45) (.c 1)) (.c 0)) (.out 0 [(.x 4)]) (.again XT)) .bad)))))) (.out 1 []))⟩
def F35:bq:=⟨ahF,(.call 27 [(sy 30),(sy 31)] 0 [] (.ite (.f 16 [(sy 30),(.f 13 [(.x 15),(.x 16)])]) (.call 34 (XW++ahY) 1 [] dM (.call 34 (XW++ahY) 0 PM (.out 0 [(.x 1000007)]) .bad)) (.call 34 (XW++ahZ) 1 [] dM (.call 34 (XW++ahZ) 0 PM (.out 0 [(.x 1000007)]) .bad))) .bad)⟩
def F36:bq:=⟨ahF,(.ite (.bin .eql .u8 (.x 14) (.c 0)) (.ite (.f 10 [(.f 5 [(.bin .eql .u8 (.x 12) (.x 0)),(.bin .eql .u32 (.x 13) (.x 1))])]) ah5 (.out 0 [(.c 1),ajf,aje])) (.ite (.bin .eql .u8 (.x 14) (.c 1)) (.call 35 (xr 0 28 [(sy 28),(sy 30),(sy 31)]) 0 Pg (.ite Wg ah5 (.out 0 [(.c 1),(.f 18 [(sy 30),Er,(.f 13 ak0)]),aje])) .bad) (.out 0 [(.c 1),ajf,aje])))⟩
def F37:bq:=⟨(fa [(0,1,I),(2,3,Z),(5,2,I)]),(.ite SY (.aW Wo (.aW X0 (.call 36 (cr 31 [(sy 0),(.x 4)] Sk 0 [(sy 5),(sy 6)]) 0 abl (.ite (.x 1000005) (.out 0 [(.x 4),(sy 1000006),(sy 1000007)]) (.again [(sy 0),(.x 2),(.x 3),Et,(sy 1000006),(sy 1000007)])) .bad))) (.out 1 [(sy 5),(sy 6)]))⟩
def F38:bq:=⟨(fa [(0,1,I),(2,2,I)]),(.call 37 abj 1 (fa [(1000005,2,I)]) (.out 0 [(.c (-1)),(sy 1000005),(sy 1000006)]) (.call 37 abj 0 abl (.out 0 [(.x 1000005),(sy 1000006),(sy 1000007)]) .bad))⟩
def F39:bq:=⟨(fa [(0,1,I),(2,2,Z),(4,2,I)]),(.ite Eu (.aW Dp (.call 36 (cr 31 K9 Sk 0 [(sy 4),(sy 5)]) 0 (fa [(1000006,1,Z),(1000007,2,I)]) (.ite (.x 1000006) (.again [(sy 0),(.x 2),Es,(sy 1000007),(sy 1000008)]) (.aW (.bin .leq .i64 (.c 0) (.x 2)) (.aW abI (.aW abE (.again [ahz,Wl,Es,(sy 1000007),(sy 1000008)]))))) .bad)) (.out 0 [(sy 0),(.x 2),(sy 4),(sy 5)]))⟩
def F40:bq:=⟨(fa [(0,1,I),(2,2,I)]),(.call 38 [(sy 0),(sy 2),(sy 3)] 0 abl (.ite (.bin .eql .i64 (.x 1000005) (.c (-1))) (.out 0 [(sy 0),(sy 1000006),(sy 1000007)]) (.call 39 [(sy 0),(.x 1000005),(.bin .add .i64 (.x 1000005) (.c 1)),(sy 1000006),(sy 1000007)] 0 (fa [(1000009,1,I),(1000011,1,Z),(1000012,2,I)]) (.aW (.bin .leq .i64 (.x 1000011) (.f 0 [(sy 1000009)])) (.aW (.bin .leq .i64 (.c 0) (.x 1000011)) (.aW ahN (.aW (.bin .leq .i64 (.x 1000011) (.f 0 [ahB])) (.out 0 [(.f 25 [ahB,(.x 1000011)]),(sy 1000012),(sy 1000013)]))))) .bad)) .bad)⟩
def F41:bq:=⟨(fa [(0,1,I),(2,1,Z),(3,2,I)]),(.ite (.x 2) (.call 40 [(sy 0),(sy 3),(sy 4)] 0 (fa [(1000005,1,I),(1000007,2,I)]) (.ite (.bin .lss .i64 (.f 0 [(sy 1000005)]) lL) (.again [(sy 1000005),(.c 1),(sy 1000007),(sy 1000008)]) (.again [(sy 1000005),(.c 0),(sy 1000007),(sy 1000008)])) .bad) (.out 0 [(sy 0),(sy 3),(sy 4)]))⟩
def F42:bq:=⟨xg,(.call 21 [(sy 0)] 0 Wr (.call 26 [(sy 1000006),(.f 11 [])] 0 (fa [(1000009,1,I),(1000011,1,I)]) (.call 41 [(sy 1000009),(.c 1),(.f 11 []),(.f 11 [])] 0 (fa [(1000012,1,I),(1000014,2,I)]) (.out 0 [(sy 1000014),(sy 1000015)]) .bad) .bad) .bad)⟩
def F43:bq:=⟨xg,ML⟩
def F44:bq:=⟨xg,ML⟩
def F45:bq:=⟨xg,ML⟩
def F46:bq:=⟨xg,ML⟩
def F47:bq:=⟨(fa [(0,1,I),(2,4,Z),(6,1,I),(8,2,I),(11,2,Z),(13,2,I)]),(.ite XZ (.aW Eu (.aW Dp (.call 46 [(.f 31 [(sy 0),(.x 3),(.c 7)])] 0 abN (.call 46 [(.f 31 [(sy 0),(.x 3),(.c 8)])] 0 Wc (.aW (.bin .lss .i64 (.x 3) (.f 0 [ahG])) (.aW (.bin .leq .i64 (.c 0) (.x 3)) (.aW Eu (.aW Dp (.again [(.f 24 [ahG,(.x 3),(.c 8),(sy 1000019)]),(.x 2),Es,(.x 4),(.x 5),(sy 6),(sy 8),(sy 9),(.x 11),(.x 12),(sy 13),(sy 14)]))))) .bad) .bad))) PH)⟩
def F48:bq:=⟨xg,ML⟩
def F49:bq:=⟨(fa [(0,1,Z),(1,1,I),(3,1,Z),(4,1,I),(6,4,Z),(10,1,I),(12,2,I),(15,2,Z),(17,1,I),(19,1,I),(20,5,Z),(25,1,I),(27,1,Z)]),(.ite (.bin .lss .i64 (.x 7) (.x 6)) (.aW (.bin .lss .i64 (.x 0) EY) (.aW (.bin .geq .i64 (.x 0) (.c 0)) (.aW (.bin .lss .i64 (.x 7) PI) (.aW (.bin .geq .i64 (.x 7) (.c 0)) (.call 46 [(.f 31 [(sy 4),(.x 7),(.c 7)])] 0 (fa [(1000018,1,I)]) (.aW (.bin .leq .i64 (.c 0) (.x 7)) (.aW (.bin .lss .i64 (.x 7) (.f 0 [(sy 25)])) (.aW (.bin .geq .i64 (.x 7) (.c 0)) (.again ([(.x 0),(sy 1),(.x 3),(sy 4),(.x 6),(.bin .add .i64 (.x 7) (.c 1)),(.x 8),(.x 9),(sy 10),(sy 12),(sy 13),(.x 15),(.x 16),(sy 17),(sy 19)]++(xr 20 5 [(.f 24 [(sy 25),(.x 7),(.c 7),(sy 1000018)]),(.x 27)])))))) .bad))))) (.out 0 [(sy 25)]))⟩
def F50:bq:=⟨(fa [(0,1,I),(2,4,Z),(6,1,I),(8,2,I),(11,2,Z),(13,1,I),(15,1,I)]),(.ite XZ (.aW Eu (.aW Dp (.call 48 [abz] 0 abN (.aW Eu (.aW Dp (.call 49 ([(.x 3),(sy 0),(.x 2),abz,(.f 0 [abz]),(.c 0),(.x 4),(.x 5),(sy 6),(sy 8),(sy 9),(.x 11),(.x 12),(sy 13),(sy 15)]++(cr 31 K9 kd4 0 [(sy 1000016),(.f 31 [(sy 0),(.x 3),(.c 6)])])) 0 Wc (.again [(.f 24 (aaQ++(cr 31 K9 kd4 0 [(sy 1000019),(.f 31 [(sy 0),(.x 3),(.c 6)])]))),(.x 2),Es,(.x 4),(.x 5),(sy 6),(sy 8),(sy 9),(.x 11),(.x 12),(sy 13),(sy 15)]) .bad))) .bad))) PH)⟩
def F51:bq:=⟨(fa [(0,2,Z),(2,1,I),(4,1,I),(6,1,I)]),(.call 43 [(sy 2)] 0 SZ (.call 44 [(sy 4)] 0 EX (.call 45 [(sy 6)] 0 (fa [(1000010,1,I)]) (.call 47 [(sy 1000003),Ws,(.c 0),(.c 0),(.c 0),(.f 11 []),(.f 11 []),(.f 11 []),(.x 0),(.x 1),(sy 1000007),(sy 1000010)] 0 aa6 (.call 50 [(sy 1000010),(.f 0 [(sy 1000010)]),(.c 0),(.c 0),(.c 0),(.f 11 []),(.f 11 []),(.f 11 []),(.x 0),(.x 1),(sy 1000020),(sy 1000007)] 0 (fa [(1000022,1,I)]) (.out 0 [(sy 1000020),(sy 1000007),(sy 1000022)]) .bad) .bad) .bad) .bad) .bad)⟩
def F52:bq:=⟨xg,(.aW XU (.out 0 []))⟩
def F53:bq:=⟨χ,(.ite Wk (.aW We (.aW Pd (.call 52 [aba] 0 [] (.aW We (.aW (.bin .leq .i64 (.c 0) (.x 5)) (.aW SV (.aW Pd (.call 52 [aby] 0 [] (.aW (.bin .lss .i64 (.x 5) (.f 0 [ak3])) (.aW (.bin .leq .i64 (.c 0) (.x 5)) (.aW SV (.aW Pd (.again [(sy 0),(.f 24 [ak3,(.x 5),(.c 8),(.f 30 [(.f 29 [(.f 0 [aby]),(.c 0)]),(.c 0),aby])]),(.x 4),ο]))))) .bad))))) .bad))) (.out 0 [(sy 2)]))⟩
def F54:bq:=⟨xg,(.aW XU (.call 53 [(sy 0),(.f 30 [ahl,(.c 0),(sy 0)]),(.f 0 [ahl]),(.c 0)] 0 Wt (.out 0 [(sy 1000004)]) .bad))⟩
def F55:bq:=⟨(fa [(0,2,Z),(2,2,I)]),(.call 27 [(sy 2),(sy 3)] 0 [] (.ite (.f 16 [(sy 2),Er]) (.out 0 (cr 21 [(.f 17 [(sy 2),Er,qT6])] kd3 0 [(.c 0)])) (.out 0 [(.c 0),(.c 0),(.c 0),(.c 0),(.c 0),(.c 0),(.c 0),(.c 0),(.c 0),(.c 0),(.c 0),(.c 7)])) .bad)⟩
def F56:bq:=⟨(fa [(0,1,I),(2,30,Z),(32,1,I),(34,1,I)]),(.ite XZ (.aW Eu (.aW Dp (.ite (.f 16 [(sy 34),afe]) (.again (Wp++(xr 4 28 [(sy 32),(sy 34)]))) (.again (Wp++(xr 4 28 [(sy 32),(.f 18 [(sy 34),afe,(sy 3)])])))))) (.out 0 [(sy 34)]))⟩
def F57:bq:=⟨ahH,(.call 56 ([(sy 0),lL,(.c 0)]++(xr 2 28 [(sy 30),(.f 11 [])])) 0 Wr (.out 0 [(sy 1000006)]) .bad)⟩
def F58:bq:=⟨abe,(.call 46 [(sy 7)] 0 SZ (.call 46 [(sy 9)] 0 Wr (.out 0 [(sy 1000003),(sy 1000006)]) .bad) .bad)⟩
def F59:bq:=⟨(fa [(0,1,I),(1,4,Z)]),(.ite XZ (.aW Eu (.aW Dp (.ite (.bin .neq .u32 (.f 35 K9) (.x 4)) PO (.again [(sy 0),(.x 1),(.x 2),Es,(.x 4)])))) (.out 1 []))⟩
def F60:bq:=⟨(fa [(0,1,I),(1,1,Z)]),(.call 59 ahX 1 [] Ev (.call 59 ahX 0 MM (.out 0 [(.x 1000003)]) .bad))⟩
def F61:bq:=⟨(fa [(0,7,Z),(7,2,I),(9,4,Z)]),(.ite (.bin .eql .u8 (.x 9) (.c 0)) (.ite (.f 5 [(.bin .eql .u8 (.x 5) (.x 10)),(.bin .eql .u32 (.x 6) (.x 11))]) (.ite (.bin .eql .i64 (.f 0 [(sy 8)]) (.c 0)) (.call 60 [(sy 7),(.x 12)] 0 PM (.ite (.bin .geq .i64 (.x 1000007) (.c 0)) fW dM) .bad) dM) dM) dM)⟩
def F62:bq:=⟨(fa [(0,7,Z),(7,1,I),(9,1,I),(11,4,Z)]),(.call 58 aa_ 0 (fa [(1000004,1,I),(1000007,1,I)]) (.call 61 (xr 0 7 ([(sy 1000004),(sy 1000007)]++(xr 11 4 []))) 0 (fa [(1000009,1,Z)]) (.ite (.x 1000009) (.out 0 [(sy 1000004),(sy 1000007),(.c 2),(.c 0)]) (.out 0 [(sy 1000004),(sy 1000007),(.x 11),(.c 278)])) .bad) .bad)⟩
def F63:bq:=⟨abe,(.call 52 [(sy 7)] 0 [] (.out 0 []) .bad)⟩
def F64:bq:=⟨abe,(.out 0 [])⟩
def F65:bq:=⟨(fa [(0,1,I),(2,30,Z),(33,1,I),(35,1,I),(37,1,Z),(38,1,I)]),(.ite XZ (.aW Eu (.aW Dp (.ite (.f 16 [(sy 38),afe]) (.aW abp (.aW abK (.call 62 (cr 31 [(sy 33),OO] kd5 0 [abA,(.f 31 [(sy 0),(.x 3),(.c 3)]),(.x 15)]) 0 (fa [(1000014,1,I),(1000017,1,I),(1000019,2,Z)]) (.ite (.bin .neq .i64 (.x 1000020) (.c 0)) ahq (.aW ah2 (.aW (.bin .leq .i64 (.c 0) OO) (.aW abp (.aW abK (.call 63 (cr 31 [Bi,OO] kd5 0 []) 0 [] (.aW ah2 (.aW abp (.aW abK (.aW ahD (.call 64 (cr 31 [Bi,OO] kd5 0 []) 0 [] (.again (Wp++(xr 4 28 [Bi,(.f 2 [(sy 35),(.f 11 [(.f 13 ([(.f 31 [Bi,OO,(.c 0)]),(.f 31 [Bi,OO,(.c 1)]),(.f 31 [Bi,OO,(.c 5)]),(.f 31 [Bi,OO,(.c 6)])]++(cr 31 [Bi,OO] kd7 2 [(.f 30 [(.f 29 [(.f 0 [(.f 31 [Bi,OO,(.c 7)])]),(.c 0)]),(.c 0),(.f 31 [Bi,OO,(.c 7)])])])))])]),(.bin .add .u64 (.x 37) (.bin .mul .u64 (.conv .u64 (.f 31 [Bi,OO,(.c 3)])) (.conv .u64 (.f 31 [Bi,OO,(.c 4)])))),(sy 38)]))) .bad))))) .bad)))))) .bad))) ahq))) (.out 0 [(sy 33),(sy 35),(.x 37)]))⟩
def F66:bq:=⟨(fa [(0,12,Z),(12,3,I)]),(.ite (.x 0) (.aW (.bin .leq .i64 (.f 0 [(sy 12)]) (.c 1000000)) (.ite (.bin .gtr .i64 (.x 11) (.c 0)) (.ite (.f 16 [(sy 13),(.f 13 [(.x 5),(.x 6)])]) (.again ([(.c 1)]++ah4)) (.again ([(.c 0)]++ah4))) (.out 0 [ahj]))) (.out 0 [(sy 12)]))⟩
def F67:bq:=⟨(fa [(0,2,Z),(2,2,I)]),(.call 55 [(.x 0),(.x 1),(sy 2),(sy 3)] 0 (fa [(1000004,12,Z)]) (.ite (.bin .neq .i64 (.x 1000015) (.c 0)) (.out 0 [(.f 11 []),(.x 1000015)]) (.ite (.f 16 [(sy 2),Er]) (.call 66 ([(.c 1)]++ahu) 0 (fa [(1000026,1,I)]) (.out 0 [(sy 1000026),(.c 0)]) .bad) (.call 66 ([(.c 0)]++ahu) 0 (fa [(1000026,1,I)]) (.out 0 [(sy 1000026),(.c 0)]) .bad))) .bad)⟩
def F68:bq:=⟨(fa [(0,1,I),(1,2,Z),(3,1,I)]),(.ite (.bin .lss .i64 (.x 2) (.x 1)) (.aW abI (.aW abE (.ite (.f 16 [(sy 3),aht]) (.again [(sy 0),(.x 1),Wl,(sy 3)]) (.again [(sy 0),(.x 1),Wl,(.f 18 [(sy 3),aht,(.f 31 [(sy 0),(.x 2),(.c 2)])])])))) (.out 0 [(sy 3)]))⟩
def F69:bq:=⟨xg,(.call 68 [(sy 0),lL,(.c 0),(.f 11 [])] 0 SZ (.out 0 [(sy 1000003)]) .bad)⟩
def F70:bq:=⟨(fa [(0,2,Z),(2,3,I)]),(.call 55 [(.x 0),(.x 1),(sy 3),(sy 4)] 0 (fa [(1000007,12,Z)]) (.out 0 [(.bin .sub .u64 (.x 1000016) (.f 32 [(.x 1000016),(.f 17 [(sy 2),Er,(.c 0)])]))]) .bad)⟩
def F71:bq:=⟨(fa [(0,1,Z),(1,1,I),(2,6,Z),(8,3,I)]),(.ite XZ (.aW abH (.aW Dp (.call 70 [aa8,aa9,(sy 8),(sy 9),(sy 10)] 0 Wq (.call 70 [(.x 6),(.x 7),(sy 8),(sy 9),(sy 10)] 0 (fa [(1000012,1,Z)]) (.ite (.bin .lss .u64 (.x 1000011) (.x 1000012)) (.again [(.x 0),(sy 1),(.x 2),Es,(.x 4),(.x 5),aa8,aa9,(sy 8),(sy 9),(sy 10)]) (.again ([(.x 0),(sy 1),(.x 2),Es]++(xr 4 4 [(sy 8),(sy 9),(sy 10)])))) .bad) .bad))) (.out 0 [(.x 6),(.x 7)]))⟩
def F72:bq:=⟨(fa [(0,4,I)]),(.aW (.bin .lss .i64 (.c 0) lL) (.call 71 [(.c 0),(sy 0),lL,(.c 0),(.c 0),(.c 0),(.f 31 [(sy 0),(.c 0),(.c 0)]),(.f 31 [(sy 0),(.c 0),(.c 1)]),(sy 1),(sy 2),(sy 3)] 0 (fa [(1000010,2,Z)]) (.call 70 [(.x 1000010),(.x 1000011),(sy 1),(sy 2),(sy 3)] 0 (fa [(1000012,1,Z)]) (.out 0 (xr 1000010 3 [])) .bad) .bad))⟩
def F73:bq:=⟨xg,(.aW XU (.out 0 []))⟩
def F74:bq:=⟨(fa [(0,2,Z),(2,1,I),(3,2,Z),(5,1,I)]),(.ite SY (.aW (.bin .lss .i64 (.x 4) zK) (.aW X0 (.again [(.x 0),(.x 1),(sy 2),(.x 3),Et,(.f 18 [(sy 5),ahs,(.bin .add .u64 (.f 17 [(sy 5),ahs,(.c 0)]) (.x 0))])]))) (.out 0 [(sy 5)]))⟩
def F75:bq:=⟨(fa [(0,1,I),(1,3,Z),(4,2,I)]),(.call 67 [(.x 1),(.x 2),(sy 4),(sy 5)] 0 (fa [(1000007,1,I),(1000009,1,Z)]) (.ite (.bin .neq .i64 (.x 1000009) (.c 0)) (.out 0 [(.f 11 []),(.x 1000009)]) (.call 69 [(sy 0)] 0 (fa [(1000011,1,I)]) (.call 72 [(sy 1000007),(sy 1000011),(sy 4),(sy 5)] 0 (fa [(1000012,3,Z)]) (.ite (.bin .gtr .u64 (.x 3) (.x 1000014)) (.call 73 [(sy 1000011)] 0 [] (.out 0 [(.f 23 [(.f 40 [(sy 1000011)])]),(.c 279)]) .bad) (.call 74 [(.x 3),(.c 0),(sy 1000007),(.f 0 PK),(.c 0),(sy 1000011)] 0 abN (.call 73 [(sy 1000016)] 0 [] (.out 0 [(.f 23 [(.f 40 [(sy 1000016)])]),(.c 0)]) .bad) .bad)) .bad) .bad)) .bad)⟩
def F76:bq:=⟨(fa [(0,1,I),(2,1,I),(3,28,Z),(31,1,I),(33,2,I)]),(.call 54 [(sy 0)] 0 Wb (.aW ah3 (.call 55 [(.x 18),(.x 19),(sy 33),(sy 34)] 0 (fa [(1000019,12,Z)]) (.ite (.bin .neq .i64 (.x 1000030) (.c 0)) ahm (.ite (.bin .neq .u8 (.x 17) (.c 8)) ahm (.call 54 [(sy 0)] 0 (fa [(1000033,1,I)]) (.call 57 ([(sy 1000033)]++(xr 3 28 [(sy 31)])) 0 (fa [(1000043,1,I)]) (.call 65 ([(sy 31),(.f 0 [(sy 31)]),(.c 0)]++(xr 3 28 [(sy 1000033),(.f 11 []),(.c 0),(sy 1000043)])) 0 (fa [(1000048,1,I),(1000051,1,I),(1000054,1,Z)]) (.ite (.bin .eql .i64 aaS (.c 0)) (.out 0 [(.c 0),(.c 0),(.c 0),(.c 0),(.c 0),(.f 11 []),(.c 0),(sy 1000012),(sy 2),(.c 4)]) (.call 75 [(sy 2),(.x 18),(.x 19),(.x 1000054),(sy 33),(sy 34)] 0 (fa [(1000056,1,I),(1000058,1,Z)]) (.ite (.bin .neq .i64 (.x 1000058) (.c 0)) (.out 0 [(.c 0),(.c 0),(.c 0),(.c 0),(.c 0),(.f 11 []),(.c 0),(sy 1000012),(sy 2),(.c 3)]) (.out 0 [(.x 3),(.x 4),(.x 18),(.x 19),(.x 14),(sy 1000051),(.x 1000054),(sy 1000048),(sy 1000056),(.c 1)])) .bad)) .bad) .bad) .bad))) .bad)) .bad)⟩
def F77:bq:=⟨ajj,(.call 76 ([(sy 32),(sy 34)]++(xr 0 28 [(sy 28),(sy 37),(sy 38)])) 0 (fa [(1000011,5,Z),(1000017,1,I),(1000020,1,Z),(1000022,1,I),(1000026,1,I),(1000028,1,Z)]) (.ite (.bin .eql .u8 (.x 1000028) (.c 1)) (.aW ahD (.out 0 [(.x 1000028),(sy 1000022),(sy 1000026),(.f 2 [(sy 35),(.f 11 [(.f 13 [(sy 1000011),(sy 1000012),(sy 1000013),(sy 1000014),(sy 1000015),(sy 1000017),(sy 1000020)])])])])) (.out 0 [(.x 1000028),(sy 32),(sy 34),(sy 35)])) .bad)⟩
def F78:bq:=⟨(fa [(0,2,Z),(2,1,I),(4,4,Z)]),(.ite Wk (.aW SV (.aW Pd (.ite (.f 5 [(.bin .eql .u8 (.f 31 [(sy 2),(.x 5),(.c 0)]) (.x 6)),(.bin .eql .u32 (.f 31 [(sy 2),(.x 5),(.c 1)]) (.x 7))]) (.out 0 [(.x 5)]) (.again [(.x 0),(.x 1),(sy 2),(.x 4),ο,(.x 6),(.x 7)])))) (.out 0 [(.x 1)]))⟩
def F79:bq:=⟨(fa [(0,4,Z),(4,1,I),(6,2,I),(9,2,I)]),(.call 78 ahv 0 Wq (.out 0 [(.x 1000011)]) .bad)⟩
def F80:bq:=⟨[],(.out 0 [])⟩
def F81:bq:=⟨Wh,afn⟩
def F82:bq:=⟨Wh,afn⟩
def F83:bq:=⟨Wh,afn⟩
def F84:bq:=⟨Wh,afn⟩
def F85:bq:=⟨(fa [(0,32,Z),(32,1,I)]),(.call 81 ([(.x 0)]++abQ) 0 PL (.ite (.x 1000002) dM (.call 82 ([(.x 1)]++abQ) 0 MM (.ite (.x 1000003) fW (.call 83 ([(.x 2)]++abQ) 0 Dq (.ite (.x 1000004) (.out 0 [(.c 2)]) (.call 84 (xr 3 29 [(sy 32)]) 0 Pg (.ite (.x 1000005) (.out 0 [(.c 3)]) Ev) .bad)) .bad)) .bad)) .bad)⟩
def F86:bq:=⟨afl,(.out 0 [])⟩
def F87:bq:=⟨afl,(.out 0 [])⟩
def F88:bq:=⟨K8,(.ite (.bin .neq .u32 (.x 0) (.x 0)) (.ite abC (.ite abD fW dM) fW) (.ite abD fW dM))⟩
def F89:bq:=⟨(fa [(0,1,I),(2,6,Z)]),(.ite (.bin .lss .i64 (.x 6) (.x 7)) (.aW (.bin .lss .i64 π lL) (.aW (.bin .geq .i64 π (.c 0)) (.call 88 [(.f 35 [(sy 0),π]),(.x 2)] 0 EZ (.ite (.x 1000000) (.again ([(sy 0)]++(xr 2 4 [(.bin .add .i64 π (.c 1)),(.x 7)]))) (.again ([(sy 0)]++(xr 2 5 [π])))) .bad))) (.out 0 [(.x 6)]))⟩
def F90:bq:=⟨(fa [(0,1,I),(2,1,Z)]),(.call 89 [(sy 0),(.x 2),(.c 0),(.c 0),lL,(.c 0),lL] 0 EZ (.ite (.bin .lss .i64 (.x 1000000) lL) (.aW ahQ (.ite (.bin .eql .u32 abG (.x 2)) (.out 0 [(.x 1000000),(.c 1)]) (.aW ahQ (.ite (.bin .neq .u32 abG abG) (.ite (.bin .neq .u32 (.x 2) (.x 2)) (.out 0 [(.x 1000000),(.c 1)]) abx) abx)))) abx) .bad)⟩
def F91:bq:=⟨(fa [(0,1,I),(2,1,Z)]),(.call 90 [(sy 0),(.x 2)] 0 (fa [(1000000,2,Z)]) (.ite (.x 1000001) (.call 46 [(sy 0)] 0 SZ (.out 0 [(sy 1000003)]) .bad) (.call 46 [(sy 0)] 0 SZ (.aW (.bin .leq .i64 Ws (.c 1000000)) (.aW (.bin .leq .i64 (.x 1000000) Ws) (.aW (.bin .leq .i64 (.c 0) (.x 1000000)) (.out 0 [(.f 2 [(.f 25 [(sy 1000003),(.x 1000000)]),(.f 2 [(.f 11 [(sy 2)]),(.f 26 [(sy 1000003),(.x 1000000),Ws])])])])))) .bad)) .bad)⟩
def F92:bq:=⟨afl,(.call 91 [(sy 37),(.x 11)] 0 SZ ak2 .bad)⟩
def F93:bq:=⟨afl,(.call 91 [(sy 39),(.x 11)] 0 SZ ak2 .bad)⟩
def F94:bq:=⟨(fa [(0,7,Z),(7,1,I),(9,1,I),(11,29,Z),(40,1,I)]),(.call 80 [] 0 [] (.call 85 ([(.c 4),(.c 5),(.c 6),(.c 7)]++(xr 12 28 [(sy 40)])) 0 Dq (.ite (.bin .lss .i64 (.x 1000004) (.c 0)) (.out 0 [(.c 0),(.c 0),(.c 0),(.c 0),(.c 0),(.c 0),(.c 0),(.f 11 []),(.f 11 []),(.c 0),(.c 2)]) (.call 58 aa_ 0 (fa [(1000006,1,I),(1000009,1,I)]) (.ite (.bin .neq .u8 (.x 11) (.c 0)) ajn (.aW (.bin .lss .i64 (.x 1000004) (.c 4)) (.ite (.bin .eql .i64 (.x 1000004) (.c 0)) (.call 86 afm 0 [] (.call 58 (xr 0 3 [(.x 38),(.x 4),(.x 12),(.x 13),(.f 11 []),(.f 11 []),(.x 11)]) 0 (fa [(1000013,1,I),(1000016,1,I)]) (.out 0 (xr 0 3 [(.x 38),(.x 4),(.x 12),(.x 13),(sy 1000013),(sy 1000016),(.x 11),(.c 0)])) .bad) .bad) (.ite (.bin .eql .i64 (.x 1000004) (.c 1)) (.call 87 afm 0 [] (.call 58 (xr 0 7 [(sy 7),(sy 9),(.c 1)]) 0 (fa [(1000015,1,I),(1000018,1,I)]) (.out 0 (xr 0 7 [(sy 1000015),(sy 1000018),(.c 1),(.c 0)])) .bad) .bad) (.ite (.bin .eql .i64 (.x 1000004) (.c 2)) (.call 92 afm 0 (fa [(1000012,1,Z),(1000014,1,I)]) (.ite (.x 1000012) (.call 58 (xr 0 7 [(sy 1000014),(sy 9),(.x 11)]) 0 ahI ahw .bad) ajn) .bad) (.ite (.bin .eql .i64 (.x 1000004) (.c 3)) (.call 93 afm 0 (fa [(1000012,1,Z),(1000015,1,I)]) (.ite (.x 1000012) (.call 58 (xr 0 7 [(sy 7),(sy 1000015),(.x 11)]) 0 ahI ahw .bad) ajn) .bad) .bad)))))) .bad)) .bad) .bad)⟩
def F95:bq:=⟨ajj,(.call 79 [(.x 21),(.x 22),(.x 30),(.x 31),(sy 32),(sy 34),(sy 35),(sy 37),(sy 38)] 0 Wq (.ite (.bin .lss .i64 (.x 1000011) (.c 0)) K5 (.aW ahT (.call 94 (cr 31 [(sy 32),(.x 1000011)] kd5 0 K7) 0 (fa [(1000012,7,Z),(1000020,1,I),(1000023,1,I),(1000025,2,Z)]) (.ite (.bin .neq .i64 (.x 1000026) (.c 0)) K5 (.aW ahT (.out 0 [(.c 1),(.f 24 [(sy 32),(.x 1000011),(.c 0),(sy 1000012),(sy 1000013),(sy 1000014),(sy 1000015),(sy 1000016),(sy 1000017),(sy 1000018),(sy 1000020),(sy 1000023),(sy 1000025)])]))) .bad))) .bad)⟩
def F96:bq:=⟨(fa [(0,28,Z),(28,1,I)]),(.ite (.bin .neq .u8 (.x 14) (.c 3)) (.out 0 [(.c 0),(.c 0),(.c 0),(.c 0),(.c 0),(.c 0),(.c 0),(.c 2)]) (.out 0 ([(.x 0),(.x 1)]++(xr 25 3 [(.x 0),(.x 1),(.c 0)]))))⟩
def F97:bq:=⟨ajj,(.call 79 [(.x 0),(.x 1),(.x 30),(.x 31),(sy 32),(sy 34),(sy 35),(sy 37),(sy 38)] 0 Wq (.ite ahN K5 (.call 96 K7 0 (fa [(1000012,8,Z)]) (.aW ahV (.out 0 [(.c 1),(.f 2 [(sy 32),(.f 11 [(.f 13 [(sy 1000012),(sy 1000013),(sy 1000014),(sy 1000015),(sy 1000016),(sy 1000017),(sy 1000018),(.f 11 []),(.f 11 []),(.c 0)])])])])) .bad)) .bad)⟩
def F98:bq:=⟨(fa [(0,2,Z),(2,1,I),(4,1,I),(6,1,I),(8,28,Z),(36,1,I),(38,2,I)]),(.call 51 ahL 0 (fa [(1000009,1,I),(1000013,1,I),(1000016,1,I)]) (.ite ahE (.out 0 [(sy 1000009),(sy 1000013),(sy 1000016),(.c 0)]) (.aW (.bin .lss .i64 (.x 22) (.c 9)) (.aW (.bin .geq .i64 (.x 22) (.c 0)) (.ite (.bin .eql .i64 (.x 22) (.c 8)) (.call 77 ajc 0 (fa [(1000020,1,Z),(1000022,1,I),(1000026,1,I),(1000029,1,I)]) (.out 0 [(sy 1000022),(sy 1000026),(sy 1000029),(.x 1000020)]) .bad) (.ite (.bin .eql .i64 (.x 22) (.c 7)) afh (.ite (.bin .eql .i64 (.x 22) (.c 6)) afh (.ite (.bin .eql .i64 (.x 22) (.c 5)) afh (.ite (.bin .eql .i64 (.x 22) (.c 4)) afh (.ite (.bin .eql .i64 (.x 22) (.c 3)) (.call 97 ajc 0 (fa [(1000020,1,Z),(1000022,1,I)]) (.out 0 [(sy 1000022),(sy 1000013),(sy 1000016),(.x 1000020)]) .bad) (.ite (.bin .eql .i64 (.x 22) (.c 0)) abb (.ite (.bin .eql .i64 (.x 22) (.c 1)) abb (.ite (.bin .eql .i64 (.x 22) (.c 2)) abb .bad)))))))))))) .bad)⟩
def F99:bq:=⟨[],(.out 0 [])⟩
def ams:bq:=⟨K8,(.call 99 [] 0 [] (.out 0 []) .bad)⟩
def amt:bq:=⟨(fa [(0,1,I),(2,1,I),(3,28,Z),(31,1,I)]),(.call 54 [(sy 0)] 0 abP (.aW ah3 (.call 100 [(.x 18),(.x 19)] 0 [] (.out 0 [(sy 1000009)]) .bad)) .bad)⟩
def amu:bq:=⟨ajl,(.call 101 ([(sy 32),(sy 34)]++K7) 0 abP (.out 0 []) .bad)⟩
def amv:bq:=⟨(fa [(0,4,Z),(4,1,I),(6,2,I)]),(.call 78 ahv 0 EW (.out 0 [(.x 1000008)]) .bad)⟩
def amw:bq:=⟨ajl,(.call 103 [(.x 21),(.x 22),(.x 30),(.x 31),(sy 32),(sy 34),(sy 35)] 0 EW (.ite (.bin .lss .i64 (.x 1000008) (.c 0)) K5 (.aW ahU (.call 94 (cr 31 [(sy 32),(.x 1000008)] kd5 0 K7) 0 (fa [(1000009,7,Z),(1000017,1,I),(1000020,1,I),(1000022,2,Z)]) (.ite (.bin .neq .i64 (.x 1000023) (.c 0)) K5 (.aW ahU (.out 0 [(.c 1),(.f 24 [(sy 32),(.x 1000008),(.c 0),(sy 1000009),(sy 1000010),(sy 1000011),(sy 1000012),(sy 1000013),(sy 1000014),(sy 1000015),(sy 1000017),(sy 1000020),(sy 1000022)])]))) .bad))) .bad)⟩
def amx:bq:=⟨ajl,(.call 103 [(.x 0),(.x 1),(.x 30),(.x 31),(sy 32),(sy 34),(sy 35)] 0 EW (.ite ahO K5 (.call 96 K7 0 (fa [(1000009,8,Z)]) (.aW ahV (.out 0 [(.c 1),(.f 2 [(sy 32),(.f 11 [(.f 13 [(sy 1000009),(sy 1000010),(sy 1000011),(sy 1000012),(sy 1000013),(sy 1000014),(sy 1000015),(.f 11 []),(.f 11 []),(.c 0)])])])])) .bad)) .bad)⟩
def amy:bq:=⟨(fa [(0,2,Z),(2,1,I),(4,1,I),(6,1,I),(8,28,Z),(36,1,I)]),(.call 51 ahL 0 (fa [(1000006,1,I),(1000010,1,I),(1000013,1,I)]) (.ite ahE ahy (.aW (.bin .lss .i64 (.x 22) (.c 9)) (.aW (.bin .geq .i64 (.x 22) (.c 0)) (.ite (.bin .eql .i64 (.x 22) (.c 8)) (.call 102 ajd 0 [] ahy .bad) (.ite (.bin .eql .i64 (.x 22) (.c 7)) afi (.ite (.bin .eql .i64 (.x 22) (.c 6)) afi (.ite (.bin .eql .i64 (.x 22) (.c 5)) afi (.ite (.bin .eql .i64 (.x 22) (.c 4)) afi (.ite (.bin .eql .i64 (.x 22) (.c 3)) (.call 105 ajd 0 (fa [(1000017,1,Z),(1000019,1,I)]) (.out 0 [(sy 1000019),(sy 1000010),(sy 1000013),(.x 1000017)]) .bad) (.ite (.bin .eql .i64 (.x 22) (.c 0)) abd (.ite (.bin .eql .i64 (.x 22) (.c 1)) abd (.ite (.bin .eql .i64 (.x 22) (.c 2)) abd .bad)))))))))))) .bad)⟩
def X3:bq:=⟨ak4,(.ite SY (.aW XY (.aW Kw (.ite ahW (.aW (.bin .leq .i64 X2 EY) (.aW (.bin .leq .i64 (.c 0) X2) (.call 42 [(.f 26 [(sy 1),(.c 0),X2])] 0 (fa [(1000010,2,I)]) (.aW Dn (.aW Kw (.aW XY (.aW Pe (.ite Pf (.aW Dn (.aW Kw (.call 98 (afo++(cr 31 [Ed,A8] Sk 0 [(sy 1000010),(sy 1000011)])) 0 (fa [(1000014,1,I),(1000018,1,I),(1000021,1,I),(1000024,1,Z)]) (.aW Pc (.aW Dn (.aW Pe (.again ([(.x 0),(sy 1),(.x 3),Et,(.x 5),(.x 6),(.f 24 [Ed,A8,(.c 30),(sy 1000024)]),(.f 2 [(sy 9),(.f 11 [(.f 13 [(sy 13),(sy 14),(sy 1000014),(sy 1000018),(sy 1000021)])])]),Wi]++(xr 12 3 [(sy 1000014),(sy 1000018),(sy 1000021)])))))) .bad))) (.aW Pc (.again afj))))))) .bad))) (.aW Dn (.aW Kw (.aW XY (.aW Pe (.ite Pf (.aW Dn (.aW Kw (.call 106 (afo++(cr 31 [Ed,A8] Sk 0 [])) 0 (fa [(1000007,1,I),(1000011,1,I),(1000014,1,I),(1000017,1,Z)]) (.aW Pc (.aW Dn (.aW Pe (.again ([(.x 0),(sy 1),(.x 3),Et,(.x 5),(.x 6),(.f 24 [Ed,A8,(.c 30),(sy 1000017)]),(.f 2 [(sy 9),(.f 11 [(.f 13 [(sy 13),(sy 14),(sy 1000007),(sy 1000011),(sy 1000014)])])]),Wi]++(xr 12 3 [(sy 1000007),(sy 1000011),(sy 1000014)])))))) .bad))) (.aW Pc (.again afj)))))))))) ahx)⟩
def ψ:bq:=⟨ak4,(.ite SY (.aW XY (.aW Kw (.ite ahW (.aW (.bin .leq .i64 X2 EY) (.aW (.bin .leq .i64 (.c 0) X2) (.call 42 [(.f 26 [(sy 1),(.c 0),X2])] 0 (fa [(1000008,2,I)]) (.aW Dn (.aW Kw (.aW XY (.aW Pe (.ite Pf (.aW Dn (.aW Kw (.call 98 (afo++(cr 31 [Ed,A8] Sk 0 [(sy 1000008),(sy 1000009)])) 0 (fa [(1000012,1,I),(1000016,1,I),(1000019,1,I),(1000022,1,Z)]) (.aW Pc (.aW Dn (.aW Pe (.call 107 ([(.x 0),(sy 1),(.x 3),Et,(.x 5),(.x 6),(.f 24 [Ed,A8,(.c 30),(sy 1000022)]),(.f 2 [(sy 9),(.f 11 [(.f 13 [(sy 13),(sy 14),(sy 1000012),(sy 1000016),(sy 1000019)])])]),Wi]++(xr 12 3 [(sy 1000012),(sy 1000016),(sy 1000019)])) 0 (fa [(1000029,1,I),(1000032,1,I),(1000035,1,Z),(1000037,1,I),(1000039,1,I),(1000041,1,I)]) (.out 0 [(sy 1000029),(sy 1000032),(.x 1000035),(sy 1000037),(sy 1000039),(sy 1000041)]) .bad)))) .bad))) (.aW Pc (.call 107 afj 0 (fa [(1000014,1,I),(1000017,1,I),(1000020,1,Z),(1000022,1,I),(1000024,1,I),(1000026,1,I)]) (.out 0 [(sy 1000014),(sy 1000017),(.x 1000020),(sy 1000022),(sy 1000024),(sy 1000026)]) .bad))))))) .bad))) (.aW Dn (.aW Kw (.aW XY (.aW Pe (.ite Pf (.aW Dn (.aW Kw (.call 106 (afo++(cr 31 [Ed,A8] Sk 0 [])) 0 (fa [(1000005,1,I),(1000009,1,I),(1000012,1,I),(1000015,1,Z)]) (.aW Pc (.aW Dn (.aW Pe (.call 107 ([(.x 0),(sy 1),(.x 3),Et,(.x 5),(.x 6),(.f 24 [Ed,A8,(.c 30),(sy 1000015)]),(.f 2 [(sy 9),(.f 11 [(.f 13 [(sy 13),(sy 14),(sy 1000005),(sy 1000009),(sy 1000012)])])]),Wi]++(xr 12 3 [(sy 1000005),(sy 1000009),(sy 1000012)])) 0 (fa [(1000022,1,I),(1000025,1,I),(1000028,1,Z),(1000030,1,I),(1000032,1,I),(1000034,1,I)]) (.out 0 [(sy 1000022),(sy 1000025),(.x 1000028),(sy 1000030),(sy 1000032),(sy 1000034)]) .bad)))) .bad))) (.aW Pc (.call 107 afj 0 (fa [(1000007,1,I),(1000010,1,I),(1000013,1,Z),(1000015,1,I),(1000017,1,I),(1000019,1,I)]) (.out 0 [(sy 1000007),(sy 1000010),(.x 1000013),(sy 1000015),(sy 1000017),(sy 1000019)]) .bad)))))))))) ahx)⟩
def ajq:bq:=⟨(fa [(0,3,Z),(3,1,I),(5,1,I),(7,2,Z)]),(.call 20 [(.x 1),(.x 2),(sy 3),(sy 5),(.x 7),(.x 8)] 0 Wt (.ite (.bin .gtr .i64 (.x 0) (.c 0)) (.aW (.bin .leq .i64 (.x 0) PN) (.aW (.bin .lss .i64 Wj PN) (.aW (.bin .geq .i64 Wj (.c 0)) (.call 108 ([(.x 0),(sy 1000004),abo,(.c 0),(.x 1),(.x 2),(sy 3),abB,(.x 7),(.x 8)]++(cr 31 [(sy 5),Wj] kd4 0 [])) 0 ajp (.out 0 abn) .bad)))) (.aW (.bin .leq .i64 (.c 0) (.x 0)) (.call 108 [(.x 0),(sy 1000004),abo,(.c 0),(.x 1),(.x 2),(sy 3),abB,(.x 7),(.x 8),(.x 1),(.x 2),(.f 11 []),(.f 11 []),(.f 11 [])] 0 ajp (.out 0 abn) .bad))) .bad)⟩
def ajr:bq:=⟨(fa [(0,28,Z),(28,1,I),(30,3,Z),(33,1,I),(35,1,I),(37,2,Z)]),(.call 2 [(.x 31),(.x 32),(sy 33),(sy 35),(.x 37),(.x 38)] 0 Dq (.ite (.x 1000004) (.out 0 [(.c 1),(sy 33),(sy 35),(.x 37)]) (.ite (.f 10 [(.f 5 [(.bin .eql .u8 (.x 12) (.x 31)),(.bin .eql .u32 (.x 13) (.x 32))])]) (.out 0 [(.c 2),(sy 33),(sy 35),(.x 37)]) (.call 7 [(.x 0),(.x 1),(.x 31),(.x 32),(sy 33),(sy 35),(.x 37),(.x 38)] 0 Pg (.ite ahP (.out 0 [(.c 9),(sy 33),(sy 35),(.x 37)]) (.call 8 [(sy 28)] 0 EX (.call 17 ([(sy 33)]++(xr 0 28 PK)) 0 (fa [(1000009,2,Z)]) (.ite (.x 1000010) qT5 qT5) .bad) .bad)) .bad))) .bad)⟩
def ajs:bq:=⟨(fa [(0,4,Z)]),(.ite (.bin .lss .i64 aji ajh) Ev (.ite (.bin .gtr .i64 aji ajh) fW dM))⟩
def ajt:bq:=⟨ajo,(.ite (.bin .lss .u64 (.x 10) (.x 40)) Ev (.ite (.bin .gtr .u64 (.x 10) (.x 40)) fW (.call 111 [(.x 0),(.x 1),(.x 30),(.x 31)] 0 PL (.out 0 [(.x 1000002)]) .bad)))⟩
def aju:bq:=⟨(fa [(0,1,I),(2,1,I),(4,5,Z),(9,1,I),(11,1,I),(13,30,Z),(43,1,I)]),(.ite (.bin .lss .i64 (.x 6) lL) (.ite (.bin .geq .i64 (.x 6) zK) (.call 3 abh 0 Dq (.call 110 aho 0 ajk (.ite Wg (.again qT4) (.call 20 Su 0 abO (.ite abi (.call 3 Su 0 K6 (.ite ah1 XV akZ) .bad) (.call 112 O_ 0 K6 (.ite abq (.call 3 Su 0 abM (.ite ah0 XV (.call 20 Su 0 aa6 (.ite ahh (.again qT3) (.call 112 O_ 0 (fa [(1000023,1,Z)]) (.ite ahi (.again qT3) (.again qT4)) .bad)) .bad)) .bad) akZ) .bad)) .bad)) .bad) .bad) (.aW (.bin .lss .i64 (.x 6) zK) (.aW MK (.ite (.f 35 [(sy 2),(.x 6)]) (.call 3 abh 0 Dq (.aW MK (.call 110 aho 0 ajk (.ite Wg (.again qT4) (.call 20 Su 0 abO (.ite abi (.call 3 Su 0 K6 (.ite ah1 XV afg) .bad) (.aW MK (.call 112 O_ 0 K6 (.ite abq (.call 3 Su 0 abM (.ite ah0 XV akW) .bad) afg) .bad))) .bad)) .bad)) .bad) (.call 3 abh 0 Dq (.aW MK (.call 110 (cr 31 Wa Sk 0 [(.c 0),(.x 7),(.x 8),(sy 9),(sy 11),(.x 13),(.x 14)]) 0 ajk (.ite Wg (.again qT4) (.call 20 Su 0 abO (.ite abi (.call 3 Su 0 K6 (.ite (.bin .neq .i64 (.x 1000017) ahR) XV afg) .bad) (.aW MK (.call 112 O_ 0 K6 (.ite abq (.call 3 Su 0 abM (.ite (.bin .neq .i64 (.x 1000018) ahR) XV akW) .bad) afg) .bad))) .bad)) .bad)) .bad))))) (.out 1 ([(sy 9),(sy 11),(.x 13)]++(xr 15 28 [(sy 43)]))))⟩
def ak5:bq:=⟨(fa [(0,2,I),(3,2,Z)]),(.ite SY (.aW XU (.aW (.bin .lss .i64 (.x 4) EY) (.aW X0 (.again [(.f 2 [(sy 0),(.f 11 [(.f 13 [(.f 31 [(sy 1),(.x 4),(.c 0)]),(.f 31 [(sy 1),(.x 4),(.c 1)]),(.f 31 [(sy 1),(.x 4),(.c 30)])])])]),(sy 1),(.x 3),Et])))) PH)⟩
def afp:bq:=⟨XX,(.call 2 υ 0 MM (.ite (.x 1000003) (.out 0 [(.f 11 [])]) (.call 114 [(.f 11 []),(sy 2),zK,(.c 0)] 0 EX (.out 0 PK) .bad)) .bad)⟩
def afq:bq:=⟨(fa [(0,5,Z),(5,1,I),(7,1,I),(9,2,Z)]),(.call 2 [(.x 3),(.x 4),(sy 5),(sy 7),(.x 9),(.x 10)] 0 Dq (.ite (.x 1000004) (.out 0 [(.c 1),(sy 5),(sy 7),(.x 9)]) (.call 7 [(.x 0),(.x 1),(.x 3),(.x 4),(sy 5),(sy 7),(.x 9),(.x 10)] 0 Pg (.ite ahM (.out 0 [(.c 7),(sy 5),(sy 7),(.x 9)]) (.aW (.bin .lss .i64 (.x 1000005) PN) (.ite ahK (.ite (.x 2) (.out 0 abF) (.call 18 [(sy 5)] 0 EX (.aW abf (.call 109 [(.x 1000005),(.x 3),(.x 4),(.f 24 [(sy 1000007),(.x 1000005),(.c 29),(.c 0)]),(sy 7),(.x 9),(.x 10)] 0 abv (.out 0 abg) .bad)) .bad)) (.ite (.x 2) (.call 18 [(sy 5)] 0 EX (.aW abf (.call 109 [(.x 1000005),(.x 3),(.x 4),(.f 24 [(sy 1000007),(.x 1000005),(.c 29),(.c 1)]),(sy 7),(.x 9),(.x 10)] 0 abv (.out 0 abg) .bad)) .bad) (.out 0 abF))))) .bad)) .bad)⟩
def afr:bq:=⟨XX,(.call 2 υ 0 Dq (.ite (.x 1000004) (.out 0 [(.c 0),(.c 0),(.f 11 []),(.f 11 []),(.f 11 [])]) (.ite (.bin .eql .i64 zK (.c 0)) (.out 0 [(.x 0),(.x 1),(.f 11 []),(.f 11 []),(.f 11 [])]) (.aW (.bin .lss .i64 SX PI) (.aW (.bin .geq .i64 SX (.c 0)) (.call 106 (cr 31 [(sy 4),SX] kd4 0 qT8) 0 (fa [(1000006,1,I),(1000010,1,I),(1000013,1,I),(1000016,1,Z)]) (.out 0 [(.f 31 [(sy 4),SX,(.c 0)]),(.f 31 [(sy 4),SX,(.c 1)]),(sy 1000006),(sy 1000010),(sy 1000013)]) .bad))))) .bad)⟩
def ak6:bq:=⟨xg,ML⟩
def ajv:bq:=⟨XX,(.call 2 υ 0 MM (.ite (.x 1000003) (.out 1 []) (.call 18 [(sy 2)] 0 (fa [(1000005,1,I)]) (.call 118 [(sy 4)] 0 abP (.out 0 [(sy 1000005),(sy 1000009)]) .bad) .bad)) .bad)⟩
def amz:bq:=⟨[],(.out 0 [])⟩
def amA:bq:=⟨(fa [(0,3,Z)]),(.call 120 [] 0 [] (.out 0 []) .bad)⟩
def ak7:bq:=⟨χ,akY⟩
def ajw:bq:=⟨PJ,(.ite abL dM (.call 122 X1 1 [] fW (.call 122 X1 0 [] dM .bad)))⟩
def ajx:bq:=⟨(fa [(0,7,Z),(7,1,I),(9,1,I),(11,8,Z),(19,1,I),(21,1,I),(23,1,Z)]),(.ite (.f 5 [(.bin .eql .u8 (.x 0) (.x 12)),(.bin .eql .u32 (.x 1) (.x 13))]) (.ite (.bin .eql .u32 (.x 2) (.x 14)) (.ite (.bin .eql .u32 (.x 3) (.x 15)) (.ite (.bin .eql .u32 (.x 4) (.x 16)) (.ite (.f 5 [(.bin .eql .u8 (.x 5) (.x 17)),(.bin .eql .u32 (.x 6) (.x 18))]) (.ite (.bin .eql .u8 (.x 11) (.x 23)) (.call 123 [(sy 7),(sy 19)] 0 PL (.ite (.x 1000002) (.call 123 [(sy 9),(sy 21)] 0 MM (.ite (.x 1000003) fW dM) .bad) dM) .bad) dM) dM) dM) dM) dM) dM)⟩
def ak8:bq:=⟨χ,(.ite We (.aW SV (.aW Pd (.call 124 (cr 31 [(sy 0),(.x 5)] kd5 0 (cr 31 [(sy 2),(.x 5)] kd5 0 [])) 0 Dq (.ite (.x 1000004) ahk (.out 0 [])) .bad))) (.out 1 []))⟩
def ajy:bq:=⟨PJ,(.ite abL dM (.call 125 X1 1 [] fW (.call 125 X1 0 [] dM .bad)))⟩
def ak9:bq:=⟨(fa [(0,2,I),(2,2,Z)]),(.ite Eu (.aW abH (.aW Dp (.ite (.f 10 [(.f 5 [ak1,(.bin .eql .u64 abA (.f 31 [(sy 1),(.x 3),(.c 2)]))])]) (.out 0 []) ahS))) (.out 1 []))⟩
def ajz:bq:=⟨(fa [(0,2,I)]),(.ite (.bin .neq .i64 lL EY) dM (.call 127 Wm 1 [] fW (.call 127 Wm 0 [] dM .bad)))⟩
def ak_:bq:=⟨χ,akY⟩
def ajA:bq:=⟨PJ,(.ite abL dM (.call 129 X1 1 [] fW (.call 129 X1 0 [] dM .bad)))⟩
def ala:bq:=⟨(fa [(0,7,Z),(7,1,I),(9,6,Z),(15,1,I),(17,1,Z)]),(.ite ahJ (.aW (.bin .lss .i64 (.x 1) (.f 0 [(sy 15)])) (.aW (.bin .geq .i64 (.x 1) (.c 0)) (.ite (.f 10 [(.f 5 [(.bin .eql .u8 (.f 31 [(sy 7),(.x 1),(.c 0)]) (.f 31 [(sy 15),(.x 1),(.c 0)])),(.bin .eql .u32 (.f 31 [(sy 7),(.x 1),(.c 1)]) (.f 31 [(sy 15),(.x 1),(.c 1)]))])]) (.out 0 []) (.ite (.f 10 [(.f 5 [(.bin .eql .u8 (.f 31 [(sy 7),(.x 1),(.c 2)]) (.f 31 [(sy 15),(.x 1),(.c 2)])),(.bin .eql .u32 (.f 31 [(sy 7),(.x 1),(.c 3)]) (.f 31 [(sy 15),(.x 1),(.c 3)]))])]) (.out 0 []) (.ite (.bin .neq .u32 (.f 31 [(sy 7),(.x 1),(.c 4)]) (.f 31 [(sy 15),(.x 1),(.c 4)])) (.out 0 []) (.ite (.bin .neq .u32 (.f 31 [(sy 7),(.x 1),(.c 5)]) (.f 31 [(sy 15),(.x 1),(.c 5)])) (.out 0 []) (.ite (.bin .neq .u32 (.f 31 [(sy 7),(.x 1),(.c 6)]) (.f 31 [(sy 15),(.x 1),(.c 6)])) (.out 0 []) (.call 130 [(.f 31 [(sy 7),(.x 1),(.c 7)]),(.f 31 [(sy 15),(.x 1),(.c 7)])] 0 Dq (.ite (.x 1000004) (.again ([(.x 0),(.bin .add .i64 (.x 1) (.c 1))]++(xr 2 5 ([(sy 7)]++(xr 9 6 [(sy 15),(.x 17)]))))) (.out 0 [])) .bad)))))))) (.out 1 []))⟩
def ajB:bq:=⟨(fa [(0,5,Z),(5,1,I),(7,6,Z),(13,1,I),(15,1,Z)]),(.ite (.f 10 [(.f 5 [(.bin .eql .u8 (.x 0) (.x 8)),(.bin .eql .u32 (.x 1) (.x 9))])]) dM (.ite (.f 10 [(.f 5 [(.bin .eql .u8 (.x 2) (.x 10)),(.bin .eql .u32 (.x 3) (.x 11))])]) dM (.ite (.bin .neq .u32 (.x 4) (.x 12)) dM (.ite (.bin .neq .u64 (.x 7) (.x 15)) dM (.ite (.bin .neq .i64 PN (.f 0 [(sy 13)])) dM (.call 131 ([(.c 0),(.c 0)]++ahA) 1 [] fW (.call 131 ([(.c 0),(.c 0)]++ahA) 0 [] dM .bad)))))))⟩
def alb:bq:=⟨(fa [(0,4,Z),(4,1,I),(6,2,I),(9,2,Z),(11,1,I),(13,2,I)]),(.ite ahJ (.aW (.bin .lss .i64 (.x 1) (.f 0 [(sy 14)])) (.aW (.bin .geq .i64 (.x 1) (.c 0)) (.call 132 (cr 31 [(sy 7),(.x 1)] kd6 0 (cr 31 [(sy 14),(.x 1)] kd6 0 [])) 0 (fa [(1000014,1,Z)]) (.ite (.x 1000014) (.again [(.x 0),(.bin .add .i64 (.x 1) (.c 1)),(.x 2),(.x 3),(sy 4),(sy 6),(sy 7),(.x 9),(.x 10),(sy 11),(sy 13),(sy 14)]) (.out 0 [])) .bad))) (.out 1 []))⟩
def afs:bq:=⟨(fa [(0,2,Z),(2,1,I),(4,2,I),(7,2,Z),(9,1,I),(11,2,I)]),(.ite (.f 10 [(.f 5 [(.bin .eql .u8 (.x 0) (.x 7)),(.bin .eql .u32 (.x 1) (.x 8))])]) dM (.call 126 [(sy 2),(sy 9)] 0 (fa [(1000014,1,Z)]) (.ite (.x 1000014) (.call 128 [(sy 4),(sy 11)] 0 (fa [(1000015,1,Z)]) (.ite (.x 1000015) (.ite (.bin .neq .i64 PN (.f 0 [(sy 12)])) dM (.call 133 ahn 1 [] fW (.call 133 ahn 0 [] dM .bad))) dM) .bad) dM) .bad))⟩
def alc:bq:=⟨(fa [(0,2,I),(2,2,Z)]),(.ite Eu (.aW abH (.aW Dp (.ite (.f 10 [(.f 5 [ak1,(.bin .eql .u8 abA (.f 31 [(sy 1),(.x 3),(.c 2)]))])]) (.out 0 []) ahS))) (.out 1 []))⟩
def aft:bq:=⟨(fa [(0,2,I)]),(.ite (.bin .neq .i64 lL EY) dM (.call 135 Wm 1 [] fW (.call 135 Wm 0 [] dM .bad)))⟩
def S4:bq:=⟨(fa [(0,1,I),(2,1,I),(4,1,Z)]),(.call 1 [(sy 0)] 0 EZ (.ite (.x 1000000) fW (.ite (.bin .gtr .i64 lL (.c 40)) fW (.ite (.bin .eql .i64 lL (.c 0)) fW (.ite (.bin .gtr .i64 zK (.c 100)) fW (.call 113 akX 1 ahp (.call 115 [zI,zJ,(sy 1000007),(sy 1000011),(.x 1000012),(.c 1)] 0 (fa [(1000044,1,I)]) (.call 20 [zI,zJ,(sy 1000007),(sy 1000011),(.x 1000012),(.c 1)] 0 (fa [(1000047,1,I)]) (.call 20 [zI,zJ,(sy 1000007),(sy 1000011),(.x 1000012),(.c 1)] 0 (fa [(1000051,1,I)]) (.aW (.bin .lss .i64 θ (.f 0 [(sy 1000047)])) (.aW (.bin .geq .i64 θ (.c 0)) (.aW (.bin .neq .i64 aaS (.c 0)) (.ite (.bin .geq .i64 aaR zK) qT2 (.aW (.bin .lss .i64 abm zK) (.aW (.bin .geq .i64 abm (.c 0)) (.aW (.bin .neq .i64 zK (.c 0)) (.ite (.f 35 [(sy 2),abm]) qT2 (.call 116 [O8,O9,(.c 0),zI,zJ,(sy 1000007),(sy 1000011),(.x 1000012),(.c 1)] 0 aaT (.ite aaU dM (.call 117 O' 0 aaV (.call 115 O' 0 (fa [(1000077,1,I)]) (.call 119 O' 1 [] (.call 121 [O8,O9,(.c 1)] 0 [] dM .bad) (.call 119 O' 0 aaW (.call 116 [O8,O9,(.c 1),zI,zJ,(sy 1000082),(sy 1000086),(.x 1000062),(.c 1)] 0 aaX (.ite aaY dM (.call 116 [O8,O9,(.c 0),zI,zJ,(sy 1000092),(sy 1000096),(.x 1000097),(.c 1)] 0 aaZ akV .bad)) .bad) .bad)) .bad) .bad)) .bad))))))))) .bad) .bad) .bad) (.call 113 akX 0 ahp dM .bad)))))) .bad)⟩
def defs:List bq:=[S4,aft,alc,afs,alb,ajB,ala,ajA,ak_,ajz,ak9,ajy,ak8,ajx,ajw,ak7,amA,amz,ajv,ak6,afr,afq,afp,ak5,aju,ajt,ajs,ajr,ajq,ψ,X3,amy,amx,amw,amv,amu,amt,ams,F99,F98,F97,F96,F95,F94,F93,F92,F91,F90,F89,F88,F87,F86,F85,F84,F83,F82,F81,F80,F79,F78,F77,F76,F75,F74,F73,F72,F71,F70,F69,F68,F67,F66,F65,F64,F63,F62,F61,F60,F59,F58,F57,F56,F55,F54,F53,F52,F51,F50,F49,F48,F47,F46,F45,F44,F43,F42,F41,F40,F39,F38,F37,F36,F35,F34,F33,F32,F31,F30,F29,F28,F27,F26,F25,F24,F23,F22,F21,F20,F19,F18,F17,F16,F15,F14,F13,F12,F11,F10,F9,F8,F7,F6,F5,F4,F3,F2,F1,F0]
def mkT{α:Type}:List α->Tr α|[]=>.e|F::r=>(mkT r).put r.length (O F)
@[irreducible]def qR:=mkT defs
section
variable{o:Nat}{R:dI}
noncomputable def uJ(o:Nat)(ds:List ah):Option ah:=aQ (aI defs) o ds
theorem ah6(b:Bool):∃n,jC b=.n n:=by cases b<;>exact⟨_,rfl⟩
open Classical in
theorem DR(h:1000<=o)(ds:List ah):∃n,aQ R o ds=O (.n n):=by unfold aQ;rw[fe h];simp only;split;have⟨n,hn⟩:=ah6 (R (ZI o) ds).isSome;exact⟨n,by rw[hn]⟩;split;split;exact⟨_,rfl⟩;exact⟨_,rfl⟩;split;have⟨n,hn⟩:=ah6 (decide (∃as g m rs,ds=as++ .n (cq g)::rs/\R (ZI o) as=O (m,g,rs)));exact⟨n,by rw[hn]⟩;exact⟨_,rfl⟩
theorem afU(b:o<1000)(a:100<=o)(ds:List ah):aQ R o ds=G:=by unfold aQ;(have e:aF 1000 o=Z:=by cases e:aF 1000 o with|false=>rfl|true=>have:=bz e;omega);rw[e,fe a]
theorem FF(h:o<100)(ds:List ah):aQ R o ds=dD o ds:=by unfold aQ;(have e:aF 1000 o=Z:=by cases e:aF 1000 o with|false=>rfl|true=>have:=bz e;omega);(have a:aF 100 o=Z:=by cases e:aF 100 o with|false=>rfl|true=>have:=bz e;omega);rw[e,a]
end
section
open RowKit
def Holds(D:Nat->Prop)(w w':aj):Prop:=∀(p:Addr)(u:aa),D p.block->w.cell? p=O u->w'.cell? p=O u
section
variable{w w':aj}{D D':Nat->Prop}{size n:Nat}{A:Option Addr}{xs:List aa}
end
section
variable{P:aw}(w:aj)
end
def MO(fz:Nat×Nat)(n:Nat):Prop:=∀i,i<n->¬(fz.1<=i/\i<fz.2)
theorem K_(n:Nat):MO (0,0) n:=λi _ h=>by simp at h
def nq(w:aj)(g:Nat)(t:ag)(cs:Array aa):Prop:=∃fz,w.heap[g]? =O (.cells cs t fz)/\MO fz cs.size
section
variable{w w':aj}{g:Nat}{t:ag}{cs:Array aa}
theorem nq.mk0(h:w.heap[g]? =O (.cells cs t (0,0))):nq w g t cs:=⟨_,h,K_ _⟩
theorem nq.lt(h:nq w g t cs):g<w.heap.size:=by have⟨fz,h,_⟩:=h;rcases eu g w.heap.size with a|b;exact a;rw[Array.getElem?_eq_none b]at h;cases h
theorem nq.move(h:nq w g t cs)(e:w'.heap[g]? =w.heap[g]?):nq w' g t cs:=by have⟨fz,h,k⟩:=h;exact⟨fz,e.trans h,k⟩
theorem nq.cell(h:nq w g t cs)(i:Nat):w.cell? ⟨g,i,G⟩=cs[i]?:=by have⟨fz,h,_⟩:=h;exact cell_of_row w g i cs t fz h
theorem nq.frozen(h:nq w g t cs)(i:Nat)(b:i<cs.size):w.frozen? ⟨g,i,G⟩=Z:=by have⟨fz,h,k⟩:=h;have⟨c,a⟩:=fz;have:=k i b;simp only[World.frozen?,h,Bool.and_eq_false_iff,decide_eq_false_iff_not];omega
theorem nq.amB(h:nq w g t cs)(i:Nat)(u:aa):nq (w.setCell ⟨g,i,G⟩ u) g t (cs.setIfInBounds i u):=by have⟨fz,h,k⟩:=h;refine⟨fz,?_,by simpa using k⟩;simp[World.setCell,Array.getElem?_modify,h]
end
structure Rp(α:Type) where
 size:Nat
 pos:0<size
 at_:aj->(Nat->Prop)->List aa->α->Prop
 len:∀{w D cs x},at_ w D cs x->cs.length=size
 dz:∀{w w':aj}{D D':Nat->Prop}{cs:List aa}{x:α},Holds D w w'->(∀b,D b->b<w.heap.size->D' b)->at_ w D cs x->at_ w' D' cs x
 one:∀{w D cs x},at_ w D cs x->∀u∈cs,u.oneCell'=I
section
variable{α:Type}(R:Rp α){w w' W w1:aj}{D:Nat->Prop}{B:Nat}{L:List Nat}{cs:List aa}{x:α}
end
def cJ{α β:Type}(R:α->β->Prop):List α->List β->Prop|[],[]=>True|a::as,b::bs=>R a b/\cJ R as bs|_,_=>False
section
variable{α β:Type}{R:α->β->Prop}
theorem cJ.length:∀{as:List α}{a:List β},cJ R as a->as.length=a.length|[],[],_=>rfl|_::_,_::_,h=>by simp[cJ.length h.2]|[],_::_,h=>h.elim|_::_,[],h=>h.elim
theorem cJ.imp{S:α->β->Prop}(f:∀a b,R a b->S a b):∀{as:List α}{c:List β},cJ R as c->cJ S as c|[],[],_=>trivial|_::_,_::_,h=>⟨f _ _ h.1,cJ.imp f h.2⟩|[],_::_,h=>h.elim|_::_,[],h=>h.elim
theorem cJ.append:∀{as:List α}{a:List β}{cs:List α}{ds:List β},cJ R as a->cJ R cs ds->cJ R (as++cs) (a++ds)|[],[],_,_,_,h=>h|_::_,_::_,_,_,h,k=>⟨h.1,cJ.append h.2 k⟩|[],_::_,_,_,h,_=>h.elim|_::_,[],_,_,h,_=>h.elim
theorem cJ.get:∀{as:List α}{d:List β},cJ R as d->∀{i:Nat}{b:β},d[i]? =O b->∃a,as[i]? =O a/\R a b|[],[],_,_,_,c=>by simp at c|a::_,g::_,h,0,b,c=>by simp at c;subst c;exact⟨a,rfl,h.1⟩|_::_,_::_,h,i+1,_,c=>by obtain⟨a,f,e⟩:=cJ.get h.2 (by simpa using c);exact⟨a,by simpa using f,e⟩|[],_::_,h,_,_,_=>h.elim|_::_,[],h,_,_,_=>h.elim
end
section
variable{α:Type}{R:Rp α}{w:aj}{D:Nat->Prop}
end
end
section
open RowKit
structure Bk where
 g:Nat
 t:ag
 cs:List aa
def plainCell:aa->Bool|.agg _=>Z|.tuple _=>Z|_=>I
def oJ(P:aw)(t:ag)(cs:List aa)(off:Nat):Option aa:=match P.underlying t with|O (.struct _)|O (.array _ _)=>(match P.info? t with|O i=>let l:=(cs.drop off).take i.size;if l.length=i.size then O (.agg l.toArray)else G|G=>G)|O _=>cs[off]? |G=>G
def bx:List aa->Nat->List aa->List aa|cs,_,[]=>cs|cs,off,v::vs=>bx (cs.set off v) (off+1) vs
section
variable{P:aw}{w:aj}{g:Nat}{t':ag}{cs:List aa}
theorem gO(g off j:Nat):(⟨g,off,G⟩:Addr).add j=⟨g,off+j,G⟩:=by simp_all[Addr.add]
theorem xC(b:nq w g t' cs.toArray){off:Nat}{v:aa}(h:cs[off]? =O v){a:Type}(k:aa->Sem a)(m:Mode):(Sem.load m ⟨g,off,G⟩ k).run P w=(k v).run P w:=by (have:w.cell? ⟨g,off,G⟩=O v:=by rw[b.cell off];simpa using h);simp[Sem.run,this]
theorem run_loadCellsFrom(b:nq w g t' cs.toArray){off:Nat}:∀(n i:Nat)(acc:Array aa),off+i+n<=cs.length->(loadCellsFrom ⟨g,off,G⟩ i n acc).run P w=.ok (acc++((cs.drop (off+i)).take n).toArray) w|0,i,acc,_=>by simp[loadCellsFrom]|n+1,i,acc,h=>by (have a:off+i<cs.length:=by omega);have e:cs.drop (off+i)=cs[off+i]::cs.drop (off+i+1):=List.drop_eq_getElem_cons a;show(Sem.bind _ _).run P w=_;simp[load,Sem.bind];rw[gO,xC b (v:=cs[off+i]) (aZ a)];have:=run_loadCellsFrom (off:=off) b n (i+1) (acc.push cs[off+i]) (by omega);rw[this,e,List.take_succ_cons,<-Nat.add_assoc];simp
theorem run_bind{b d:Type}:∀(s:Sem b)(f:b->Sem d)(w:aj),(s.bind f).run P w=match s.run P w with|.ok a w'=>(f a).run P w'|.halt h w'=>.halt h w'
 |.pure a,f,w=>rfl
 |.load m a k,f,w=>by
  simp[Sem.bind,Sem.run]
  cases w.cell? a with
  |some v=>exact run_bind _ f w
  |none=>
   simp only
   cases w.farLoad P a (m==.atomic)with
   |ok r=>exact run_bind _ f w
   |error h=>rfl
 |.store m a v k,f,w=>by
  cases v<;>simp only[Sem.bind,Sem.run]<;>(try rfl)<;>
  ·cases w.cell? a with
   |some u=>
    simp only
    split
    ·rfl
    ·exact run_bind k f _
   |none=>
    simp only
    cases w.farStore P a _ (m==.atomic)with
    |ok r=>exact run_bind k f r.1
    |error h=>rfl
 |.new o k,f,w=>by exact run_bind (k _) f _
 |.shape r k,f,w=>by exact run_bind (k _) f _
 |.freeze a n k,f,w=>by exact run_bind k f _
 |.frozen a k,f,w=>by exact run_bind (k _) f _
 |.getObj r k,f,w=>by
  simp[Sem.bind,Sem.run]
  split<;>first|rfl|exact run_bind _ f _
 |.setObj r o k,f,w=>by
  simp[Sem.bind,Sem.run]
  split<;>first|rfl|exact run_bind k f _
 |.choose q k,f,w=>by
  simp only[Sem.bind,Sem.run]
  split<;>exact run_bind (k _) f _
 |.sys c k,f,w=>by exact run_bind (k _) f _
 |.program k,f,w=>by exact run_bind (k P) f _
 |.mark m k,f,w=>by exact run_bind k f _
 |.halt h,f,w=>rfl
theorem run_underlying{t:ag}{d:TypeDesc}(h:P.underlying t=O d):(underlying t).run P w=.ok d w:=by show((program).bind _).run P w=_;simp[program,Sem.bind,Sem.run,h]
theorem vk{t:ag}{i:TypeInfo}(h:P.info? t=O i):(typeInfo t).run P w=.ok i w:=by show((program).bind _).run P w=_;simp[program,Sem.bind,Sem.run,h]
theorem run_sizeOf{t:ag}{i:TypeInfo}(h:P.info? t=O i):(sizeOf t).run P w=.ok i.size w:=by show((typeInfo t).bind _).run P w=_;rw[run_bind,vk h];rfl
theorem Rl(f:nq w g t' cs.toArray){t:ag}{off:Nat}{v:aa}(h:oJ P t cs off=O v):(loadVar t ⟨g,off,G⟩).run P w=.ok v w:=by unfold oJ at h;show(Sem.bind (Sem.bind _ _) _).run P w=_;rw[run_bind,run_bind];cases b:P.underlying t with|none=>rw[b]at h;cases h|some d=>rw[run_underlying b];rw[b]at h;(have agg:(∀i,P.info? t=O i->((cs.drop off).take i.size).length=i.size->O (Value.agg ((cs.drop off).take i.size).toArray)=O v->(Sem.bind (sizeOf t) λn=>Sem.bind (loadCells ⟨g,off,G⟩ n) λc=>Sem.pure (Value.agg c)).run P w=.ok v w):=λi a k j=>by rw[run_bind,run_sizeOf a];show(Sem.bind _ _).run P w=_;rw[run_bind];unfold loadCells;by_cases l:i.size=0;rw[l]at j⊢;simp_all[loadCellsFrom];rw[run_loadCellsFrom f (off:=off) i.size 0 #[] (by simp at k;omega)];simp_all);cases d<;>simp only at h⊢;(case struct m=>cases a:P.info? t with|none=>rw[a]at h;cases h|some i=>rw[a]at h;simp only at h;split at h;exact agg i a ‹_› h;cases h);(case array n e=>cases a:P.info? t with|none=>rw[a]at h;cases h|some i=>rw[a]at h;simp only at h;split at h;exact agg i a ‹_› h;cases h);all_goals (show(load _).run P w=_;unfold load;rw[xC f h];rfl)
theorem AN{a:Addr}{v:aa}(h:w.cell? a=O v){b:Type}(k:aa->Sem b)(m:Mode):(Sem.load m a k).run P w=(k v).run P w:=by simp[Sem.run,h]
theorem ml(b:∀j V,cs[j]? =O V->w.cell? ⟨g,j,G⟩=O V){off:Nat}:∀(n i:Nat)(acc:Array aa),off+i+n<=cs.length->(loadCellsFrom ⟨g,off,G⟩ i n acc).run P w=.ok (acc++((cs.drop (off+i)).take n).toArray) w|0,i,acc,_=>by rfl|n+1,i,acc,h=>by (have a:off+i<cs.length:=by omega);have e:cs.drop (off+i)=cs[off+i]::cs.drop (off+i+1):=List.drop_eq_getElem_cons a;show(Sem.bind _ _).run P w=_;simp[load,Sem.bind];rw[gO,AN (b _ _ (aZ a))];have:=ml b (off:=off) n (i+1) (acc.push cs[off+i]) (by omega);rw[this,e,List.take_succ_cons,<-Nat.add_assoc];simp
theorem ng(f:∀j V,cs[j]? =O V->w.cell? ⟨g,j,G⟩=O V){t:ag}{off:Nat}{v:aa}(h:oJ P t cs off=O v):(loadVar t ⟨g,off,G⟩).run P w=.ok v w:=by unfold oJ at h;show(Sem.bind (Sem.bind _ _) _).run P w=_;rw[run_bind,run_bind];cases b:P.underlying t with|none=>rw[b]at h;cases h|some d=>rw[run_underlying b];rw[b]at h;(have agg:(∀i,P.info? t=O i->((cs.drop off).take i.size).length=i.size->O (Value.agg ((cs.drop off).take i.size).toArray)=O v->(Sem.bind (sizeOf t) λn=>Sem.bind (loadCells ⟨g,off,G⟩ n) λc=>Sem.pure (Value.agg c)).run P w=.ok v w):=λi a l k=>by rw[run_bind,run_sizeOf a];show(Sem.bind _ _).run P w=_;rw[run_bind];unfold loadCells;by_cases m:i.size=0;rw[m]at k⊢;simp_all[loadCellsFrom];rw[ml f (off:=off) i.size 0 #[] (by simp at l;omega)];simp_all);cases d<;>simp only at h⊢;(case struct o=>cases a:P.info? t with|none=>rw[a]at h;cases h|some i=>rw[a]at h;simp only at h;split at h;exact agg i a ‹_› h;cases h);(case array n e=>cases a:P.info? t with|none=>rw[a]at h;cases h|some i=>rw[a]at h;simp only at h;split at h;exact agg i a ‹_› h;cases h);all_goals (show(load _).run P w=_;unfold load;rw[AN (f _ _ h)];rfl)
def putCells(w:aj)(g:Nat):Nat->List aa->aj|_,[]=>w|off,v::vs=>putCells (w.setCell ⟨g,off,G⟩ v) g (off+1) vs
theorem J'(b:nq w g t' cs.toArray){off:Nat}{v:aa}(a:off<cs.length)(d:plainCell v=I){c:Type}(k:Sem c)(m:Mode):(Sem.store m ⟨g,off,G⟩ v k).run P w=k.run P (w.setCell ⟨g,off,G⟩ v):=by (have f:w.cell? ⟨g,off,G⟩=O cs[off]:=by simp[b.cell off]);have e:=b.frozen off (by simpa using a);cases v<;>first|(simp[plainCell]at d;done)|simp[Sem.run,f,e]
end
section
variable{P:aw}{g:Nat}{t':ag}
theorem eF:∀(vs:List aa)(i:Nat)(cs:List aa)(w:aj)(off:Nat),nq w g t' cs.toArray->off+i+vs.length<=cs.length->vs.all plainCell=I->(storeCells ⟨g,off,G⟩ vs i).run P w=.ok () (putCells w g (off+i) vs)/\nq (putCells w g (off+i) vs) g t' (bx cs (off+i) vs).toArray|[],i,cs,w,off,a,_,_=>by simp[storeCells,putCells,bx,a]|v::vs,i,cs,w,off,a,e,b=>by simp only[List.all_cons,ay]at b;simp at e;(have c:nq (w.setCell ⟨g,off+i,G⟩ v) g t' (cs.set (off+i) v).toArray:=by have:=a.amB (off+i) v;grind);have d:=eF vs (i+1) (cs.set (off+i) v) (w.setCell ⟨g,off+i,G⟩ v) off c (by simp;omega) b.2;show((store _ v).bind _).run P w=_/\_;simp[store,Sem.bind];rw[gO,J' a (by omega) b.1];exact d
theorem jK{k:Nat}(a:k≠g):∀(vs:List aa)(w:aj)(off:Nat),(putCells w g off vs).heap[k]? =w.heap[k]?|[],_,_=>rfl|v::vs,w,off=>(jK a vs _ (off+1)).trans (Below.heap_setCell w _ v k a)
theorem og:∀(vs:List aa)(w:aj)(off:Nat),(putCells w g off vs).heap.size=w.heap.size/\(putCells w g off vs).os=w.os/\(putCells w g off vs).tape=w.tape/\(putCells w g off vs).output=w.output|[],_,_=>⟨rfl,rfl,rfl,rfl⟩|v::vs,w,off=>by have⟨d,c,b,a⟩:=og vs (w.setCell ⟨g,off,G⟩ v) (off+1);exact⟨d.trans (by simp),c,b,a⟩
end
section
variable{P:aw}{w:aj}
theorem Rm{t e:ag}{ad:Addr}{n m:Nat}{k:bu}{i:Int}{a:TypeInfo}(b:P.underlying t=O (.slice e))(c:P.info? e=O a)(f:0<=i)(d:i<n):(Instr.indexAt t (.slice (O ad) n m) (.int k i)).run P w=.ok (.pointer (O (ad.add (i.toNat*a.size)))) w:=by simp only[Instr.indexAt,asIntOf,bind,pure,Sem.bind];rw[run_bind,run_underlying b];simp_all[run_bind,run_underlying,run_sizeOf]
end
end
section
open RowKit
section
variable{α:Type}
theorem Tr.ah7(i:Nat):(Tr.e:Tr α).get i=G:=rfl
theorem Tr.qW(l:Tr α)(v:Option α)(r:Tr α)(i:Nat):(Tr.n l v r).get i=if i=0 then v else if i%2=1 then l.get (i/2)else r.get (i/2 - 1):=by (conv=>lhs;unfold Tr.get);cases h:ae i 0 with|true=>rw[if_pos (an h)]|false=>rw[if_neg (fQ h)];show(match ae (i%2) 1 with|I=>_|Z=>_)=_;cases a:ae (i%2) 1 with|true=>rw[if_pos (an a)];rfl|false=>rw[if_neg (fQ a)];rfl
theorem Tr.aj_(x:Option α)(k i:Nat):Tr.zx x (k+1) .e i=if i=0 then .n .e x .e else if i%2=1 then .n (Tr.zx x k .e (i/2)) G .e else .n .e G (Tr.zx x k .e (i/2 - 1)):=by (conv=>lhs;unfold Tr.zx);cases h:ae i 0 with|true=>rw[if_pos (an h)]|false=>rw[if_neg (fQ h)];show(match ae (i%2) 1 with|I=>_|Z=>_)=_;cases a:ae (i%2) 1 with|true=>rw[if_pos (an a)];rfl|false=>rw[if_neg (fQ a)];rfl
theorem Tr.aka(x:Option α)(k i:Nat)(l:Tr α)(v:Option α)(r:Tr α):Tr.zx x (k+1) (.n l v r) i=if i=0 then .n l x r else if i%2=1 then .n (Tr.zx x k l (i/2)) v r else .n l v (Tr.zx x k r (i/2 - 1)):=by (conv=>lhs;unfold Tr.zx);cases h:ae i 0 with|true=>rw[if_pos (an h)]|false=>rw[if_neg (fQ h)];show(match ae (i%2) 1 with|I=>_|Z=>_)=_;cases a:ae (i%2) 1 with|true=>rw[if_pos (an a)];rfl|false=>rw[if_neg (fQ a)];rfl
theorem Tr.vm(x:Option α):∀(k:Nat)(t:Tr α)(i j:Nat),i<k->(Tr.zx x k t i).get j=if j=i then x else t.get j|0,_,_,_,h=>by omega|k+1,.e,i,j,h=>by rw[Tr.aj_];by_cases d:i=0;rw[if_pos d,Tr.qW];simp_all[Tr.ah7];rw[if_neg d];by_cases b:i%2=1;rw[if_pos b,Tr.qW,Tr.vm x k .e (i/2) (j/2) (by omega)];by_cases c:j=0;rw[if_pos c,if_neg (by omega)];rfl;rw[if_neg c];by_cases a:j%2=1;rw[if_pos a];by_cases e:j=i;rw[if_pos (by omega),if_pos e];rw[if_neg (by omega),if_neg e];rfl;rw[if_neg a,if_neg (by omega)];rfl;rw[if_neg b,Tr.qW,Tr.vm x k .e (i/2 - 1) (j/2 - 1) (by omega)];by_cases c:j=0;rw[if_pos c,if_neg (by omega)];rfl;rw[if_neg c];by_cases a:j%2=1;rw[if_pos a,if_neg (by omega)];rfl;rw[if_neg a];by_cases e:j=i;rw[if_pos (by omega),if_pos e];rw[if_neg (by omega),if_neg e];rfl|k+1,.n l v r,i,j,h=>by rw[Tr.aka];by_cases d:i=0;rw[if_pos d,Tr.qW,Tr.qW];simp_all;rw[if_neg d];by_cases b:i%2=1;rw[if_pos b,Tr.qW,Tr.vm x k l (i/2) (j/2) (by omega),Tr.qW];grind;rw[if_neg b,Tr.qW,Tr.vm x k r (i/2 - 1) (j/2 - 1) (by omega),Tr.qW];grind
theorem Tr.bJ(t:Tr α)(i j:Nat)(x:Option α):(t.put i x).get j=if j=i then x else t.get j:=Tr.vm x (i+1) t i j (by omega)
end
structure Nm where
 f:Nat->Option Nat
 x:Nat->Option ah
 u:Int
 z:Nat->Option Obj
 q:Nat->Option aa
instance:CoeFun Nm λ_=>Nat->Option Nat:=⟨Nm.f⟩
structure Nm.le(ν ed:Nm):Prop where
 f:∀i g,ν i=O g->ed i=O g
 x:∀i d,ν.x i=O d->ed.x i=O d
 u:ed.u=ν.u
 xe:∀j,j<bm->ed.x j=ν.x j
 z:∀g o,ν.z g=O o->ed.z g=O o
 q:∀i v,ν.q i=O v->ed.q i=O v
instance (ν ed:Nm):CoeFun (Nm.le ν ed) λ_=>∀i g,ν i=O g->ed i=O g:=⟨Nm.le.f⟩
theorem Nm.le.refl(ν:Nm):Nm.le ν ν:=⟨λ_ _ h=>h,λ_ _ h=>h,rfl,λ_ _=>rfl,λ_ _ h=>h,λ_ _ h=>h⟩
theorem Nm.le.trans{a b c:Nm}(h:Nm.le a b)(k:Nm.le b c):Nm.le a c:=⟨λi g d=>k i g (h i g d),λi g d=>k.x i g (h.x i g d),k.u.trans h.u,λj e=>(k.xe j e).trans (h.xe j e),λg o l=>k.z g o (h.z g o l),λi v f=>k.q i v (h.q i v f)⟩
def cX(ν:Nm):zj->Option Nat|.k n=>O n|.u c m=>match ν c with|O n=>if m<=n then O (n - m)else G|G=>G
def lM(ν:Nm):OL->Option Fn|.func f=>O (.func f)|.yield l=>match ν l with|O g=>O (.yield g)|G=>G
mutual
noncomputable def ai(ν:Nm):Tm->Option ah|.c n=>O (.n n)|.x i=>ν.x i|.bin o k a b=>(match ai ν a,ai ν b with|O (.n x),O (.n y)=>gH o k x y|_,_=>G)|.conv k a=>(match ai ν a with|O (.n x)=>O (.n (k.wrap x))|_=>G)|.f o l=>match bA ν l with|O ds=>(match oU o with|I=>(match ds with|[]=>O (.n ν.u)|_=>G)|Z=>uJ o ds)|G=>G
noncomputable def bA(ν:Nm):List Tm->Option (List ah)|[]=>O []|t::l=>match ai ν t,bA ν l with|O d,O ds=>O (d::ds)|_,_=>G
end
mutual
theorem aX{ν ed:Nm}(h:Nm.le ν ed):∀(t:Tm)(d:ah),ai ν t=O d->ai ed t=O d|.c _,_,hd=>by simpa[ai]using hd|.x i,d,hd=>by exact h.x i d hd|.bin o k a b,d,hd=>(by simp[ai]at hd⊢;cases ha:ai ν a with|none=>rw[ha]at hd;cases hd|some x=>cases hb:ai ν b with|none=>rw[ha,hb]at hd;cases x<;>cases hd|some y=>rw[ha,hb]at hd;rw[aX h a x ha,aX h b y hb];exact hd)|.conv k a,d,hd=>(by simp[ai]at hd⊢;cases ha:ai ν a with|none=>rw[ha]at hd;cases hd|some x=>rw[ha]at hd;rw[aX h a x ha];exact hd)|.f o l,d,hd=>by simp[ai]at hd⊢;cases ha:bA ν l with|none=>rw[ha]at hd;cases hd|some x=>rw[ha]at hd;rw[Gu h l x ha,h.u];exact hd
theorem Gu{ν ed:Nm}(h:Nm.le ν ed):∀(t:List Tm)(d:List ah),bA ν t=O d->bA ed t=O d|[],_,hd=>by simpa[bA]using hd|a::l,d,hd=>by simp[bA]at hd⊢;cases ha:ai ν a with|none=>rw[ha]at hd;cases hd|some x=>cases hb:bA ν l with|none=>rw[ha,hb]at hd;cases hd|some y=>rw[ha,hb]at hd;rw[aX h a x ha,Gu h l y hb];exact hd
end
def Bs(q:Option aa)(n:Int):Option aa:=match q with|O (.slice a 0 0)=>if n=0 then O (.slice a 0 0)else G|_=>G
theorem l_{q:Option aa}{n:Int}{V:aa}(h:Bs q n=O V):n=0/\q=O V/\∃a,V=.slice a 0 0:=by unfold Bs at h;grind
theorem ma{q a:Option aa}(b:∀v,q=O v->a=O v){n:Int}{V:aa}(h:Bs q n=O V):Bs a n=O V:=by grind[l_]
mutual
noncomputable def den(ν:Nm):AV->Option aa|.bool b=>O (.bool b)|.int k n=>O (.int k n)|.str s=>O (.string ⟨s.toArray⟩)|.kv=>O (.pointer G)|.ptr i off=>(match ν i with|O g=>O (.pointer (O ⟨g,off,G⟩))|G=>G)|.cQ=>O (.slice G 0 0)|.slice i off len c=>(match ν i,cX ν c with|O g,O n=>if len<=n then O (.slice (O ⟨g,off,G⟩) len n)else G|_,_=>G)|.lf=>O (.map G)|.map i=>(match ν i with|O g=>O (.map (O g))|G=>G)|.func f first cap=>(match lM ν f,bw ν first,bw ν cap with|O fn,O a,O b=>O (.func fn a.toArray b.toArray)|_,_,_=>G)|.iq=>O .nilFunc|.iface t v=>(match den ν v with|O V=>O (.iface t V)|G=>G)|.gP=>O .nilIface|.agg l=>(match bw ν l with|O L=>O (.agg L.toArray)|G=>G)|.il l=>(match bw ν l with|O L=>O (.tuple L.toArray)|G=>G)|.ext i=>(match ν.x i with|O (.v v)=>if v.oneCell'=I then O v else G|_=>G)|.mw g off=>O (.pointer (O ⟨g,off,G⟩))|.sym k t=>(match ai ν t with|O (.n n)=>O (.int k n)|_=>G)|.iI t=>(match ai ν t with|O (.n n)=>O (.bool (decide (n≠0)))|_=>G)|.tail i off o2 len c m=>(match ν i,cX ν (.u c m)with|O g,O n=>if n=len then O (.slice (O ⟨g,off,G⟩) 0 0)else O (.slice (O ⟨g,o2,G⟩) 0 (n - len))|_,_=>G)|.iJ t=>(match ai ν t with|O (.s l)=>O (.string ⟨l.toArray⟩)|_=>G)|.deep e t=>(match ai ν t with|O (.r e' v _)=>if e'=e/\v.oneCell'=I then O v else G|_=>G)|.mn e sz t i off=>(match ai ν t,ai ν i with|O (.r e' (.slice (O ⟨g,o,G⟩) _ _) xs),O (.n k)=>if e'=e/\0<=k/\k.toNat<xs.length then O (.pointer (O ⟨g,o+k.toNat*sz+off,G⟩))else G|_,_=>G)|.bK i len c=>(match ν i,ai ν len,cX ν c with|O g,O (.n n),O m=>if g=0 then Bs (ν.q i) n else if 0<=n/\n.toNat<=m then O (.slice (O ⟨g,0,G⟩) n.toNat m)else G|_,_,_=>G)|.jM i _ sz it off=>(match ν i,ai ν it with|O g,O (.n k)=>if 0<=k then O (.pointer (O ⟨g,k.toNat*sz+off,G⟩))else G|_,_=>G)|.gZ i _ sz lo n c=>match ν i,ai ν lo,ai ν n,cX ν c with|O g,O (.n a),O (.n b),O m=>if g=0 then Bs (ν.q i) (if a=0 then b else 1)else if 0<=a/\a<=b/\b.toNat<=m then O (.slice (O (if m=a.toNat then⟨g,0,G⟩else⟨g,a.toNat*sz,G⟩)) (b.toNat - a.toNat) (m - a.toNat))else G|_,_,_,_=>G
noncomputable def bw(ν:Nm):List AV->Option (List aa)|[]=>O []|v::l=>match den ν v,bw ν l with|O V,O L=>O (V::L)|_,_=>G
end
theorem tE{ν b:Nm}(h:Nm.le ν b){c:zj}{n:Nat}(a:cX ν c=O n):cX b c=O n:=by cases c with|k m=>exact a|u c m=>simp[cX]at a⊢;cases d:ν c with|none=>rw[d]at a;cases a|some g=>rw[d]at a;rw[h c g d];exact a
theorem Ye{ν b:Nm}(h:Nm.le ν b){c:OL}{n:Fn}(a:lM ν c=O n):lM b c=O n:=by cases c with|func m=>exact a|yield c=>simp[lM]at a⊢;cases d:ν c with|none=>rw[d]at a;cases a|some g=>rw[d]at a;rw[h c g d];exact a
mutual
theorem cY{ν ed:Nm}(h:Nm.le ν ed):∀(v:AV)(V:aa),den ν v=O V->den ed v=O V
 |.bool _,_,hv=>by simpa[den]using hv
 |.int _ _,_,hv=>by simpa[den]using hv
 |.str _,_,hv=>by simpa[den]using hv
 |.kv,_,hv=>by simpa[den]using hv
 |.ptr i off,V,hv=>by
  simp[den]at hv⊢
  cases hn:ν i with
  |none=>rw[hn]at hv;cases hv
  |some g=>rw[hn]at hv;rw[h i g hn];exact hv
 |.cQ,_,hv=>by simpa[den]using hv
 |.slice i off len c,V,hv=>by
  simp[den]at hv⊢
  cases hn:ν i with
  |none=>rw[hn]at hv;cases hv
  |some g=>
   rw[hn]at hv;rw[h i g hn]
   grind[tE]
 |.lf,_,hv=>by simpa[den]using hv
 |.map i,V,hv=>by
  simp[den]at hv⊢
  cases hn:ν i with
  |none=>rw[hn]at hv;cases hv
  |some g=>rw[hn]at hv;rw[h i g hn];exact hv
 |.func f a b,V,hv=>by
  simp[den]at hv⊢
  cases hf:lM ν f with
  |none=>rw[hf]at hv;cases hv
  |some fn=>
   rw[hf]at hv;rw[Ye h hf]
   cases ha:bw ν a with
   |none=>rw[ha]at hv;cases hv
   |some A=>
    rw[ha]at hv;rw[fo h a A ha]
    cases hb:bw ν b with
    |none=>rw[hb]at hv;cases hv
    |some B=>rw[hb]at hv;rw[fo h b B hb];exact hv
 |.iq,_,hv=>by simpa[den]using hv
 |.iface t v,V,hv=>by
  simp[den]at hv⊢
  cases hn:den ν v with
  |none=>rw[hn]at hv;cases hv
  |some U=>rw[hn]at hv;rw[cY h v U hn];exact hv
 |.gP,_,hv=>by simpa[den]using hv
 |.agg l,V,hv=>by
  simp[den]at hv⊢
  cases hn:bw ν l with
  |none=>rw[hn]at hv;cases hv
  |some U=>rw[hn]at hv;rw[fo h l U hn];exact hv
 |.il l,V,hv=>by
  simp[den]at hv⊢
  cases hn:bw ν l with
  |none=>rw[hn]at hv;cases hv
  |some U=>rw[hn]at hv;rw[fo h l U hn];exact hv
 |.ext i,V,hv=>by
  simp[den]at hv⊢
  cases hn:ν.x i with
  |none=>rw[hn]at hv;cases hv
  |some d=>rw[hn]at hv;rw[h.x i d hn];exact hv
 |.mw _ _,_,hv=>by simpa[den]using hv
 |.sym k t,V,hv=>by
  grind[den,aX]
 |.iI t,V,hv=>by
  grind[den,aX]
 |.tail i off o2 len c m,V,hv=>by
  simp[den]at hv⊢
  cases hn:ν i with
  |none=>rw[hn]at hv;cases hv
  |some g=>
   rw[hn]at hv;rw[h i g hn]
   grind[tE]
 |.iJ t,V,hv=>by
  grind[den,aX]
 |.deep e t,V,hv=>by
  grind[den,aX]
 |.mn e sz t i off,V,hv=>by
  grind[den,aX]
 |.bK i len c,V,hv=>by
  simp only[den]at hv⊢
  cases hn:ν i with
  |none=>rw[hn]at hv;cases hv
  |some g=>
   rw[hn]at hv;rw[h i g hn]
   cases hl:ai ν len with
   |none=>rw[hl]at hv;cases hv
   |some d=>
    rw[hl]at hv;rw[aX h len d hl]
    cases hc:cX ν c with
    |none=>rw[hc]at hv;simp_all
    |some n=>
     rw[hc]at hv;rw[tE h hc]
     cases d with
     |n m=>
      simp only at hv⊢
      split at hv
      ·rename_i hg
       rw[if_pos hg]
       exact ma (λv hv=>h.q i v hv) hv
      simp_all
     |_=>cases hv
 |.jM i e sz it off,V,hv=>by
  simp[den]at hv⊢
  cases hn:ν i with
  |none=>rw[hn]at hv;cases hv
  |some g=>
   rw[hn]at hv;rw[h i g hn]
   grind[aX]
 |.gZ i e sz lo n c,V,hv=>by
  simp only[den]at hv⊢
  cases hn:ν i with
  |none=>rw[hn]at hv;cases hv
  |some g=>
   rw[hn]at hv;rw[h i g hn]
   cases hl:ai ν lo with
   |none=>rw[hl]at hv;cases hv
   |some d=>
    rw[hl]at hv;rw[aX h lo d hl]
    cases Ee:ai ν n with
    |none=>rw[Ee]at hv;simp_all
    |some d2=>
     rw[Ee]at hv;rw[aX h n d2 Ee]
     cases hc:cX ν c with
     |none=>rw[hc]at hv;simp_all
     |some m=>
      rw[hc]at hv;rw[tE h hc]
      cases d with
      |n a=>cases d2 with
       |n b=>
        simp only at hv⊢
        split at hv
        ·rename_i hg
         rw[if_pos hg]
         exact ma (λv hv=>h.q i v hv) hv
        simp_all
       |_=>cases hv
      |_=>cases hv
theorem fo{ν ed:Nm}(h:Nm.le ν ed):∀(l:List AV)(L:List aa),bw ν l=O L->bw ed l=O L|[],_,hl=>by simpa[bw]using hl|v::l,L,hl=>by simp[bw]at hl⊢;cases hv:den ν v with|none=>rw[hv]at hl;cases hl|some V=>rw[hv]at hl;rw[cY h v V hv];cases hr:bw ν l with|none=>rw[hr]at hl;cases hl|some R=>rw[hr]at hl;rw[fo h l R hr];exact hl
end
section
variable{ν:Nm}
theorem gu{L:List aa}(h:bw ν []=O L):L=[]:=by simpa[bw]using h.symm
theorem cd{v:AV}{l:List AV}{L:List aa}(h:bw ν (v::l)=O L):∃V R,den ν v=O V/\bw ν l=O R/\L=V::R:=by grind[bw]
theorem eQ{v:AV}{l:List AV}{V:aa}{R:List aa}(h:den ν v=O V)(k:bw ν l=O R):bw ν (v::l)=O (V::R):=by simp[bw,h,k]
theorem fK:∀{l:List AV}{L:List aa},bw ν l=O L->L.length=l.length|[],_,h=>by rw[gu h];rfl|v::l,_,h=>by obtain⟨V,R,_,a,rfl⟩:=cd h;simp[fK a]
theorem Aq:∀{l:List AV}{L:List aa},bw ν l=O L->∀{i:Nat}{v:AV},l[i]? =O v->∃V,L[i]? =O V/\den ν v=O V|[],_,h,i,v,a=>by simp at a|u::l,_,h,i,v,a=>by obtain⟨V,R,c,b,rfl⟩:=cd h;cases i with|zero=>simp_all|succ i=>simpa using Aq b (by grind)
theorem iE:∀{l m:List AV}{L M:List aa},bw ν l=O L->bw ν m=O M->bw ν (l++m)=O (L++M)|[],m,L,M,h,k=>by rw[gu h];exact k|v::l,m,L,M,h,k=>by obtain⟨V,R,a,b,rfl⟩:=cd h;exact eQ a (iE b k)
theorem wF:∀{l:List AV}{L:List aa}(n:Nat),bw ν l=O L->bw ν (l.take n)=O (L.take n)|[],_,n,h=>by rw[gu h];simp[bw]|v::l,_,0,h=>by simp[bw]|v::l,_,n+1,h=>by obtain⟨V,R,a,b,rfl⟩:=cd h;exact eQ a (wF n b)
theorem BD:∀{l:List AV}{L:List aa}(n:Nat),bw ν l=O L->bw ν (l.drop n)=O (L.drop n)|[],_,n,h=>by rw[gu h];simp[bw]|v::l,_,0,h=>h|v::l,_,n+1,h=>by obtain⟨V,R,b,a,rfl⟩:=cd h;exact BD n a
theorem P4:∀{l:List AV}{L:List aa}{v:AV}{V:aa}(n:Nat),bw ν l=O L->den ν v=O V->bw ν (l.set n v)=O (L.set n V)|[],_,_,_,n,h,_=>by rw[gu h];simp[bw]|u::l,_,v,V,0,h,k=>by grind[cd,eQ]|u::l,_,v,V,n+1,h,k=>by obtain⟨U,R,a,b,rfl⟩:=cd h;exact eQ a (P4 n b k)
theorem wG:∀{vs:List AV}{l:List AV}{L Vs:List aa}(off:Nat),bw ν l=O L->bw ν vs=O Vs->bw ν (KR l off vs)=O (bx L off Vs)|[],l,L,Vs,off,h,k=>by rw[gu k];exact h|v::vs,l,L,_,off,h,k=>by obtain⟨V,R,a,b,rfl⟩:=cd k;exact wG (off+1) (P4 off h a) b
theorem Li{l r:List AV}{off n:Nat}(h:Em l off n=O r):r=(l.drop off).take n/\r.length=n:=by grind[Em,an]
theorem sq{l r:List AV}{L:List aa}{off n:Nat}(b:bw ν l=O L)(h:Em l off n=O r):bw ν r=O ((L.drop off).take n)/\((L.drop off).take n).length=n:=by obtain⟨rfl,a⟩:=Li h;grind[fK,wF,BD]
theorem one_den{v:AV}{V:aa}(h:oS v=I)(hv:den ν v=O V):V.oneCell'=I/\plainCell V=I/\V.cells= #[V]:=by cases v;(case agg=>cases h);(case il=>cases h);(case ext i=>simp[den]at hv;split at hv;rename_i v _;split at hv;(rename_i ho;simp at hv;subst hv;cases v<;>first|exact⟨rfl,rfl,rfl⟩|(cases ho));cases hv;cases hv);(case deep e t=>simp[den]at hv;split at hv;rename_i e' v xs hx;split at hv;(rename_i ho;have ho:=ho.2;simp at hv;subst hv;cases v<;>first|exact⟨rfl,rfl,rfl⟩|(cases ho));cases hv;cases hv);(all_goals (simp only[den]at hv;repeat' split at hv));(all_goals try(cases hv;done));(all_goals try(obtain⟨_,_,_,rfl⟩:=l_ hv;exact⟨rfl,rfl,rfl⟩));(all_goals (injection hv with hv;subst hv));all_goals exact⟨rfl,rfl,rfl⟩
theorem qq:∀{l:List AV}{L:List aa},l.all oS=I->bw ν l=O L->(∀u∈L,u.oneCell'=I)/\L.all plainCell=I|[],_,_,h=>by rw[gu h];simp|v::l,_,a,h=>by obtain⟨V,R,c,b,rfl⟩:=cd h;simp only[List.all_cons,ay]at a;have⟨e,d⟩:=qq a.2 b;grind[one_den]
theorem lY{v:AV}{V:aa}(a:den ν v=O V)(b:(da v).all oS=I):bw ν (da v)=O V.cells.toList:=by cases v;(case agg l=>grind[den,da,Value.cells]);all_goals (simp only[da,List.all_cons,List.all_nil,Bool.and_true]at b;rw[show da _=[_]from rfl,(one_den b a).2.2];simp[bw,a])
theorem gB{l:List AV}{V:aa}(a:den ν (.agg l)=O V):∃L,bw ν l=O L/\V=.agg L.toArray:=by grind[den]
theorem wq{l:List AV}{V:aa}(a:den ν (.il l)=O V):∃L,bw ν l=O L/\V=.tuple L.toArray:=by grind[den]
theorem pa{k:bu}{t:Tm}{V:aa}(a:den ν (.sym k t)=O V):∃n,ai ν t=O (.n n)/\V=.int k n:=by grind[den]
theorem vn{t:Tm}{V:aa}(a:den ν (.iI t)=O V):∃n,ai ν t=O (.n n)/\V=.bool (decide (n≠0)):=by grind[den]
theorem jT{i off:Nat}{V:aa}(a:den ν (.ptr i off)=O V):∃g,ν i=O g/\V=.pointer (O ⟨g,off,G⟩):=by grind[den]
theorem jr{i:Nat}{V:aa}(a:den ν (.map i)=O V):∃g,ν i=O g/\V=.map (O g):=by grind[den]
theorem gX{i off len:Nat}{c:zj}{V:aa}(a:den ν (.slice i off len c)=O V):∃g n,ν i=O g/\cX ν c=O n/\len<=n/\V=.slice (O ⟨g,off,G⟩) len n:=by grind[den]
theorem qt{f:OL}{a b:List AV}{V:aa}(c:den ν (.func f a b)=O V):∃fn A B,lM ν f=O fn/\bw ν a=O A/\bw ν b=O B/\V=.func fn A.toArray B.toArray:=by grind[den]
theorem WL{v:aa}{a:AV}(h:ofC v=O a):den ν a=O v:=by
 unfold ofC at h
 split at h<;>first
  |(injection h with h;subst h;rfl)
  |grind
  |(rename_i s;injection h with h;subst h;cases s;simp[den])
theorem FG:∀{l:List aa}{m:List AV},ji ofC l=O m->bw ν m=O l|[],m,h=>by simp only[ji,aG]at h;subst h;rfl|v::l,m,h=>by simp[ji]at h;split at h;cases h;rename_i y a;split at h;cases h;rename_i r b;simp at h;subst h;exact eQ (WL a) (FG b)
theorem WM{v:aa}{a:AV}(h:ofV v=O a):den ν a=O v:=by unfold ofV at h;split at h;rename_i cs;rw[bZ]at h;obtain⟨m,b,rfl⟩:=h;simp[den,FG b];rename_i cs;rw[bZ]at h;obtain⟨m,b,rfl⟩:=h;simp[den,FG b];exact WL h
end
end
section
open RowKit
structure rF(L:List Nat)(w w':aj):Prop where
 os:w'.os=w.os
 tape:w'.tape=w.tape
 output:w'.output=w.output
 size:w.heap.size<=w'.heap.size
 block:∀k,k<w.heap.size->k∉L->w'.heap[k]? =w.heap[k]?
theorem rF.refl(L:List Nat)(w:aj):rF L w w:=⟨rfl,rfl,rfl,ba _,λ_ _ _=>rfl⟩
theorem rF.trans{L:List Nat}{a b c:aj}(h:rF L a b)(k:rF L b c):rF L a c:=⟨k.os.trans h.os,k.tape.trans h.tape,k.output.trans h.output,dU h.size k.size,λi e d=>(k.block i (jU e h.size) d).trans (h.block i e d)⟩
theorem rF.drew(L:List Nat)(w:aj):rF L w w.drew:=⟨rfl,rfl,rfl,ba _,λ_ _ _=>rfl⟩
theorem rF.alloc(L:List Nat)(w:aj)(o:Obj):rF L w (w.alloc o):=⟨rfl,rfl,rfl,by simp,λk a _=>Below.heap_alloc _ _ _ a⟩
theorem rF.below{w w':aj}(h:rF [] w w'):Below w.heap.size w w':=⟨h.os,h.tape,h.output,h.size,λk a=>h.block k a (by simp)⟩
theorem rF.acL{L:List Nat}{w w':aj}(h:Below w.heap.size w w'):rF L w w':=⟨h.os,h.tape,h.output,h.size,λk a _=>h.block k a⟩
structure Fact where
 α:Type
 R:Rp α
 cs:List aa
 x:α
def gs(H:List Bk):List Nat:=H.map (·.g)
structure Ob where
 bs:List Nat
 ok:aj->(Nat->Prop)->Prop
 dz:∀{w w':aj}{U U':Nat->Prop},(∀b∈bs,w'.heap[b]? =w.heap[b]?)->Holds U w w'->(∀b,U b->b<w.heap.size->U' b)->ok w U->ok w' U'
structure Fc where
 E:List (Addr×List aa)
 F:List Fact
 M:List Nat:=[]
 R:List Ob:=[]
 X:List Nat:=[]
 Y:List Nat:=[]
 K:List Nat->aj->Prop:=λ_ _=>True
section
variable{D:Nat->Prop}{w0 w w':aj}{L0:List Nat}{H H':List Bk}{F:Fc}
end
section
variable{r':Option Nat}{P:aw}{ops:Array aY}{Q:Exit->Act->aj->Prop}{D:Nat->Prop}{w0 w:aj}{L0:List Nat}{H H':List Bk}{F:Fc}{N:Nat}{M:List Nat}{T T':List (Nat×aa)}
end
end
end Go.Proofs.YtinknfobdleeeaaGreat
