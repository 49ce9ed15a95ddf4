/-
  A PART. Conditions: none.
-/
import Derived.Great.BuildSlice
import Derived.Great.FillDense
import Derived.Test.YtlhemmpklhhgoaaGreatQf1
set_option linter.unusedSimpArgs false
set_option linter.unusedVariables false
set_option maxHeartbeats 8000000
namespace Go.Proofs.YtlhemmpklhhgoaaGreat
def aw{α:Type}(f:Nat->α)(i:Nat)(x:α):Nat->α:=fun j=>if j=i then x else f j
@[simp] theorem aQ {α:Type} (f:Nat->α) (i:Nat) (x:α) (j:Nat):aw f i x j=if j=i then x else f j:=rfl
structure S where
 env:Nat->V
 o:Nat->aa
 nx:Nat
def S.H (s:S):Hp:=⟨s.o,fun id=>id<s.nx⟩
def V.dM:Value->V
 | .int k n=> .d (.int k n)| .bool b=> .d (.bool b)| .string s=> .d (.str s.data.toList)
 | .nilIface=> .d .fE| .pointer none=> .d .mu| .nilFunc=> .d .cJ| .map none=> .d .dX
 | .slice none 0 0=> .ao
 |_=> .ai
def FN:List V->Option (List D)
 |[]=>some []
 | .d x::vs=>(FN vs).map (x::·)
 |_::_=>none
def nM(cs:List V):V:=match FN cs with|some ds=> .d (.agg ds)|none=> .agg cs
def V.ofConst:Value->V
 | .agg a=>if a.toList.all Value.oneCell' then nM (a.toList.map V.dM)else .ai
 |v=>V.dM v
def S.ev (s:S):Operand->V
 | .tmp t=>s.env t
 | .const v=>V.ofConst v
 | .func f=> .func (.func f) [] []
 | .global _=> .ai
def D.cells:D->List D
 | .agg cs=>cs
 |x=>[x]
def V.cells:V->Option (List V)
 | .d x=>some (x.cells.map .d)
 | .agg cs=>some cs
 | .cf _| .ai=>none
 |v=>some [v]
mutual
def ef(o:Nat->aa):V->Option D
 | .d x=>some x
 | .ao=>some (.sl [])
 | .pY es=>some (.sl es)
 | .osl id ep=>match o id with
   | .arr gM _ _ es| .vg gM es=>if ep=gM then some (.sl es)else none
   |_=>none
 | .mp id=>match o id with
   | .map _ _ l=>some (.mp (l.map (·.1)) (l.map (·.2)))
   | .bZ l=>some (.mp (l.map (·.1)) (l.map (·.2)))
   |_=>none
 | .agg cs=>(cA o cs).map .agg
 | .iface t x=>(ef o x).map (.iface t)
 |_=>none
def cA(o:Nat->aa):List V->Option (List D)
 |[]=>some []
 |v::vs=>(ef o v).bind fun x=>(cA o vs).map (x::·)
end
mutual
def V.ids:V->List Nat
 | .osl id _=>[id]
 | .mp id=>[id]
 | .agg cs=>V.bw cs
 | .iface _ x=>x.ids
 |_=>[]
def V.bw:List V->List Nat
 |[]=>[]
 |v::vs=>v.ids++V.bw vs
end
def bK(o:Nat->aa)(ids:List Nat):List (Nat×aa):=
 ids.map fun id=>(id,match o id with| .arr ep _ _ es=> .vg ep es| .map _ _ l=> .bZ l|o=>o)
def tp(o:Nat->aa)(ids:List Nat):List (Nat×aa):=
 ids.filterMap fun id=>match o id with| .arr ep _ _ es=>some (id, .vg ep es)|_=>none
def put(o:Nat->aa)(Δ:List (Nat×aa)):Nat->aa:=Δ.foldl (fun f x=>aw f x.1 x.2) o
def Hp.put (H:Hp)(Δ:List (Nat×aa)):Hp:={o:=YtlhemmpklhhgoaaGreat.put H.o Δ,us:=fun id=>H.us id\/id∈Δ.map (·.1)}
def cy(P:Program)(t:TypeId):Option (List V):=
 match P.info? t with
 |some i=>match i.zero with
  |some z=>if z.cells.size=i.size/\z.cells.toList.all Value.oneCell'=true then some (z.cells.toList.map V.dM)else none
  |none=>none
 |none=>none
def du(P:Program)(t:TypeId):Option Bool:=
 match P.underlying t with
 |some (.struct _)|some (.array _ _)=>some true
 |some _=>some false
 |none=>none
def bX(P:Program)(t:TypeId)(f:Nat):Option Nat:=
 match P.underlying t with
 |some (.struct fs)=>match fs[f]? with
  |some fd=>if P.cellsOf fd.type=0 then none else some fd.offset
  |none=>none
 |_=>none
def b7(P:Program)(t:TypeId):Option TypeId:=
 match P.underlying t with
 |some (.slice e)=>some e
 |_=>none
def A6(P:Program)(t:TypeId):Option (Nat×TypeId):=
 match P.underlying t with
 |some (.array n e)=>some (n,e)
 |_=>none
def de(P:Program)(t:TypeId):Option (List (Nat×Nat)):=
 match P.underlying t with
 |some (.struct fs)=>if fs.toList.all (fun f=>(P.info? f.type).isSome)=true then some (fs.toList.map fun f=>(f.offset,P.cellsOf f.type))else none
 |some (.array n e)=>if(P.info? e).isSome=true then some ((List.range n).map fun i=>(i*P.cellsOf e,P.cellsOf e))else none
 |_=>none
def nW(P:Program)(t:TypeId):Option IntKind:=
 match P.underlying t with
 |some (.int k)=>some k
 |_=>none
def fF(P:Program)(t:TypeId)(cs:List V)(off:Nat):Option V:=
 match du P t with
 |some true=>if off+P.cellsOf t<=cs.length then some (nM ((cs.drop off).take (P.cellsOf t)))else none
 |some false=>cs[off]?
 |none=>none
def A7(P:Program)(t:TypeId)(cs:List V)(off:Nat)(v:V):Option (List V):=
 match v.cells with
 |some us=>if us.length=P.cellsOf t/\(0<us.length\/(P.info? t).isSome=true)/\off+us.length<=cs.length then some (cs.take off++us++cs.drop (off+us.length))else none
 |none=>none
def uA(places:List (Nat×Nat))(cs:List V):List (Nat×V)->Option (List V)
 |[]=>some cs
 |(i,v)::rest=>match places[i]?,v.cells with
  |some (off,size),some us=>if us.length=size/\off+us.length<=cs.length then uA places (cs.take off++us++cs.drop (off+us.length)) rest else none
  |_,_=>none
def D.put (e:D)(off:Nat)(us:List D):Option D:=
 match e with
 | .agg cs=>if off+us.length<=cs.length then some (.agg (cs.take off++us++cs.drop (off+us.length)))else none
 |_=>match off,us with
  |0,[u]=>some u
  |_,_=>none
def acO(op:BinOp)(a b:Int):Option Bool:=
 match op with
 | .eql=>some (a==b)| .neq=>some (a !=b)| .lss=>some (decide (a<b))| .leq=>some (decide (a<=b))
 | .gtr=>some (decide (a>b))| .geq=>some (decide (a≥b))
 |_=>none
def wA(op:BinOp)(k:IntKind)(x y:Int):Option Int:=
 let a:=BitVec.ofInt k.bits x
 let b:=BitVec.ofInt k.bits y
 match op with
 | .and=>some (k.wrap (a&&&b).toNat)
 | .or=>some (k.wrap (a|||b).toNat)
 | .xor=>some (k.wrap (a ^^^ b).toNat)
 | .andNot=>some (k.wrap (a&&& ~~~b).toNat)
 |_=>none
def QP(op:BinOp)(k:IntKind)(a b:Int)(K:V->Prop):Prop:=
 match op with
 | .add=>K (.d (.int k (k.wrap (a+b))))
 | .sub=>K (.d (.int k (k.wrap (a - b))))
 | .mul=>K (.d (.int k (k.wrap (a*b))))
 | .quo=>b≠0/\K (.d (.int k (k.wrap (a.tdiv b))))
 | .rem=>b≠0/\K (.d (.int k (a.tmod b)))
 | .and| .or| .xor| .andNot=>∃r,wA op k a b=some r/\K (.d (.int k r))
 | .shl| .shr=>False
 |op=>∃r,acO op a b=some r/\K (.d (.bool r))
def MP(P:Program)(t:TypeId)(x y:D)(r:Bool):Prop:=
 ∀ (B:Nat->Prop) (w:World) (u v:Value),D.den B w x u->D.den B w y v->(Op.equal t u v).run P w= .ok r w/\∀ (op:BinOp) (a b:Operand),(eqGuard op t a b u v).run P w= .ok () w
def MQ(P:Program)(op:BinOp)(t:TypeId)(x y:V)(K:V->Prop):Prop:=
 match x,y with
 | .d (.int k a), .d (.int k' b)=>k=k'/\QP op k a b K
 | .d (.bool a), .d (.bool b)=>match op with
   | .eql=>P.underlying t=some .bool/\K (.d (.bool (a==b)))
   | .neq=>P.underlying t=some .bool/\K (.d (.bool (a !=b)))
   |_=>False
 | .d (.str a), .d (.str b)=>match op with
   | .eql=>K (.d (.bool (a==b)))
   | .neq=>K (.d (.bool (a !=b)))
   |_=>False
 | .d (.agg a), .d (.agg b)=>match op with
   | .eql=>∃r,MP P t (.agg a) (.agg b) r/\K (.d (.bool r))
   | .neq=>∃r,MP P t (.agg a) (.agg b) r/\K (.d (.bool !r))
   |_=>False
 |_,_=>False
def unV(op:UnOp)(x:V)(K:V->Prop):Prop:=
 match op,x with
 | .neg, .d (.int k n)=>K (.d (.int k (k.wrap (0 - n))))
 | .not, .d (.bool b)=>K (.d (.bool !b))
 |_,_=>False
def CW(c a b:V)(K:V->Prop):Prop:=
 match c with
 | .d (.bool t)=>(t=true->K a)/\(t=false->K b)
 |_=>False
def MR(P:Program)(t:TypeId)(o:Nat->aa)(x:V)(K:V->List Nat->Prop):Prop:=
 match P.underlying t with
 |some (.slice _)=>match x with
  | .d (.sl es)=>K (.d (.int .i64 es.length)) []
  | .ao=>K (.d (.int .i64 0)) []
  | .pY es=>K (.d (.int .i64 es.length)) []
  | .osl id ep=>match o id with
    | .arr gM _ _ es| .vg gM es=>ep=gM/\K (.d (.int .i64 es.length)) [id]
    |_=>False
  |_=>False
 |some .string=>match x with
  | .d (.str s)=>K (.d (.int .i64 s.length)) []
  |_=>False
 |some (.array n _)=>K (.d (.int .i64 n)) []
 |_=>False
def kH(P:Program)(o:Nat->aa)(t:TypeId)(x ix:V)(K:V->List Nat->Prop):Prop:=
 match ix with
 | .d (.int _ i)=>match b7 P t with
   |some e=>match x with
    | .d (.sl es)=>0<=i/\∃y,es[i.toNat]? =some y/\y.cells.length=P.cellsOf e/\0<P.cellsOf e/\K (.pp y.cells 0) []
    | .pY es=>0<=i/\∃y,es[i.toNat]? =some y/\y.cells.length=P.cellsOf e/\0<P.cellsOf e/\K (.pp y.cells 0) []
    | .osl id ep=>match o id with
      | .arr gM _ sz es=>ep=gM/\0<=i/\i.toNat<es.length/\sz=P.cellsOf e/\0<P.cellsOf e/\K (.pe id ep i.toNat sz 0) [id]
      | .vg gM es=>ep=gM/\0<=i/\∃y,es[i.toNat]? =some y/\y.cells.length=P.cellsOf e/\0<P.cellsOf e/\K (.pp y.cells 0) [id]
      |_=>False
    |_=>False
   |none=>match A6 P t with
    |some (n,e)=>0<=i/\i<n/\(P.info? e).isSome=true/\(match x with
     | .ptr id off=>(o id).cF=true/\K (.ptr id (off+i.toNat*P.cellsOf e)) []
     | .pp cs off=>K (.pp cs (off+i.toNat*P.cellsOf e)) []
     | .pe id ep j sz off=>(o id).cu=some ep/\K (.pe id ep j sz (off+i.toNat*P.cellsOf e)) []
     |_=>False)
    |none=>False
 |_=>False
def kI(P:Program)(o:Nat->aa)(t:TypeId)(x:V)(f:Nat)(K:V->Prop):Prop:=
 match bX P t f with
 |some q=>match x with
  | .ptr id off=>(o id).cF=true/\K (.ptr id (off+q))
  | .pp cs off=>K (.pp cs (off+q))
  | .pe id ep j sz off=>(o id).cu=some ep/\K (.pe id ep j sz (off+q))
  |_=>False
 |none=>False
def CX(P:Program)(o:Nat->aa)(t:TypeId)(x:V)(K:V->List Nat->Prop):Prop:=
 match x with
 | .ptr id off=>match o id with
   | .row cs=>∃v,fF P t cs off=some v/\K v [id]
   |_=>False
 | .pp cs off=>∃v,fF P t (cs.map .d) off=some v/\K v []
 | .pe id ep i sz off=>match o id with
   | .arr gM _ s9 es=>ep=gM/\sz=s9/\∃e,es[i]? =some e/\∃v,fF P t (e.cells.map .d) off=some v/\K v [id]
   |_=>False
 |_=>False
def wB(P:Program)(o:Nat->aa)(t:TypeId)(x v:V)(K:List (Nat×aa)->List Nat->Prop):Prop:=
 match x with
 | .ptr id off=>match o id with
   | .row cs=>∃cs',A7 P t cs off v=some cs'/\K [(id, .row cs')] [id]
   |_=>False
 | .pe id ep i s9 off=>match o id with
   | .arr gM ty sz es=>ep=gM/\s9=sz/\∃e,es[i]? =some e/\∃y,ef o v=some y/\y.cells.length=P.cellsOf t/\0<y.cells.length/\v.ids.all (· !=id)=true/\
    ∃e',e.put off y.cells=some e'/\K (bK o v.ids++[(id, .arr ep ty sz (es.set i e'))]) (id::v.ids)
   |_=>False
 |_=>False
def jA(P:Program)(o:Nat->aa)(fr:Nat)(t:TypeId)(len:Nat)(parts:List (Nat×V))(K:V->List (Nat×aa)->List Nat->Prop):Prop:=
 match b7 P t with
 |some e=>(len=0/\parts=[]/\0<P.cellsOf e/\K (.osl fr 0) [(fr, .arr 0 e (P.cellsOf e) [])] [])\/(parts.map (·.1)=List.range len)/\(cy P e).isSome=true/\0<len/\0<P.cellsOf e/\len*P.cellsOf e<=2^24/\
  ∃ds,cA o (parts.map (·.2))=some ds/\(∀x∈ds,x.cells.length=P.cellsOf e)/\
   K (.osl fr 0) (bK o (V.bw (parts.map (·.2)))++[(fr, .arr 0 e (P.cellsOf e) ds)]) (V.bw (parts.map (·.2)))
 |none=>False
def CY(P:Program)(e:TypeId):Option D:=
 match cy P e with
 |some z=>match cA (fun _=> .no) z,du P e with
  |some ds,some true=>some (.agg ds)
  |some [x],some false=>some x
  |_,_=>none
 |none=>none
def kJ(P:Program)(fr:Nat)(t:TypeId)(l c:V)(K:V->List (Nat×aa)->Prop):Prop:=
 match b7 P t,l,c with
 |some e, .d (.int _ n), .d (.int _ m)=>n=m/\0<=n/\0<P.cellsOf e/\P.bytesOf e*n.toNat<=2^47/\n.toNat<=2^47/\
  ∃x,CY P e=some x/\K (.osl fr 0) [(fr, .arr 0 e (P.cellsOf e) (List.replicate n.toNat x))]
 |_,_,_=>False
def fG(o:Nat->aa)(x:V):Option (List D):=
 match ef o x with
 |some (.sl es)=>some es
 |_=>none
def rq(P:Program)(o:Nat->aa)(fr:Nat)(ts:Array TypeId)(x y:V)(K:V->List (Nat×aa)->List Nat->Prop):Prop:=
 match ts.toList with
 |[t,t']=>t=t'/\(match b7 P t with
  |some e=>∃new,fG o y=some new/\0<P.cellsOf e/\(cy P e).isSome=true/\(∀z∈new,z.cells.length=P.cellsOf e)/\(match x with
   | .ao=>new.length<=2^47/\new.length*P.bytesOf e<=2^47/\K (.osl fr 0) [(fr, .arr 0 e (P.cellsOf e) new)] y.ids
   | .pY es=>(∀z∈es,z.cells.length=P.cellsOf e)/\(if new=[]then K (.pY es) [] y.ids else es.length+new.length<=2^40/\(es.length+new.length)*P.bytesOf e<=2^40/\K (.osl fr 0) [(fr, .arr 0 e (P.cellsOf e) (es++new))] y.ids)
   | .osl id ep=>match o id with
     | .arr gM ty sz es=>ep=gM/\ty=e/\sz=P.cellsOf e/\es.length+new.length<=2^47/\(es.length+new.length)*P.bytesOf e<=2^47/\
      K (.osl id (ep+1)) [(id, .arr (ep+1) ty sz (es++new))] (id::y.ids)
     |_=>False
   |_=>False)
  |none=>False)
 |_=>False
def pa(isMax:Bool)(args:List V)(K:V->Prop):Prop:=
 match args with
 |[.d (.int k a), .d (.int k' b)]=>k=k'/\K (.d (.int k (if isMax then(if b>a then b else a)else(if b<a then b else a))))
 |_=>False
def mz(o:Nat->aa)(x:V)(K:V->Prop):Prop:=
 match x with
 | .ptr id off=>(o id).cF=true/\K (.ptr id off)
 | .pp cs off=>K (.pp cs off)
 | .func (.func f) first cap=>K (.func (.func f) first cap)
 |_=>False
def jU(P:Program)(t:TypeId)(xs:List D)(off:Nat):Option D:=
 match du P t with
 |some true=>if off+P.cellsOf t<=xs.length then some (.agg ((xs.drop off).take (P.cellsOf t)))else none
 |some false=>xs[off]?
 |none=>none
inductive agm where
 |int|bool|str|struct (fs:List (TypeId×Nat))|arr (n:Nat) (e:TypeId)
def b8(P:Program)(t:TypeId):Option agm:=
 match P.underlying t with
 |some (.int _)=>some .int
 |some .bool=>some .bool
 |some .string=>some .str
 |some (.struct fs)=>if(!P.stoodInHeld t&&fs.toList.all (fun f=>f.name != "_"))=true then some (.struct (fs.toList.map fun f=>(f.type,f.offset)))else none
 |some (.array n e)=>if(P.info? e).isSome=true then some (.arr n e)else none
 |_=>none
def Kj(a b:Option Bool):Option Bool:=
 match a,b with
 |some a,some b=>some (a&&b)
 |_,_=>none
def CZ(f:TypeId->Nat->Option Bool):List (TypeId×Nat)->Option Bool
 |[]=>some true
 |x::l=>Kj (f x.1 x.2) (CZ f l)
def C0(f:Nat->Option Bool):Nat->Nat->Option Bool
 |0,_=>some true
 |n+1,i=>Kj (f i) (C0 f n (i+1))
def UA(f:D->D->Option Bool)(x y:Option D):Option Bool:=
 match x,y with
 |some x,some y=>f x y
 |_,_=>none
def rh(P:Program):Nat->TypeId->D->D->Option Bool
 |0,_,_,_=>none
 |d+1,t,x,y=>match b8 P t with
  |some .int=>match x,y with| .int k a, .int k' b=>if k=k' then some (a==b)else none|_,_=>none
  |some .bool=>match x,y with| .bool a, .bool b=>some (a==b)|_,_=>none
  |some .str=>match x,y with| .str a, .str b=>some (a==b)|_,_=>none
  |some (.struct fs)=>match x,y with
   | .agg xs, .agg ys=>CZ (fun u off=>UA (rh P d u) (jU P u xs off) (jU P u ys off)) fs
   |_,_=>none
  |some (.arr n e)=>match x,y with
   | .agg xs, .agg ys=>C0 (fun i=>UA (rh P d e) (jU P e xs (i*P.cellsOf e)) (jU P e ys (i*P.cellsOf e))) n 0
   |_,_=>none
  |none=>none
abbrev gS:=V×List (Nat×aa)×List Nat
def dz(x:Option gS)(K:V->List (Nat×aa)->List Nat->Prop):Prop:=
 match x with
 |some (v,Δ,rd)=>K v Δ rd
 |none=>False
def Kk(x:Option V)(agn:Nat):Option Nat:=
 match x with
 |none=>some agn
 |some (.d (.int _ i))=>if 0<=i then some i.toNat else none
 |_=>none
def qw(o:Nat->aa)(x:V):Option (Nat×Nat):=
 match x with
 | .ptr id off=>if(o id).cF=true then some (id,off)else none
 |_=>none
def qx(o:Nat->aa)(x:V):Option (Nat×Nat×Nat×List V):=
 match x with
 | .zA id off n=>match o id with
   | .row cs=>some (id,off,n,cs)
   |_=>none
 |_=>none
def FO(P:Program)(o:Nat->aa)(t:TypeId)(x:V)(lo hi mx:Option V):Option gS:=
 match x with
 | .ao=>match lo,hi,mx with
   |none,some (.d (.int _ k)),none=>match b7 P t with
    |some e=>if k=0/\(P.info? e).isSome=true then some (.ao,[],[])else none
    |none=>none
   |_,_,_=>none
 | .osl id ep=>match lo,hi,mx with
   |none,some (.d (.int _ k)),none=>match b7 P t,o id with
    |some e, .arr gM ty sz es=>if k=0/\ep=gM/\(P.info? e).isSome=true then some (.osl id (ep+1),[(id, .arr (ep+1) ty sz [])],[id])
     else if 0<k/\k.toNat<=es.length/\ep=gM/\(P.info? e).isSome=true then some (.osl id (ep+1),[(id, .arr (ep+1) ty sz (es.take k.toNat))],[id])else none
    |_,_=>none
   |_,_,_=>none
 |_=>none
def rr(P:Program)(o:Nat->aa)(t:TypeId)(x:V)(lo hi mx:Option V):Option gS:=
 match b7 P t with
 |some e=>match fG o x,Kk lo 0 with
  |some es,some l=>match Kk hi es.length with
   |some h=>if l<=h/\h<=es.length/\(P.info? e).isSome=true/\(l=0\/es.all (fun y=>y.cells.length==P.cellsOf e)=true)then match mx with
    |none=>some (.d (.sl ((es.take h).drop l)),bK o x.ids,x.ids)
    |some m=>match hi,Kk (some m) 0 with
     |some _,some m=>if h<=m/\m<=es.length then some (if h=m then .pY ((es.take h).drop l)else .d (.sl ((es.take h).drop l)),bK o x.ids,x.ids)else none
     |_,_=>none
    else none
   |none=>none
  |_,_=>none
 |none=>match A6 P t,lo,hi,mx with
  |some (n,e),none,none,none=>match qw o x with
   |some (id,off)=>if(P.info? e).isSome=true then some (.zA id off n,[],[id])else none
   |none=>none
  |_,_,_,_=>none
def tq(P:Program)(o:Nat->aa)(t:TypeId)(x:V)(lo hi mx:Option V):Option gS:=
 match FO P o t x lo hi mx with
 |some r=>some r
 |none=>rr P o t x lo hi mx
def zD(P:Program)(o:Nat->aa)(ts:Array TypeId)(x y:V):Option gS:=
 match ts.toList with
 |[t,_]=>match b7 P t with
  |some e=>match qx o x,fG o y with
   |some (id,off,n,cs),some es=>if P.cellsOf e=1/\off+n<=cs.length/\es.all (fun z=>z.cells.length==1)=true/\y.ids.all (· !=id)=true then
    some (.d (.int .i64 ((min es.length n:Nat):Int)),bK o y.ids++[(id, .row (cs.take off++((es.take n).flatMap D.cells).map .d++cs.drop (off+(es.take n).length)))],id::y.ids)else none
   |_,_=>none
  |none=>none
 |_=>none
def A8(P:Program)(t:TypeId)(f:Nat):Option (Nat×TypeId):=
 match P.underlying t with
 |some (.struct fs)=>match fs[f]? with
  |some fd=>some (fd.offset,fd.type)
  |none=>none
 |_=>none
def wC(P:Program)(t:TypeId)(x:V)(f:Nat):Option V:=
 match A8 P t f with
 |some (off,u)=>match x with
  | .d (.agg cs)=>(jU P u cs off).map .d
  | .agg cs=>fF P u cs off
  |_=>none
 |none=>none
def wD(P:Program)(t:TypeId)(x i:V):Option V:=
 match i with
 | .d (.int _ i)=>if 0<=i then match P.underlying t with
  |some .string=>match x with
   | .d (.str s)=>match s[i.toNat]? with
     |some b=>some (.d (.int .u8 b.toNat))
     |none=>none
   |_=>none
  |some (.array n e)=>if i<n/\(P.info? e).isSome=true then match x with
   | .d (.agg cs)=>(jU P e cs (i.toNat*P.cellsOf e)).map .d
   | .agg cs=>fF P e cs (i.toNat*P.cellsOf e)
   |_=>none
   else none
  |_=>none
   else none
 |_=>none
def wE(P:Program)(t:TypeId):Bool:=
 match P.underlying t with
 |some (.interface _)=>false
 |some _=>true
 |none=>false
def zeroV(P:Program)(t:TypeId):Option V:=
 match P.info? t with
 |some i=>match i.zero with
  |some (.agg a)=>if a.toList.all Value.oneCell'=true then some (nM (a.toList.map V.dM))else none
  |some v=>if v.oneCell'=true then some (V.dM v)else none
  |none=>none
 |none=>none
def rv(P:Program)(t:TypeId)(ok:Bool)(x:V):Option V:=
 if wE P t=true then match x with
  | .d (.iface u y)=>if u=t then some (if ok=true then .cf [.d y, .d (.bool true)]else .d y)
   else if ok=true then(zeroV P t).map fun z=> .cf [z, .d (.bool false)]else none
  | .d .fE=>if ok=true then(zeroV P t).map fun z=> .cf [z, .d (.bool false)]else none
  |_=>none
 else none
def C1(o:Nat->aa)(x:V):Option V:=
 match x with
 | .ao=>some (.d (.bool true))
 |x=>match fG o x with
  |some es=>some (if es=[]then .gh else .d (.bool false))
  |none=>none
def isConst:Operand->Bool
 | .const _=>true
 |_=>false
def QQ:V->Option V
 | .d (.bool b)=>some (.d (.bool !b))
 | .gh=>some .gh
 |_=>none
def tt(o:Nat->aa)(x:V):Option V:=
 match x with
 | .d .dX=>some (.d (.bool true))
 | .d (.mp _ _)=>some (.d (.bool false))
 | .mp id=>match o id with| .map _ _ _=>some (.d (.bool false))| .bZ _=>some (.d (.bool false))|_=>none
 |_=>none
def tu(o:Nat->aa)(x:V):Option V:=
 match x with
 | .d .mu=>some (.d (.bool true))
 | .ptr id _=>if(o id).cF=true then some (.d (.bool false))else none
 | .pp _ _=>some (.d (.bool false))
 |_=>none
def eqI(P:Program)(a b:TypeId)(x y:D):Option Bool:=
 if a=b then(match P.info? a,P.underlying a with
  |some i,some (.int _)=>if i.comparable=true then(match x,y with
   | .int k m, .int k' n=>if k=k' then some (m==n)else none
   |_,_=>none)else none
  |_,_=>none)
 else some false
def th(P:Program)(o:Nat->aa)(t:TypeId)(pO:Bool)(x y:V):Option V:=
 match P.underlying t with
 |some (.interface _)=>match x,y with
  | .d .fE, .d .fE=>if pO=true then some (.d (.bool true))else none
  | .d (.iface _ _), .d .fE| .iface _ _, .d .fE| .d .fE, .d (.iface _ _)| .d .fE, .iface _ _=>some (.d (.bool false))
  | .d (.iface a x), .d (.iface b y)=>(eqI P a b x y).map fun r=> .d (.bool r)
  |_,_=>none
 |some (.func _ _ _)=>match x,y with
  | .d .cJ, .d .cJ=>some (.d (.bool true))
  | .func _ _ _, .d .cJ=>some (.d (.bool false))
  |_,_=>none
 |some (.map _ _)=>match y with
  | .d .dX=>tt o x
  |_=>none
 |some (.pointer _)=>match y with
  | .d .mu=>tu o x
  |_=>none
 |some (.slice _)=>match y with
  | .ao=>C1 o x
  |_=>none
 |some (.struct _)|some (.array _ _)=>match x,y with
  | .d (.agg cC), .d (.agg bs)=>if P.eqGuardType P.depth t=false then(rh P 100 t (.agg cC) (.agg bs)).map fun r=> .d (.bool r)else none
  |_,_=>none
 |_=>none
def tv(P:Program)(o:Nat->aa)(op:BinOp)(t:TypeId)(pO:Bool)(x y:V):Option gS:=
 match op with
 | .eql=>(th P o t pO x y).map fun v=>(v,[],[])
 | .neq=>((th P o t pO x y).bind QQ).map fun v=>(v,[],[])
 |_=>none
mutual
def D.same:D->D->Bool
 | .int k a, .int j b=>k==j&&a==b
 | .bool a, .bool b=>a==b
 | .str a, .str b=>a==b
 | .fE, .fE| .mu, .mu| .cJ, .cJ| .dX, .dX=>true
 | .agg cC, .agg bs=>D.gY cC bs
 | .sl cC, .sl bs=>D.gY cC bs
 | .iface t a, .iface u b=>t==u&&a.same b
 | .mp ks vs, .mp cK vs'=>D.gY ks cK&&D.gY vs vs'
 |_,_=>false
def D.gY:List D->List D->Bool
 |[],[]=>true
 |a::cC,b::bs=>a.same b&&D.gY cC bs
 |_,_=>false
end
def tw(P:Program)(t:TypeId):Option (TypeId×TypeId):=
 match P.underlying t with
 |some (.map k v)=>some (k,v)
 |_=>none
def pP(P:Program):Nat->TypeId->D->Bool
 |0,_,_=>false
 |d+1,t,x=>match b8 P t with
  |some .int|some .bool|some .str=>true
  |some (.struct fs)=>match x with
   | .agg xs=>fs.all fun f=>match jU P f.1 xs f.2 with|some y=>pP P d f.1 y|none=>false
   |_=>false
  |some (.arr n e)=>match x with
   | .agg xs=>(List.range n).all fun i=>match jU P e xs (i*P.cellsOf e)with|some y=>pP P d e y|none=>false
   |_=>false
  |none=>false
def findD(P:Program)(kt:TypeId)(k:D):List (D×D)->Nat->Option (Option (Nat×D×D))
 |[],_=>some none
 |(k',x)::l,i=>match rh P 100 kt k k' with
  |some true=>some (some (i,k',x))
  |some false=>findD P kt k l (i+1)
  |none=>none
def p8:D->Bool
 | .int _ _| .bool _| .str _=>true
 |_=>false
def l6:D->Bool
 | .agg cs=>cs.all p8
 |x=>p8 x
def p9(o:Nat->aa)(m:V):Option (Option (Nat×TypeId×TypeId)×List (D×D)):=
 match m with
 | .mp id=>match o id with
   | .map kt vt l=>some (some (id,kt,vt),l)
   |_=>none
 | .d .dX=>some (none,[])
 |_=>none
def rz(o:Nat->aa)(m:V):Option (List Nat×List (D×D)):=
 match m with
 | .mp id=>match o id with
   | .map _ _ l=>some ([id],l)
   | .bZ l=>some ([id],l)
   |_=>none
 | .d .dX=>some ([],[])
 | .d (.mp ks vs)=>some ([],ks.zip vs)
 |_=>none
def ago(r:Option (Nat×TypeId×TypeId)):List Nat:=match r with|some p=>[p.1]|none=>[]
def jZ(P:Program)(o:Nat->aa)(t:TypeId)(m k:V)(ok:Bool):Option gS:=
 match tw P t,ef o k,rz o m with
 |some (kt,vt),some kd,some (rd,l)=>if k.ids=[]/\pP P 100 kt kd=true then match findD P kt kd l 0 with
  |some (some (_,_,x))=>some (if ok=true then .cf [.d x, .d (.bool true)]else .d x,[],rd)
  |some none=>match zeroV P vt with
   |some z=>some (if ok=true then .cf [z, .d (.bool false)]else z,[],rd)
   |none=>none
  |none=>none
  else none
 |_,_,_=>none
def gN(P:Program)(o:Nat->aa)(t:TypeId)(m k v:V):Option gS:=
 match tw P t,ef o k,ef o v,p9 o m with
 |some (kt,_),some kd,some vd,some (some (id,H3,H4),l)=>if k.ids=[]/\pP P 100 kt kd=true/\l6 kd=true/\v.ids.all (· !=id)=true then match findD P kt kd l 0 with
  |some (some (i,k',_))=>if k'.same kd=true then some (.cf [],bK o v.ids++[(id, .map H3 H4 (l.set i (kd,vd)))],id::v.ids)else none
  |some none=>some (.cf [],bK o v.ids++[(id, .map H3 H4 (l++[(kd,vd)]))],id::v.ids)
  |none=>none
  else none
 |_,_,_,_=>none
def nX(P:Program)(fr:Nat)(t:TypeId):Option gS:=
 match tw P t with
 |some (kt,vt)=>some (.mp fr,[(fr, .map kt vt [])],[])
 |none=>none
def nY(P:Program)(o:Nat->aa)(fr:Nat)(t:TypeId)(x:V):Option gS:=
 match P.underlying t with
 |some .string=>match x with
  | .d (.str s)=>some (.ptr fr 0,[(fr, .A4 s 0)],[])
  |_=>none
 |some (.map _ _)=>match x with
  | .d .dX=>some (.ptr fr 0,[(fr, .s8 [] none)],[])
  | .d (.mp ks vs)=>some (.ptr fr 0,[(fr, .s8 (ks.zip vs) none)],[])
  | .mp id=>match o id with
    | .map _ _ l=>some (.ptr fr 0,[(id, .bZ l),(fr, .s8 l none)],[id])
    | .bZ l=>some (.ptr fr 0,[(fr, .s8 l none)],[id])
    |_=>none
  |_=>none
 |_=>none
def qa(o:Nat->aa)(x:V)(str:Bool):Option gS:=
 match x with
 | .ptr id 0=>match o id with
   | .A4 s pos=>if str=true then
    (if pos<s.length then some (.cf [.d (.bool true), .d (.int .i64 pos), .d (.int .i32 (Utf8.decode ⟨⟨s⟩⟩ pos).1)],[(id, .A4 s (pos+(Utf8.decode ⟨⟨s⟩⟩ pos).2))],[id])else some (.cf [.d (.bool false)],[],[id]))
     else none
   |_=>none
 |_=>none
def qb(o:Nat->aa)(x:V):Option (Nat×List (D×D)):=
 match x with
 | .ptr id 0=>match o id with
   | .s8 l _=>some (id,l)
   |_=>none
 |_=>none
def H5(id:Nat)(l:List (D×D))(K:V->List (Nat×aa)->List Nat->Prop):Prop:=
 (l=[]->K (.cf [.d (.bool false)]) [] [id])/\∀i k x,l[i]? =some (k,x)->K (.cf [.d (.bool true), .d k, .d x]) [(id, .s8 (l.eraseIdx i) (some (k,x)))] [id]
def nZ(o:Nat->aa)(x:V):Option gS:=
 match x with
 | .ptr id 0=>match o id with
   | .s8 _ (some (k,x))=>some (.cf [.d k, .d x],[],[id])
   |_=>none
 |_=>none
def pb(P:Program)(o:Nat->aa)(t:TypeId)(m k:V):Option gS:=
 match tw P t,ef o k,p9 o m with
 |some (kt,_),some kd,some (some (id,H3,H4),l)=>if k.ids=[]/\pP P 100 kt kd=true then match findD P kt kd l 0 with
  |some (some (i,_,_))=>some (.cf [],[(id, .map H3 H4 (l.eraseIdx i))],[id])
  |some none=>some (.cf [],[],[id])
  |none=>none
  else none
 |_,_,_=>none
def MT(x y z:V):Option V:=
 match x,y,z with
 | .d (.int k a), .d (.int k' b), .d (.int k'' c)=>if k=k'/\k=k'' then some (.d (.int k (if c>(if b>a then b else a)then c else(if b>a then b else a))))else none
 |_,_,_=>none
def QR(P:Program)(ts:Array TypeId)(x:V):Option gS:=
 match ts.toList with
 |[t]=>match b7 P t with
  |some _=>match x with
   | .ao=>some (.d (.int .i64 0),[],[])
   |_=>none
  |none=>none
 |_=>none
def zE(P:Program)(fr:Nat)(ts:Array TypeId)(x y:V):Option gS:=
 match ts.toList with
 |[t,t']=>if t=t' then none else match b7 P t with
  |some e=>match nW P t',x,y with
   |some _, .ao, .d (.int _ n)=>if 0<n/\0<P.cellsOf e/\n.toNat*P.bytesOf e<=2^40/\n.toNat<=2^40 then match CY P e with
    |some z=>some (.osl fr 0,[(fr, .arr 0 e (P.cellsOf e) (List.replicate n.toNat z))],[])
    |none=>none
    else none
   |_,_,_=>none
  |none=>none
 |_=>none
def wF(P:Program)(s:S)(fr:Nat)(b:Builtin)(args:List Operand)(ts:Array TypeId)(K:V->List (Nat×aa)->List Nat->Prop):Prop:=
 match b,args with
 | .len,[x]=>∃t,ts.toList=[t]/\MR P t s.o (s.ev x) fun v rd=>K v [] rd
 | .append,[x,y]=>dz (zE P fr ts (s.ev x) (s.ev y)) K\/rq P s.o fr ts (s.ev x) (s.ev y) K
 | .max,[x,y]=>pa true [s.ev x,s.ev y] fun v=>K v [] []
 | .min,[x,y]=>pa false [s.ev x,s.ev y] fun v=>K v [] []
 | .max,[x,y,z]=>dz ((MT (s.ev x) (s.ev y) (s.ev z)).map fun v=>(v,[],[])) K
 | .copy,[x,y]=>dz (zD P s.o ts (s.ev x) (s.ev y)) K
 | .delete,[x,y]=>∃t,ts.toList.head?=some t/\dz (pb P s.o t (s.ev x) (s.ev y)) K
 | .cap,[x]=>dz (QR P ts (s.ev x)) K
 |_,_=>False
def UB(P:Program)(s:S)(fr:Nat)(op:Op)(K:V->List (Nat×aa)->List Nat->Prop):Prop:=
 match op with
 | .move x| .assign x=>K (s.ev x) [] []
 | .pick c a b=>CW (s.ev c) (s.ev a) (s.ev b) fun v=>K v [] []
 | .alloc t=>∃cs,cy P t=some cs/\K (.ptr fr 0) [(fr, .row cs)] []
 | .box _ x=>∃cs,(s.ev x).cells=some cs/\K (.ptr fr 0) [(fr, .row cs)] []
 | .build t parts=>∃z pl cs,cy P t=some z/\de P t=some pl/\uA pl z (parts.toList.map fun p=>(p.1,s.ev p.2))=some cs/\K (nM cs) [] []
 | .buildSlice t len parts=>jA P s.o fr t len (parts.toList.map fun p=>(p.1,s.ev p.2)) K
 | .load t x=>CX P s.o t (s.ev x) fun v rd=>K v [] rd
 | .store t x v=>wB P s.o t (s.ev x) (s.ev v) fun Δ rd=>K (.cf []) Δ rd
 | .nilCheck x=>mz s.o (s.ev x) fun v=>K v [] []
 | .binOp op t x y _=>MQ P op t (s.ev x) (s.ev y) (fun v=>K v [] [])\/dz (tv P s.o op t (isConst x||isConst y) (s.ev x) (s.ev y)) K
 | .unOp op _ x=>unV op (s.ev x) (fun v=>K v [] [])\/(op= .not/\s.ev x= .gh/\K .gh [] [])
 | .convert u t x=>(P.underlying u).isSome=true/\(match nW P t,s.ev x with
   |some k, .d (.int _ n)=>K (.d (.int k (k.wrap n))) [] []
   |_,_=>False)
 | .makeInterface t x=>(∃d,P.underlying t=some d/\(match d with| .interface _=>false|_=>true)=true)/\(match s.ev x with
   | .d y=>K (.d (.iface t y)) [] []
   |v=>K (.iface t v) [] [])
 | .makeFunc fn first cap=>K (.func fn (first.toList.map s.ev) (cap.toList.map s.ev)) [] []
 | .makeSlice t l c=>kJ P fr t (s.ev l) (s.ev c) fun v Δ=>K v Δ []
 | .fieldAddr t x f=>kI P s.o t (s.ev x) f fun v=>K v [] []
 | .indexAddr t x i=>kH P s.o t (s.ev x) (s.ev i) fun v rd=>K v [] rd
 | .extract x i=>match s.ev x with
   | .cf vs=>∃v,vs[i]? =some v/\K v [] []
   |_=>False
 | .slice t x lo hi mx=>dz (tq P s.o t (s.ev x) (lo.map s.ev) (hi.map s.ev) (mx.map s.ev)) K
 | .field t x f=>dz ((wC P t (s.ev x) f).map fun v=>(v,[],[])) K
 | .index t x i=>dz ((wD P t (s.ev x) (s.ev i)).map fun v=>(v,[],[])) K
 | .makeMap t none=>dz (nX P fr t) K
 | .lookup t m k ok=>dz (jZ P s.o t (s.ev m) (s.ev k) ok) K
 | .mapUpdate t m k v=>dz (gN P s.o t (s.ev m) (s.ev k) (s.ev v)) K
 | .insert t m k v=>dz (gN P s.o t (s.ev m) (s.ev k) (s.ev v)) K
 | .range t x=>dz (nY P s.o fr t (s.ev x)) K
 | .next x str=>dz (qa s.o (s.ev x) str) K\/(str=false/\∃id l,qb s.o (s.ev x)=some (id,l)/\H5 id l K)
 | .entry x=>dz (nZ s.o (s.ev x)) K
 | .typeAssert x _ t ok=>dz ((rv P t ok (s.ev x)).map fun v=>(v,[],[])) K
 | .call c=>match c.callee with
   | .builtin b=>wF P s fr b c.args.toList c.argTypes K
   |_=>False
 |_=>False
section
section
variable {B:Nat->Prop}{φ:Place}{H:Hp}{w:World}
theorem V.aE:∀ (cs:List V) (vs:List Value),V.aG B φ H w cs vs->vs.length=cs.length
 |[],_,h=>by simp[V.aG]at h;simp[h]
 |c::cs,_,h=>by obtain⟨u,us,rfl,_,h2⟩:=h;simp[V.aE cs us h2]
theorem V.dA:∀ (cs:List V) (vs:List Value) (i:Nat) (c:V),V.aG B φ H w cs vs->cs[i]? =some c->∃v,vs[i]? =some v/\V.den B φ H w c v
 |[],_,_,_,_,hd=>by simp at hd
 |c::cs,_,0,x,h,hd=>by
  exact Uu
 |c::cs,_,i+1,x,h,hd=>by
  obtain⟨u,us,rfl,_,h2⟩:=h
  simpa using V.dA cs us i x h2 (by simpa using hd)
theorem V.bg:∀ (cs ds:List V) (us vs:List Value),V.aG B φ H w cs us->V.aG B φ H w ds vs->V.aG B φ H w (cs++ds) (us++vs)
 |[],ds,us,vs,h,k=>by simp[V.aG]at h;subst h;simpa using k
 |c::cs,ds,_,vs,h,k=>by
  obtain⟨u,us,rfl,h1,h2⟩:=h
  exact⟨u,us++vs,aF,h1,V.bg cs ds us vs h2 k⟩
theorem V.df:∀ (n:Nat) (cs:List V) (vs:List Value),V.aG B φ H w cs vs->V.aG B φ H w (cs.take n) (vs.take n)
 |0,_,_,_=>by simp[V.aG]
 |n+1,[],_,h=>by simp[V.aG]at h;subst h;simp[V.aG]
 |n+1,c::cs,_,h=>by
  obtain⟨u,us,rfl,h1,h2⟩:=h
  exact⟨u,us.take n,aF,h1,V.df n cs us h2⟩
theorem V.eU:∀ (n:Nat) (cs:List V) (vs:List Value),V.aG B φ H w cs vs->V.aG B φ H w (cs.drop n) (vs.drop n)
 |0,_,_,h=>by simpa using h
 |n+1,[],_,h=>by simp[V.aG]at h;subst h;simp[V.aG]
 |n+1,c::cs,_,h=>by
  obtain⟨u,us,rfl,h1,h2⟩:=h
  simpa using V.eU n cs us h2
theorem V.cT:∀ (ds:List D) (vs:List Value),V.aG B φ H w (ds.map .d) vs↔D.aG B w ds vs
 |[],vs=>by simp[V.aG,D.aG]
 |x::ds,vs=>by simp only[List.map_cons,V.aG,D.aG,V.den,V.cT ds]
theorem D.bg:∀ (cs ds:List D) (us vs:List Value),D.aG B w cs us->D.aG B w ds vs->D.aG B w (cs++ds) (us++vs)
 |[],ds,us,vs,h,k=>by simp[D.aG]at h;subst h;simpa using k
 |c::cs,ds,_,vs,h,k=>by
  obtain⟨u,us,rfl,h1,h2⟩:=h
  exact⟨u,us++vs,aF,h1,D.bg cs ds us vs h2 k⟩
theorem D.df:∀ (n:Nat) (cs:List D) (vs:List Value),D.aG B w cs vs->D.aG B w (cs.take n) (vs.take n)
 |0,_,_,_=>by simp[D.aG]
 |n+1,[],_,h=>by simp[D.aG]at h;subst h;simp[D.aG]
 |n+1,c::cs,_,h=>by
  obtain⟨u,us,rfl,h1,h2⟩:=h
  exact⟨u,us.take n,aF,h1,D.df n cs us h2⟩
theorem D.eU:∀ (n:Nat) (cs:List D) (vs:List Value),D.aG B w cs vs->D.aG B w (cs.drop n) (vs.drop n)
 |0,_,_,h=>by simpa using h
 |n+1,[],_,h=>by simp[D.aG]at h;subst h;simp[D.aG]
 |n+1,c::cs,_,h=>by
  obtain⟨u,us,rfl,h1,h2⟩:=h
  simpa using D.eU n cs us h2
theorem D.C2:∀ (i:Nat) (ds:List D) (vs:List Value) (x:D) (v:Value),D.aG B w ds vs->D.den B w x v->D.aG B w (ds.set i x) (vs.set i v)
 |_,[],_,_,_,h,_=>by simp[D.aG]at h;subst h;simp[D.aG]
 |0,c::cs,_,x,v,h,k=>by
  obtain⟨u,us,rfl,h1,h2⟩:=h
  exact⟨v,us,aF,k,h2⟩
 |i+1,c::cs,_,x,v,h,k=>by
  obtain⟨u,us,rfl,h1,h2⟩:=h
  exact⟨u,us.set i v,aF,h1,D.C2 i cs us x v h2 k⟩
theorem zG:∀ (cs:List V) (ds:List D),FN cs=some ds->cs=ds.map .d
 |[],ds,h=>by simp[FN]at h;subst h;rfl
 | .d x::cs,ds,h=>by
   simp only[FN,Option.map_eq_some_iff]at h
   obtain⟨a,h1,rfl⟩:=h
   simp[zG cs a h1]
 | .ao::_,_,h| .agg _::_,_,h| .cf _::_,_,h| .ptr _ _::_,_,h| .osl _ _::_,_,h| .pe _ _ _ _ _::_,_,h| .pp _ _::_,_,h
 | .func _ _ _::_,_,h| .iface _ _::_,_,h| .ai::_,_,h| .pY _::_,_,h| .zA _ _ _::_,_,h| .mp _::_,_,h| .gh::_,_,h=>by simp[FN]at h
theorem mA(cs:List V)(a:Array Value)(h:V.aG B φ H w cs a.toList)(hf:Flat a.toList):V.den B φ H w (nM cs) (.agg a):=by
 unfold nM
 split
 ·rename_i ds hd
  have:=zG cs ds hd
  subst this
  exact⟨a,rfl,(V.cT ds _).1 h,hf⟩
 ·exact⟨a,rfl,h,hf⟩
theorem D.pc:∀ (x:D) (v:Value),D.den B w x v->(∃cs a,x= .agg cs/\v= .agg a)\/v.oneCell'=true/\x.cells=[x]/\v.cells=#[v]
 | .int _ _,_,h| .bool _,_,h| .fE,_,h| .mu,_,h| .cJ,_,h| .dX,_,h=>by
   simp only[D.den]at h;subst h;exact .inr ⟨rfl,rfl,rfl⟩
 | .str l,_,h=>by obtain⟨s,rfl,_⟩:=h;exact .inr ⟨rfl,rfl,rfl⟩
 | .agg cs,_,h=>by obtain⟨a,rfl,_,_⟩:=h;exact .inl ⟨cs,a,rfl,rfl⟩
 | .sl es,_,h=>by obtain⟨b,l,c,rfl,_⟩:=h;exact .inr ⟨rfl,rfl,rfl⟩
 | .iface t x,_,h=>by obtain⟨u,rfl,_⟩:=h;exact .inr ⟨rfl,rfl,rfl⟩
 | .mp ks vs,_,h=>by obtain⟨m,es,c,p,rfl,_⟩:=h;exact .inr ⟨rfl,rfl,rfl⟩
theorem D.eV (x:D)(v:Value)(h:D.den B w x v):D.aG B w x.cells v.cells.toList/\Flat v.cells.toList:=by
 rcases D.pc x v h with⟨cs,a,rfl,rfl⟩|⟨h1,h2,h3⟩
 ·obtain⟨a',h1,h2,h3⟩:=h
  injection h1 with h1;subst h1
  exact⟨h2,h3⟩
 ·rw[h2,h3]
  exact⟨⟨v,[],rfl,h,rfl⟩,by intro u hu;simp at hu;subst hu;exact h1⟩
theorem V.pc (x:V)(v:Value)(us:List V)(hx:x.cells=some us)(h:V.den B φ H w x v):V.aG B φ H w us v.cells.toList/\Flat v.cells.toList:=by
 have one:∀ (y:V),v.oneCell'=true->V.den B φ H w y v->V.aG B φ H w [y] v.cells.toList/\Flat v.cells.toList:=by
  intro y h1 h2
  have h3:v.cells=#[v]:=by cases v<;>simp_all[Value.oneCell',Value.cells]
  rw[h3]
  exact⟨⟨v,[],rfl,h2,rfl⟩,by intro u hu;simp at hu;subst hu;exact h1⟩
 cases x with
 |d x=>
  simp only[V.cells,Option.some.injEq]at hx;subst hx
  have:=D.eV x v h
  exact⟨(V.cT _ _).2 this.1,this.2⟩
 |ao=>simp only[V.cells,Option.some.injEq]at hx;subst hx;exact one _ (by cases h;rfl) h
 |agg cs=>
  simp only[V.cells,Option.some.injEq]at hx;subst hx
  obtain⟨a,rfl,h1,h2⟩:=h
  exact⟨h1,h2⟩
 |cf vs=>simp[V.cells]at hx
 |ai=>simp[V.cells]at hx
 |ptr id off=>simp only[V.cells,Option.some.injEq]at hx;subst hx;exact one _ h.1 h
 |osl id ep=>simp only[V.cells,Option.some.injEq]at hx;subst hx;exact one _ h.1 h
 |pe id ep i sz off=>simp only[V.cells,Option.some.injEq]at hx;subst hx;exact one _ h.1 h
 |pp cs off=>simp only[V.cells,Option.some.injEq]at hx;subst hx;exact one _ (by obtain⟨a,ev,_,rfl,_⟩:=h;rfl) h
 |func fn f c=>simp only[V.cells,Option.some.injEq]at hx;subst hx;exact one _ (by obtain⟨a,ev,rfl,_⟩:=h;rfl) h
 |iface t y=>simp only[V.cells,Option.some.injEq]at hx;subst hx;exact one _ (by obtain⟨a,rfl,_⟩:=h;rfl) h
 |pY es=>simp only[V.cells,Option.some.injEq]at hx;subst hx;exact one _ (by obtain⟨_,b,n,rfl⟩:=h;rfl) h
 |zA id off n=>simp only[V.cells,Option.some.injEq]at hx;subst hx;exact one _ h.1 h
 |mp id=>simp only[V.cells,Option.some.injEq]at hx;subst hx;exact one _ h.1 h
 |lC id=>simp only[V.cells,Option.some.injEq]at hx;subst hx;exact one _ h.1 h
 |gh=>simp only[V.cells,Option.some.injEq]at hx;subst hx;exact one _ (by obtain⟨a,rfl⟩:=h;rfl) h
theorem mZ(v:Value)(h:v.oneCell'=true):V.den B φ H w (V.dM v) v:=by
 cases v<;>simp_all only[Value.oneCell',V.dM,V.den,D.den]<;>try trivial
 all_goals (try (split<;>simp_all[V.den,D.den]))
 all_goals (try first|(simp_all[D.den];done)|simp_all)
theorem eg:∀ (vs:List Value),Flat vs->V.aG B φ H w (vs.map V.dM) vs
 |[],_=>rfl
 |v::vs,h=>⟨v,vs,rfl,mZ v (h v aF),eg vs fun u hu=>h u (by simp[hu])⟩
end
end
section
theorem pf(H:Hp):H.put []=H:=by
 obtain⟨o,us⟩:=H
 simp[Hp.put,put]
theorem eI(H:Hp)(A C:List (Nat×aa)):H.put (A++C)=(H.put A).put C:=by
 obtain⟨o,us⟩:=H
 simp only[Hp.put,put,List.foldl_append,Hp.mk.injEq,true_and]
 funext id
 simp only[List.map_append,List.mem_append,eq_iff_iff]
 exact⟨fun h=>by rcases h with h|h|h<;>simp[h],fun h=>by rcases h with(h|h)|h<;>simp[h]⟩
@[simp] theorem bS (H:Hp) (i:Nat) (x:aa):(H.put [(i,x)]).o=aw H.o i x:=rfl
@[simp] theorem eJ (H:Hp) (i j:Nat) (x:aa):(H.put [(i,x)]).us j↔(H.us j\/j=i):=by simp[Hp.put]
section
variable {M:Nat->Prop}{φ aI:Place}{H H':Hp}{w w':World}
theorem aU.C3 (rA:∀b,dt w b-> ¬aq M φ H b->w'.heap[b]? =w.heap[b]? /\ ¬aq M aI H' b)(hrl:eH φ H aI H'){id:Nat}(ho:H'.o id=H.o id)(fA:aI id=φ id)
 (hb:(H.o id).live=true->∀b,dY (φ id)=some b->w'.heap[b]? =w.heap[b]?) (h:aU M φ H w id):aU M aI H' w' id:=by
 unfold aU at*
 rw[ho]
 cases hx:H.o id with
 |no=>trivial
 |row cs=>
  simp only[hx]at h|-
  obtain⟨b,eG,ty,h1,h2,h3,h4⟩:=h
  exact⟨b,eG,ty,fA.trans h1,(hb ux b zu).trans h2,V.gR rA hrl cs _ h3,h4⟩
 |arr ep ty sz es=>
  simp only[hx]at h|-
  obtain⟨h0,xs,h1,evs,h2,h3,h4⟩:=h
  refine⟨h0,xs, ?_,evs,h2,h3,D.aW rA es evs h4⟩
  rw[fA]
  obtain⟨g1,g2⟩:=h1
  refine⟨g1, ?_⟩
  rcases g2 with g2|⟨g,cap,cur,k1,k2,k3,k4⟩
  ·exact .inl g2
  ·exact .inr ⟨g,cap,cur,k1,k2,(hb ux g (by rw[k1];rfl)).trans k3,k4⟩
 |vg ep es=>
  simp only[hx]at h|-
  rw[fA]
  exact D.aV rA (.sl es) _ h
 |map kt vt l=>
  simp only[hx]at h|-
  obtain⟨b,es,clock,h1,h2,h4,h3⟩:=h
  exact⟨b,es,clock,fA.trans h1,(hb ux b zu).trans h2,h4,aK.mono rA l _ h3⟩
 |bZ l=>
  simp only[hx]at h|-
  rw[fA]
  exact lZ.mono rA h
 |s8 l last=>
  simp only[hx]at h|-
  obtain⟨b,h1,h2⟩:=h
  exact⟨b,fA.trans h1,h2.mono rA (hb ux b zu)⟩
 |A4 s pos=>
  simp only[hx]at h|-
  obtain⟨b,h1,h2⟩:=h
  exact⟨b,fA.trans h1,(hb ux b zu).trans h2⟩
 |loop nf n env ps kG fV st Ki=>
  simp only[hx]at h|-
  obtain⟨b,r,h1,h2,h0,h3,h4,h5,h6,h7,h8,h9⟩:=h
  exact⟨b,r,fA.trans h1,(hb ux b zu).trans h2,h0,h3,h4,h5,h6,h7,h8,fun i=>V.my rA hrl _ _ (h9 i)⟩
theorem aU.mono (ht:Trans φ H w aI H' w'){id:Nat}(ho:H'.o id=H.o id)(fA:aI id=φ id)
 (hb:(H.o id).live=true->∀b,dY (φ id)=some b->w'.heap[b]? =w.heap[b]?) (h:aU M φ H w id):aU M aI H' w' id:=aU.C3 ht.blocks ht.rel ho fA hb h
theorem aB.of (hH:aB M φ H w)(ht:Trans φ H w aI H' w')(T:Nat->Prop)(hT:∀id,T id->aU M aI H' w' id)
 (hn:∀id, ¬T id->H'.o id=H.o id/\aI id=φ id/\((H.o id).live=true->∀b,dY (φ id)=some b->w'.heap[b]? =w.heap[b]?))
 (kK:∀id, ¬H'.us id->H'.o id= .no)
 (hap:∀i j b,(H'.o i).live=true->(H'.o j).live=true->dY (aI i)=some b->dY (aI j)=some b->i=j)
 (acP:∀b,cO aI H' b->b<w'.heap.size):aB M aI H' w' where
 ok id:=by
  by_cases hc:T id
  ·exact hT id hc
  ·obtain⟨h1,h2,h3⟩:=hn id hc
   exact(hH.ok id).mono ht h1 h2 h3
 fresh:=kK
 apart:=hap
 ours b hb:=by
  refine⟨fun hM=> ?_,acP b hb⟩
  rcases ht.grow b hb with h1|h1
  ·exact(hH.ours b h1).1 hM
  ·have:=hH.Cy b hM;omega
 Cy b hM:=Nat.lt_of_lt_of_le (hH.Cy b hM) ht.cP.size
theorem eh(hk:dZ (fun _=>False) w w'){fr:Nat}(dn: ¬H.us fr)(obj:aa)(val:Value)(fR:∀b,dY val=some b->w.heap.size<=b):
 Trans φ H w (aw φ fr val) (H.put [(fr,obj)]) w' where
 cP:=⟨hk.os,hk.tape,hk.output,hk.size,fun k h _=>hk.block k h (fun h=>h)⟩
 grow b:=by
  rintro⟨id,h1,h2⟩
  by_cases ay:id=fr
  ·subst ay;simp at h2;exact .inr (fR b h2)
  ·simp[ay]at h1 h2;exact .inl ⟨id,h1,h2⟩
 rel:={
  us:=fun id h=>by simp[h]
  row:=fun id hu hr=>by
   have ay:id≠fr:=fun h=>dn (h ▸ hu)
   simp[ay]at hr|-;exact hr
  ep:=fun id e' hu he=>by
   have ay:id≠fr:=fun h=>dn (h ▸ hu)
   simp[ay]at he|-;exact⟨e',he,Nat.le_refl _⟩}
theorem jv(hH:aB M φ H w)(hk:dZ (fun _=>False) w w'){fr:Nat}(dn: ¬H.us fr)(obj:aa)(val:Value)(fR:∀b,dY val=some b->w.heap.size<=b/\b<w'.heap.size)
 (wG:aU M (aw φ fr val) (H.put [(fr,obj)]) w' fr):aB M (aw φ fr val) (H.put [(fr,obj)]) w':=by
 have ht:Trans φ H w (aw φ fr val) (H.put [(fr,obj)]) w':=eh hk dn obj val fun b hb=>(fR b hb).1
 refine hH.of ht (· =fr) (fun id h=>h ▸ wG) (fun id h=> ?_) (fun id h=> ?_) (fun i j b hi hj bi bj=> ?_) (fun b=> ?_)
 ·refine⟨by simp[h],by simp[h],fun hl b hb=>hk.block b ?_ (fun h=>h)⟩
  exact(hH.ours b ⟨id,hl,hb⟩).2
 ·rw[eJ]at h
  have h1:id≠fr:=fun e=>h (.inr e)
  simp only[bS,aQ,h1,if_false]
  exact hH.fresh id fun hu=>h (.inl hu)
 ·by_cases e1:i=fr<;>by_cases e2:j=fr
  ·exact e1.trans e2.symm
  ·simp[e1,e2]at hi hj bi bj
   have:=(hH.ours b ⟨j,hj,bj⟩).2;have:=(fR b bi).1;omega
  ·simp[e1,e2]at hi hj bi bj
   have:=(hH.ours b ⟨i,hi,bi⟩).2;have:=(fR b bj).1;omega
  ·simp[e1,e2]at hi hj bi bj
   exact hH.apart i j b hi hj bi bj
 ·rintro⟨id,h1,h2⟩
  by_cases ay:id=fr
  ·subst ay;simp at h2;exact(fR b h2).2
  ·simp[ay]at h1 h2
   exact Nat.lt_of_lt_of_le (hH.ours b ⟨id,h1,h2⟩).2 hk.size
theorem cE(w:World)(o:Obj):dZ (fun _=>False) w (w.alloc o):=
 ⟨rfl,rfl,rfl,aF,fun k hk _=>RowKit.Below.heap_alloc w o k hk⟩
theorem kL{w w':World}(h:w.grownBy w' none):dZ (fun _=>False) w w':=
 ⟨h.os,h.tape,h.output,h.size,fun k hk _=>h.block k hk aF⟩
theorem QS(hH:aB M φ H w){fr:Nat}(dn: ¬H.us fr)(cs:List V)(eG:Array Value)(ty:TypeId)(hd:V.aG (aq M φ H) φ H w cs eG.toList)(hf:Flat eG.toList):
 let aI:=aw φ fr (.pointer (some ⟨w.heap.size,0,none⟩));let H':=H.put [(fr, .row cs)];let w':=w.alloc (.cells eG ty)
 aB M aI H' w'/\Trans φ H w aI H' w'/\V.den (aq M aI H') aI H' w' (.ptr fr 0) (.pointer (some ⟨w.heap.size,0,none⟩)):=by
 intro aI H' w'
 have hv:∀b,dY (.pointer (some ⟨w.heap.size,0,none⟩))=some b->w.heap.size<=b/\b<w'.heap.size:=by
  intro b hb;simp[dY]at hb;subst hb;simp[w']
 have ht:Trans φ H w aI H' w':=eh (cE w _) dn _ _ fun b hb=>(hv b hb).1
 refine⟨jv hH (cE w _) dn _ _ hv ?_,ht,rfl,by simp[H'],fun _=>⟨w.heap.size,by simp[aI],rfl⟩⟩
 unfold aU
 simp only[bS,aQ,if_true]
 exact⟨w.heap.size,eG,ty,rfl,heap_alloc_new w _,V.aW ht cs _ hd,hf⟩
theorem fH{id:Nat}(eE:H.us id){b:Nat}(dg:(H.o id).live=true)(hb:dY (φ id)=some b)(hk:dZ (· =b) w w')(obj:aa)(cL:obj.cF=(H.o id).cF)(wH:obj.cu=(H.o id).cu):
 Trans φ H w φ (H.put [(id,obj)]) w' where
 cP:=⟨hk.os,hk.tape,hk.output,hk.size,fun k h hl=>hk.block k h (fun e=>hl ⟨id,dg,e ▸ hb⟩)⟩
 grow b':=by
  rintro⟨j,h1,h2⟩
  by_cases hj:j=id
  ·subst hj;exact .inl ⟨j,dg,h2⟩
  ·simp[hj]at h1;exact .inl ⟨j,h1,h2⟩
 rel:={
  us:=fun j h=>by simp[h]
  row:=fun j hu hr=>by
   by_cases hj:j=id
   ·subst hj;simp at hr;exact⟨cL ▸ hr,rfl⟩
   ·exact MD
  ep:=fun j e' hu he=>by
   by_cases hj:j=id
   ·subst hj;simp at he;exact⟨e',wH ▸ he,Nat.le_refl _,fun _=>rfl⟩
   ·simp[hj]at he;exact⟨e',he,Nat.le_refl _,fun _=>rfl⟩}
theorem jb(hH:aB M φ H w){id:Nat}(eE:H.us id){b:Nat}(dg:(H.o id).live=true)(hb:dY (φ id)=some b)(hk:dZ (· =b) w w')(obj:aa)(cL:obj.cF=(H.o id).cF)
 (wH:obj.cu=(H.o id).cu) (wG:aU M φ (H.put [(id,obj)]) w' id):aB M φ (H.put [(id,obj)]) w':=by
 refine hH.of (fH eE dg hb hk obj cL wH) (· =id) (fun j h=>h ▸ wG) (fun j h=> ?_) (fun j h=> ?_) (fun i j b' hi hj bi bj=> ?_) (fun b'=> ?_)
 ·refine⟨by simp[h],rfl,fun hl b' yK=>hk.block b' (hH.ours b' ⟨j,hl,yK⟩).2 fun e=>h ?_⟩
  exact hH.apart j id b hl dg (e ▸ yK) hb
 ·rw[eJ]at h
  have h1:j≠id:=fun e=>h (.inr e)
  exact Xq
 ·refine hH.apart i j b' ?_ ?_ bi bj
  ·by_cases e:i=id
   ·subst e;exact dg
   ·simpa[e]using hi
  ·by_cases e:j=id
   ·subst e;exact dg
   ·simpa[e]using hj
 ·rintro⟨j,h1,h2⟩
  refine Nat.lt_of_lt_of_le (hH.ours b' ⟨j, ?_,h2⟩).2 hk.size
  by_cases e:j=id
  ·subst e;exact dg
  ·simpa[e]using h1
theorem lD(w:World)(b:Nat)(cs:Array Value):dZ (· =b) w (w.setRow b cs):=
 ⟨rfl,rfl,rfl,aF,fun k _ hk=>by
  unfold World.setRow
  simp only[Array.getElem?_modify]
  rw[if_neg (fun e=>hk e.symm)]⟩
theorem C4(hH:aB M φ H w){id b:Nat}(eE:H.us id){cs cs':List V}(ho:H.o id= .row cs)(fA:φ id= .pointer (some ⟨b,0,none⟩)){eG:Array Value}{ty:TypeId}
 (hb:w.heap[b]? =some (.cells eG ty (0,0))) (rB:Array Value) (hd:V.aG (aq M φ H) φ H w cs' rB.toList) (hf:Flat rB.toList):
 aB M φ (H.put [(id, .row cs')]) (w.setRow b rB)/\Trans φ H w φ (H.put [(id, .row cs')]) (w.setRow b rB):=by
 have hl:(H.o id).live=true:=by rw[ho];rfl
 have rA:dY (φ id)=some b:=by rw[fA];rfl
 have ht:Trans φ H w φ (H.put [(id, .row cs')]) (w.setRow b rB):=fH eE hl rA (lD w b rB) _ eY eY
 refine⟨jb hH eE hl rA (lD w b rB) _ eY eY ?_,ht⟩
 unfold aU
 simp only[bS,aQ,if_true]
 exact⟨b,rB,ty,fA,setRow_heap w b eG rB ty (0,0) hb,V.aW ht cs' _ hd,hf⟩
theorem rC{B:Nat->Prop}{sz g:Nat}(cur:Array Value)(ty:TypeId)(fz:Nat×Nat)(hg:w.heap[g]? =some (.cells cur ty fz))(hB: ¬B g):
 ∀ (es:List D) (evs:List Value) (i:Nat),D.aG B w es evs->(∀ev∈evs,ev.cells.size=sz)->(∀j u,(evs.flatMap (·.cells.toList))[j]? =some u->cur[i*sz+j]? =some u)->D.elems B w sz ⟨g,0,none⟩ i es
 |[],_,_,_,_,_=>trivial
 |e::es,_,i,h,hs,hc=>by
  obtain⟨ev,evs,rfl,h1,h2⟩:=h
  have eD:ev.cells.size=sz:=hs ev aF
  refine⟨⟨ev,eD,fun j u hj=> ?_,h1⟩,rC cur ty fz hg hB es evs (i+1) h2 (fun x hx=>hs x pN) fun j u hj=> ?_⟩
  ·have cD:j<ev.cells.size:=(Array.getElem?_eq_some_iff.1 hj).1
   have:cur[i*sz+j]? =some u:=hc j u (by
    rw[List.flatMap_cons,List.getElem?_append_left (by simpa using cD)];simpa using hj)
   refine⟨?_,by simpa using hB⟩
   unfold Addr.add World.cell?
   by_cases e1:i*sz=0<;>by_cases e2:j=0<;>simp_all
  ·have:=hc (sz+j) u (by
    rw[List.flatMap_cons,List.getElem?_append_right (by simp[eD])]
    simpa[eD]using hj)
   rw[show(i+1)*sz+j=i*sz+(sz+j) by rw[Nat.add_mul];omega]
   exact this
theorem QU(hH:aB M φ H w){id ep sz:Nat}{ty:TypeId}{es:List D}(eE:H.us id)(ho:H.o id= .arr ep ty sz es):
 aB M φ (H.put [(id, .vg ep es)]) w/\Trans φ H w φ (H.put [(id, .vg ep es)]) w:=by
 have jK:∀b,cO φ (H.put [(id, .vg ep es)]) b->cO φ H b:=by
  rintro b ⟨j,h1,h2⟩
  by_cases hj:j=id
  ·subst hj;simp[aa.live]at h1
  ·simp[hj]at h1;exact⟨j,h1,h2⟩
 have ht:Trans φ H w φ (H.put [(id, .vg ep es)]) w:={
  cP:=dZ.refl _ _
  grow:=fun b hb=> .inl (jK b hb)
  rel:={
   us:=fun j h=>by simp[h]
   row:=fun j hu hr=>by
    by_cases hj:j=id
    ·subst hj;simp[aa.cF]at hr
    ·exact MD
   ep:=fun j e' hu he=>by
    by_cases hj:j=id
    ·subst hj;simp[aa.cu]at he;subst he;exact⟨ep,by rw[ho];rfl,Nat.le_refl _,fun _=>rfl⟩
    ·simp[hj]at he;exact⟨e',he,Nat.le_refl _,fun _=>rfl⟩}}
 refine⟨hH.of ht (· =id) (fun j h=> ?_) (fun j h=>⟨by simp[h],rfl,fun _ _ _=>rfl⟩) (fun j h=> ?_) (fun i j b hi hj bi bj=> ?_) (fun b hb=>(hH.ours b (jK b hb)).2),ht⟩
 ·subst h
  have a8:=hH.ok j
  unfold aU at a8|-
  simp only[ho,bS,aQ,if_true]at a8|-
  obtain⟨h0,xs,⟨hl,cL⟩,evs,rfl,h2,h3⟩:=a8
  have hlen:=D.aE _ _ h3
  rcases cL with⟨h4,h5⟩|⟨g,cap,cur,h4,_,h5,h6,h7,h8,h9⟩
  ·rw[h4]
   have:es=[]:=by simpa using h5
   subst this
   exact Tt
  ·rw[h4]
   refine⟨some ⟨g,0,none⟩,es.length,cap,rfl,rfl,h6,(fun h=>by cases h),sz,fun a ha=> ?_⟩
   injection ha with ha;subst ha
   refine⟨fun _=>rfl,rC cur ty (0,0) h5 ?_ es evs 0 (D.aW (ht.blocks (M:=M)) es evs h3) h2 fun j' u LV=> ?_⟩
   ·rintro(hM|⟨i,QV,hi2⟩)
    ·exact(hH.ours g ⟨j,by rw[ho];rfl,by rw[h4];rfl⟩).1 hM
    ·by_cases e:i=j
     ·subst e;simp[aa.live]at QV
     ·simp[e]at QV
      exact e (hH.apart i j g QV eY hi2 (by rw[h4];rfl))
   ·rw[<- h9]at LV
    simp only[Nat.zero_mul,Nat.zero_add]
    rw[List.getElem?_take]at LV
    split at LV
    ·simpa using LV
    ·cases LV
 ·rw[eJ]at h
  have h1:j≠id:=fun e=>h (.inr e)
  exact Xq
 ·by_cases e1:i=id
  ·subst e1;simp[aa.live]at hi
  ·by_cases e2:j=id
   ·subst e2;simp[aa.live]at hj
   ·simp[e1,e2]at hi hj;exact hH.apart i j b hi hj bi bj
theorem A9(hH:aB M φ H w){id:Nat}{kt vt:TypeId}{l:List (D×D)}(eE:H.us id)(ho:H.o id= .map kt vt l):
 aB M φ (H.put [(id, .bZ l)]) w/\Trans φ H w φ (H.put [(id, .bZ l)]) w:=by
 have jK:∀b,cO φ (H.put [(id, .bZ l)]) b->cO φ H b:=by
  rintro b ⟨j,h1,h2⟩
  by_cases hj:j=id
  ·subst hj;simp[aa.live]at h1
  ·simp[hj]at h1;exact⟨j,h1,h2⟩
 have ht:Trans φ H w φ (H.put [(id, .bZ l)]) w:={
  cP:=dZ.refl _ _
  grow:=fun b hb=> .inl (jK b hb)
  rel:={
   us:=fun j h=>by simp[h]
   row:=fun j hu hr=>by
    by_cases hj:j=id
    ·subst hj;exact⟨by rw[ho];rfl,rfl⟩
    ·exact MD
   ep:=fun j e' hu he=>by
    by_cases hj:j=id
    ·subst hj;simp[aa.cu]at he
    ·simp[hj]at he;exact⟨e',he,Nat.le_refl _,fun _=>rfl⟩}}
 refine⟨hH.of ht (· =id) (fun j h=> ?_) (fun j h=>⟨by simp[h],rfl,fun _ _ _=>rfl⟩) (fun j h=> ?_) (fun i j b hi hj bi bj=> ?_) (fun b hb=>(hH.ours b (jK b hb)).2),ht⟩
 ·subst h
  have a8:=hH.ok j
  unfold aU at a8|-
  simp only[ho,bS,aQ,if_true]at a8|-
  obtain⟨b,es,clock,h1,h2,h3,h4⟩:=a8
  refine⟨b,es,clock,h1,h2, ?_,h3,aK.mono (ht.blocks (M:=M)) _ _ h4⟩
  rintro(hM|⟨i,QV,hi2⟩)
  ·exact(hH.ours b ⟨j,by rw[ho];rfl,by rw[h1];rfl⟩).1 hM
  ·by_cases e:i=j
   ·subst e;simp[aa.live]at QV
   ·simp[e]at QV
    exact e (hH.apart i j b QV eY hi2 zu)
 ·rw[eJ]at h
  have h1:j≠id:=fun e=>h (.inr e)
  exact Xq
 ·by_cases e1:i=id
  ·subst e1;simp[aa.live]at hi
  ·by_cases e2:j=id
   ·subst e2;simp[aa.live]at hj
   ·simp[e1,e2]at hi hj;exact hH.apart i j b hi hj bi bj
end
end
section
def db(M:Nat->Prop)(φ:Place)(H:Hp)(w:World)(fr:Nat)(r:Result Next)(K:V->List (Nat×aa)->List Nat->Prop):Prop:=
 ∃nx val w' aI v Δ rd,K v Δ rd/\r= .ok nx w'/\(nx= .value val\/nx= .skip/\val=undef)/\aB M aI (H.put Δ) w'/\Trans φ H w aI (H.put Δ) w'/\
  V.den (aq M aI (H.put Δ)) aI (H.put Δ) w' v val/\(∀id∈Δ.map (·.1),H.us id\/id=fr)
section
variable {P:Program}{M:Nat->Prop}{φ:Place}{H:Hp}{w:World}{fr:Nat}{K:V->List (Nat×aa)->List Nat->Prop}
theorem db.same (hH:aB M φ H w){r:Result Next}{v:V}{rd:List Nat}(val:Value)(hK:K v [] rd)(hr:r= .ok (.value val) w)(hd:V.den (aq M φ H) φ H w v val):db M φ H w fr r K:=
 ⟨_,val,w,φ,v,[],rd,hK,hr, .inl rfl,by rw[pf];exact hH,by rw[pf];exact Trans.refl _ _ _,by rw[pf];exact hd,aF⟩
theorem info_of_underlying{t:TypeId}{d:TypeDesc}(h:P.underlying t=some d):∃i,P.info? t=some i:=by
 unfold Program.underlying at h
 cases hi:P.info? t with
 |none=>simp[hi]at h
 |some i=>exact⟨i,rfl⟩
theorem bV{t:TypeId}{i:TypeInfo}(h:P.info? t=some i):P.cellsOf t=i.size:=by simp[Program.cellsOf,h]
theorem j5{t:TypeId}{i:TypeInfo}(h:P.info? t=some i):P.bytesOf t=i.bytes:=by simp[Program.bytesOf,h]
theorem jc{t:TypeId}{z:List V}(h:cy P t=some z):∃i v,P.info? t=some i/\i.zero=some v/\v.cells.size=i.size/\Flat v.cells.toList/\z=v.cells.toList.map V.dM:=by
 unfold cy at h
 cases hi:P.info? t with
 |none=>simp[hi]at h
 |some i=>
  simp only[hi]at h
  cases hz:i.zero with
  |none=>simp[hz]at h
  |some v=>
   simp only[hz]at h
   split at h
   ·rename_i hc
    injection h with h
    exact⟨i,v,rfl,hz,hc.1,fun u hu=>List.all_eq_true.1 hc.2 u hu,h.symm⟩
   ·cases h
theorem tx{t:TypeId}(h:du P t=some true)(w:World):(isAgg t).run P w= .ok true w:=by
 unfold du at h
 unfold isAgg
 cases hd:P.underlying t with
 |none=>simp[hd]at h
 |some d=>cases d<;>simp_all[run_underlying hd]
theorem qy{t:TypeId}(h:du P t=some false)(w:World):(isAgg t).run P w= .ok false w:=by
 unfold du at h
 unfold isAgg
 cases hd:P.underlying t with
 |none=>simp[hd]at h
 |some d=>cases d<;>simp_all[run_underlying hd]
theorem ei{t:TypeId}{i:TypeInfo}(h:P.info? t=some i)(w:World):(sizeOf t).run P w= .ok (P.cellsOf t) w:=by
 simp[sizeOf,typeInfo,h,bV h]
theorem tz{t:TypeId}{b:Bool}(h:du P t=some b):∃i,P.info? t=some i:=by
 unfold du at h
 cases hd:P.underlying t with
 |none=>simp[hd]at h
 |some d=>exact info_of_underlying hd
theorem bD{t e:TypeId}(h:b7 P t=some e):P.underlying t=some (.slice e):=by
 unfold b7 at h
 cases hd:P.underlying t with
 |none=>simp[hd]at h
 |some d=>cases d<;>simp_all
theorem zH{t e:TypeId}{n:Nat}(h:A6 P t=some (n,e)):P.underlying t=some (.array n e):=by
 unfold A6 at h
 cases hd:P.underlying t with
 |none=>simp[hd]at h
 |some d=>cases d<;>simp_all
theorem add_zero(a:Addr):a.add 0=a:=by simp[Addr.add]
theorem add_plain(b o j:Nat):(⟨b,o,none⟩:Addr).add j=⟨b,o+j,none⟩:=by
 unfold Addr.add;split
 ·rename_i h;subst h;rfl
 ·rfl
theorem add_add(a:Addr)(h:a.spot=none)(m n:Nat):(a.add m).add n=a.add (m+n):=by
 obtain⟨b,o,s⟩:=a
 simp only at h;subst h
 simp only[add_plain,Nat.add_assoc]
theorem C5(a:Addr)(h:a.spot=none)(m:Nat):(a.add m).spot=none:=by
 unfold Addr.add;split<;>first|exact h|rfl
theorem n6(s:S)(a:Act)(eR:∀i,V.den (aq M φ H) φ H w (s.env i) (a.tmps.getD i undef))(x:Operand):V.den (aq M φ H) φ H w (s.ev x) (a.eval x):=by
 cases x with
 |tmp t=>exact eR t
 |func f=>exact⟨#[],#[],rfl,rfl,rfl⟩
 |global g=>trivial
 |const v=>
  cases v with
  |agg c=>
   simp only[S.ev,V.ofConst,Act.eval]
   split
   ·rename_i hc
    have hf:Flat c.toList:=fun u hu=>List.all_eq_true.1 hc u hu
    exact mA _ _ (eg _ hf) hf
   ·trivial
  |tuple _=>trivial
  |_=>simp only[S.ev,V.ofConst,Act.eval];exact mZ _ (by rfl)
theorem lE(s:S)(a:Act)(eR:∀i,V.den (aq M φ H) φ H w (s.env i) (a.tmps.getD i undef)):∀ (xs:List Operand),V.aG (aq M φ H) φ H w (xs.map s.ev) (xs.map a.eval)
 |[]=>rfl
 |x::xs=>⟨a.eval x,xs.map a.eval,rfl,n6 s a eR x,lE s a eR xs⟩
theorem n9{t:TypeId}(a:Addr)(us:List Value)(hc:∀j u,us[j]? =some u->w.cell? (a.add j)=some u):
 (du P t=some true->us.length=P.cellsOf t->(Instr.loadAt t (.pointer (some a))).run P w= .ok (.agg us.toArray) w)/\
 (du P t=some false->∀u,us[0]? =some u->(Instr.loadAt t (.pointer (some a))).run P w= .ok u w):=by
 constructor
 ·intro h hl
  obtain⟨i,hi⟩:=tz h
  have h1:=run_loadCells_list (P:=P) w a us hc
  rw[hl]at h1
  simp[Instr.loadAt,Instr.sureAddr,loadVar,tx h,ei hi,h1]
 ·intro h u hu
  have h1:=hc 0 u hu
  rw[add_zero]at h1
  simp[Instr.loadAt,Instr.sureAddr,loadVar,qy h,h1]
theorem rD{t:TypeId}{cs:List V}{off:Nat}{v:V}(hg:fF P t cs off=some v)(a:Addr)(vs:List Value)(hd:V.aG (aq M φ H) φ H w cs vs)(hf:Flat vs)
 (hc:∀j u,vs[j]? =some u->w.cell? (a.add j)=some u) (ha:a.spot=none):∃val,(Instr.loadAt t (.pointer (some (a.add off)))).run P w= .ok val w/\V.den (aq M φ H) φ H w v val:=by
 have hlen:=V.aE _ _ hd
 unfold fF at hg
 cases FP:du P t with
 |none=>simp[FP]at hg
 |some b=>
  cases b with
  |true=>
   simp only[FP]at hg
   split at hg
   ·rename_i hle
    injection hg with hg;subst hg
    refine⟨.agg ((vs.drop off).take (P.cellsOf t)).toArray,(n9 (P:=P) (t:=t) (a.add off) ((vs.drop off).take (P.cellsOf t)) ?_).1 FP ir, ?_⟩
    ·intro j u hj
     rw[add_add a ha]
     rw[List.getElem?_take]at hj
     split at hj
     ·exact hc _ _ nU
     ·cases hj
    ·refine mA _ _ ?_ ?_
     ·exact V.df _ _ _ (V.eU _ _ _ hd)
     ·intro u hu
      exact hf u (List.mem_of_mem_drop (List.mem_of_mem_take (by simpa using hu)))
   ·cases hg
  |false=>
   simp only[FP]at hg
   obtain⟨u,hu,QW⟩:=V.dA _ _ _ _ hd hg
   refine⟨u,(n9 (P:=P) (t:=t) (a.add off) (vs.drop off) ?_).2 FP u (by simpa using hu),QW⟩
   intro j x hj
   rw[add_add a ha]
   exact hc _ _ nU
theorem od(sz:Nat):∀ (evs:List Value) (i j:Nat) (ev:Value) (u:Value),(∀x∈evs,x.cells.size=sz)->evs[i]? =some ev->ev.cells[j]? =some u->
 (evs.flatMap (·.cells.toList))[i*sz+j]? =some u
 |[],_,_,_,_,_,h,_=>by simp at h
 |e::evs,0,j,ev,u,hs,h,hu=>by
  simp at h;subst h
  have:j<e.cells.size:=(Array.getElem?_eq_some_iff.1 hu).1
  rw[List.flatMap_cons,List.getElem?_append_left (by simp;omega)]
  simpa using hu
 |e::evs,i+1,j,ev,u,hs,h,hu=>by
  have ih:=od sz evs i j ev u (fun x hx=>hs x pN) (by simpa using h) hu
  rw[List.flatMap_cons,List.getElem?_append_right (by simp[hs e (by simp),Nat.add_mul];omega)]
  simp only[Array.length_toList,hs e (by simp)]
  rw[show(i+1)*sz+j - sz=i*sz+j by rw[Nat.add_mul];omega]
  exact ih
theorem rE{g:Nat}{eG:Array Value}{ty:TypeId}{fz:Nat×Nat}(h:w.heap[g]? =some (.cells eG ty fz))(j:Nat)(u:Value)(hu:eG[j]? =some u):w.cell? ((⟨g,0,none⟩:Addr).add j)=some u:=by
 rw[add_plain,Nat.zero_add,cell_of_row w g j eG ty fz h];exact hu
theorem MU{B:Nat->Prop}{ty:TypeId}{sz:Nat}{es:List D}{v:Value}{b n c i:Nat}{e:D}
 (a8:0<sz/\∃xs,w.ownsRow 0 ty sz v es.length xs/\dG B w sz es xs) (hv:v= .slice (some ⟨b,0,none⟩) n c) (he:es[i]? =some e):
 ∃ev:Value,ev.cells.size=sz/\D.aG B w e.cells ev.cells.toList/\Flat ev.cells.toList/\(∀j u,ev.cells.toList[j]? =some u->w.cell? ((⟨b,i*sz,none⟩:Addr).add j)=some u):=by
 obtain⟨h0,xs,⟨hl,cL⟩,evs,rfl,h2,h3⟩:=a8
 obtain⟨ev,dH,hd⟩:=D.dA _ _ _ _ h3 he
 have Xt:=D.eV _ _ hd
 refine⟨ev,h2 ev (List.mem_of_getElem? dH),Xt.1,Xt.2,fun j u hj=> ?_⟩
 subst hv
 rcases cL with⟨h4,_⟩|⟨g,cap,cur,h4,_,h5,h6,h7,h8,h9⟩
 ·simp at h4
 ·simp at h4;obtain⟨rfl,_,rfl⟩:=h4
  have:=od sz evs i j ev u h2 dH nU
  rw[<- h9,List.getElem?_take]at this
  split at this
  ·have UC:=rE h5 (i*sz+j) u (by simpa using this)
   rw[add_plain]at UC|-
   simpa using UC
  ·cases this
theorem MV(hH:aB M φ H w){t:TypeId}{x:V}{xv:Value}(hx:V.den (aq M φ H) φ H w x xv)
 (h:CX P H.o t x fun v rd=>K v [] rd):db M φ H w fr ((do let y <- Instr.loadAt t xv;pure (Next.value y):Sem Next).run P w) K:=by
 have fin:∀ (v:V) rd,K v [] rd->(∃val,(Instr.loadAt t xv).run P w= .ok val w/\V.den (aq M φ H) φ H w v val)->db M φ H w fr ((do let y <- Instr.loadAt t xv;pure (Next.value y):Sem Next).run P w) K:=by
  rintro v rd hK ⟨val,h1,h2⟩
  exact db.same hH val hK (by simp[h1]) h2
 unfold CX at h
 split at h
 ·rename_i id off
  split at h
  ·rename_i cs ho
   obtain⟨v,h1,hK⟩:=h
   obtain⟨_,hu,hp⟩:=hx
   obtain⟨b,fA,rfl⟩:=hp eY
   have a8:=hH.ok id
   simp only[aU,ho]at a8
   obtain⟨b',eG,ty,g1,g2,g3,g4⟩:=a8
   rw[fA]at g1;simp at g1;subst g1
   refine fin v _ hK ?_
   have:=rD (P:=P) h1 ⟨b,0,none⟩ eG.toList g3 g4 (fun j u hj=>rE g2 j u nU) rfl
   rwa [add_plain,Nat.zero_add]at this
  ·exact h.elim
 ·rename_i cs off
  obtain⟨v,h1,hK⟩:=h
  obtain⟨a,ev,ha,rfl,hd,hf,hc⟩:=hx
  exact fin v _ hK (rD h1 a ev ((V.cT _ _).2 hd) hf (fun j u hj=>(hc j u nU).1) ha)
 ·rename_i id ep i sz off
  split at h
  ·rename_i gM ty s9 es ho
   obtain⟨rfl,rfl,e,he,v,h1,hK⟩:=h
   obtain⟨_,hu,hp⟩:=hx
   obtain⟨b,n,c,fA,rfl⟩:=(hp ep eY).2 rfl
   have a8:=hH.ok id
   simp only[aU,ho]at a8
   obtain⟨ev,g1,g2,g3,g4⟩:=MU a8 fA he
   refine fin v _ hK ?_
   have:=rD (P:=P) h1 ⟨b,i*sz,none⟩ ev.cells.toList ((V.cT _ _).2 g2) g3 g4 rfl
   rwa [add_plain]at this
  ·exact h.elim
 ·exact h.elim
end
end
section
section
variable {P:Program}{M:Nat->Prop}{φ:Place}{H:Hp}{w:World}{fr:Nat}{K:V->List (Nat×aa)->List Nat->Prop}
theorem db.plain (hH:aB M φ H w){s:Sem Value}{v:V}{rd:List Nat}(val:Value)(hK:K v [] rd)(hr:s.run P w= .ok val w)(hd:V.den (aq M φ H) φ H w v val):
 db M φ H w fr ((do let y <- s;pure (Next.value y):Sem Next).run P w) K:=db.same hH val hK (by simp[hr]) hd
theorem C6{t:TypeId}{f q:Nat}(h:bX P t f=some q):∃fs fd,P.underlying t=some (.struct fs)/\fs[f]? =some fd/\P.cellsOf fd.type≠0/\fd.offset=q:=by
 unfold bX at h
 cases hd:P.underlying t with
 |none=>simp[hd]at h
 |some d=>
  cases d<;>simp only[hd]at h<;>try (cases h;done)
  rename_i fs
  cases hf:fs[f]? with
  |none=>simp[hf]at h
  |some fd=>
   simp only[hf]at h
   split at h
   ·cases h
   ·injection h with h
    exact⟨fs,fd,rfl,hf,by assumption,h⟩
theorem C7{t:TypeId}{f q:Nat}(h:bX P t f=some q)(a:Addr):(Instr.fieldAt t (.pointer (some a)) f).run P w= .ok (.pointer (some (a.add q))) w:=by
 obtain⟨fs,fd,h1,h2,h3,rfl⟩:=C6 h
 have:∃i,P.info? fd.type=some i:=by
  cases hi:P.info? fd.type with
  |none=>simp[Program.cellsOf,hi]at h3
  |some i=>exact⟨i,rfl⟩
 obtain⟨i,hi⟩:=this
 simp[Instr.fieldAt,run_underlying h1,h2,Instr.sureAddr,fieldPlace,ei hi,h3]
def V.step (x:V)(q:Nat):Option V:=
 match x with
 | .ptr id off=>some (.ptr id (off+q))
 | .pp cs off=>some (.pp cs (off+q))
 | .pe id ep j sz off=>some (.pe id ep j sz (off+q))
 |_=>none
def V.place (o:Nat->aa):V->Prop
 | .ptr id _=>(o id).cF=true
 | .pe id ep _ _ _=>(o id).cu=some ep
 |_=>True
theorem C8{x y:V}{q:Nat}(h:x.step q=some y){xv:Value}(hx:V.den (aq M φ H) φ H w x xv)
 (hr:x.place H.o):
 ∃a,xv= .pointer (some a)/\V.den (aq M φ H) φ H w y (.pointer (some (a.add q))):=by
 cases x with
 |ptr id off=>
  simp only[V.step,Option.some.injEq]at h;subst h
  obtain⟨h1,h2,h3⟩:=hx
  obtain⟨b,h4,rfl⟩:=h3 hr
  exact⟨_,rfl,rfl,h2,fun _=>⟨b,h4,by rw[add_plain]⟩⟩
 |pp cs off=>
  simp only[V.step,Option.some.injEq]at h;subst h
  obtain⟨a,ev,ha,rfl,hd⟩:=hx
  exact⟨_,rfl,a,ev,ha,by rw[add_add a ha],hd⟩
 |pe id ep j sz off=>
  simp only[V.step,Option.some.injEq]at h;subst h
  obtain⟨h1,h2,h3⟩:=hx
  obtain⟨b,n,c,h4,rfl⟩:=(h3 ep hr).2 rfl
  refine⟨_,rfl,rfl,h2,fun e he=>⟨(h3 e he).1,fun heq=>⟨b,n,c,h4,by rw[add_plain,Nat.add_assoc]⟩⟩⟩
 |_=>simp[V.step]at h
theorem yL(hH:aB M φ H w){t:TypeId}{f:Nat}{x:V}{xv:Value}(hx:V.den (aq M φ H) φ H w x xv)(h:kI P H.o t x f fun v=>K v [] []):
 db M φ H w fr ((do let y <- Instr.fieldAt t xv f;pure (Next.value y):Sem Next).run P w) K:=by
 have fin:∀ (y:V) q,bX P t f=some q->x.step q=some y->x.place H.o->K y [] []->
  db M φ H w fr ((do let y <- Instr.fieldAt t xv f;pure (Next.value y):Sem Next).run P w) K:=by
  intro y q hq hs hr hK
  obtain⟨a,rfl,hd⟩:=C8 hs hx hr
  exact db.plain hH _ hK (C7 hq a) hd
 unfold kI at h
 split at h
 ·rename_i q hq
  split at h
  ·exact fin _ q hq rfl h.1 h.2
  ·exact fin _ q hq rfl trivial h
  ·exact fin _ q hq rfl h.1 h.2
  ·exact h.elim
 ·exact h.elim
theorem FQ{B:Nat->Prop}{es:List D}{xv:Value}(hx:D.den B w (.sl es) xv){i:Nat}{y:D}(hy:es[i]? =some y):
 ∃a len cap ev,xv= .slice (some a) len cap/\i<len/\a.spot=none/\D.aG B w y.cells ev/\Flat ev/\iB B w (a.add (i*y.cells.length)) ev.toArray/\len=es.length:=by
 obtain⟨base,len,cap,rfl,rfl,h2,h3,sz,h4⟩:=hx
 have cD:i<es.length:=(List.getElem?_eq_some_iff.1 hy).1
 cases base with
 |none=>have:=h3 rfl;omega
 |some a=>
  obtain⟨h5,h6⟩:=h4 a rfl
  obtain⟨ev,h7,h8,h9⟩:=D.zB es 0 i y h6 hy
  have UC:=D.eV _ _ h9
  have h11:y.cells.length=sz:=by rw[<- h7, <- D.aE _ _ UC.1];simp
  refine⟨a,es.length,cap,ev.cells.toList,rfl,cD,h5 ad,UC.1,UC.2, ?_,rfl⟩
  rw[h11]
  simpa using h8
theorem qc{t e:TypeId}(ht:b7 P t=some e)(a:Addr)(len cap:Nat)(k:IntKind)(i:Int)(h0:0<=i)(h1:i.toNat<len)(hc:0<P.cellsOf e):
 (Instr.indexAt t (.slice (some a) len cap) (.int k i)).run P w= .ok (.pointer (some (a.add (i.toNat*P.cellsOf e)))) w:=by
 have hu:=bD ht
 have:∃ie,P.info? e=some ie:=by
  cases hi:P.info? e with
  |none=>simp[Program.cellsOf,hi]at hc
  |some i=>exact⟨i,rfl⟩
 obtain⟨ie,hi⟩:=this
 have h2:0<=i/\i<(len:Int):=⟨h0,ad⟩
 simp[Instr.indexAt,run_underlying hu,asIntOf,h2,ei hi]
theorem yM{t e:TypeId}{n:Nat}(ht:A6 P t=some (n,e))(a:Addr)(k:IntKind)(i:Int)(h0:0<=i)(h1:i<n)(hi:∃ie,P.info? e=some ie):
 (Instr.indexAt t (.pointer (some a)) (.int k i)).run P w= .ok (.pointer (some (a.add (i.toNat*P.cellsOf e)))) w:=by
 have hu:=zH ht
 obtain⟨ie,hi⟩:=hi
 have h2:0<=i/\i<(n:Int):=⟨h0,h1⟩
 simp[Instr.indexAt,run_underlying hu,asIntOf,Instr.sureAddr,h2,ei hi]
theorem yN(hH:aB M φ H w){t:TypeId}{x ix:V}{xv iv:Value}(hx:V.den (aq M φ H) φ H w x xv)(hi:V.den (aq M φ H) φ H w ix iv)
 (h:kH P H.o t x ix fun v rd=>K v [] rd):db M φ H w fr ((do let y <- Instr.indexAt t xv iv;pure (Next.value y):Sem Next).run P w) K:=by
 unfold kH at h
 split at h
 ·rename_i k i
  simp only[V.den,D.den]at hi;subst hi
  have Ba:∀ {e:TypeId} {es:List D} {rd},b7 P t=some e->D.den (aq M φ H) w (.sl es) xv->(0<=i/\∃y,es[i.toNat]? =some y/\y.cells.length=P.cellsOf e/\0<P.cellsOf e/\K (.pp y.cells 0) [] rd)->
   db M φ H w fr ((do let y <- Instr.indexAt t xv (.int k i);pure (Next.value y):Sem Next).run P w) K:=by
   rintro e es rd ht hd ⟨h0,y,hy,hc,gk,hK⟩
   obtain⟨a,len,cap,ev,rfl,h1,h2,h3,h4,h5,_⟩:=FQ hd hy
   refine db.plain hH _ hK (qc ht a len cap k i h0 h1 gk) ⟨a.add (i.toNat*P.cellsOf e),ev,C5 a h2 _,by rw[add_zero],h3,h4, ?_⟩
   rw[<- hc];exact h5
  split at h
  ·rename_i e ht
   split at h
   ·exact Ba ht hx h
   ·exact Ba ht hx.1 h
   ·rename_i id ep
    split at h
    ·rename_i gM ty sz es ho
     obtain⟨rfl,h0,h1,rfl,gk,hK⟩:=h
     obtain⟨Kl,eE,wH⟩:=hx
     have hv:=(wH ep eY).2 rfl
     have a8:=hH.ok id
     simp only[aU,ho]at a8
     obtain⟨h3,xs,⟨_,cL⟩,_⟩:=a8
     rcases cL with⟨_,h5⟩|⟨g,cap,cur,h4,_⟩
     ·omega
     ·subst hv
      rw[h4]
      refine db.plain hH _ hK (qc ht _ _ cap k i h0 h1 gk) ⟨rfl,eE,fun e' rb=>⟨(wH e' rb).1,fun heq=>⟨g,es.length,cap,h4,by rw[add_plain];simp⟩⟩⟩
    ·rename_i gM es ho
     obtain⟨rfl,h⟩:=h
     obtain⟨Kl,eE,wH⟩:=hx
     have hv:=(wH ep eY).2 rfl
     have a8:=hH.ok id
     simp only[aU,ho]at a8
     exact Ba ht (hv ▸ a8) h
    ·exact h.elim
   ·exact h.elim
  ·split at h
   ·rename_i n e ht
    obtain⟨h0,h1,agp,h⟩:=h
    have fin:∀ (y:V),x.step (i.toNat*P.cellsOf e)=some y->x.place H.o->K y [] []->
     db M φ H w fr ((do let y <- Instr.indexAt t xv (.int k i);pure (Next.value y):Sem Next).run P w) K:=by
     intro y hs hr hK
     obtain⟨a,rfl,hd⟩:=C8 hs hx hr
     refine db.plain hH _ hK (yM ht a k i h0 h1 (Option.isSome_iff_exists.1 agp)) hd
    split at h
    ·exact fin _ rfl h.1 h.2
    ·exact fin _ rfl trivial h
    ·exact fin _ rfl h.1 h.2
    ·exact h.elim
   ·exact h.elim
 ·exact h.elim
theorem Xu(hH:aB M φ H w){op:UnOp}{x:V}{xv:Value}(hx:V.den (aq M φ H) φ H w x xv)(h:unV op x fun v=>K v [] []):
 db M φ H w fr ((do let y <- Op.unary op xv;pure (Next.value y):Sem Next).run P w) K:=by
 unfold unV at h
 split at h
 ·simp only[V.den,D.den]at hx;subst hx
  exact db.plain hH _ h (by simp[Op.unary,Op.intArith]) rfl
 ·simp only[V.den,D.den]at hx;subst hx
  exact db.plain hH _ h (by simp[Op.unary]) rfl
 ·exact h.elim
theorem CO{op:BinOp}{k:IntKind}{a b r:Int}(h:wA op k a b=some r):(Op.intBits op k a b).run P w= .ok (.int k r) w:=by
 unfold wA at h
 cases op<;>simp at h<;>subst h<;>simp[Op.intBits]
theorem uB{t:TypeId}(hu:P.underlying t=some .bool)(a b:Bool)(d:Nat):(Op.equalIn (d+1) t (.bool a) (.bool b)).run P w= .ok (a==b) w:=by
 simp[Op.equalIn,run_underlying hu]
theorem QX(hH:aB M φ H w){op:BinOp}{t:TypeId}{p q:Operand}{x y:V}{xv yv:Value}(hx:V.den (aq M φ H) φ H w x xv)(hy:V.den (aq M φ H) φ H w y yv)
 (h:MQ P op t x y fun v=>K v [] []):
 db M φ H w fr ((do let y <- (do eqGuard op t p q xv yv;binOp op t xv yv);pure (Next.value y):Sem Next).run P w) K:=by
 unfold MQ at h
 split at h
 ·rename_i k a k' b
  obtain⟨rfl,h⟩:=h
  simp only[V.den,D.den]at hx hy;subst hx;subst hy
  have hg:(eqGuard op t p q (.int k a) (.int k b)).run P w= .ok () w:=by
   exact MC
  have fin:∀ (v:V) (val:Value),K v [] []->(binOp op t (.int k a) (.int k b)).run P w= .ok val w->V.den (aq M φ H) φ H w v val->
   db M φ H w fr ((do let y <- (do eqGuard op t p q (.int k a) (.int k b);binOp op t (.int k a) (.int k b));pure (Next.value y):Sem Next).run P w) K:=by
   intro v val hK hr hd
   exact db.plain hH val hK (by simp[hg,hr]) hd
  cases op<;>simp only[QP]at h
  case add=>exact fin _ _ h (by simp[binOp,Op.intArith]) rfl
  case sub=>exact fin _ _ h (by simp[binOp,Op.intArith]) rfl
  case mul=>exact fin _ _ h (by simp[binOp,Op.intArith]) rfl
  case quo=>exact fin _ _ h.2 (by simp[binOp,Op.intDiv,h.1]) rfl
  case rem=>exact fin _ _ h.2 (by simp[binOp,Op.intDiv,h.1]) rfl
  case and=>obtain⟨r,hr,hK⟩:=h;exact fin _ _ hK HI rfl
  case or=>obtain⟨r,hr,hK⟩:=h;exact fin _ _ hK HI rfl
  case xor=>obtain⟨r,hr,hK⟩:=h;exact fin _ _ hK HI rfl
  case andNot=>obtain⟨r,hr,hK⟩:=h;exact fin _ _ hK HI rfl
  all_goals
   obtain⟨r,hr,hK⟩:=h
   simp only[acO,Option.some.injEq]at hr
   subst hr
   exact fin _ _ hK (by simp[binOp,Op.intCmp];rfl) (by simp[V.den,D.den])
 ·rename_i a b
  simp only[V.den,D.den]at hx hy;subst hx;subst hy
  have hg:(eqGuard op t p q (.bool a) (.bool b)).run P w= .ok () w:=by
   exact MC
  split at h
  ·obtain⟨hu,hK⟩:=h
   have h1:(Op.equal t (.bool a) (.bool b)).run P w= .ok (a==b) w:=uB hu a b 9999
   exact db.plain hH (.bool (a==b)) hK (by simp[hg,binOp,h1]) rfl
  ·obtain⟨hu,hK⟩:=h
   have h1:(Op.equal t (.bool a) (.bool b)).run P w= .ok (a==b) w:=uB hu a b 9999
   exact db.plain hH (.bool (a !=b)) hK (by simp[hg,binOp,h1,bne]) rfl
  ·exact h.elim
 ·rename_i a b
  obtain⟨u,rfl,rfl⟩:=hx
  obtain⟨v,rfl,rfl⟩:=hy
  have hg:(eqGuard op t p q (.string u) (.string v)).run P w= .ok () w:=by
   exact MC
  split at h
  ·exact db.plain hH (.bool (u.data.toList==v.data.toList)) h (by simp[hg,binOp,Op.stringOp,ByteArray.toList_eq]) rfl
  ·exact db.plain hH (.bool (u.data.toList !=v.data.toList)) h (by simp[hg,binOp,Op.stringOp,ByteArray.toList_eq,bne]) rfl
  ·exact h.elim
 ·rename_i a b
  obtain⟨a',rfl,hx⟩:=hx
  obtain⟨b',rfl,hy⟩:=hy
  split at h
  ·obtain⟨r,hr,hK⟩:=h
   obtain⟨h1,h2⟩:=hr (aq M φ H) w (.agg a') (.agg b') ⟨a',rfl,hx⟩ ⟨b',rfl,hy⟩
   exact db.plain hH (.bool r) hK (by simp[h2,binOp,h1]) rfl
  ·obtain⟨r,hr,hK⟩:=h
   obtain⟨h1,h2⟩:=hr (aq M φ H) w (.agg a') (.agg b') ⟨a',rfl,hx⟩ ⟨b',rfl,hy⟩
   exact db.plain hH (.bool !r) hK (by simp[h2,binOp,h1]) rfl
  ·exact h.elim
 ·exact h.elim
theorem MW(hH:aB M φ H w){c a b:V}{cv av bv:Value}(hc:V.den (aq M φ H) φ H w c cv)(ha:V.den (aq M φ H) φ H w a av)(hb:V.den (aq M φ H) φ H w b bv)
 (h:CW c a b fun v=>K v [] []):db M φ H w fr ((do pure (.value (if <- asBool cv then av else bv)):Sem Next).run P w) K:=by
 unfold CW at h
 split at h
 ·rename_i t
  simp only[V.den,D.den]at hc;subst hc
  have hr:((do pure (.value (if <- asBool (.bool t)then av else bv)):Sem Next).run P w)= .ok (.value (if t then av else bv)) w:=by simp[asBool]
  have fin:∀v,K v [] []->V.den (aq M φ H) φ H w v (if t then av else bv)->db M φ H w fr ((do pure (.value (if <- asBool (.bool t)then av else bv)):Sem Next).run P w) K:=
   fun v hK hd=>db.same hH _ hK hr hd
  cases t
  ·exact fin _ (h.2 rfl) (by simpa using hb)
  ·exact fin _ (h.1 rfl) (by simpa using ha)
 ·exact h.elim
theorem vH{t:TypeId}{e:TypeId}(hu:P.underlying t=some (.slice e))(base:Option Addr)(n c:Nat)(ty:TypeId):(Builtin.len_ #[t] ty #[.slice base n c]).run P w= .ok (goInt n) w:=by
 simp[Builtin.len_,run_underlying hu]
theorem QY(hH:aB M φ H w){t ty:TypeId}{x:V}{xv:Value}(hx:V.den (aq M φ H) φ H w x xv)(h:MR P t H.o x fun v rd=>K v [] rd):
 db M φ H w fr ((do let y <- Builtin.len_ #[t] ty #[xv];pure (Next.value y):Sem Next).run P w) K:=by
 unfold MR at h
 split at h
 ·rename_i e hu
  have fin:∀ {es:List D} {rd},D.den (aq M φ H) w (.sl es) xv->K (.d (.int .i64 es.length)) [] rd->db M φ H w fr ((do let y <- Builtin.len_ #[t] ty #[xv];pure (Next.value y):Sem Next).run P w) K:=by
   rintro es rd ⟨base,len,cap,rfl,rfl,_⟩ hK
   exact db.plain hH _ hK (vH hu _ _ _ _) rfl
  split at h
  ·exact fin hx h
  ·simp only[V.den]at hx;subst hx
   exact db.plain hH _ h (vH hu _ _ _ _) rfl
  ·exact fin hx.1 h
  ·rename_i id ep
   split at h
   ·rename_i gM ty sz es ho
    obtain⟨rfl,hK⟩:=h
    obtain⟨Kl,eE,wH⟩:=hx
    have hv:=(wH ep eY).2 rfl
    have a8:=hH.ok id
    simp only[aU,ho]at a8
    obtain⟨h3,xs,⟨_,cL⟩,_⟩:=a8
    subst hv
    rcases cL with⟨h4,h5⟩|⟨g,cap,cur,h4,_⟩
    ·rw[h4];rw[h5]at hK;exact db.plain hH _ hK (vH hu _ _ _ _) rfl
    ·rw[h4];exact db.plain hH _ hK (vH hu _ _ _ _) rfl
   ·rename_i gM es ho
    obtain⟨rfl,hK⟩:=h
    obtain⟨Kl,eE,wH⟩:=hx
    have hv:=(wH ep eY).2 rfl
    have a8:=hH.ok id
    simp only[aU,ho]at a8
    exact fin (hv ▸ a8) hK
   ·exact h.elim
  ·exact h.elim
 ·rename_i hu
  split at h
  ·obtain⟨u,rfl,rfl⟩:=hx
   exact db.plain hH (goInt u.size) h (by simp[Builtin.len_,run_underlying hu]) (by simp[V.den,D.den,goInt])
  ·exact h.elim
 ·rename_i n e hu
  exact db.plain hH _ h (by simp[Builtin.len_,run_underlying hu];rfl) rfl
 ·exact h.elim
end
end
end Go.Proofs.YtlhemmpklhhgoaaGreat
