/-
  A PART. Conditions: none.
-/
import Derived.Great.BuildSlice
import Derived.Great.FillDense
import Derived.Test.YtnkamdiiakdkgaaGreatEe1
set_option linter.unusedSimpArgs false
set_option linter.unusedVariables false
set_option maxHeartbeats 8000000
namespace Go.Proofs.YtnkamdiiakdkgaaGreat
def au{α:Type}(f:Nat->α)(i:Nat)(x:α):Nat->α:=fun j=>if j=i then x else f j
@[simp] theorem aR {α:Type} (f:Nat->α) (i:Nat) (x:α) (j:Nat):au f i x j=if j=i then x else f j:=rfl
structure S where
 env:Nat->V
 o:Nat->aa
 nx:Nat
def S.H (s:S):Hp:=⟨s.o,fun id=>id<s.nx⟩
def V.dM:Value->V
 | .int k n=> .d (.int k n)| .bool b=> .d (.bool b)| .string s=> .d (.str s.data.toList)
 | .nilIface=> .d .fN| .pointer none=> .d .nR| .nilFunc=> .d .cK| .map none=> .d .iY
 | .slice none 0 0=> .aU
 |_=> .ag
def qy:List V->Option (List D)
 |[]=>some []
 | .d x::vs=>(qy vs).map (x::·)
 |_::_=>none
def qi(cs:List V):V:=match qy cs with|some ds=> .d (.agg ds)|none=> .agg cs
def V.ofConst:Value->V
 | .agg a=>if a.toList.all Value.oneCell' then qi (a.toList.map V.dM)else .ag
 |v=>V.dM v
def S.ev (s:S):Operand->V
 | .tmp t=>s.env t
 | .const v=>V.ofConst v
 | .func f=> .func (.func f) [] []
 | .global _=> .ag
def D.cells:D->List D
 | .agg cs=>cs
 |x=>[x]
def V.cells:V->Option (List V)
 | .d x=>some (x.cells.map .d)
 | .agg cs=>some cs
 | .cc _| .ag=>none
 |v=>some [v]
mutual
def dS(o:Nat->aa):V->Option D
 | .d x=>some x
 | .aU=>some (.sl [])
 | .qx es=>some (.sl es)
 | .osl id ep=>match o id with
   | .arr fq _ _ es| .qg fq es=>if ep=fq then some (.sl es)else none
   |_=>none
 | .mp id=>match o id with
   | .map _ _ l=>some (.mp (l.map (·.1)) (l.map (·.2)))
   | .gw l=>some (.mp (l.map (·.1)) (l.map (·.2)))
   |_=>none
 | .agg cs=>(cF o cs).map .agg
 | .iface t x=>(dS o x).map (.iface t)
 |_=>none
def cF(o:Nat->aa):List V->Option (List D)
 |[]=>some []
 |v::vs=>(dS o v).bind fun x=>(cF o vs).map (x::·)
end
mutual
def V.ids:V->List Nat
 | .osl id _=>[id]
 | .mp id=>[id]
 | .agg cs=>V.bC cs
 | .iface _ x=>x.ids
 |_=>[]
def V.bC:List V->List Nat
 |[]=>[]
 |v::vs=>v.ids++V.bC vs
end
def bY(o:Nat->aa)(ids:List Nat):List (Nat×aa):=
 ids.map fun id=>(id,match o id with| .arr ep _ _ es=> .qg ep es| .map _ _ l=> .gw l|o=>o)
def tq(o:Nat->aa)(ids:List Nat):List (Nat×aa):=
 ids.filterMap fun id=>match o id with| .arr ep _ _ es=>some (id, .qg ep es)|_=>none
def put(o:Nat->aa)(Δ:List (Nat×aa)):Nat->aa:=Δ.foldl (fun f x=>au f x.1 x.2) o
def Hp.put (H:Hp)(Δ:List (Nat×aa)):Hp:={o:=YtnkamdiiakdkgaaGreat.put H.o Δ,us:=fun id=>H.us id\/id∈Δ.map (·.1)}
def ct(P:Program)(t:TypeId):Option (List V):=
 match P.info? t with
 |some i=>match i.zero with
  |some z=>if z.cells.size=i.size/\z.cells.toList.all Value.oneCell'=true then some (z.cells.toList.map V.dM)else none
  |none=>none
 |none=>none
def cL(P:Program)(t:TypeId):Option Bool:=
 match P.underlying t with
 |some (.struct _)|some (.array _ _)=>some true
 |some _=>some false
 |none=>none
def bH(P:Program)(t:TypeId)(f:Nat):Option Nat:=
 match P.underlying t with
 |some (.struct fs)=>match fs[f]? with
  |some fd=>if P.cellsOf fd.type=0 then none else some fd.offset
  |none=>none
 |_=>none
def bR(P:Program)(t:TypeId):Option TypeId:=
 match P.underlying t with
 |some (.slice e)=>some e
 |_=>none
def yZ(P:Program)(t:TypeId):Option (Nat×TypeId):=
 match P.underlying t with
 |some (.array n e)=>some (n,e)
 |_=>none
def dC(P:Program)(t:TypeId):Option (List (Nat×Nat)):=
 match P.underlying t with
 |some (.struct fs)=>if fs.toList.all (fun f=>(P.info? f.type).isSome)=true then some (fs.toList.map fun f=>(f.offset,P.cellsOf f.type))else none
 |some (.array n e)=>if(P.info? e).isSome=true then some ((List.range n).map fun i=>(i*P.cellsOf e,P.cellsOf e))else none
 |_=>none
def rl(P:Program)(t:TypeId):Option IntKind:=
 match P.underlying t with
 |some (.int k)=>some k
 |_=>none
def fw(P:Program)(t:TypeId)(cs:List V)(off:Nat):Option V:=
 match cL P t with
 |some true=>if off+P.cellsOf t<=cs.length then some (qi ((cs.drop off).take (P.cellsOf t)))else none
 |some false=>cs[off]?
 |none=>none
def Bi(P:Program)(t:TypeId)(cs:List V)(off:Nat)(v:V):Option (List V):=
 match v.cells with
 |some us=>if us.length=P.cellsOf t/\(0<us.length\/(P.info? t).isSome=true)/\off+us.length<=cs.length then some (cs.take off++us++cs.drop (off+us.length))else none
 |none=>none
def uz(places:List (Nat×Nat))(cs:List V):List (Nat×V)->Option (List V)
 |[]=>some cs
 |(i,v)::rest=>match places[i]?,v.cells with
  |some (off,size),some us=>if us.length=size/\off+us.length<=cs.length then uz places (cs.take off++us++cs.drop (off+us.length)) rest else none
  |_,_=>none
def D.put (e:D)(off:Nat)(us:List D):Option D:=
 match e with
 | .agg cs=>if off+us.length<=cs.length then some (.agg (cs.take off++us++cs.drop (off+us.length)))else none
 |_=>match off,us with
  |0,[u]=>some u
  |_,_=>none
def adA(op:BinOp)(a b:Int):Option Bool:=
 match op with
 | .eql=>some (a==b)| .neq=>some (a !=b)| .lss=>some (decide (a<b))| .leq=>some (decide (a<=b))
 | .gtr=>some (decide (a>b))| .geq=>some (decide (a≥b))
 |_=>none
def wD(op:BinOp)(k:IntKind)(x y:Int):Option Int:=
 let a:=BitVec.ofInt k.bits x
 let b:=BitVec.ofInt k.bits y
 match op with
 | .and=>some (k.wrap (a&&&b).toNat)
 | .or=>some (k.wrap (a|||b).toNat)
 | .xor=>some (k.wrap (a ^^^ b).toNat)
 | .andNot=>some (k.wrap (a&&& ~~~b).toNat)
 |_=>none
def RH(op:BinOp)(k:IntKind)(a b:Int)(K:V->Prop):Prop:=
 match op with
 | .add=>K (.d (.int k (k.wrap (a+b))))
 | .sub=>K (.d (.int k (k.wrap (a - b))))
 | .mul=>K (.d (.int k (k.wrap (a*b))))
 | .quo=>b≠0/\K (.d (.int k (k.wrap (a.tdiv b))))
 | .rem=>b≠0/\K (.d (.int k (a.tmod b)))
 | .and| .or| .xor| .andNot=>∃r,wD op k a b=some r/\K (.d (.int k r))
 | .shl| .shr=>False
 |op=>∃r,adA op a b=some r/\K (.d (.bool r))
def NL(P:Program)(t:TypeId)(x y:D)(r:Bool):Prop:=
 ∀ (B:Nat->Prop) (w:World) (u v:Value),D.den B w x u->D.den B w y v->(Op.equal t u v).run P w= .ok r w/\∀ (op:BinOp) (a b:Operand),(eqGuard op t a b u v).run P w= .ok () w
def NM(P:Program)(op:BinOp)(t:TypeId)(x y:V)(K:V->Prop):Prop:=
 match x,y with
 | .d (.int k a), .d (.int k' b)=>k=k'/\RH op k a b K
 | .d (.bool a), .d (.bool b)=>match op with
   | .eql=>P.underlying t=some .bool/\K (.d (.bool (a==b)))
   | .neq=>P.underlying t=some .bool/\K (.d (.bool (a !=b)))
   |_=>False
 | .d (.str a), .d (.str b)=>match op with
   | .eql=>K (.d (.bool (a==b)))
   | .neq=>K (.d (.bool (a !=b)))
   |_=>False
 | .d (.agg a), .d (.agg b)=>match op with
   | .eql=>∃r,NL P t (.agg a) (.agg b) r/\K (.d (.bool r))
   | .neq=>∃r,NL P t (.agg a) (.agg b) r/\K (.d (.bool !r))
   |_=>False
 |_,_=>False
def unV(op:UnOp)(x:V)(K:V->Prop):Prop:=
 match op,x with
 | .neg, .d (.int k n)=>K (.d (.int k (k.wrap (0 - n))))
 | .not, .d (.bool b)=>K (.d (.bool !b))
 |_,_=>False
def Dq(c a b:V)(K:V->Prop):Prop:=
 match c with
 | .d (.bool t)=>(t=true->K a)/\(t=false->K b)
 |_=>False
def NN(P:Program)(t:TypeId)(o:Nat->aa)(x:V)(K:V->List Nat->Prop):Prop:=
 match P.underlying t with
 |some (.slice _)=>match x with
  | .d (.sl es)=>K (.d (.int .i64 es.length)) []
  | .aU=>K (.d (.int .i64 0)) []
  | .qx es=>K (.d (.int .i64 es.length)) []
  | .osl id ep=>match o id with
    | .arr fq _ _ es| .qg fq es=>ep=fq/\K (.d (.int .i64 es.length)) [id]
    |_=>False
  | .jo id _ n _=>(o id).bF=true/\K (.d (.int .i64 n)) []
  |_=>False
 |some .string=>match x with
  | .d (.str s)=>K (.d (.int .i64 s.length)) []
  |_=>False
 |some (.array n _)=>K (.d (.int .i64 n)) []
 |_=>False
def kF(P:Program)(o:Nat->aa)(t:TypeId)(x ix:V)(K:V->List Nat->Prop):Prop:=
 match ix with
 | .d (.int _ i)=>match bR P t with
   |some e=>match x with
    | .d (.sl es)=>0<=i/\∃y,es[i.toNat]? =some y/\y.cells.length=P.cellsOf e/\0<P.cellsOf e/\K (.pp y.cells 0) []
    | .qx es=>0<=i/\∃y,es[i.toNat]? =some y/\y.cells.length=P.cellsOf e/\0<P.cellsOf e/\K (.pp y.cells 0) []
    | .osl id ep=>match o id with
      | .arr fq _ sz es=>ep=fq/\0<=i/\i.toNat<es.length/\sz=P.cellsOf e/\0<P.cellsOf e/\K (.pe id ep i.toNat sz 0) [id]
      | .qg fq es=>ep=fq/\0<=i/\∃y,es[i.toNat]? =some y/\y.cells.length=P.cellsOf e/\0<P.cellsOf e/\K (.pp y.cells 0) [id]
      |_=>False
    | .jo id off n _=>(o id).bF=true/\0<=i/\i.toNat<n/\0<P.cellsOf e/\K (.ptr id (off+i.toNat*P.cellsOf e)) []
    |_=>False
   |none=>match yZ P t with
    |some (n,e)=>0<=i/\i<n/\(P.info? e).isSome=true/\(match x with
     | .ptr id off=>(o id).bF=true/\K (.ptr id (off+i.toNat*P.cellsOf e)) []
     | .pp cs off=>K (.pp cs (off+i.toNat*P.cellsOf e)) []
     | .pe id ep j sz off=>(o id).bV=some ep/\K (.pe id ep j sz (off+i.toNat*P.cellsOf e)) []
     |_=>False)
    |none=>False
 |_=>False
def kH(P:Program)(o:Nat->aa)(t:TypeId)(x:V)(f:Nat)(K:V->Prop):Prop:=
 match bH P t f with
 |some q=>match x with
  | .ptr id off=>(o id).bF=true/\K (.ptr id (off+q))
  | .pp cs off=>K (.pp cs (off+q))
  | .pe id ep j sz off=>(o id).bV=some ep/\K (.pe id ep j sz (off+q))
  |_=>False
 |none=>False
def Dr(P:Program)(o:Nat->aa)(t:TypeId)(x:V)(K:V->List Nat->Prop):Prop:=
 match x with
 | .ptr id off=>match o id with
   | .row cs=>∃v,fw P t cs off=some v/\K v [id]
   |_=>False
 | .pp cs off=>∃v,fw P t (cs.map .d) off=some v/\K v []
 | .pe id ep i sz off=>match o id with
   | .arr fq _ pX es=>ep=fq/\sz=pX/\∃e,es[i]? =some e/\∃v,fw P t (e.cells.map .d) off=some v/\K v [id]
   |_=>False
 |_=>False
def wE(P:Program)(o:Nat->aa)(t:TypeId)(x v:V)(K:List (Nat×aa)->List Nat->Prop):Prop:=
 match x with
 | .ptr id off=>match o id with
   | .row cs=>∃cs',Bi P t cs off v=some cs'/\K [(id, .row cs')] [id]
   |_=>False
 | .pe id ep i pX off=>match o id with
   | .arr fq ty sz es=>ep=fq/\pX=sz/\∃e,es[i]? =some e/\∃y,dS o v=some y/\y.cells.length=P.cellsOf t/\0<y.cells.length/\v.ids.all (· !=id)=true/\
    ∃e',e.put off y.cells=some e'/\K (bY o v.ids++[(id, .arr ep ty sz (es.set i e'))]) (id::v.ids)
   |_=>False
 |_=>False
def ju(P:Program)(o:Nat->aa)(fr:Nat)(t:TypeId)(len:Nat)(parts:List (Nat×V))(K:V->List (Nat×aa)->List Nat->Prop):Prop:=
 match bR P t with
 |some e=>(len=0/\parts=[]/\0<P.cellsOf e/\K (.osl fr 0) [(fr, .arr 0 e (P.cellsOf e) [])] [])\/(parts.map (·.1)=List.range len)/\(ct P e).isSome=true/\0<len/\0<P.cellsOf e/\len*P.cellsOf e<=2^24/\
  ∃ds,cF o (parts.map (·.2))=some ds/\(∀x∈ds,x.cells.length=P.cellsOf e)/\
   K (.osl fr 0) (bY o (V.bC (parts.map (·.2)))++[(fr, .arr 0 e (P.cellsOf e) ds)]) (V.bC (parts.map (·.2)))
 |none=>False
def zG(P:Program)(e:TypeId):Option D:=
 match ct P e with
 |some z=>match cF (fun _=> .no) z,cL P e with
  |some ds,some true=>some (.agg ds)
  |some [x],some false=>some x
  |_,_=>none
 |none=>none
def kI(P:Program)(fr:Nat)(t:TypeId)(l c:V)(K:V->List (Nat×aa)->Prop):Prop:=
 match bR P t,l,c with
 |some e, .d (.int _ n), .d (.int _ m)=>n=m/\0<=n/\0<P.cellsOf e/\P.bytesOf e*n.toNat<=2^47/\n.toNat<=2^47/\
  ∃x,zG P e=some x/\K (.osl fr 0) [(fr, .arr 0 e (P.cellsOf e) (List.replicate n.toNat x))]
 |_,_,_=>False
def dA(o:Nat->aa)(x:V):Option (List D):=
 match dS o x with
 |some (.sl es)=>some es
 |_=>none
def rm(P:Program)(o:Nat->aa)(fr:Nat)(ts:Array TypeId)(x y:V)(K:V->List (Nat×aa)->List Nat->Prop):Prop:=
 match ts.toList with
 |[t,t']=>t=t'/\(match bR P t with
  |some e=>∃new,dA o y=some new/\0<P.cellsOf e/\(ct P e).isSome=true/\(∀z∈new,z.cells.length=P.cellsOf e)/\(match x with
   | .aU=>new.length<=2^47/\new.length*P.bytesOf e<=2^47/\K (.osl fr 0) [(fr, .arr 0 e (P.cellsOf e) new)] y.ids
   | .qx es=>(∀z∈es,z.cells.length=P.cellsOf e)/\(if new=[]then K (.qx es) [] y.ids else es.length+new.length<=2^40/\(es.length+new.length)*P.bytesOf e<=2^40/\K (.osl fr 0) [(fr, .arr 0 e (P.cellsOf e) (es++new))] y.ids)
   | .osl id ep=>match o id with
     | .arr fq ty sz es=>ep=fq/\ty=e/\sz=P.cellsOf e/\es.length+new.length<=2^47/\(es.length+new.length)*P.bytesOf e<=2^47/\
      K (.osl id (ep+1)) [(id, .arr (ep+1) ty sz (es++new))] (id::y.ids)
     |_=>False
   |_=>False)
  |none=>False)
 |_=>False
def wF(P:Program)(o:Nat->aa)(fr:Nat)(ts:Array TypeId)(x y:V)(K:V->List (Nat×aa)->List Nat->Prop):Prop:=
 match x with
 | .aU=>match ts.toList,dA o y with
   |[t,t'],some [d]=>match bR P t with
    |some e=>t=t'/\0<P.cellsOf e/\(ct P e).isSome=true/\d.cells.length=P.cellsOf e/\P.bytesOf e<=2^40/\
     ∀G,1<=G->G<=9223372036854775807->K (.jo fr 0 1 G) (bY o y.ids++[(fr, .row (d.cells.map .d++List.replicate ((G - 1)*P.cellsOf e) .ag))]) y.ids
    |none=>False
   |_,_=>False
 | .jo id off n c=>match o id,ts.toList,dA o y with
   | .row cs,[t,t'],some [d]=>match bR P t with
     |some e=>t=t'/\off=0/\0<P.cellsOf e/\(ct P e).isSome=true/\d.cells.length=P.cellsOf e/\cs.length=c*P.cellsOf e/\n<=c/\y.ids.all (· !=id)=true/\n<2^40/\(n+1)*P.bytesOf e<=2^40/\
      (n<c->K (.jo id 0 (n+1) c) (bY o y.ids++[(id, .row (cs.take (n*P.cellsOf e)++d.cells.map .d++cs.drop ((n+1)*P.cellsOf e)))]) (id::y.ids))/\
      (n=c->∀G,n+1<=G->G<=9223372036854775807->K (.jo fr 0 (n+1) G) (bY o y.ids++[(fr, .row (cs++d.cells.map .d++List.replicate ((G - (n+1))*P.cellsOf e) .ag))]) (id::y.ids))
     |none=>False
   |_,_,_=>False
 |_=>False
def Yj(P:Program)(o:Nat->aa)(fr:Nat)(ts:Array TypeId)(K:V->List (Nat×aa)->Prop)(args:List V):Prop:=
 match args with
 |[x,y]=>wF P o fr ts x y fun v Δ _=>K v Δ
 |_=>False
def pC(isMax:Bool)(args:List V)(K:V->Prop):Prop:=
 match args with
 |[.d (.int k a), .d (.int k' b)]=>k=k'/\K (.d (.int k (if isMax then(if b>a then b else a)else(if b<a then b else a))))
 |_=>False
def mo(o:Nat->aa)(x:V)(K:V->Prop):Prop:=
 match x with
 | .ptr id off=>(o id).bF=true/\K (.ptr id off)
 | .pp cs off=>K (.pp cs off)
 | .func (.func f) first cap=>K (.func (.func f) first cap)
 |_=>False
def cT(P:Program)(t:TypeId)(xs:List D)(off:Nat):Option D:=
 match cL P t with
 |some true=>if off+P.cellsOf t<=xs.length then some (.agg ((xs.drop off).take (P.cellsOf t)))else none
 |some false=>xs[off]?
 |none=>none
inductive ahh where
 |int|bool|str|struct (fs:List (TypeId×Nat))|arr (n:Nat) (e:TypeId)
def bz(P:Program)(t:TypeId):Option ahh:=
 match P.underlying t with
 |some (.int _)=>some .int
 |some .bool=>some .bool
 |some .string=>some .str
 |some (.struct fs)=>if(!P.stoodInHeld t&&fs.toList.all (fun f=>f.name != "_"))=true then some (.struct (fs.toList.map fun f=>(f.type,f.offset)))else none
 |some (.array n e)=>if(P.info? e).isSome=true then some (.arr n e)else none
 |_=>none
def Bj(a b:Option Bool):Option Bool:=
 match a,b with
 |some a,some b=>some (a&&b)
 |_,_=>none
def wG(f:TypeId->Nat->Option Bool):List (TypeId×Nat)->Option Bool
 |[]=>some true
 |x::l=>Bj (f x.1 x.2) (wG f l)
def zH(f:Nat->Option Bool):Nat->Nat->Option Bool
 |0,_=>some true
 |n+1,i=>Bj (f i) (zH f n (i+1))
def NO(f:D->D->Option Bool)(x y:Option D):Option Bool:=
 match x,y with
 |some x,some y=>f x y
 |_,_=>none
def mX(P:Program):Nat->TypeId->D->D->Option Bool
 |0,_,_,_=>none
 |d+1,t,x,y=>match bz P t with
  |some .int=>match x,y with| .int k a, .int k' b=>if k=k' then some (a==b)else none|_,_=>none
  |some .bool=>match x,y with| .bool a, .bool b=>some (a==b)|_,_=>none
  |some .str=>match x,y with| .str a, .str b=>some (a==b)|_,_=>none
  |some (.struct fs)=>match x,y with
   | .agg xs, .agg ys=>wG (fun u off=>NO (mX P d u) (cT P u xs off) (cT P u ys off)) fs
   |_,_=>none
  |some (.arr n e)=>match x,y with
   | .agg xs, .agg ys=>zH (fun i=>NO (mX P d e) (cT P e xs (i*P.cellsOf e)) (cT P e ys (i*P.cellsOf e))) n 0
   |_,_=>none
  |none=>none
abbrev gM:=V×List (Nat×aa)×List Nat
def dx(x:Option gM)(K:V->List (Nat×aa)->List Nat->Prop):Prop:=
 match x with
 |some (v,Δ,rd)=>K v Δ rd
 |none=>False
def KI(x:Option V)(ahi:Nat):Option Nat:=
 match x with
 |none=>some ahi
 |some (.d (.int _ i))=>if 0<=i then some i.toNat else none
 |_=>none
def qz(o:Nat->aa)(x:V):Option (Nat×Nat):=
 match x with
 | .ptr id off=>if(o id).bF=true then some (id,off)else none
 |_=>none
def qA(o:Nat->aa)(x:V):Option (Nat×Nat×Nat×List V):=
 match x with
 | .jo id off n _=>match o id with
   | .row cs=>some (id,off,n,cs)
   |_=>none
 |_=>none
def Gu(P:Program)(o:Nat->aa)(t:TypeId)(x:V)(lo hi mx:Option V):Option gM:=
 match x with
 | .aU=>match lo,hi,mx with
   |none,some (.d (.int _ k)),none=>match bR P t with
    |some e=>if k=0/\(P.info? e).isSome=true then some (.aU,[],[])else none
    |none=>none
   |_,_,_=>none
 | .osl id ep=>match lo,hi,mx with
   |none,some (.d (.int _ k)),none=>match bR P t,o id with
    |some e, .arr fq ty sz es=>if k=0/\ep=fq/\(P.info? e).isSome=true then some (.osl id (ep+1),[(id, .arr (ep+1) ty sz [])],[id])
     else if 0<k/\k.toNat<=es.length/\ep=fq/\(P.info? e).isSome=true then some (.osl id (ep+1),[(id, .arr (ep+1) ty sz (es.take k.toNat))],[id])else none
    |_,_=>none
   |_,_,_=>none
 |_=>none
def rn(P:Program)(o:Nat->aa)(t:TypeId)(x:V)(lo hi mx:Option V):Option gM:=
 match bR P t with
 |some e=>match dA o x,KI lo 0 with
  |some es,some l=>match KI hi es.length with
   |some h=>if l<=h/\h<=es.length/\(P.info? e).isSome=true/\(l=0\/es.all (fun y=>y.cells.length==P.cellsOf e)=true)then match mx with
    |none=>some (.d (.sl ((es.take h).drop l)),bY o x.ids,x.ids)
    |some m=>match hi,KI (some m) 0 with
     |some _,some m=>if h<=m/\m<=es.length then some (if h=m then .qx ((es.take h).drop l)else .d (.sl ((es.take h).drop l)),bY o x.ids,x.ids)else none
     |_,_=>none
    else none
   |none=>none
  |_,_=>none
 |none=>match yZ P t,lo,hi,mx with
  |some (n,e),none,none,none=>match qz o x with
   |some (id,off)=>if(P.info? e).isSome=true then some (.jo id off n n,[],[id])else none
   |none=>none
  |_,_,_,_=>none
def tt(P:Program)(o:Nat->aa)(t:TypeId)(x:V)(lo hi mx:Option V):Option gM:=
 match Gu P o t x lo hi mx with
 |some r=>some r
 |none=>rn P o t x lo hi mx
def zI(P:Program)(o:Nat->aa)(ts:Array TypeId)(x y:V):Option gM:=
 match ts.toList with
 |[t,_]=>match bR P t with
  |some e=>match qA o x,dA o y with
   |some (id,off,n,cs),some es=>if P.cellsOf e=1/\off+n<=cs.length/\es.all (fun z=>z.cells.length==1)=true/\y.ids.all (· !=id)=true then
    some (.d (.int .i64 ((min es.length n:Nat):Int)),bY o y.ids++[(id, .row (cs.take off++((es.take n).flatMap D.cells).map .d++cs.drop (off+(es.take n).length)))],id::y.ids)else none
   |_,_=>none
  |none=>none
 |_=>none
def Bk(P:Program)(t:TypeId)(f:Nat):Option (Nat×TypeId):=
 match P.underlying t with
 |some (.struct fs)=>match fs[f]? with
  |some fd=>some (fd.offset,fd.type)
  |none=>none
 |_=>none
def wH(P:Program)(t:TypeId)(x:V)(f:Nat):Option V:=
 match Bk P t f with
 |some (off,u)=>match x with
  | .d (.agg cs)=>(cT P u cs off).map .d
  | .agg cs=>fw P u cs off
  |_=>none
 |none=>none
def wI(P:Program)(t:TypeId)(x i:V):Option V:=
 match i with
 | .d (.int _ i)=>if 0<=i then match P.underlying t with
  |some .string=>match x with
   | .d (.str s)=>match s[i.toNat]? with
     |some b=>some (.d (.int .u8 b.toNat))
     |none=>none
   |_=>none
  |some (.array n e)=>if i<n/\(P.info? e).isSome=true then match x with
   | .d (.agg cs)=>(cT P e cs (i.toNat*P.cellsOf e)).map .d
   | .agg cs=>fw P e cs (i.toNat*P.cellsOf e)
   |_=>none
   else none
  |_=>none
   else none
 |_=>none
def Bl(P:Program)(t:TypeId):Bool:=
 match P.underlying t with
 |some (.interface _)=>false
 |some _=>true
 |none=>false
def zeroV(P:Program)(t:TypeId):Option V:=
 match P.info? t with
 |some i=>match i.zero with
  |some (.agg a)=>if a.toList.all Value.oneCell'=true then some (qi (a.toList.map V.dM))else none
  |some v=>if v.oneCell'=true then some (V.dM v)else none
  |none=>none
 |none=>none
def rp(P:Program)(t:TypeId)(ok:Bool)(x:V):Option V:=
 if Bl P t=true then match x with
  | .d (.iface u y)=>if u=t then some (if ok=true then .cc [.d y, .d (.bool true)]else .d y)
   else if ok=true then(zeroV P t).map fun z=> .cc [z, .d (.bool false)]else none
  | .d .fN=>if ok=true then(zeroV P t).map fun z=> .cc [z, .d (.bool false)]else none
  |_=>none
 else none
def Ds(o:Nat->aa)(x:V):Option V:=
 match x with
 | .aU=>some (.d (.bool true))
 |x=>match dA o x with
  |some es=>some (if es=[]then .fl else .d (.bool false))
  |none=>none
def isConst:Operand->Bool
 | .const _=>true
 |_=>false
def RI:V->Option V
 | .d (.bool b)=>some (.d (.bool !b))
 | .fl=>some .fl
 |_=>none
def tu(o:Nat->aa)(x:V):Option V:=
 match x with
 | .d .iY=>some (.d (.bool true))
 | .d (.mp _ _)=>some (.d (.bool false))
 | .mp id=>match o id with| .map _ _ _=>some (.d (.bool false))| .gw _=>some (.d (.bool false))|_=>none
 |_=>none
def tv(o:Nat->aa)(x:V):Option V:=
 match x with
 | .d .nR=>some (.d (.bool true))
 | .ptr id _=>if(o id).bF=true then some (.d (.bool false))else none
 | .pp _ _=>some (.d (.bool false))
 |_=>none
def eqI(P:Program)(a b:TypeId)(x y:D):Option Bool:=
 if a=b then(match P.info? a,P.underlying a with
  |some i,some (.int _)=>if i.comparable=true then(match x,y with
   | .int k m, .int k' n=>if k=k' then some (m==n)else none
   |_,_=>none)else none
  |_,_=>none)
 else some false
def ux(P:Program)(o:Nat->aa)(t:TypeId)(oo:Bool)(x y:V):Option V:=
 match P.underlying t with
 |some (.interface _)=>match x,y with
  | .d .fN, .d .fN=>if oo=true then some (.d (.bool true))else none
  | .d (.iface _ _), .d .fN| .iface _ _, .d .fN| .d .fN, .d (.iface _ _)| .d .fN, .iface _ _=>some (.d (.bool false))
  | .d (.iface a x), .d (.iface b y)=>(eqI P a b x y).map fun r=> .d (.bool r)
  |_,_=>none
 |some (.func _ _ _)=>match x,y with
  | .d .cK, .d .cK=>some (.d (.bool true))
  | .func _ _ _, .d .cK=>some (.d (.bool false))
  |_,_=>none
 |some (.map _ _)=>match y with
  | .d .iY=>tu o x
  |_=>none
 |some (.pointer _)=>match y with
  | .d .nR=>tv o x
  |_=>none
 |some (.slice _)=>match y with
  | .aU=>Ds o x
  |_=>none
 |some (.struct _)|some (.array _ _)=>match x,y with
  | .d (.agg cI), .d (.agg bs)=>if P.eqGuardType P.depth t=false then(mX P 100 t (.agg cI) (.agg bs)).map fun r=> .d (.bool r)else none
  |_,_=>none
 |_=>none
def tw(P:Program)(o:Nat->aa)(op:BinOp)(t:TypeId)(oo:Bool)(x y:V):Option gM:=
 match op with
 | .eql=>(ux P o t oo x y).map fun v=>(v,[],[])
 | .neq=>((ux P o t oo x y).bind RI).map fun v=>(v,[],[])
 |_=>none
mutual
def D.same:D->D->Bool
 | .int k a, .int j b=>k==j&&a==b
 | .bool a, .bool b=>a==b
 | .str a, .str b=>a==b
 | .fN, .fN| .nR, .nR| .cK, .cK| .iY, .iY=>true
 | .agg cI, .agg bs=>D.gZ cI bs
 | .sl cI, .sl bs=>D.gZ cI bs
 | .iface t a, .iface u b=>t==u&&a.same b
 | .mp ks vs, .mp ks' vs'=>D.gZ ks ks'&&D.gZ vs vs'
 |_,_=>false
def D.gZ:List D->List D->Bool
 |[],[]=>true
 |a::cI,b::bs=>a.same b&&D.gZ cI bs
 |_,_=>false
end
def rq(P:Program)(t:TypeId):Option (TypeId×TypeId):=
 match P.underlying t with
 |some (.map k v)=>some (k,v)
 |_=>none
def jv(P:Program):Nat->TypeId->D->Bool
 |0,_,_=>false
 |d+1,t,x=>match bz P t with
  |some .int|some .bool|some .str=>true
  |some (.struct fs)=>match x with
   | .agg xs=>fs.all fun f=>match cT P f.1 xs f.2 with|some y=>jv P d f.1 y|none=>false
   |_=>false
  |some (.arr n e)=>match x with
   | .agg xs=>(List.range n).all fun i=>match cT P e xs (i*P.cellsOf e)with|some y=>jv P d e y|none=>false
   |_=>false
  |none=>false
def findD(P:Program)(kt:TypeId)(k:D):List (D×D)->Nat->Option (Option (Nat×D×D))
 |[],_=>some none
 |(k',x)::l,i=>match mX P 100 kt k k' with
  |some true=>some (some (i,k',x))
  |some false=>findD P kt k l (i+1)
  |none=>none
def nH:D->Bool
 | .int _ _| .bool _| .str _=>true
 |_=>false
def jN:D->Bool
 | .agg cs=>cs.all nH
 |x=>nH x
def qj(o:Nat->aa)(m:V):Option (Option (Nat×TypeId×TypeId)×List (D×D)):=
 match m with
 | .mp id=>match o id with
   | .map kt vt l=>some (some (id,kt,vt),l)
   |_=>none
 | .d .iY=>some (none,[])
 |_=>none
def rr(o:Nat->aa)(m:V):Option (List Nat×List (D×D)):=
 match m with
 | .mp id=>match o id with
   | .map _ _ l=>some ([id],l)
   | .gw l=>some ([id],l)
   |_=>none
 | .d .iY=>some ([],[])
 | .d (.mp ks vs)=>some ([],ks.zip vs)
 |_=>none
def ahj(r:Option (Nat×TypeId×TypeId)):List Nat:=match r with|some p=>[p.1]|none=>[]
def jq(P:Program)(o:Nat->aa)(t:TypeId)(m k:V)(ok:Bool):Option gM:=
 match rq P t,dS o k,rr o m with
 |some (kt,vt),some kd,some (rd,l)=>if k.ids=[]/\jv P 100 kt kd=true then match findD P kt kd l 0 with
  |some (some (_,_,x))=>some (if ok=true then .cc [.d x, .d (.bool true)]else .d x,[],rd)
  |some none=>match zeroV P vt with
   |some z=>some (if ok=true then .cc [z, .d (.bool false)]else z,[],rd)
   |none=>none
  |none=>none
  else none
 |_,_,_=>none
def gI(P:Program)(o:Nat->aa)(t:TypeId)(m k v:V):Option gM:=
 match rq P t,dS o k,dS o v,qj o m with
 |some (kt,_),some kd,some vd,some (some (id,Gd,Ge),l)=>if k.ids=[]/\jv P 100 kt kd=true/\jN kd=true/\v.ids.all (· !=id)=true then match findD P kt kd l 0 with
  |some (some (i,k',_))=>if k'.same kd=true then some (.cc [],bY o v.ids++[(id, .map Gd Ge (l.set i (kd,vd)))],id::v.ids)else none
  |some none=>some (.cc [],bY o v.ids++[(id, .map Gd Ge (l++[(kd,vd)]))],id::v.ids)
  |none=>none
  else none
 |_,_,_,_=>none
def oq(P:Program)(fr:Nat)(t:TypeId):Option gM:=
 match rq P t with
 |some (kt,vt)=>some (.mp fr,[(fr, .map kt vt [])],[])
 |none=>none
def ou(P:Program)(o:Nat->aa)(fr:Nat)(t:TypeId)(x:V):Option gM:=
 match P.underlying t with
 |some .string=>match x with
  | .d (.str s)=>some (.ptr fr 0,[(fr, .yY s 0)],[])
  |_=>none
 |some (.map _ _)=>match x with
  | .d .iY=>some (.ptr fr 0,[(fr, .pW [] none)],[])
  | .d (.mp ks vs)=>some (.ptr fr 0,[(fr, .pW (ks.zip vs) none)],[])
  | .mp id=>match o id with
    | .map _ _ l=>some (.ptr fr 0,[(id, .gw l),(fr, .pW l none)],[id])
    | .gw l=>some (.ptr fr 0,[(fr, .pW l none)],[id])
    |_=>none
  |_=>none
 |_=>none
def qk(o:Nat->aa)(x:V)(str:Bool):Option gM:=
 match x with
 | .ptr id 0=>match o id with
   | .yY s pos=>if str=true then
    (if pos<s.length then some (.cc [.d (.bool true), .d (.int .i64 pos), .d (.int .i32 (Utf8.decode ⟨⟨s⟩⟩ pos).1)],[(id, .yY s (pos+(Utf8.decode ⟨⟨s⟩⟩ pos).2))],[id])else some (.cc [.d (.bool false)],[],[id]))
     else none
   |_=>none
 |_=>none
def ql(o:Nat->aa)(x:V):Option (Nat×List (D×D)):=
 match x with
 | .ptr id 0=>match o id with
   | .pW l _=>some (id,l)
   |_=>none
 |_=>none
def IF(id:Nat)(l:List (D×D))(K:V->List (Nat×aa)->List Nat->Prop):Prop:=
 (l=[]->K (.cc [.d (.bool false)]) [] [id])/\∀i k x,l[i]? =some (k,x)->K (.cc [.d (.bool true), .d k, .d x]) [(id, .pW (l.eraseIdx i) (some (k,x)))] [id]
def ow(o:Nat->aa)(x:V):Option gM:=
 match x with
 | .ptr id 0=>match o id with
   | .pW _ (some (k,x))=>some (.cc [.d k, .d x],[],[id])
   |_=>none
 |_=>none
def pD(P:Program)(o:Nat->aa)(t:TypeId)(m k:V):Option gM:=
 match rq P t,dS o k,qj o m with
 |some (kt,_),some kd,some (some (id,Gd,Ge),l)=>if k.ids=[]/\jv P 100 kt kd=true then match findD P kt kd l 0 with
  |some (some (i,_,_))=>some (.cc [],[(id, .map Gd Ge (l.eraseIdx i))],[id])
  |some none=>some (.cc [],[],[id])
  |none=>none
  else none
 |_,_,_=>none
def IG(x y z:V):Option V:=
 match x,y,z with
 | .d (.int k a), .d (.int k' b), .d (.int k'' c)=>if k=k'/\k=k'' then some (.d (.int k (if c>(if b>a then b else a)then c else(if b>a then b else a))))else none
 |_,_,_=>none
def RJ(P:Program)(ts:Array TypeId)(x:V):Option gM:=
 match ts.toList with
 |[t]=>match bR P t with
  |some _=>match x with
   | .aU=>some (.d (.int .i64 0),[],[])
   |_=>none
  |none=>none
 |_=>none
def zJ(P:Program)(fr:Nat)(ts:Array TypeId)(x y:V):Option gM:=
 match ts.toList with
 |[t,t']=>if t=t' then none else match bR P t with
  |some e=>match rl P t',x,y with
   |some _, .aU, .d (.int _ n)=>if 0<n/\0<P.cellsOf e/\n.toNat*P.bytesOf e<=2^40/\n.toNat<=2^40 then match zG P e with
    |some z=>some (.osl fr 0,[(fr, .arr 0 e (P.cellsOf e) (List.replicate n.toNat z))],[])
    |none=>none
    else none
   |_,_,_=>none
  |none=>none
 |_=>none
def ru(P:Program)(s:S)(fr:Nat)(b:Builtin)(args:List Operand)(ts:Array TypeId)(K:V->List (Nat×aa)->List Nat->Prop):Prop:=
 match b,args with
 | .len,[x]=>∃t,ts.toList=[t]/\NN P t s.o (s.ev x) fun v rd=>K v [] rd
 | .append,[x,y]=>(dx (zJ P fr ts (s.ev x) (s.ev y)) K\/wF P s.o fr ts (s.ev x) (s.ev y) K)\/rm P s.o fr ts (s.ev x) (s.ev y) K
 | .max,[x,y]=>pC true [s.ev x,s.ev y] fun v=>K v [] []
 | .min,[x,y]=>pC false [s.ev x,s.ev y] fun v=>K v [] []
 | .max,[x,y,z]=>dx ((IG (s.ev x) (s.ev y) (s.ev z)).map fun v=>(v,[],[])) K
 | .copy,[x,y]=>dx (zI P s.o ts (s.ev x) (s.ev y)) K
 | .delete,[x,y]=>∃t,ts.toList.head?=some t/\dx (pD P s.o t (s.ev x) (s.ev y)) K
 | .cap,[x]=>dx (RJ P ts (s.ev x)) K
 |_,_=>False
def Q3(P:Program)(s:S)(fr:Nat)(op:Op)(K:V->List (Nat×aa)->List Nat->Prop):Prop:=
 match op with
 | .move x| .assign x=>K (s.ev x) [] []
 | .pick c a b=>Dq (s.ev c) (s.ev a) (s.ev b) fun v=>K v [] []
 | .alloc t=>∃cs,ct P t=some cs/\K (.ptr fr 0) [(fr, .row cs)] []
 | .box _ x=>∃cs,(s.ev x).cells=some cs/\K (.ptr fr 0) [(fr, .row cs)] []
 | .build t parts=>∃z pl cs,ct P t=some z/\dC P t=some pl/\uz pl z (parts.toList.map fun p=>(p.1,s.ev p.2))=some cs/\K (qi cs) [] []
 | .buildSlice t len parts=>ju P s.o fr t len (parts.toList.map fun p=>(p.1,s.ev p.2)) K
 | .load t x=>Dr P s.o t (s.ev x) fun v rd=>K v [] rd
 | .store t x v=>wE P s.o t (s.ev x) (s.ev v) fun Δ rd=>K (.cc []) Δ rd
 | .nilCheck x=>mo s.o (s.ev x) fun v=>K v [] []
 | .binOp op t x y _=>NM P op t (s.ev x) (s.ev y) (fun v=>K v [] [])\/dx (tw P s.o op t (isConst x||isConst y) (s.ev x) (s.ev y)) K
 | .unOp op _ x=>unV op (s.ev x) (fun v=>K v [] [])\/(op= .not/\s.ev x= .fl/\K .fl [] [])
 | .convert u t x=>(P.underlying u).isSome=true/\(match rl P t,s.ev x with
   |some k, .d (.int _ n)=>K (.d (.int k (k.wrap n))) [] []
   |_,_=>False)
 | .makeInterface t x=>(∃d,P.underlying t=some d/\(match d with| .interface _=>false|_=>true)=true)/\(match s.ev x with
   | .d y=>K (.d (.iface t y)) [] []
   |v=>K (.iface t v) [] [])
 | .makeFunc fn first cap=>K (.func fn (first.toList.map s.ev) (cap.toList.map s.ev)) [] []
 | .makeSlice t l c=>kI P fr t (s.ev l) (s.ev c) fun v Δ=>K v Δ []
 | .fieldAddr t x f=>kH P s.o t (s.ev x) f fun v=>K v [] []
 | .indexAddr t x i=>kF P s.o t (s.ev x) (s.ev i) fun v rd=>K v [] rd
 | .extract x i=>match s.ev x with
   | .cc vs=>∃v,vs[i]? =some v/\K v [] []
   |_=>False
 | .slice t x lo hi mx=>dx (tt P s.o t (s.ev x) (lo.map s.ev) (hi.map s.ev) (mx.map s.ev)) K
 | .field t x f=>dx ((wH P t (s.ev x) f).map fun v=>(v,[],[])) K
 | .index t x i=>dx ((wI P t (s.ev x) (s.ev i)).map fun v=>(v,[],[])) K
 | .makeMap t none=>dx (oq P fr t) K
 | .lookup t m k ok=>dx (jq P s.o t (s.ev m) (s.ev k) ok) K
 | .mapUpdate t m k v=>dx (gI P s.o t (s.ev m) (s.ev k) (s.ev v)) K
 | .insert t m k v=>dx (gI P s.o t (s.ev m) (s.ev k) (s.ev v)) K
 | .range t x=>dx (ou P s.o fr t (s.ev x)) K
 | .next x str=>dx (qk s.o (s.ev x) str) K\/(str=false/\∃id l,ql s.o (s.ev x)=some (id,l)/\IF id l K)
 | .entry x=>dx (ow s.o (s.ev x)) K
 | .typeAssert x _ t ok=>dx ((rp P t ok (s.ev x)).map fun v=>(v,[],[])) K
 | .call c=>match c.callee with
   | .builtin b=>ru P s fr b c.args.toList c.argTypes K
   |_=>False
 |_=>False
section
section
variable {B:Nat->Prop}{φ:Place}{H:Hp}{w:World}
theorem V.aE:∀ (cs:List V) (vs:List Value),V.aG B φ H w cs vs->vs.length=cs.length
 |[],_,h=>by simp[V.aG]at h;simp[h]
 |c::cs,_,h=>by obtain⟨u,us,rfl,_,h2⟩:=h;simp[V.aE cs us h2]
theorem V.dL:∀ (cs:List V) (vs:List Value) (i:Nat) (c:V),V.aG B φ H w cs vs->cs[i]? =some c->∃v,vs[i]? =some v/\V.den B φ H w c v
 |[],_,_,_,_,hd=>by simp at hd
 |c::cs,_,0,x,h,hd=>by
  exact Vh
 |c::cs,_,i+1,x,h,hd=>by
  obtain⟨u,us,rfl,_,h2⟩:=h
  simpa using V.dL cs us i x h2 (by simpa using hd)
theorem V.bc:∀ (cs ds:List V) (us vs:List Value),V.aG B φ H w cs us->V.aG B φ H w ds vs->V.aG B φ H w (cs++ds) (us++vs)
 |[],ds,us,vs,h,k=>by simp[V.aG]at h;subst h;simpa using k
 |c::cs,ds,_,vs,h,k=>by
  obtain⟨u,us,rfl,h1,h2⟩:=h
  exact⟨u,us++vs,aJ,h1,V.bc cs ds us vs h2 k⟩
theorem V.cZ:∀ (n:Nat) (cs:List V) (vs:List Value),V.aG B φ H w cs vs->V.aG B φ H w (cs.take n) (vs.take n)
 |0,_,_,_=>by simp[V.aG]
 |n+1,[],_,h=>by simp[V.aG]at h;subst h;simp[V.aG]
 |n+1,c::cs,_,h=>by
  obtain⟨u,us,rfl,h1,h2⟩:=h
  exact⟨u,us.take n,aJ,h1,V.cZ n cs us h2⟩
theorem V.ee:∀ (n:Nat) (cs:List V) (vs:List Value),V.aG B φ H w cs vs->V.aG B φ H w (cs.drop n) (vs.drop n)
 |0,_,_,h=>by simpa using h
 |n+1,[],_,h=>by simp[V.aG]at h;subst h;simp[V.aG]
 |n+1,c::cs,_,h=>by
  obtain⟨u,us,rfl,h1,h2⟩:=h
  simpa using V.ee n cs us h2
theorem V.cA:∀ (ds:List D) (vs:List Value),V.aG B φ H w (ds.map .d) vs↔D.aG B w ds vs
 |[],vs=>by simp[V.aG,D.aG]
 |x::ds,vs=>by simp only[List.map_cons,V.aG,D.aG,V.den,V.cA ds]
theorem D.bc:∀ (cs ds:List D) (us vs:List Value),D.aG B w cs us->D.aG B w ds vs->D.aG B w (cs++ds) (us++vs)
 |[],ds,us,vs,h,k=>by simp[D.aG]at h;subst h;simpa using k
 |c::cs,ds,_,vs,h,k=>by
  obtain⟨u,us,rfl,h1,h2⟩:=h
  exact⟨u,us++vs,aJ,h1,D.bc cs ds us vs h2 k⟩
theorem D.cZ:∀ (n:Nat) (cs:List D) (vs:List Value),D.aG B w cs vs->D.aG B w (cs.take n) (vs.take n)
 |0,_,_,_=>by simp[D.aG]
 |n+1,[],_,h=>by simp[D.aG]at h;subst h;simp[D.aG]
 |n+1,c::cs,_,h=>by
  obtain⟨u,us,rfl,h1,h2⟩:=h
  exact⟨u,us.take n,aJ,h1,D.cZ n cs us h2⟩
theorem D.ee:∀ (n:Nat) (cs:List D) (vs:List Value),D.aG B w cs vs->D.aG B w (cs.drop n) (vs.drop n)
 |0,_,_,h=>by simpa using h
 |n+1,[],_,h=>by simp[D.aG]at h;subst h;simp[D.aG]
 |n+1,c::cs,_,h=>by
  obtain⟨u,us,rfl,h1,h2⟩:=h
  simpa using D.ee n cs us h2
theorem D.Dt:∀ (i:Nat) (ds:List D) (vs:List Value) (x:D) (v:Value),D.aG B w ds vs->D.den B w x v->D.aG B w (ds.set i x) (vs.set i v)
 |_,[],_,_,_,h,_=>by simp[D.aG]at h;subst h;simp[D.aG]
 |0,c::cs,_,x,v,h,k=>by
  obtain⟨u,us,rfl,h1,h2⟩:=h
  exact⟨v,us,aJ,k,h2⟩
 |i+1,c::cs,_,x,v,h,k=>by
  obtain⟨u,us,rfl,h1,h2⟩:=h
  exact⟨u,us.set i v,aJ,h1,D.Dt i cs us x v h2 k⟩
theorem zK:∀ (cs:List V) (ds:List D),qy cs=some ds->cs=ds.map .d
 |[],ds,h=>by simp[qy]at h;subst h;rfl
 | .d x::cs,ds,h=>by
   simp only[qy,Option.map_eq_some_iff]at h
   obtain⟨a,h1,rfl⟩:=h
   simp[zK cs a h1]
 | .aU::_,_,h| .agg _::_,_,h| .cc _::_,_,h| .ptr _ _::_,_,h| .osl _ _::_,_,h| .pe _ _ _ _ _::_,_,h| .pp _ _::_,_,h
 | .func _ _ _::_,_,h| .iface _ _::_,_,h| .ag::_,_,h| .qx _::_,_,h| .jo _ _ _ _::_,_,h| .mp _::_,_,h| .fl::_,_,h=>by simp[qy]at h
theorem mq(cs:List V)(a:Array Value)(h:V.aG B φ H w cs a.toList)(hf:Flat a.toList):V.den B φ H w (qi cs) (.agg a):=by
 unfold qi
 split
 ·rename_i ds hd
  have:=zK cs ds hd
  subst this
  exact⟨a,rfl,(V.cA ds _).1 h,hf⟩
 ·exact⟨a,rfl,h,hf⟩
theorem D.pE:∀ (x:D) (v:Value),D.den B w x v->(∃cs a,x= .agg cs/\v= .agg a)\/v.oneCell'=true/\x.cells=[x]/\v.cells=#[v]
 | .int _ _,_,h| .bool _,_,h| .fN,_,h| .nR,_,h| .cK,_,h| .iY,_,h=>by
   simp only[D.den]at h;subst h;exact .inr ⟨rfl,rfl,rfl⟩
 | .str l,_,h=>by obtain⟨s,rfl,_⟩:=h;exact .inr ⟨rfl,rfl,rfl⟩
 | .agg cs,_,h=>by obtain⟨a,rfl,_,_⟩:=h;exact .inl ⟨cs,a,rfl,rfl⟩
 | .sl es,_,h=>by obtain⟨b,l,c,rfl,_⟩:=h;exact .inr ⟨rfl,rfl,rfl⟩
 | .iface t x,_,h=>by obtain⟨u,rfl,_⟩:=h;exact .inr ⟨rfl,rfl,rfl⟩
 | .mp ks vs,_,h=>by obtain⟨m,es,c,p,rfl,_⟩:=h;exact .inr ⟨rfl,rfl,rfl⟩
theorem D.eR (x:D)(v:Value)(h:D.den B w x v):D.aG B w x.cells v.cells.toList/\Flat v.cells.toList:=by
 rcases D.pE x v h with⟨cs,a,rfl,rfl⟩|⟨h1,h2,h3⟩
 ·obtain⟨a',h1,h2,h3⟩:=h
  injection h1 with h1;subst h1
  exact⟨h2,h3⟩
 ·rw[h2,h3]
  exact⟨⟨v,[],rfl,h,rfl⟩,by intro u hu;simp at hu;subst hu;exact h1⟩
theorem V.pE (x:V)(v:Value)(us:List V)(hx:x.cells=some us)(h:V.den B φ H w x v):V.aG B φ H w us v.cells.toList/\Flat v.cells.toList:=by
 have one:∀ (y:V),v.oneCell'=true->V.den B φ H w y v->V.aG B φ H w [y] v.cells.toList/\Flat v.cells.toList:=by
  intro y h1 h2
  have h3:v.cells=#[v]:=by cases v<;>simp_all[Value.oneCell',Value.cells]
  rw[h3]
  exact⟨⟨v,[],rfl,h2,rfl⟩,by intro u hu;simp at hu;subst hu;exact h1⟩
 cases x with
 |d x=>
  simp only[V.cells,Option.some.injEq]at hx;subst hx
  have:=D.eR x v h
  exact⟨(V.cA _ _).2 this.1,this.2⟩
 |aU=>simp only[V.cells,Option.some.injEq]at hx;subst hx;exact one _ (by cases h;rfl) h
 |agg cs=>
  simp only[V.cells,Option.some.injEq]at hx;subst hx
  obtain⟨a,rfl,h1,h2⟩:=h
  exact⟨h1,h2⟩
 |cc vs=>simp[V.cells]at hx
 |ag=>simp[V.cells]at hx
 |ptr id off=>simp only[V.cells,Option.some.injEq]at hx;subst hx;exact one _ h.1 h
 |osl id ep=>simp only[V.cells,Option.some.injEq]at hx;subst hx;exact one _ h.1 h
 |pe id ep i sz off=>simp only[V.cells,Option.some.injEq]at hx;subst hx;exact one _ h.1 h
 |pp cs off=>simp only[V.cells,Option.some.injEq]at hx;subst hx;exact one _ (by obtain⟨a,ev,_,rfl,_⟩:=h;rfl) h
 |func fn f c=>simp only[V.cells,Option.some.injEq]at hx;subst hx;exact one _ (by obtain⟨a,ev,rfl,_⟩:=h;rfl) h
 |iface t y=>simp only[V.cells,Option.some.injEq]at hx;subst hx;exact one _ (by obtain⟨a,rfl,_⟩:=h;rfl) h
 |qx es=>simp only[V.cells,Option.some.injEq]at hx;subst hx;exact one _ (by obtain⟨_,b,n,rfl⟩:=h;rfl) h
 |jo id off n c=>simp only[V.cells,Option.some.injEq]at hx;subst hx;exact one _ h.1 h
 |mp id=>simp only[V.cells,Option.some.injEq]at hx;subst hx;exact one _ h.1 h
 |jI id=>simp only[V.cells,Option.some.injEq]at hx;subst hx;exact one _ h.1 h
 |fl=>simp only[V.cells,Option.some.injEq]at hx;subst hx;exact one _ (by obtain⟨a,rfl⟩:=h;rfl) h
theorem m9(v:Value)(h:v.oneCell'=true):V.den B φ H w (V.dM v) v:=by
 cases v<;>simp_all only[Value.oneCell',V.dM,V.den,D.den]<;>try trivial
 all_goals (try (split<;>simp_all[V.den,D.den]))
 all_goals (try first|(simp_all[D.den];done)|simp_all)
theorem ef:∀ (vs:List Value),Flat vs->V.aG B φ H w (vs.map V.dM) vs
 |[],_=>rfl
 |v::vs,h=>⟨v,vs,rfl,m9 v (h v aJ),ef vs fun u hu=>h u (by simp[hu])⟩
end
end
section
theorem pF(H:Hp):H.put []=H:=by
 obtain⟨o,us⟩:=H
 simp[Hp.put,put]
theorem bW(H:Hp)(A C:List (Nat×aa)):H.put (A++C)=(H.put A).put C:=by
 obtain⟨o,us⟩:=H
 simp only[Hp.put,put,List.foldl_append,Hp.mk.injEq,true_and]
 funext id
 simp only[List.map_append,List.mem_append,eq_iff_iff]
 exact⟨fun h=>by rcases h with h|h|h<;>simp[h],fun h=>by rcases h with(h|h)|h<;>simp[h]⟩
@[simp] theorem bT (H:Hp) (i:Nat) (x:aa):(H.put [(i,x)]).o=au H.o i x:=rfl
@[simp] theorem eF (H:Hp) (i j:Nat) (x:aa):(H.put [(i,x)]).us j↔(H.us j\/j=i):=by simp[Hp.put]
section
variable {M:Nat->Prop}{φ aH:Place}{H H':Hp}{w w':World}
theorem aO.Du (zL:∀b,cP w b-> ¬ao M φ H b->w'.heap[b]? =w.heap[b]? /\ ¬ao M aH H' b)(hrl:eE φ H aH H'){id:Nat}(ho:H'.o id=H.o id)(dz:aH id=φ id)
 (hb:(H.o id).live=true->∀b,dG (φ id)=some b->w'.heap[b]? =w.heap[b]?) (h:aO M φ H w id):aO M aH H' w' id:=by
 unfold aO at*
 rw[ho]
 cases hx:H.o id with
 |no=>trivial
 |row cs=>
  simp only[hx]at h|-
  obtain⟨b,dk,ty,h1,h2,h3,h4⟩:=h
  exact⟨b,dk,ty,dz.trans h1,(hb uv b wx).trans h2,V.gL zL hrl cs _ h3,h4⟩
 |arr ep ty sz es=>
  simp only[hx]at h|-
  obtain⟨h0,xs,h1,evs,h2,h3,h4⟩:=h
  refine⟨h0,xs, ?_,evs,h2,h3,D.aQ zL es evs h4⟩
  rw[dz]
  obtain⟨g1,g2⟩:=h1
  refine⟨g1, ?_⟩
  rcases g2 with g2|⟨g,cap,cur,k1,k2,k3,k4⟩
  ·exact .inl g2
  ·exact .inr ⟨g,cap,cur,k1,k2,(hb uv g (by rw[k1];rfl)).trans k3,k4⟩
 |qg ep es=>
  simp only[hx]at h|-
  rw[dz]
  exact D.aS zL (.sl es) _ h
 |map kt vt l=>
  simp only[hx]at h|-
  obtain⟨b,es,clock,h1,h2,h4,h3⟩:=h
  exact⟨b,es,clock,dz.trans h1,(hb uv b wx).trans h2,h4,aN.mono zL l _ h3⟩
 |gw l=>
  simp only[hx]at h|-
  rw[dz]
  exact kE.mono zL h
 |pW l last=>
  simp only[hx]at h|-
  obtain⟨b,h1,h2⟩:=h
  exact⟨b,dz.trans h1,h2.mono zL (hb uv b wx)⟩
 |yY s pos=>
  simp only[hx]at h|-
  obtain⟨b,h1,h2⟩:=h
  exact⟨b,dz.trans h1,(hb uv b wx).trans h2⟩
 |loop nf n env ps jM fm st KH=>
  simp only[hx]at h|-
  obtain⟨b,r,h1,h2,h0,h3,h4,h5,h6,h7,h8,h9⟩:=h
  exact⟨b,r,dz.trans h1,(hb uv b wx).trans h2,h0,h3,h4,h5,h6,h7,h8,fun i=>V.mn zL hrl _ _ (h9 i)⟩
theorem aO.mono (ht:Trans φ H w aH H' w'){id:Nat}(ho:H'.o id=H.o id)(dz:aH id=φ id)
 (hb:(H.o id).live=true->∀b,dG (φ id)=some b->w'.heap[b]? =w.heap[b]?) (h:aO M φ H w id):aO M aH H' w' id:=aO.Du ht.blocks ht.rel ho dz hb h
theorem ay.of (hH:ay M φ H w)(ht:Trans φ H w aH H' w')(T:Nat->Prop)(hT:∀id,T id->aO M aH H' w' id)
 (hn:∀id, ¬T id->H'.o id=H.o id/\aH id=φ id/\((H.o id).live=true->∀b,dG (φ id)=some b->w'.heap[b]? =w.heap[b]?))
 (kJ:∀id, ¬H'.us id->H'.o id= .no)
 (hap:∀i j b,(H'.o i).live=true->(H'.o j).live=true->dG (aH i)=some b->dG (aH j)=some b->i=j)
 (adB:∀b,cw aH H' b->b<w'.heap.size):ay M aH H' w' where
 ok id:=by
  by_cases hc:T id
  ·exact hT id hc
  ·obtain⟨h1,h2,h3⟩:=hn id hc
   exact(hH.ok id).mono ht h1 h2 h3
 fresh:=kJ
 apart:=hap
 ours b hb:=by
  refine⟨fun hM=> ?_,adB b hb⟩
  rcases ht.grow b hb with h1|h1
  ·exact(hH.ours b h1).1 hM
  ·have:=hH.Bh b hM;omega
 Bh b hM:=Nat.lt_of_lt_of_le (hH.Bh b hM) ht.keep.size
theorem eg(hk:ed (fun _=>False) w w'){fr:Nat}(c8: ¬H.us fr)(obj:aa)(val:Value)(fK:∀b,dG val=some b->w.heap.size<=b):
 Trans φ H w (au φ fr val) (H.put [(fr,obj)]) w' where
 keep:=⟨hk.os,hk.tape,hk.output,hk.size,fun k h _=>hk.block k h (fun h=>h)⟩
 grow b:=by
  rintro⟨id,h1,h2⟩
  by_cases aq:id=fr
  ·subst aq;simp at h2;exact .inr (fK b h2)
  ·simp[aq]at h1 h2;exact .inl ⟨id,h1,h2⟩
 rel:={
  us:=fun id h=>by simp[h]
  row:=fun id hu hr=>by
   have aq:id≠fr:=fun h=>c8 (h ▸ hu)
   simp[aq]at hr|-;exact hr
  ep:=fun id e' hu he=>by
   have aq:id≠fr:=fun h=>c8 (h ▸ hu)
   simp[aq]at he|-;exact⟨e',he,Nat.le_refl _⟩}
theorem js(hH:ay M φ H w)(hk:ed (fun _=>False) w w'){fr:Nat}(c8: ¬H.us fr)(obj:aa)(val:Value)(fK:∀b,dG val=some b->w.heap.size<=b/\b<w'.heap.size)
 (wJ:aO M (au φ fr val) (H.put [(fr,obj)]) w' fr):ay M (au φ fr val) (H.put [(fr,obj)]) w':=by
 have ht:Trans φ H w (au φ fr val) (H.put [(fr,obj)]) w':=eg hk c8 obj val fun b hb=>(fK b hb).1
 refine hH.of ht (· =fr) (fun id h=>h ▸ wJ) (fun id h=> ?_) (fun id h=> ?_) (fun i j b hi hj bi bj=> ?_) (fun b=> ?_)
 ·refine⟨by simp[h],by simp[h],fun hl b hb=>hk.block b ?_ (fun h=>h)⟩
  exact(hH.ours b ⟨id,hl,hb⟩).2
 ·rw[eF]at h
  have h1:id≠fr:=fun e=>h (.inr e)
  simp only[bT,aR,h1,if_false]
  exact hH.fresh id fun hu=>h (.inl hu)
 ·by_cases e1:i=fr<;>by_cases e2:j=fr
  ·exact e1.trans e2.symm
  ·simp[e1,e2]at hi hj bi bj
   have:=(hH.ours b ⟨j,hj,bj⟩).2;have:=(fK b bi).1;omega
  ·simp[e1,e2]at hi hj bi bj
   have:=(hH.ours b ⟨i,hi,bi⟩).2;have:=(fK b bj).1;omega
  ·simp[e1,e2]at hi hj bi bj
   exact hH.apart i j b hi hj bi bj
 ·rintro⟨id,h1,h2⟩
  by_cases aq:id=fr
  ·subst aq;simp at h2;exact(fK b h2).2
  ·simp[aq]at h1 h2
   exact Nat.lt_of_lt_of_le (hH.ours b ⟨id,h1,h2⟩).2 hk.size
theorem cO(w:World)(o:Obj):ed (fun _=>False) w (w.alloc o):=
 ⟨rfl,rfl,rfl,aJ,fun k hk _=>RowKit.Below.heap_alloc w o k hk⟩
theorem na{w w':World}(h:w.grownBy w' none):ed (fun _=>False) w w':=
 ⟨h.os,h.tape,h.output,h.size,fun k hk _=>h.block k hk aJ⟩
theorem Bm(hH:ay M φ H w){fr:Nat}(c8: ¬H.us fr)(cs:List V)(dk:Array Value)(ty:TypeId)(hd:V.aG (ao M φ H) φ H w cs dk.toList)(hf:Flat dk.toList):
 let aH:=au φ fr (.pointer (some ⟨w.heap.size,0,none⟩));let H':=H.put [(fr, .row cs)];let w':=w.alloc (.cells dk ty)
 ay M aH H' w'/\Trans φ H w aH H' w'/\V.den (ao M aH H') aH H' w' (.ptr fr 0) (.pointer (some ⟨w.heap.size,0,none⟩)):=by
 intro aH H' w'
 have hv:∀b,dG (.pointer (some ⟨w.heap.size,0,none⟩))=some b->w.heap.size<=b/\b<w'.heap.size:=by
  intro b hb;simp[dG]at hb;subst hb;simp[w']
 have ht:Trans φ H w aH H' w':=eg (cO w _) c8 _ _ fun b hb=>(hv b hb).1
 refine⟨js hH (cO w _) c8 _ _ hv ?_,ht,rfl,by simp[H'],fun _=>⟨w.heap.size,by simp[aH],rfl⟩⟩
 unfold aO
 simp only[bT,aR,if_true]
 exact⟨w.heap.size,dk,ty,rfl,heap_alloc_new w _,V.aQ ht cs _ hd,hf⟩
theorem fy{id:Nat}(dg:H.us id){b:Nat}(cU:(H.o id).live=true)(hb:dG (φ id)=some b)(hk:ed (· =b) w w')(obj:aa)(bD:obj.bF=(H.o id).bF)(wK:obj.bV=(H.o id).bV):
 Trans φ H w φ (H.put [(id,obj)]) w' where
 keep:=⟨hk.os,hk.tape,hk.output,hk.size,fun k h hl=>hk.block k h (fun e=>hl ⟨id,cU,e ▸ hb⟩)⟩
 grow b':=by
  rintro⟨j,h1,h2⟩
  by_cases hj:j=id
  ·subst hj;exact .inl ⟨j,cU,h2⟩
  ·simp[hj]at h1;exact .inl ⟨j,h1,h2⟩
 rel:={
  us:=fun j h=>by simp[h]
  row:=fun j hu hr=>by
   by_cases hj:j=id
   ·subst hj;simp at hr;exact⟨bD ▸ hr,rfl⟩
   ·exact Ny
  ep:=fun j e' hu he=>by
   by_cases hj:j=id
   ·subst hj;simp at he;exact⟨e',wK ▸ he,Nat.le_refl _,fun _=>rfl⟩
   ·simp[hj]at he;exact⟨e',he,Nat.le_refl _,fun _=>rfl⟩}
theorem iZ(hH:ay M φ H w){id:Nat}(dg:H.us id){b:Nat}(cU:(H.o id).live=true)(hb:dG (φ id)=some b)(hk:ed (· =b) w w')(obj:aa)(bD:obj.bF=(H.o id).bF)
 (wK:obj.bV=(H.o id).bV) (wJ:aO M φ (H.put [(id,obj)]) w' id):ay M φ (H.put [(id,obj)]) w':=by
 refine hH.of (fy dg cU hb hk obj bD wK) (· =id) (fun j h=>h ▸ wJ) (fun j h=> ?_) (fun j h=> ?_) (fun i j b' hi hj bi bj=> ?_) (fun b'=> ?_)
 ·refine⟨by simp[h],rfl,fun hl b' RK=>hk.block b' (hH.ours b' ⟨j,hl,RK⟩).2 fun e=>h ?_⟩
  exact hH.apart j id b hl cU (e ▸ RK) hb
 ·rw[eF]at h
  have h1:j≠id:=fun e=>h (.inr e)
  exact NG
 ·refine hH.apart i j b' ?_ ?_ bi bj
  ·by_cases e:i=id
   ·subst e;exact cU
   ·simpa[e]using hi
  ·by_cases e:j=id
   ·subst e;exact cU
   ·simpa[e]using hj
 ·rintro⟨j,h1,h2⟩
  refine Nat.lt_of_lt_of_le (hH.ours b' ⟨j, ?_,h2⟩).2 hk.size
  by_cases e:j=id
  ·subst e;exact cU
  ·simpa[e]using h1
theorem lL(w:World)(b:Nat)(cs:Array Value):ed (· =b) w (w.setRow b cs):=
 ⟨rfl,rfl,rfl,aJ,fun k _ hk=>by
  unfold World.setRow
  simp only[Array.getElem?_modify]
  rw[if_neg (fun e=>hk e.symm)]⟩
theorem wL(hH:ay M φ H w){id b:Nat}(dg:H.us id){cs cs':List V}(ho:H.o id= .row cs)(dz:φ id= .pointer (some ⟨b,0,none⟩)){dk:Array Value}{ty:TypeId}
 (hb:w.heap[b]? =some (.cells dk ty (0,0))) (rv:Array Value) (hd:V.aG (ao M φ H) φ H w cs' rv.toList) (hf:Flat rv.toList):
 ay M φ (H.put [(id, .row cs')]) (w.setRow b rv)/\Trans φ H w φ (H.put [(id, .row cs')]) (w.setRow b rv):=by
 have hl:(H.o id).live=true:=by rw[ho];rfl
 have zL:dG (φ id)=some b:=by rw[dz];rfl
 have ht:Trans φ H w φ (H.put [(id, .row cs')]) (w.setRow b rv):=fy dg hl zL (lL w b rv) _ eL eL
 refine⟨iZ hH dg hl zL (lL w b rv) _ eL eL ?_,ht⟩
 unfold aO
 simp only[bT,aR,if_true]
 exact⟨b,rv,ty,dz,setRow_heap w b dk rv ty (0,0) hb,V.aQ ht cs' _ hd,hf⟩
theorem ry{B:Nat->Prop}{sz g:Nat}(cur:Array Value)(ty:TypeId)(fz:Nat×Nat)(hg:w.heap[g]? =some (.cells cur ty fz))(hB: ¬B g):
 ∀ (es:List D) (evs:List Value) (i:Nat),D.aG B w es evs->(∀ev∈evs,ev.cells.size=sz)->(∀j u,(evs.flatMap (·.cells.toList))[j]? =some u->cur[i*sz+j]? =some u)->D.elems B w sz ⟨g,0,none⟩ i es
 |[],_,_,_,_,_=>trivial
 |e::es,_,i,h,hs,hc=>by
  obtain⟨ev,evs,rfl,h1,h2⟩:=h
  have dU:ev.cells.size=sz:=hs ev aJ
  refine⟨⟨ev,dU,fun j u hj=> ?_,h1⟩,ry cur ty fz hg hB es evs (i+1) h2 (fun x hx=>hs x oh) fun j u hj=> ?_⟩
  ·have cS:j<ev.cells.size:=(Array.getElem?_eq_some_iff.1 hj).1
   have:cur[i*sz+j]? =some u:=hc j u (by
    rw[List.flatMap_cons,List.getElem?_append_left (by simpa using cS)];simpa using hj)
   refine⟨?_,by simpa using hB⟩
   unfold Addr.add World.cell?
   by_cases e1:i*sz=0<;>by_cases e2:j=0<;>simp_all
  ·have:=hc (sz+j) u (by
    rw[List.flatMap_cons,List.getElem?_append_right (by simp[dU])]
    simpa[dU]using hj)
   rw[show(i+1)*sz+j=i*sz+(sz+j) by rw[Nat.add_mul];omega]
   exact this
theorem RL(hH:ay M φ H w){id ep sz:Nat}{ty:TypeId}{es:List D}(dg:H.us id)(ho:H.o id= .arr ep ty sz es):
 ay M φ (H.put [(id, .qg ep es)]) w/\Trans φ H w φ (H.put [(id, .qg ep es)]) w:=by
 have eM:∀b,cw φ (H.put [(id, .qg ep es)]) b->cw φ H b:=by
  rintro b ⟨j,h1,h2⟩
  by_cases hj:j=id
  ·subst hj;simp[aa.live]at h1
  ·simp[hj]at h1;exact⟨j,h1,h2⟩
 have ht:Trans φ H w φ (H.put [(id, .qg ep es)]) w:={
  keep:=ed.refl _ _
  grow:=fun b hb=> .inl (eM b hb)
  rel:={
   us:=fun j h=>by simp[h]
   row:=fun j hu hr=>by
    by_cases hj:j=id
    ·subst hj;simp[aa.bF]at hr
    ·exact Ny
   ep:=fun j e' hu he=>by
    by_cases hj:j=id
    ·subst hj;simp[aa.bV]at he;subst he;exact⟨ep,by rw[ho];rfl,Nat.le_refl _,fun _=>rfl⟩
    ·simp[hj]at he;exact⟨e',he,Nat.le_refl _,fun _=>rfl⟩}}
 refine⟨hH.of ht (· =id) (fun j h=> ?_) (fun j h=>⟨by simp[h],rfl,fun _ _ _=>rfl⟩) (fun j h=> ?_) (fun i j b hi hj bi bj=> ?_) (fun b hb=>(hH.ours b (eM b hb)).2),ht⟩
 ·subst h
  have bp:=hH.ok j
  unfold aO at bp|-
  simp only[ho,bT,aR,if_true]at bp|-
  obtain⟨h0,xs,⟨hl,bD⟩,evs,rfl,h2,h3⟩:=bp
  have hlen:=D.aE _ _ h3
  rcases bD with⟨h4,h5⟩|⟨g,cap,cur,h4,_,h5,h6,h7,h8,h9⟩
  ·rw[h4]
   have:es=[]:=by simpa using h5
   subst this
   exact Ub
  ·rw[h4]
   refine⟨some ⟨g,0,none⟩,es.length,cap,rfl,rfl,h6,(fun h=>by cases h),sz,fun a ha=> ?_⟩
   injection ha with ha;subst ha
   refine⟨fun _=>rfl,ry cur ty (0,0) h5 ?_ es evs 0 (D.aQ (ht.blocks (M:=M)) es evs h3) h2 fun j' u MJ=> ?_⟩
   ·rintro(hM|⟨i,II,Yk⟩)
    ·exact(hH.ours g ⟨j,by rw[ho];rfl,by rw[h4];rfl⟩).1 hM
    ·by_cases e:i=j
     ·subst e;simp[aa.live]at II
     ·simp[e]at II
      exact e (hH.apart i j g II eL Yk (by rw[h4];rfl))
   ·rw[<- h9]at MJ
    simp only[Nat.zero_mul,Nat.zero_add]
    rw[List.getElem?_take]at MJ
    split at MJ
    ·simpa using MJ
    ·cases MJ
 ·rw[eF]at h
  have h1:j≠id:=fun e=>h (.inr e)
  exact NG
 ·by_cases e1:i=id
  ·subst e1;simp[aa.live]at hi
  ·by_cases e2:j=id
   ·subst e2;simp[aa.live]at hj
   ·simp[e1,e2]at hi hj;exact hH.apart i j b hi hj bi bj
theorem IJ(hH:ay M φ H w){id:Nat}{kt vt:TypeId}{l:List (D×D)}(dg:H.us id)(ho:H.o id= .map kt vt l):
 ay M φ (H.put [(id, .gw l)]) w/\Trans φ H w φ (H.put [(id, .gw l)]) w:=by
 have eM:∀b,cw φ (H.put [(id, .gw l)]) b->cw φ H b:=by
  rintro b ⟨j,h1,h2⟩
  by_cases hj:j=id
  ·subst hj;simp[aa.live]at h1
  ·simp[hj]at h1;exact⟨j,h1,h2⟩
 have ht:Trans φ H w φ (H.put [(id, .gw l)]) w:={
  keep:=ed.refl _ _
  grow:=fun b hb=> .inl (eM b hb)
  rel:={
   us:=fun j h=>by simp[h]
   row:=fun j hu hr=>by
    by_cases hj:j=id
    ·subst hj;exact⟨by rw[ho];rfl,rfl⟩
    ·exact Ny
   ep:=fun j e' hu he=>by
    by_cases hj:j=id
    ·subst hj;simp[aa.bV]at he
    ·simp[hj]at he;exact⟨e',he,Nat.le_refl _,fun _=>rfl⟩}}
 refine⟨hH.of ht (· =id) (fun j h=> ?_) (fun j h=>⟨by simp[h],rfl,fun _ _ _=>rfl⟩) (fun j h=> ?_) (fun i j b hi hj bi bj=> ?_) (fun b hb=>(hH.ours b (eM b hb)).2),ht⟩
 ·subst h
  have bp:=hH.ok j
  unfold aO at bp|-
  simp only[ho,bT,aR,if_true]at bp|-
  obtain⟨b,es,clock,h1,h2,h3,h4⟩:=bp
  refine⟨b,es,clock,h1,h2, ?_,h3,aN.mono (ht.blocks (M:=M)) _ _ h4⟩
  rintro(hM|⟨i,II,Yk⟩)
  ·exact(hH.ours b ⟨j,by rw[ho];rfl,by rw[h1];rfl⟩).1 hM
  ·by_cases e:i=j
   ·subst e;simp[aa.live]at II
   ·simp[e]at II
    exact e (hH.apart i j b II eL Yk wx)
 ·rw[eF]at h
  have h1:j≠id:=fun e=>h (.inr e)
  exact NG
 ·by_cases e1:i=id
  ·subst e1;simp[aa.live]at hi
  ·by_cases e2:j=id
   ·subst e2;simp[aa.live]at hj
   ·simp[e1,e2]at hi hj;exact hH.apart i j b hi hj bi bj
end
end
section
def da(M:Nat->Prop)(φ:Place)(H:Hp)(w:World)(fr:Nat)(r:Result Next)(K:V->List (Nat×aa)->List Nat->Prop):Prop:=
 ∃nx val w' aH v Δ rd,K v Δ rd/\r= .ok nx w'/\(nx= .value val\/nx= .skip/\val=undef)/\ay M aH (H.put Δ) w'/\Trans φ H w aH (H.put Δ) w'/\
  V.den (ao M aH (H.put Δ)) aH (H.put Δ) w' v val/\(∀id∈Δ.map (·.1),H.us id\/id=fr)
section
variable {P:Program}{M:Nat->Prop}{φ:Place}{H:Hp}{w:World}{fr:Nat}{K:V->List (Nat×aa)->List Nat->Prop}
theorem da.same (hH:ay M φ H w){r:Result Next}{v:V}{rd:List Nat}(val:Value)(hK:K v [] rd)(hr:r= .ok (.value val) w)(hd:V.den (ao M φ H) φ H w v val):da M φ H w fr r K:=
 ⟨_,val,w,φ,v,[],rd,hK,hr, .inl rfl,by rw[pF];exact hH,by rw[pF];exact Trans.refl _ _ _,by rw[pF];exact hd,aJ⟩
theorem info_of_underlying{t:TypeId}{d:TypeDesc}(h:P.underlying t=some d):∃i,P.info? t=some i:=by
 unfold Program.underlying at h
 cases hi:P.info? t with
 |none=>simp[hi]at h
 |some i=>exact⟨i,rfl⟩
theorem bM{t:TypeId}{i:TypeInfo}(h:P.info? t=some i):P.cellsOf t=i.size:=by simp[Program.cellsOf,h]
theorem iE{t:TypeId}{i:TypeInfo}(h:P.info? t=some i):P.bytesOf t=i.bytes:=by simp[Program.bytesOf,h]
theorem gP{t:TypeId}{z:List V}(h:ct P t=some z):∃i v,P.info? t=some i/\i.zero=some v/\v.cells.size=i.size/\Flat v.cells.toList/\z=v.cells.toList.map V.dM:=by
 unfold ct at h
 cases hi:P.info? t with
 |none=>simp[hi]at h
 |some i=>
  simp only[hi]at h
  cases hz:i.zero with
  |none=>simp[hz]at h
  |some v=>
   simp only[hz]at h
   split at h
   ·rename_i hc
    injection h with h
    exact⟨i,v,rfl,hz,hc.1,fun u hu=>List.all_eq_true.1 hc.2 u hu,h.symm⟩
   ·cases h
theorem tx{t:TypeId}(h:cL P t=some true)(w:World):(isAgg t).run P w= .ok true w:=by
 unfold cL at h
 unfold isAgg
 cases hd:P.underlying t with
 |none=>simp[hd]at h
 |some d=>cases d<;>simp_all[run_underlying hd]
theorem qB{t:TypeId}(h:cL P t=some false)(w:World):(isAgg t).run P w= .ok false w:=by
 unfold cL at h
 unfold isAgg
 cases hd:P.underlying t with
 |none=>simp[hd]at h
 |some d=>cases d<;>simp_all[run_underlying hd]
theorem eh{t:TypeId}{i:TypeInfo}(h:P.info? t=some i)(w:World):(sizeOf t).run P w= .ok (P.cellsOf t) w:=by
 simp[sizeOf,typeInfo,h,bM h]
theorem tz{t:TypeId}{b:Bool}(h:cL P t=some b):∃i,P.info? t=some i:=by
 unfold cL at h
 cases hd:P.underlying t with
 |none=>simp[hd]at h
 |some d=>exact info_of_underlying hd
theorem bd{t e:TypeId}(h:bR P t=some e):P.underlying t=some (.slice e):=by
 unfold bR at h
 cases hd:P.underlying t with
 |none=>simp[hd]at h
 |some d=>cases d<;>simp_all
theorem zM{t e:TypeId}{n:Nat}(h:yZ P t=some (n,e)):P.underlying t=some (.array n e):=by
 unfold yZ at h
 cases hd:P.underlying t with
 |none=>simp[hd]at h
 |some d=>cases d<;>simp_all
theorem add_zero(a:Addr):a.add 0=a:=by simp[Addr.add]
theorem add_plain(b o j:Nat):(⟨b,o,none⟩:Addr).add j=⟨b,o+j,none⟩:=by
 unfold Addr.add;split
 ·rename_i h;subst h;rfl
 ·rfl
theorem add_add(a:Addr)(h:a.spot=none)(m n:Nat):(a.add m).add n=a.add (m+n):=by
 obtain⟨b,o,s⟩:=a
 simp only at h;subst h
 simp only[add_plain,Nat.add_assoc]
theorem Dv(a:Addr)(h:a.spot=none)(m:Nat):(a.add m).spot=none:=by
 unfold Addr.add;split<;>first|exact h|rfl
theorem ox(s:S)(a:Act)(eA:∀i,V.den (ao M φ H) φ H w (s.env i) (a.tmps.getD i undef))(x:Operand):V.den (ao M φ H) φ H w (s.ev x) (a.eval x):=by
 cases x with
 |tmp t=>exact eA t
 |func f=>exact⟨#[],#[],rfl,rfl,rfl⟩
 |global g=>trivial
 |const v=>
  cases v with
  |agg c=>
   simp only[S.ev,V.ofConst,Act.eval]
   split
   ·rename_i hc
    have hf:Flat c.toList:=fun u hu=>List.all_eq_true.1 hc u hu
    exact mq _ _ (ef _ hf) hf
   ·trivial
  |tuple _=>trivial
  |_=>simp only[S.ev,V.ofConst,Act.eval];exact m9 _ (by rfl)
theorem lM(s:S)(a:Act)(eA:∀i,V.den (ao M φ H) φ H w (s.env i) (a.tmps.getD i undef)):∀ (xs:List Operand),V.aG (ao M φ H) φ H w (xs.map s.ev) (xs.map a.eval)
 |[]=>rfl
 |x::xs=>⟨a.eval x,xs.map a.eval,rfl,ox s a eA x,lM s a eA xs⟩
theorem oz{t:TypeId}(a:Addr)(us:List Value)(hc:∀j u,us[j]? =some u->w.cell? (a.add j)=some u):
 (cL P t=some true->us.length=P.cellsOf t->(Instr.loadAt t (.pointer (some a))).run P w= .ok (.agg us.toArray) w)/\
 (cL P t=some false->∀u,us[0]? =some u->(Instr.loadAt t (.pointer (some a))).run P w= .ok u w):=by
 constructor
 ·intro h hl
  obtain⟨i,hi⟩:=tz h
  have h1:=run_loadCells_list (P:=P) w a us hc
  rw[hl]at h1
  simp[Instr.loadAt,Instr.sureAddr,loadVar,tx h,eh hi,h1]
 ·intro h u hu
  have h1:=hc 0 u hu
  rw[add_zero]at h1
  simp[Instr.loadAt,Instr.sureAddr,loadVar,qB h,h1]
theorem rz{t:TypeId}{cs:List V}{off:Nat}{v:V}(hg:fw P t cs off=some v)(a:Addr)(vs:List Value)(hd:V.aG (ao M φ H) φ H w cs vs)(hf:Flat vs)
 (hc:∀j u,vs[j]? =some u->w.cell? (a.add j)=some u) (ha:a.spot=none):∃val,(Instr.loadAt t (.pointer (some (a.add off)))).run P w= .ok val w/\V.den (ao M φ H) φ H w v val:=by
 have hlen:=V.aE _ _ hd
 unfold fw at hg
 cases Gv:cL P t with
 |none=>simp[Gv]at hg
 |some b=>
  cases b with
  |true=>
   simp only[Gv]at hg
   split at hg
   ·rename_i hle
    injection hg with hg;subst hg
    refine⟨.agg ((vs.drop off).take (P.cellsOf t)).toArray,(oz (P:=P) (t:=t) (a.add off) ((vs.drop off).take (P.cellsOf t)) ?_).1 Gv iA, ?_⟩
    ·intro j u hj
     rw[add_add a ha]
     rw[List.getElem?_take]at hj
     split at hj
     ·exact hc _ _ od
     ·cases hj
    ·refine mq _ _ ?_ ?_
     ·exact V.cZ _ _ _ (V.ee _ _ _ hd)
     ·intro u hu
      exact hf u (List.mem_of_mem_drop (List.mem_of_mem_take (by simpa using hu)))
   ·cases hg
  |false=>
   simp only[Gv]at hg
   obtain⟨u,hu,RM⟩:=V.dL _ _ _ _ hd hg
   refine⟨u,(oz (P:=P) (t:=t) (a.add off) (vs.drop off) ?_).2 Gv u (by simpa using hu),RM⟩
   intro j x hj
   rw[add_add a ha]
   exact hc _ _ od
theorem oA(sz:Nat):∀ (evs:List Value) (i j:Nat) (ev:Value) (u:Value),(∀x∈evs,x.cells.size=sz)->evs[i]? =some ev->ev.cells[j]? =some u->
 (evs.flatMap (·.cells.toList))[i*sz+j]? =some u
 |[],_,_,_,_,_,h,_=>by simp at h
 |e::evs,0,j,ev,u,hs,h,hu=>by
  simp at h;subst h
  have:j<e.cells.size:=(Array.getElem?_eq_some_iff.1 hu).1
  rw[List.flatMap_cons,List.getElem?_append_left (by simp;omega)]
  simpa using hu
 |e::evs,i+1,j,ev,u,hs,h,hu=>by
  have ih:=oA sz evs i j ev u (fun x hx=>hs x oh) (by simpa using h) hu
  rw[List.flatMap_cons,List.getElem?_append_right (by simp[hs e (by simp),Nat.add_mul];omega)]
  simp only[Array.length_toList,hs e (by simp)]
  rw[show(i+1)*sz+j - sz=i*sz+j by rw[Nat.add_mul];omega]
  exact ih
theorem rA{g:Nat}{dk:Array Value}{ty:TypeId}{fz:Nat×Nat}(h:w.heap[g]? =some (.cells dk ty fz))(j:Nat)(u:Value)(hu:dk[j]? =some u):w.cell? ((⟨g,0,none⟩:Addr).add j)=some u:=by
 rw[add_plain,Nat.zero_add,cell_of_row w g j dk ty fz h];exact hu
theorem NP{B:Nat->Prop}{ty:TypeId}{sz:Nat}{es:List D}{v:Value}{b n c i:Nat}{e:D}
 (bp:0<sz/\∃xs,w.ownsRow 0 ty sz v es.length xs/\eY B w sz es xs) (hv:v= .slice (some ⟨b,0,none⟩) n c) (he:es[i]? =some e):
 ∃ev:Value,ev.cells.size=sz/\D.aG B w e.cells ev.cells.toList/\Flat ev.cells.toList/\(∀j u,ev.cells.toList[j]? =some u->w.cell? ((⟨b,i*sz,none⟩:Addr).add j)=some u):=by
 obtain⟨h0,xs,⟨hl,bD⟩,evs,rfl,h2,h3⟩:=bp
 obtain⟨ev,dF,hd⟩:=D.dL _ _ _ _ h3 he
 have Yl:=D.eR _ _ hd
 refine⟨ev,h2 ev (List.mem_of_getElem? dF),Yl.1,Yl.2,fun j u hj=> ?_⟩
 subst hv
 rcases bD with⟨h4,_⟩|⟨g,cap,cur,h4,_,h5,h6,h7,h8,h9⟩
 ·simp at h4
 ·simp at h4;obtain⟨rfl,_,rfl⟩:=h4
  have:=oA sz evs i j ev u h2 dF od
  rw[<- h9,List.getElem?_take]at this
  split at this
  ·have Vl:=rA h5 (i*sz+j) u (by simpa using this)
   rw[add_plain]at Vl|-
   simpa using Vl
  ·cases this
theorem NQ(hH:ay M φ H w){t:TypeId}{x:V}{xv:Value}(hx:V.den (ao M φ H) φ H w x xv)
 (h:Dr P H.o t x fun v rd=>K v [] rd):da M φ H w fr ((do let y <- Instr.loadAt t xv;pure (Next.value y):Sem Next).run P w) K:=by
 have fin:∀ (v:V) rd,K v [] rd->(∃val,(Instr.loadAt t xv).run P w= .ok val w/\V.den (ao M φ H) φ H w v val)->da M φ H w fr ((do let y <- Instr.loadAt t xv;pure (Next.value y):Sem Next).run P w) K:=by
  rintro v rd hK ⟨val,h1,h2⟩
  exact da.same hH val hK (by simp[h1]) h2
 unfold Dr at h
 split at h
 ·rename_i id off
  split at h
  ·rename_i cs ho
   obtain⟨v,h1,hK⟩:=h
   obtain⟨_,hu,hp⟩:=hx
   obtain⟨b,dz,rfl⟩:=hp eL
   have bp:=hH.ok id
   simp only[aO,ho]at bp
   obtain⟨b',dk,ty,g1,g2,g3,g4⟩:=bp
   rw[dz]at g1;simp at g1;subst g1
   refine fin v _ hK ?_
   have:=rz (P:=P) h1 ⟨b,0,none⟩ dk.toList g3 g4 (fun j u hj=>rA g2 j u od) rfl
   rwa [add_plain,Nat.zero_add]at this
  ·exact h.elim
 ·rename_i cs off
  obtain⟨v,h1,hK⟩:=h
  obtain⟨a,ev,ha,rfl,hd,hf,hc⟩:=hx
  exact fin v _ hK (rz h1 a ev ((V.cA _ _).2 hd) hf (fun j u hj=>(hc j u od).1) ha)
 ·rename_i id ep i sz off
  split at h
  ·rename_i fq ty pX es ho
   obtain⟨rfl,rfl,e,he,v,h1,hK⟩:=h
   obtain⟨_,hu,hp⟩:=hx
   obtain⟨b,n,c,dz,rfl⟩:=(hp ep eL).2 rfl
   have bp:=hH.ok id
   simp only[aO,ho]at bp
   obtain⟨ev,g1,g2,g3,g4⟩:=NP bp dz he
   refine fin v _ hK ?_
   have:=rz (P:=P) h1 ⟨b,i*sz,none⟩ ev.cells.toList ((V.cA _ _).2 g2) g3 g4 rfl
   rwa [add_plain]at this
  ·exact h.elim
 ·exact h.elim
end
end
section
section
variable {P:Program}{M:Nat->Prop}{φ:Place}{H:Hp}{w:World}{fr:Nat}{K:V->List (Nat×aa)->List Nat->Prop}
theorem da.plain (hH:ay M φ H w){s:Sem Value}{v:V}{rd:List Nat}(val:Value)(hK:K v [] rd)(hr:s.run P w= .ok val w)(hd:V.den (ao M φ H) φ H w v val):
 da M φ H w fr ((do let y <- s;pure (Next.value y):Sem Next).run P w) K:=da.same hH val hK (by simp[hr]) hd
theorem Dw{t:TypeId}{f q:Nat}(h:bH P t f=some q):∃fs fd,P.underlying t=some (.struct fs)/\fs[f]? =some fd/\P.cellsOf fd.type≠0/\fd.offset=q:=by
 unfold bH at h
 cases hd:P.underlying t with
 |none=>simp[hd]at h
 |some d=>
  cases d<;>simp only[hd]at h<;>try (cases h;done)
  rename_i fs
  cases hf:fs[f]? with
  |none=>simp[hf]at h
  |some fd=>
   simp only[hf]at h
   split at h
   ·cases h
   ·injection h with h
    exact⟨fs,fd,rfl,hf,by assumption,h⟩
theorem Dx{t:TypeId}{f q:Nat}(h:bH P t f=some q)(a:Addr):(Instr.fieldAt t (.pointer (some a)) f).run P w= .ok (.pointer (some (a.add q))) w:=by
 obtain⟨fs,fd,h1,h2,h3,rfl⟩:=Dw h
 have:∃i,P.info? fd.type=some i:=by
  cases hi:P.info? fd.type with
  |none=>simp[Program.cellsOf,hi]at h3
  |some i=>exact⟨i,rfl⟩
 obtain⟨i,hi⟩:=this
 simp[Instr.fieldAt,run_underlying h1,h2,Instr.sureAddr,fieldPlace,eh hi,h3]
def V.step (x:V)(q:Nat):Option V:=
 match x with
 | .ptr id off=>some (.ptr id (off+q))
 | .pp cs off=>some (.pp cs (off+q))
 | .pe id ep j sz off=>some (.pe id ep j sz (off+q))
 |_=>none
def V.place (o:Nat->aa):V->Prop
 | .ptr id _=>(o id).bF=true
 | .pe id ep _ _ _=>(o id).bV=some ep
 |_=>True
theorem Dy{x y:V}{q:Nat}(h:x.step q=some y){xv:Value}(hx:V.den (ao M φ H) φ H w x xv)
 (hr:x.place H.o):
 ∃a,xv= .pointer (some a)/\V.den (ao M φ H) φ H w y (.pointer (some (a.add q))):=by
 cases x with
 |ptr id off=>
  simp only[V.step,Option.some.injEq]at h;subst h
  obtain⟨h1,h2,h3⟩:=hx
  obtain⟨b,h4,rfl⟩:=h3 hr
  exact⟨_,rfl,rfl,h2,fun _=>⟨b,h4,by rw[add_plain]⟩⟩
 |pp cs off=>
  simp only[V.step,Option.some.injEq]at h;subst h
  obtain⟨a,ev,ha,rfl,hd⟩:=hx
  exact⟨_,rfl,a,ev,ha,by rw[add_add a ha],hd⟩
 |pe id ep j sz off=>
  simp only[V.step,Option.some.injEq]at h;subst h
  obtain⟨h1,h2,h3⟩:=hx
  obtain⟨b,n,c,h4,rfl⟩:=(h3 ep hr).2 rfl
  refine⟨_,rfl,rfl,h2,fun e he=>⟨(h3 e he).1,fun heq=>⟨b,n,c,h4,by rw[add_plain,Nat.add_assoc]⟩⟩⟩
 |_=>simp[V.step]at h
theorem y0(hH:ay M φ H w){t:TypeId}{f:Nat}{x:V}{xv:Value}(hx:V.den (ao M φ H) φ H w x xv)(h:kH P H.o t x f fun v=>K v [] []):
 da M φ H w fr ((do let y <- Instr.fieldAt t xv f;pure (Next.value y):Sem Next).run P w) K:=by
 have fin:∀ (y:V) q,bH P t f=some q->x.step q=some y->x.place H.o->K y [] []->
  da M φ H w fr ((do let y <- Instr.fieldAt t xv f;pure (Next.value y):Sem Next).run P w) K:=by
  intro y q hq hs hr hK
  obtain⟨a,rfl,hd⟩:=Dy hs hx hr
  exact da.plain hH _ hK (Dx hq a) hd
 unfold kH at h
 split at h
 ·rename_i q hq
  split at h
  ·exact fin _ q hq rfl h.1 h.2
  ·exact fin _ q hq rfl trivial h
  ·exact fin _ q hq rfl h.1 h.2
  ·exact h.elim
 ·exact h.elim
theorem Gw{B:Nat->Prop}{es:List D}{xv:Value}(hx:D.den B w (.sl es) xv){i:Nat}{y:D}(hy:es[i]? =some y):
 ∃a len cap ev,xv= .slice (some a) len cap/\i<len/\a.spot=none/\D.aG B w y.cells ev/\Flat ev/\iD B w (a.add (i*y.cells.length)) ev.toArray/\len=es.length:=by
 obtain⟨base,len,cap,rfl,rfl,h2,h3,sz,h4⟩:=hx
 have cS:i<es.length:=(List.getElem?_eq_some_iff.1 hy).1
 cases base with
 |none=>have:=h3 rfl;omega
 |some a=>
  obtain⟨h5,h6⟩:=h4 a rfl
  obtain⟨ev,h7,h8,h9⟩:=D.zF es 0 i y h6 hy
  have Vl:=D.eR _ _ h9
  have h11:y.cells.length=sz:=by rw[<- h7, <- D.aE _ _ Vl.1];simp
  refine⟨a,es.length,cap,ev.cells.toList,rfl,cS,h5 ae,Vl.1,Vl.2, ?_,rfl⟩
  rw[h11]
  simpa using h8
theorem lZ{t e:TypeId}(ht:bR P t=some e)(a:Addr)(len cap:Nat)(k:IntKind)(i:Int)(h0:0<=i)(h1:i.toNat<len)(hc:0<P.cellsOf e):
 (Instr.indexAt t (.slice (some a) len cap) (.int k i)).run P w= .ok (.pointer (some (a.add (i.toNat*P.cellsOf e)))) w:=by
 have hu:=bd ht
 have:∃ie,P.info? e=some ie:=by
  cases hi:P.info? e with
  |none=>simp[Program.cellsOf,hi]at hc
  |some i=>exact⟨i,rfl⟩
 obtain⟨ie,hi⟩:=this
 have h2:0<=i/\i<(len:Int):=⟨h0,ae⟩
 simp[Instr.indexAt,run_underlying hu,asIntOf,h2,eh hi]
theorem y9{t e:TypeId}{n:Nat}(ht:yZ P t=some (n,e))(a:Addr)(k:IntKind)(i:Int)(h0:0<=i)(h1:i<n)(hi:∃ie,P.info? e=some ie):
 (Instr.indexAt t (.pointer (some a)) (.int k i)).run P w= .ok (.pointer (some (a.add (i.toNat*P.cellsOf e)))) w:=by
 have hu:=zM ht
 obtain⟨ie,hi⟩:=hi
 have h2:0<=i/\i<(n:Int):=⟨h0,h1⟩
 simp[Instr.indexAt,run_underlying hu,asIntOf,Instr.sureAddr,h2,eh hi]
theorem za(hH:ay M φ H w){t:TypeId}{x ix:V}{xv iv:Value}(hx:V.den (ao M φ H) φ H w x xv)(hi:V.den (ao M φ H) φ H w ix iv)
 (h:kF P H.o t x ix fun v rd=>K v [] rd):da M φ H w fr ((do let y <- Instr.indexAt t xv iv;pure (Next.value y):Sem Next).run P w) K:=by
 unfold kF at h
 split at h
 ·rename_i k i
  simp only[V.den,D.den]at hi;subst hi
  have Bn:∀ {e:TypeId} {es:List D} {rd},bR P t=some e->D.den (ao M φ H) w (.sl es) xv->(0<=i/\∃y,es[i.toNat]? =some y/\y.cells.length=P.cellsOf e/\0<P.cellsOf e/\K (.pp y.cells 0) [] rd)->
   da M φ H w fr ((do let y <- Instr.indexAt t xv (.int k i);pure (Next.value y):Sem Next).run P w) K:=by
   rintro e es rd ht hd ⟨h0,y,hy,hc,et,hK⟩
   obtain⟨a,len,cap,ev,rfl,h1,h2,h3,h4,h5,_⟩:=Gw hd hy
   refine da.plain hH _ hK (lZ ht a len cap k i h0 h1 et) ⟨a.add (i.toNat*P.cellsOf e),ev,Dv a h2 _,by rw[add_zero],h3,h4, ?_⟩
   rw[<- hc];exact h5
  split at h
  ·rename_i e ht
   split at h
   ·exact Bn ht hx h
   ·exact Bn ht hx.1 h
   ·rename_i id ep
    split at h
    ·rename_i fq ty sz es ho
     obtain⟨rfl,h0,h1,rfl,et,hK⟩:=h
     obtain⟨wM,dg,wK⟩:=hx
     have hv:=(wK ep eL).2 rfl
     have bp:=hH.ok id
     simp only[aO,ho]at bp
     obtain⟨h3,xs,⟨_,bD⟩,_⟩:=bp
     rcases bD with⟨_,h5⟩|⟨g,cap,cur,h4,_⟩
     ·omega
     ·subst hv
      rw[h4]
      refine da.plain hH _ hK (lZ ht _ _ cap k i h0 h1 et) ⟨rfl,dg,fun e' mc=>⟨(wK e' mc).1,fun heq=>⟨g,es.length,cap,h4,by rw[add_plain];simp⟩⟩⟩
    ·rename_i fq es ho
     obtain⟨rfl,h⟩:=h
     obtain⟨wM,dg,wK⟩:=hx
     have hv:=(wK ep eL).2 rfl
     have bp:=hH.ok id
     simp only[aO,ho]at bp
     exact Bn ht (hv ▸ bp) h
    ·exact h.elim
   ·obtain⟨bD,h0,h1,et,hK⟩:=h
    obtain⟨wM,dg,hb⟩:=hx
    obtain⟨b,dz,hv⟩:=hb bD
    subst hv
    refine da.plain hH _ hK (lZ ht _ _ _ k i h0 h1 et) ⟨rfl,dg,fun _=>⟨b,dz,by rw[add_plain]⟩⟩
   ·exact h.elim
  ·split at h
   ·rename_i n e ht
    obtain⟨h0,h1,ahk,h⟩:=h
    have fin:∀ (y:V),x.step (i.toNat*P.cellsOf e)=some y->x.place H.o->K y [] []->
     da M φ H w fr ((do let y <- Instr.indexAt t xv (.int k i);pure (Next.value y):Sem Next).run P w) K:=by
     intro y hs hr hK
     obtain⟨a,rfl,hd⟩:=Dy hs hx hr
     refine da.plain hH _ hK (y9 ht a k i h0 h1 (Option.isSome_iff_exists.1 ahk)) hd
    split at h
    ·exact fin _ rfl h.1 h.2
    ·exact fin _ rfl trivial h
    ·exact fin _ rfl h.1 h.2
    ·exact h.elim
   ·exact h.elim
 ·exact h.elim
theorem Ym(hH:ay M φ H w){op:UnOp}{x:V}{xv:Value}(hx:V.den (ao M φ H) φ H w x xv)(h:unV op x fun v=>K v [] []):
 da M φ H w fr ((do let y <- Op.unary op xv;pure (Next.value y):Sem Next).run P w) K:=by
 unfold unV at h
 split at h
 ·simp only[V.den,D.den]at hx;subst hx
  exact da.plain hH _ h (by simp[Op.unary,Op.intArith]) rfl
 ·simp only[V.den,D.den]at hx;subst hx
  exact da.plain hH _ h (by simp[Op.unary]) rfl
 ·exact h.elim
theorem Df{op:BinOp}{k:IntKind}{a b r:Int}(h:wD op k a b=some r):(Op.intBits op k a b).run P w= .ok (.int k r) w:=by
 unfold wD at h
 cases op<;>simp at h<;>subst h<;>simp[Op.intBits]
theorem uA{t:TypeId}(hu:P.underlying t=some .bool)(a b:Bool)(d:Nat):(Op.equalIn (d+1) t (.bool a) (.bool b)).run P w= .ok (a==b) w:=by
 simp[Op.equalIn,run_underlying hu]
theorem RN(hH:ay M φ H w){op:BinOp}{t:TypeId}{p q:Operand}{x y:V}{xv yv:Value}(hx:V.den (ao M φ H) φ H w x xv)(hy:V.den (ao M φ H) φ H w y yv)
 (h:NM P op t x y fun v=>K v [] []):
 da M φ H w fr ((do let y <- (do eqGuard op t p q xv yv;binOp op t xv yv);pure (Next.value y):Sem Next).run P w) K:=by
 unfold NM at h
 split at h
 ·rename_i k a k' b
  obtain⟨rfl,h⟩:=h
  simp only[V.den,D.den]at hx hy;subst hx;subst hy
  have hg:(eqGuard op t p q (.int k a) (.int k b)).run P w= .ok () w:=by
   exact Nw
  have fin:∀ (v:V) (val:Value),K v [] []->(binOp op t (.int k a) (.int k b)).run P w= .ok val w->V.den (ao M φ H) φ H w v val->
   da M φ H w fr ((do let y <- (do eqGuard op t p q (.int k a) (.int k b);binOp op t (.int k a) (.int k b));pure (Next.value y):Sem Next).run P w) K:=by
   intro v val hK hr hd
   exact da.plain hH val hK (by simp[hg,hr]) hd
  cases op<;>simp only[RH]at h
  case add=>exact fin _ _ h (by simp[binOp,Op.intArith]) rfl
  case sub=>exact fin _ _ h (by simp[binOp,Op.intArith]) rfl
  case mul=>exact fin _ _ h (by simp[binOp,Op.intArith]) rfl
  case quo=>exact fin _ _ h.2 (by simp[binOp,Op.intDiv,h.1]) rfl
  case rem=>exact fin _ _ h.2 (by simp[binOp,Op.intDiv,h.1]) rfl
  case and=>obtain⟨r,hr,hK⟩:=h;exact fin _ _ hK Iq rfl
  case or=>obtain⟨r,hr,hK⟩:=h;exact fin _ _ hK Iq rfl
  case xor=>obtain⟨r,hr,hK⟩:=h;exact fin _ _ hK Iq rfl
  case andNot=>obtain⟨r,hr,hK⟩:=h;exact fin _ _ hK Iq rfl
  all_goals
   obtain⟨r,hr,hK⟩:=h
   simp only[adA,Option.some.injEq]at hr
   subst hr
   exact fin _ _ hK (by simp[binOp,Op.intCmp];rfl) (by simp[V.den,D.den])
 ·rename_i a b
  simp only[V.den,D.den]at hx hy;subst hx;subst hy
  have hg:(eqGuard op t p q (.bool a) (.bool b)).run P w= .ok () w:=by
   exact Nw
  split at h
  ·obtain⟨hu,hK⟩:=h
   have h1:(Op.equal t (.bool a) (.bool b)).run P w= .ok (a==b) w:=uA hu a b 9999
   exact da.plain hH (.bool (a==b)) hK (by simp[hg,binOp,h1]) rfl
  ·obtain⟨hu,hK⟩:=h
   have h1:(Op.equal t (.bool a) (.bool b)).run P w= .ok (a==b) w:=uA hu a b 9999
   exact da.plain hH (.bool (a !=b)) hK (by simp[hg,binOp,h1,bne]) rfl
  ·exact h.elim
 ·rename_i a b
  obtain⟨u,rfl,rfl⟩:=hx
  obtain⟨v,rfl,rfl⟩:=hy
  have hg:(eqGuard op t p q (.string u) (.string v)).run P w= .ok () w:=by
   exact Nw
  split at h
  ·exact da.plain hH (.bool (u.data.toList==v.data.toList)) h (by simp[hg,binOp,Op.stringOp,ByteArray.toList_eq]) rfl
  ·exact da.plain hH (.bool (u.data.toList !=v.data.toList)) h (by simp[hg,binOp,Op.stringOp,ByteArray.toList_eq,bne]) rfl
  ·exact h.elim
 ·rename_i a b
  obtain⟨a',rfl,hx⟩:=hx
  obtain⟨b',rfl,hy⟩:=hy
  split at h
  ·obtain⟨r,hr,hK⟩:=h
   obtain⟨h1,h2⟩:=hr (ao M φ H) w (.agg a') (.agg b') ⟨a',rfl,hx⟩ ⟨b',rfl,hy⟩
   exact da.plain hH (.bool r) hK (by simp[h2,binOp,h1]) rfl
  ·obtain⟨r,hr,hK⟩:=h
   obtain⟨h1,h2⟩:=hr (ao M φ H) w (.agg a') (.agg b') ⟨a',rfl,hx⟩ ⟨b',rfl,hy⟩
   exact da.plain hH (.bool !r) hK (by simp[h2,binOp,h1]) rfl
  ·exact h.elim
 ·exact h.elim
theorem NR(hH:ay M φ H w){c a b:V}{cv av bv:Value}(hc:V.den (ao M φ H) φ H w c cv)(ha:V.den (ao M φ H) φ H w a av)(hb:V.den (ao M φ H) φ H w b bv)
 (h:Dq c a b fun v=>K v [] []):da M φ H w fr ((do pure (.value (if <- asBool cv then av else bv)):Sem Next).run P w) K:=by
 unfold Dq at h
 split at h
 ·rename_i t
  simp only[V.den,D.den]at hc;subst hc
  have hr:((do pure (.value (if <- asBool (.bool t)then av else bv)):Sem Next).run P w)= .ok (.value (if t then av else bv)) w:=by simp[asBool]
  have fin:∀v,K v [] []->V.den (ao M φ H) φ H w v (if t then av else bv)->da M φ H w fr ((do pure (.value (if <- asBool (.bool t)then av else bv)):Sem Next).run P w) K:=
   fun v hK hd=>da.same hH _ hK hr hd
  cases t
  ·exact fin _ (h.2 rfl) (by simpa using hb)
  ·exact fin _ (h.1 rfl) (by simpa using ha)
 ·exact h.elim
theorem rB{t:TypeId}{e:TypeId}(hu:P.underlying t=some (.slice e))(base:Option Addr)(n c:Nat)(ty:TypeId):(Builtin.len_ #[t] ty #[.slice base n c]).run P w= .ok (goInt n) w:=by
 simp[Builtin.len_,run_underlying hu]
theorem RP(hH:ay M φ H w){t ty:TypeId}{x:V}{xv:Value}(hx:V.den (ao M φ H) φ H w x xv)(h:NN P t H.o x fun v rd=>K v [] rd):
 da M φ H w fr ((do let y <- Builtin.len_ #[t] ty #[xv];pure (Next.value y):Sem Next).run P w) K:=by
 unfold NN at h
 split at h
 ·rename_i e hu
  have fin:∀ {es:List D} {rd},D.den (ao M φ H) w (.sl es) xv->K (.d (.int .i64 es.length)) [] rd->da M φ H w fr ((do let y <- Builtin.len_ #[t] ty #[xv];pure (Next.value y):Sem Next).run P w) K:=by
   rintro es rd ⟨base,len,cap,rfl,rfl,_⟩ hK
   exact da.plain hH _ hK (rB hu _ _ _ _) rfl
  split at h
  ·exact fin hx h
  ·simp only[V.den]at hx;subst hx
   exact da.plain hH _ h (rB hu _ _ _ _) rfl
  ·exact fin hx.1 h
  rotate_left
  ·obtain⟨b,_,hb⟩:=hx.2.2 h.1
   subst hb
   exact da.plain hH _ h.2 (rB hu _ _ _ _) rfl
  rotate_left
  ·rename_i id ep
   split at h
   ·rename_i fq ty sz es ho
    obtain⟨rfl,hK⟩:=h
    obtain⟨wM,dg,wK⟩:=hx
    have hv:=(wK ep eL).2 rfl
    have bp:=hH.ok id
    simp only[aO,ho]at bp
    obtain⟨h3,xs,⟨_,bD⟩,_⟩:=bp
    subst hv
    rcases bD with⟨h4,h5⟩|⟨g,cap,cur,h4,_⟩
    ·rw[h4];rw[h5]at hK;exact da.plain hH _ hK (rB hu _ _ _ _) rfl
    ·rw[h4];exact da.plain hH _ hK (rB hu _ _ _ _) rfl
   ·rename_i fq es ho
    obtain⟨rfl,hK⟩:=h
    obtain⟨wM,dg,wK⟩:=hx
    have hv:=(wK ep eL).2 rfl
    have bp:=hH.ok id
    simp only[aO,ho]at bp
    exact fin (hv ▸ bp) hK
   ·exact h.elim
  ·exact h.elim
 ·rename_i hu
  split at h
  ·obtain⟨u,rfl,rfl⟩:=hx
   exact da.plain hH (goInt u.size) h (by simp[Builtin.len_,run_underlying hu]) (by simp[V.den,D.den,goInt])
  ·exact h.elim
 ·rename_i n e hu
  exact da.plain hH _ h (by simp[Builtin.len_,run_underlying hu];rfl) rfl
 ·exact h.elim
end
end
end Go.Proofs.YtnkamdiiakdkgaaGreat
