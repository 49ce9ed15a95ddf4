/-
  A PART OF THE PROOF. Conditions: none.
-/
import Derived.Great.BuildSlice
import Derived.Great.FillDense
import Derived.Test.YtlhemmpklhhgoaaGreatQo1
set_option linter.unusedSimpArgs false
set_option linter.unusedVariables false
namespace Go.Proofs.YtlhemmpklhhgoaaGreat
def ay{α:Type}(f:Nat->α)(i:Nat)(x:α):Nat->α:=fun j=>if j=i then x else f j
@[simp] theorem aN {α:Type} (f:Nat->α) (i:Nat) (x:α) (j:Nat):ay f i x j=if j=i then x else f j:=rfl
structure S where
 env:Nat->V
 o:Nat->ad
 nx:Nat
def S.H (s:S):Hp:=⟨s.o,fun id=>id<s.nx⟩
def V.dz:Value->V
 | .int k n=> .d (.int k n)| .bool b=> .d (.bool b)| .string s=> .d (.str s.data.toList)
 | .nilIface=> .d .eW| .pointer none=> .d .lG| .nilFunc=> .d .cF| .map none=> .d .dL
 | .slice none 0 0=> .ax
 |_=> .ab
def EI:List V->Option (List D)
 |[]=>some []
 | .d x::vs=>(EI vs).map (x::·)
 |_::_=>none
def mQ(cs:List V):V:=match EI cs with|some ds=> .d (.agg ds)|none=> .agg cs
def V.ofConst:Value->V
 | .agg a=>if a.toList.all Value.oneCell' then mQ (a.toList.map V.dz)else .ab
 |v=>V.dz v
def S.ev (s:S):Operand->V
 | .tmp t=>s.env t
 | .const v=>V.ofConst v
 | .func f=> .func (.func f) [] []
 | .global _=> .ab
def D.cells:D->List D
 | .agg cs=>cs
 |x=>[x]
def V.cells:V->Option (List V)
 | .d x=>some (x.cells.map .d)
 | .agg cs=>some cs
 | .bY _| .ab=>none
 |v=>some [v]
mutual
def dM(o:Nat->ad):V->Option D
 | .d x=>some x
 | .ax=>some (.sl [])
 | .pb es=>some (.sl es)
 | .osl id ep=>match o id with
   | .arr fT _ _ es| .uI fT es=>if ep=fT then some (.sl es)else none
   |_=>none
 | .mp id=>match o id with
   | .map _ _ l=>some (.mp (l.map (·.1)) (l.map (·.2)))
   | .cc l=>some (.mp (l.map (·.1)) (l.map (·.2)))
   |_=>none
 | .agg cs=>(cm o cs).map .agg
 | .iface t x=>(dM o x).map (.iface t)
 |_=>none
def cm(o:Nat->ad):List V->Option (List D)
 |[]=>some []
 |v::vs=>(dM o v).bind fun x=>(cm o vs).map (x::·)
end
mutual
def V.ids:V->List Nat
 | .osl id _=>[id]
 | .mp id=>[id]
 | .agg cs=>V.bc cs
 | .iface _ x=>x.ids
 |_=>[]
def V.bc:List V->List Nat
 |[]=>[]
 |v::vs=>v.ids++V.bc vs
end
def bG(o:Nat->ad)(ids:List Nat):List (Nat×ad):=
 ids.map fun id=>(id,match o id with| .arr ep _ _ es=> .uI ep es| .map _ _ l=> .cc l|o=>o)
def ss(o:Nat->ad)(ids:List Nat):List (Nat×ad):=
 ids.filterMap fun id=>match o id with| .arr ep _ _ es=>some (id, .uI ep es)|_=>none
def put(o:Nat->ad)(Δ:List (Nat×ad)):Nat->ad:=Δ.foldl (fun f x=>ay f x.1 x.2) o
def Hp.put (H:Hp)(Δ:List (Nat×ad)):Hp:={o:=YtlhemmpklhhgoaaGreat.put H.o Δ,us:=fun id=>H.us id\/id∈Δ.map (·.1)}
def cB(P:Program)(t:TypeId):Option (List V):=
 match P.info? t with
 |some i=>match i.zero with
  |some z=>if z.cells.size=i.size/\z.cells.toList.all Value.oneCell'=true then some (z.cells.toList.map V.dz)else none
  |none=>none
 |none=>none
def dg(P:Program)(t:TypeId):Option Bool:=
 match P.underlying t with
 |some (.struct _)|some (.array _ _)=>some true
 |some _=>some false
 |none=>none
def b8(P:Program)(t:TypeId)(f:Nat):Option Nat:=
 match P.underlying t with
 |some (.struct fs)=>match fs[f]? with
  |some fd=>if P.cellsOf fd.type=0 then none else some fd.offset
  |none=>none
 |_=>none
def bV(P:Program)(t:TypeId):Option TypeId:=
 match P.underlying t with
 |some (.slice e)=>some e
 |_=>none
def Aa(P:Program)(t:TypeId):Option (Nat×TypeId):=
 match P.underlying t with
 |some (.array n e)=>some (n,e)
 |_=>none
def cV(P:Program)(t:TypeId):Option (List (Nat×Nat)):=
 match P.underlying t with
 |some (.struct fs)=>if fs.toList.all (fun f=>(P.info? f.type).isSome)=true then some (fs.toList.map fun f=>(f.offset,P.cellsOf f.type))else none
 |some (.array n e)=>if(P.info? e).isSome=true then some ((List.range n).map fun i=>(i*P.cellsOf e,P.cellsOf e))else none
 |_=>none
def oW(P:Program)(t:TypeId):Option IntKind:=
 match P.underlying t with
 |some (.int k)=>some k
 |_=>none
def eX(P:Program)(t:TypeId)(cs:List V)(off:Nat):Option V:=
 match dg P t with
 |some true=>if off+P.cellsOf t<=cs.length then some (mQ ((cs.drop off).take (P.cellsOf t)))else none
 |some false=>cs[off]?
 |none=>none
def Ab(P:Program)(t:TypeId)(cs:List V)(off:Nat)(v:V):Option (List V):=
 match v.cells with
 |some us=>if us.length=P.cellsOf t/\(0<us.length\/(P.info? t).isSome=true)/\off+us.length<=cs.length then some (cs.take off++us++cs.drop (off+us.length))else none
 |none=>none
def tA(places:List (Nat×Nat))(cs:List V):List (Nat×V)->Option (List V)
 |[]=>some cs
 |(i,v)::rest=>match places[i]?,v.cells with
  |some (off,size),some us=>if us.length=size/\off+us.length<=cs.length then tA places (cs.take off++us++cs.drop (off+us.length)) rest else none
  |_,_=>none
def D.put (e:D)(off:Nat)(us:List D):Option D:=
 match e with
 | .agg cs=>if off+us.length<=cs.length then some (.agg (cs.take off++us++cs.drop (off+us.length)))else none
 |_=>match off,us with
  |0,[u]=>some u
  |_,_=>none
def abM(op:BinOp)(a b:Int):Option Bool:=
 match op with
 | .eql=>some (a==b)| .neq=>some (a !=b)| .lss=>some (decide (a<b))| .leq=>some (decide (a<=b))
 | .gtr=>some (decide (a>b))| .geq=>some (decide (a≥b))
 |_=>none
def vw(op:BinOp)(k:IntKind)(x y:Int):Option Int:=
 let a:=BitVec.ofInt k.bits x
 let b:=BitVec.ofInt k.bits y
 match op with
 | .and=>some (k.wrap (a&&&b).toNat)
 | .or=>some (k.wrap (a|||b).toNat)
 | .xor=>some (k.wrap (a ^^^ b).toNat)
 | .andNot=>some (k.wrap (a&&& ~~~b).toNat)
 |_=>none
def PG(op:BinOp)(k:IntKind)(a b:Int)(K:V->Prop):Prop:=
 match op with
 | .add=>K (.d (.int k (k.wrap (a+b))))
 | .sub=>K (.d (.int k (k.wrap (a - b))))
 | .mul=>K (.d (.int k (k.wrap (a*b))))
 | .quo=>b≠0/\K (.d (.int k (k.wrap (a.tdiv b))))
 | .rem=>b≠0/\K (.d (.int k (a.tmod b)))
 | .and| .or| .xor| .andNot=>∃r,vw op k a b=some r/\K (.d (.int k r))
 | .shl| .shr=>False
 |op=>∃r,abM op a b=some r/\K (.d (.bool r))
def LM(P:Program)(t:TypeId)(x y:D)(r:Bool):Prop:=
 ∀ (B:Nat->Prop) (w:World) (u v:Value),D.den B w x u->D.den B w y v->(Op.equal t u v).run P w= .ok r w/\∀ (op:BinOp) (a b:Operand),(eqGuard op t a b u v).run P w= .ok () w
def LN(P:Program)(op:BinOp)(t:TypeId)(x y:V)(K:V->Prop):Prop:=
 match x,y with
 | .d (.int k a), .d (.int k' b)=>k=k'/\PG op k a b K
 | .d (.bool a), .d (.bool b)=>match op with
   | .eql=>P.underlying t=some .bool/\K (.d (.bool (a==b)))
   | .neq=>P.underlying t=some .bool/\K (.d (.bool (a !=b)))
   |_=>False
 | .d (.str a), .d (.str b)=>match op with
   | .eql=>K (.d (.bool (a==b)))
   | .neq=>K (.d (.bool (a !=b)))
   |_=>False
 | .d (.agg a), .d (.agg b)=>match op with
   | .eql=>∃r,LM P t (.agg a) (.agg b) r/\K (.d (.bool r))
   | .neq=>∃r,LM P t (.agg a) (.agg b) r/\K (.d (.bool !r))
   |_=>False
 |_,_=>False
def unV(op:UnOp)(x:V)(K:V->Prop):Prop:=
 match op,x with
 | .neg, .d (.int k n)=>K (.d (.int k (k.wrap (0 - n))))
 | .not, .d (.bool b)=>K (.d (.bool !b))
 |_,_=>False
def B6(c a b:V)(K:V->Prop):Prop:=
 match c with
 | .d (.bool t)=>(t=true->K a)/\(t=false->K b)
 |_=>False
def LO(P:Program)(t:TypeId)(o:Nat->ad)(x:V)(K:V->List Nat->Prop):Prop:=
 match P.underlying t with
 |some (.slice _)=>match x with
  | .d (.sl es)=>K (.d (.int .i64 es.length)) []
  | .ax=>K (.d (.int .i64 0)) []
  | .pb es=>K (.d (.int .i64 es.length)) []
  | .osl id ep=>match o id with
    | .arr fT _ _ es| .uI fT es=>ep=fT/\K (.d (.int .i64 es.length)) [id]
    |_=>False
  |_=>False
 |some .string=>match x with
  | .d (.str s)=>K (.d (.int .i64 s.length)) []
  |_=>False
 |some (.array n _)=>K (.d (.int .i64 n)) []
 |_=>False
def jT(P:Program)(o:Nat->ad)(t:TypeId)(x ix:V)(K:V->List Nat->Prop):Prop:=
 match ix with
 | .d (.int _ i)=>match bV P t with
   |some e=>match x with
    | .d (.sl es)=>0<=i/\∃y,es[i.toNat]? =some y/\y.cells.length=P.cellsOf e/\0<P.cellsOf e/\K (.pp y.cells 0) []
    | .pb es=>0<=i/\∃y,es[i.toNat]? =some y/\y.cells.length=P.cellsOf e/\0<P.cellsOf e/\K (.pp y.cells 0) []
    | .osl id ep=>match o id with
      | .arr fT _ sz es=>ep=fT/\0<=i/\i.toNat<es.length/\sz=P.cellsOf e/\0<P.cellsOf e/\K (.pe id ep i.toNat sz 0) [id]
      | .uI fT es=>ep=fT/\0<=i/\∃y,es[i.toNat]? =some y/\y.cells.length=P.cellsOf e/\0<P.cellsOf e/\K (.pp y.cells 0) [id]
      |_=>False
    |_=>False
   |none=>match Aa P t with
    |some (n,e)=>0<=i/\i<n/\(P.info? e).isSome=true/\(match x with
     | .ptr id off=>(o id).cA=true/\K (.ptr id (off+i.toNat*P.cellsOf e)) []
     | .pp cs off=>K (.pp cs (off+i.toNat*P.cellsOf e)) []
     | .pe id ep j sz off=>(o id).cz=some ep/\K (.pe id ep j sz (off+i.toNat*P.cellsOf e)) []
     |_=>False)
    |none=>False
 |_=>False
def jU(P:Program)(o:Nat->ad)(t:TypeId)(x:V)(f:Nat)(K:V->Prop):Prop:=
 match b8 P t f with
 |some q=>match x with
  | .ptr id off=>(o id).cA=true/\K (.ptr id (off+q))
  | .pp cs off=>K (.pp cs (off+q))
  | .pe id ep j sz off=>(o id).cz=some ep/\K (.pe id ep j sz (off+q))
  |_=>False
 |none=>False
def B7(P:Program)(o:Nat->ad)(t:TypeId)(x:V)(K:V->List Nat->Prop):Prop:=
 match x with
 | .ptr id off=>match o id with
   | .row cs=>∃v,eX P t cs off=some v/\K v [id]
   |_=>False
 | .pp cs off=>∃v,eX P t (cs.map .d) off=some v/\K v []
 | .pe id ep i sz off=>match o id with
   | .arr fT _ rX es=>ep=fT/\sz=rX/\∃e,es[i]? =some e/\∃v,eX P t (e.cells.map .d) off=some v/\K v [id]
   |_=>False
 |_=>False
def vy(P:Program)(o:Nat->ad)(t:TypeId)(x v:V)(K:List (Nat×ad)->List Nat->Prop):Prop:=
 match x with
 | .ptr id off=>match o id with
   | .row cs=>∃cs',Ab P t cs off v=some cs'/\K [(id, .row cs')] [id]
   |_=>False
 | .pe id ep i rX off=>match o id with
   | .arr fT ty sz es=>ep=fT/\rX=sz/\∃e,es[i]? =some e/\∃y,dM o v=some y/\y.cells.length=P.cellsOf t/\0<y.cells.length/\v.ids.all (· !=id)=true/\
    ∃e',e.put off y.cells=some e'/\K (bG o v.ids++[(id, .arr ep ty sz (es.set i e'))]) (id::v.ids)
   |_=>False
 |_=>False
def iV(P:Program)(o:Nat->ad)(fr:Nat)(t:TypeId)(len:Nat)(parts:List (Nat×V))(K:V->List (Nat×ad)->List Nat->Prop):Prop:=
 match bV P t with
 |some e=>(len=0/\parts=[]/\0<P.cellsOf e/\K (.osl fr 0) [(fr, .arr 0 e (P.cellsOf e) [])] [])\/(parts.map (·.1)=List.range len)/\(cB P e).isSome=true/\0<len/\0<P.cellsOf e/\len*P.cellsOf e<=2^24/\
  ∃ds,cm o (parts.map (·.2))=some ds/\(∀x∈ds,x.cells.length=P.cellsOf e)/\
   K (.osl fr 0) (bG o (V.bc (parts.map (·.2)))++[(fr, .arr 0 e (P.cellsOf e) ds)]) (V.bc (parts.map (·.2)))
 |none=>False
def B8(P:Program)(e:TypeId):Option D:=
 match cB P e with
 |some z=>match cm (fun _=> .no) z,dg P e with
  |some ds,some true=>some (.agg ds)
  |some [x],some false=>some x
  |_,_=>none
 |none=>none
def jV(P:Program)(fr:Nat)(t:TypeId)(l c:V)(K:V->List (Nat×ad)->Prop):Prop:=
 match bV P t,l,c with
 |some e, .d (.int _ n), .d (.int _ m)=>n=m/\0<=n/\0<P.cellsOf e/\P.bytesOf e*n.toNat<=2^47/\n.toNat<=2^47/\
  ∃x,B8 P e=some x/\K (.osl fr 0) [(fr, .arr 0 e (P.cellsOf e) (List.replicate n.toNat x))]
 |_,_,_=>False
def eY(o:Nat->ad)(x:V):Option (List D):=
 match dM o x with
 |some (.sl es)=>some es
 |_=>none
def qx(P:Program)(o:Nat->ad)(fr:Nat)(ts:Array TypeId)(x y:V)(K:V->List (Nat×ad)->List Nat->Prop):Prop:=
 match ts.toList with
 |[t,t']=>t=t'/\(match bV P t with
  |some e=>∃new,eY o y=some new/\0<P.cellsOf e/\(cB P e).isSome=true/\(∀z∈new,z.cells.length=P.cellsOf e)/\(match x with
   | .ax=>new.length<=2^47/\new.length*P.bytesOf e<=2^47/\K (.osl fr 0) [(fr, .arr 0 e (P.cellsOf e) new)] y.ids
   | .pb es=>(∀z∈es,z.cells.length=P.cellsOf e)/\(if new=[]then K (.pb es) [] y.ids else es.length+new.length<=2^40/\(es.length+new.length)*P.bytesOf e<=2^40/\K (.osl fr 0) [(fr, .arr 0 e (P.cellsOf e) (es++new))] y.ids)
   | .osl id ep=>match o id with
     | .arr fT ty sz es=>ep=fT/\ty=e/\sz=P.cellsOf e/\es.length+new.length<=2^47/\(es.length+new.length)*P.bytesOf e<=2^47/\
      K (.osl id (ep+1)) [(id, .arr (ep+1) ty sz (es++new))] (id::y.ids)
     |_=>False
   |_=>False)
  |none=>False)
 |_=>False
def oz(isMax:Bool)(args:List V)(K:V->Prop):Prop:=
 match args with
 |[.d (.int k a), .d (.int k' b)]=>k=k'/\K (.d (.int k (if isMax then(if b>a then b else a)else(if b<a then b else a))))
 |_=>False
def lJ(o:Nat->ad)(x:V)(K:V->Prop):Prop:=
 match x with
 | .ptr id off=>(o id).cA=true/\K (.ptr id off)
 | .pp cs off=>K (.pp cs off)
 | .func (.func f) first cap=>K (.func (.func f) first cap)
 |_=>False
def iW(P:Program)(t:TypeId)(xs:List D)(off:Nat):Option D:=
 match dg P t with
 |some true=>if off+P.cellsOf t<=xs.length then some (.agg ((xs.drop off).take (P.cellsOf t)))else none
 |some false=>xs[off]?
 |none=>none
inductive afG where
 |int|bool|str|struct (fs:List (TypeId×Nat))|arr (n:Nat) (e:TypeId)
def bO(P:Program)(t:TypeId):Option afG:=
 match P.underlying t with
 |some (.int _)=>some .int
 |some .bool=>some .bool
 |some .string=>some .str
 |some (.struct fs)=>if(!P.stoodInHeld t&&fs.toList.all (fun f=>f.name != "_"))=true then some (.struct (fs.toList.map fun f=>(f.type,f.offset)))else none
 |some (.array n e)=>if(P.info? e).isSome=true then some (.arr n e)else none
 |_=>none
def EJ(a b:Option Bool):Option Bool:=
 match a,b with
 |some a,some b=>some (a&&b)
 |_,_=>none
def yu(f:TypeId->Nat->Option Bool):List (TypeId×Nat)->Option Bool
 |[]=>some true
 |x::l=>EJ (f x.1 x.2) (yu f l)
def B9(f:Nat->Option Bool):Nat->Nat->Option Bool
 |0,_=>some true
 |n+1,i=>EJ (f i) (B9 f n (i+1))
def PH(f:D->D->Option Bool)(x y:Option D):Option Bool:=
 match x,y with
 |some x,some y=>f x y
 |_,_=>none
def pf(P:Program):Nat->TypeId->D->D->Option Bool
 |0,_,_,_=>none
 |d+1,t,x,y=>match bO P t with
  |some .int=>match x,y with| .int k a, .int k' b=>if k=k' then some (a==b)else none|_,_=>none
  |some .bool=>match x,y with| .bool a, .bool b=>some (a==b)|_,_=>none
  |some .str=>match x,y with| .str a, .str b=>some (a==b)|_,_=>none
  |some (.struct fs)=>match x,y with
   | .agg xs, .agg ys=>yu (fun u off=>PH (pf P d u) (iW P u xs off) (iW P u ys off)) fs
   |_,_=>none
  |some (.arr n e)=>match x,y with
   | .agg xs, .agg ys=>B9 (fun i=>PH (pf P d e) (iW P e xs (i*P.cellsOf e)) (iW P e ys (i*P.cellsOf e))) n 0
   |_,_=>none
  |none=>none
abbrev gr:=V×List (Nat×ad)×List Nat
def dk(x:Option gr)(K:V->List (Nat×ad)->List Nat->Prop):Prop:=
 match x with
 |some (v,Δ,rd)=>K v Δ rd
 |none=>False
def I6(x:Option V)(afH:Nat):Option Nat:=
 match x with
 |none=>some afH
 |some (.d (.int _ i))=>if 0<=i then some i.toNat else none
 |_=>none
def pH(o:Nat->ad)(x:V):Option (Nat×Nat):=
 match x with
 | .ptr id off=>if(o id).cA=true then some (id,off)else none
 |_=>none
def pI(o:Nat->ad)(x:V):Option (Nat×Nat×Nat×List V):=
 match x with
 | .yq id off n=>match o id with
   | .row cs=>some (id,off,n,cs)
   |_=>none
 |_=>none
def EK(P:Program)(o:Nat->ad)(t:TypeId)(x:V)(lo hi mx:Option V):Option gr:=
 match x with
 | .ax=>match lo,hi,mx with
   |none,some (.d (.int _ k)),none=>match bV P t with
    |some e=>if k=0/\(P.info? e).isSome=true then some (.ax,[],[])else none
    |none=>none
   |_,_,_=>none
 | .osl id ep=>match lo,hi,mx with
   |none,some (.d (.int _ k)),none=>match bV P t,o id with
    |some e, .arr fT ty sz es=>if k=0/\ep=fT/\(P.info? e).isSome=true then some (.osl id (ep+1),[(id, .arr (ep+1) ty sz [])],[id])
     else if 0<k/\k.toNat<=es.length/\ep=fT/\(P.info? e).isSome=true then some (.osl id (ep+1),[(id, .arr (ep+1) ty sz (es.take k.toNat))],[id])else none
    |_,_=>none
   |_,_,_=>none
 |_=>none
def qy(P:Program)(o:Nat->ad)(t:TypeId)(x:V)(lo hi mx:Option V):Option gr:=
 match bV P t with
 |some e=>match eY o x,I6 lo 0 with
  |some es,some l=>match I6 hi es.length with
   |some h=>if l<=h/\h<=es.length/\(P.info? e).isSome=true/\(l=0\/es.all (fun y=>y.cells.length==P.cellsOf e)=true)then match mx with
    |none=>some (.d (.sl ((es.take h).drop l)),bG o x.ids,x.ids)
    |some m=>match hi,I6 (some m) 0 with
     |some _,some m=>if h<=m/\m<=es.length then some (if h=m then .pb ((es.take h).drop l)else .d (.sl ((es.take h).drop l)),bG o x.ids,x.ids)else none
     |_,_=>none
    else none
   |none=>none
  |_,_=>none
 |none=>match Aa P t,lo,hi,mx with
  |some (n,e),none,none,none=>match pH o x with
   |some (id,off)=>if(P.info? e).isSome=true then some (.yq id off n,[],[id])else none
   |none=>none
  |_,_,_,_=>none
def su(P:Program)(o:Nat->ad)(t:TypeId)(x:V)(lo hi mx:Option V):Option gr:=
 match EK P o t x lo hi mx with
 |some r=>some r
 |none=>qy P o t x lo hi mx
def yw(P:Program)(o:Nat->ad)(ts:Array TypeId)(x y:V):Option gr:=
 match ts.toList with
 |[t,_]=>match bV P t with
  |some e=>match pI o x,eY o y with
   |some (id,off,n,cs),some es=>if P.cellsOf e=1/\off+n<=cs.length/\es.all (fun z=>z.cells.length==1)=true/\y.ids.all (· !=id)=true then
    some (.d (.int .i64 ((min es.length n:Nat):Int)),bG o y.ids++[(id, .row (cs.take off++((es.take n).flatMap D.cells).map .d++cs.drop (off+(es.take n).length)))],id::y.ids)else none
   |_,_=>none
  |none=>none
 |_=>none
def Ac(P:Program)(t:TypeId)(f:Nat):Option (Nat×TypeId):=
 match P.underlying t with
 |some (.struct fs)=>match fs[f]? with
  |some fd=>some (fd.offset,fd.type)
  |none=>none
 |_=>none
def vz(P:Program)(t:TypeId)(x:V)(f:Nat):Option V:=
 match Ac P t f with
 |some (off,u)=>match x with
  | .d (.agg cs)=>(iW P u cs off).map .d
  | .agg cs=>eX P u cs off
  |_=>none
 |none=>none
def vA(P:Program)(t:TypeId)(x i:V):Option V:=
 match i with
 | .d (.int _ i)=>if 0<=i then match P.underlying t with
  |some .string=>match x with
   | .d (.str s)=>match s[i.toNat]? with
     |some b=>some (.d (.int .u8 b.toNat))
     |none=>none
   |_=>none
  |some (.array n e)=>if i<n/\(P.info? e).isSome=true then match x with
   | .d (.agg cs)=>(iW P e cs (i.toNat*P.cellsOf e)).map .d
   | .agg cs=>eX P e cs (i.toNat*P.cellsOf e)
   |_=>none
   else none
  |_=>none
   else none
 |_=>none
def vB(P:Program)(t:TypeId):Bool:=
 match P.underlying t with
 |some (.interface _)=>false
 |some _=>true
 |none=>false
def zeroV(P:Program)(t:TypeId):Option V:=
 match P.info? t with
 |some i=>match i.zero with
  |some (.agg a)=>if a.toList.all Value.oneCell'=true then some (mQ (a.toList.map V.dz))else none
  |some v=>if v.oneCell'=true then some (V.dz v)else none
  |none=>none
 |none=>none
def qz(P:Program)(t:TypeId)(ok:Bool)(x:V):Option V:=
 if vB P t=true then match x with
  | .d (.iface u y)=>if u=t then some (if ok=true then .bY [.d y, .d (.bool true)]else .d y)
   else if ok=true then(zeroV P t).map fun z=> .bY [z, .d (.bool false)]else none
  | .d .eW=>if ok=true then(zeroV P t).map fun z=> .bY [z, .d (.bool false)]else none
  |_=>none
 else none
def Ca(o:Nat->ad)(x:V):Option V:=
 match x with
 | .ax=>some (.d (.bool true))
 |x=>match eY o x with
  |some es=>some (if es=[]then .fH else .d (.bool false))
  |none=>none
def isConst:Operand->Bool
 | .const _=>true
 |_=>false
def PI:V->Option V
 | .d (.bool b)=>some (.d (.bool !b))
 | .fH=>some .fH
 |_=>none
def sv(o:Nat->ad)(x:V):Option V:=
 match x with
 | .d .dL=>some (.d (.bool true))
 | .d (.mp _ _)=>some (.d (.bool false))
 | .mp id=>match o id with| .map _ _ _=>some (.d (.bool false))| .cc _=>some (.d (.bool false))|_=>none
 |_=>none
def sw(o:Nat->ad)(x:V):Option V:=
 match x with
 | .d .lG=>some (.d (.bool true))
 | .ptr id _=>if(o id).cA=true then some (.d (.bool false))else none
 | .pp _ _=>some (.d (.bool false))
 |_=>none
def eqI(P:Program)(a b:TypeId)(x y:D):Option Bool:=
 if a=b then(match P.info? a,P.underlying a with
  |some i,some (.int _)=>if i.comparable=true then(match x,y with
   | .int k m, .int k' n=>if k=k' then some (m==n)else none
   |_,_=>none)else none
  |_,_=>none)
 else some false
def qu(P:Program)(o:Nat->ad)(t:TypeId)(ng:Bool)(x y:V):Option V:=
 match P.underlying t with
 |some (.interface _)=>match x,y with
  | .d .eW, .d .eW=>if ng=true then some (.d (.bool true))else none
  | .d (.iface _ _), .d .eW| .iface _ _, .d .eW| .d .eW, .d (.iface _ _)| .d .eW, .iface _ _=>some (.d (.bool false))
  | .d (.iface a x), .d (.iface b y)=>(eqI P a b x y).map fun r=> .d (.bool r)
  |_,_=>none
 |some (.func _ _ _)=>match x,y with
  | .d .cF, .d .cF=>some (.d (.bool true))
  | .func _ _ _, .d .cF=>some (.d (.bool false))
  |_,_=>none
 |some (.map _ _)=>match y with
  | .d .dL=>sv o x
  |_=>none
 |some (.pointer _)=>match y with
  | .d .lG=>sw o x
  |_=>none
 |some (.slice _)=>match y with
  | .ax=>Ca o x
  |_=>none
 |some (.struct _)|some (.array _ _)=>match x,y with
  | .d (.agg ct), .d (.agg bs)=>if P.eqGuardType P.depth t=false then(pf P 100 t (.agg ct) (.agg bs)).map fun r=> .d (.bool r)else none
  |_,_=>none
 |_=>none
def sy(P:Program)(o:Nat->ad)(op:BinOp)(t:TypeId)(ng:Bool)(x y:V):Option gr:=
 match op with
 | .eql=>(qu P o t ng x y).map fun v=>(v,[],[])
 | .neq=>((qu P o t ng x y).bind PI).map fun v=>(v,[],[])
 |_=>none
mutual
def D.same:D->D->Bool
 | .int k a, .int j b=>k==j&&a==b
 | .bool a, .bool b=>a==b
 | .str a, .str b=>a==b
 | .eW, .eW| .lG, .lG| .cF, .cF| .dL, .dL=>true
 | .agg ct, .agg bs=>D.gz ct bs
 | .sl ct, .sl bs=>D.gz ct bs
 | .iface t a, .iface u b=>t==u&&a.same b
 | .mp ks vs, .mp cE vs'=>D.gz ks cE&&D.gz vs vs'
 |_,_=>false
def D.gz:List D->List D->Bool
 |[],[]=>true
 |a::ct,b::bs=>a.same b&&D.gz ct bs
 |_,_=>false
end
def sA(P:Program)(t:TypeId):Option (TypeId×TypeId):=
 match P.underlying t with
 |some (.map k v)=>some (k,v)
 |_=>none
def oX(P:Program):Nat->TypeId->D->Bool
 |0,_,_=>false
 |d+1,t,x=>match bO P t with
  |some .int|some .bool|some .str=>true
  |some (.struct fs)=>match x with
   | .agg xs=>fs.all fun f=>match iW P f.1 xs f.2 with|some y=>oX P d f.1 y|none=>false
   |_=>false
  |some (.arr n e)=>match x with
   | .agg xs=>(List.range n).all fun i=>match iW P e xs (i*P.cellsOf e)with|some y=>oX P d e y|none=>false
   |_=>false
  |none=>false
def findD(P:Program)(kt:TypeId)(k:D):List (D×D)->Nat->Option (Option (Nat×D×D))
 |[],_=>some none
 |(k',x)::l,i=>match pf P 100 kt k k' with
  |some true=>some (some (i,k',x))
  |some false=>findD P kt k l (i+1)
  |none=>none
def pg:D->Bool
 | .int _ _| .bool _| .str _=>true
 |_=>false
def kZ:D->Bool
 | .agg cs=>cs.all pg
 |x=>pg x
def pk(o:Nat->ad)(m:V):Option (Option (Nat×TypeId×TypeId)×List (D×D)):=
 match m with
 | .mp id=>match o id with
   | .map kt vt l=>some (some (id,kt,vt),l)
   |_=>none
 | .d .dL=>some (none,[])
 |_=>none
def qA(o:Nat->ad)(m:V):Option (List Nat×List (D×D)):=
 match m with
 | .mp id=>match o id with
   | .map _ _ l=>some ([id],l)
   | .cc l=>some ([id],l)
   |_=>none
 | .d .dL=>some ([],[])
 | .d (.mp ks vs)=>some ([],ks.zip vs)
 |_=>none
def afI(r:Option (Nat×TypeId×TypeId)):List Nat:=match r with|some p=>[p.1]|none=>[]
def jr(P:Program)(o:Nat->ad)(t:TypeId)(m k:V)(ok:Bool):Option gr:=
 match sA P t,dM o k,qA o m with
 |some (kt,vt),some kd,some (rd,l)=>if k.ids=[]/\oX P 100 kt kd=true then match findD P kt kd l 0 with
  |some (some (_,_,x))=>some (if ok=true then .bY [.d x, .d (.bool true)]else .d x,[],rd)
  |some none=>match zeroV P vt with
   |some z=>some (if ok=true then .bY [z, .d (.bool false)]else z,[],rd)
   |none=>none
  |none=>none
  else none
 |_,_,_=>none
def fZ(P:Program)(o:Nat->ad)(t:TypeId)(m k v:V):Option gr:=
 match sA P t,dM o k,dM o v,pk o m with
 |some (kt,_),some kd,some vd,some (some (id,GO,GP),l)=>if k.ids=[]/\oX P 100 kt kd=true/\kZ kd=true/\v.ids.all (· !=id)=true then match findD P kt kd l 0 with
  |some (some (i,k',_))=>if k'.same kd=true then some (.bY [],bG o v.ids++[(id, .map GO GP (l.set i (kd,vd)))],id::v.ids)else none
  |some none=>some (.bY [],bG o v.ids++[(id, .map GO GP (l++[(kd,vd)]))],id::v.ids)
  |none=>none
  else none
 |_,_,_,_=>none
def nh(P:Program)(fr:Nat)(t:TypeId):Option gr:=
 match sA P t with
 |some (kt,vt)=>some (.mp fr,[(fr, .map kt vt [])],[])
 |none=>none
def ni(P:Program)(o:Nat->ad)(fr:Nat)(t:TypeId)(x:V):Option gr:=
 match P.underlying t with
 |some .string=>match x with
  | .d (.str s)=>some (.ptr fr 0,[(fr, .z7 s 0)],[])
  |_=>none
 |some (.map _ _)=>match x with
  | .d .dL=>some (.ptr fr 0,[(fr, .rW [] none)],[])
  | .d (.mp ks vs)=>some (.ptr fr 0,[(fr, .rW (ks.zip vs) none)],[])
  | .mp id=>match o id with
    | .map _ _ l=>some (.ptr fr 0,[(id, .cc l),(fr, .rW l none)],[id])
    | .cc l=>some (.ptr fr 0,[(fr, .rW l none)],[id])
    |_=>none
  |_=>none
 |_=>none
def pn(o:Nat->ad)(x:V)(str:Bool):Option gr:=
 match x with
 | .ptr id 0=>match o id with
   | .z7 s pos=>if str=true then
    (if pos<s.length then some (.bY [.d (.bool true), .d (.int .i64 pos), .d (.int .i32 (Utf8.decode ⟨⟨s⟩⟩ pos).1)],[(id, .z7 s (pos+(Utf8.decode ⟨⟨s⟩⟩ pos).2))],[id])else some (.bY [.d (.bool false)],[],[id]))
     else none
   |_=>none
 |_=>none
def pq(o:Nat->ad)(x:V):Option (Nat×List (D×D)):=
 match x with
 | .ptr id 0=>match o id with
   | .rW l _=>some (id,l)
   |_=>none
 |_=>none
def GQ(id:Nat)(l:List (D×D))(K:V->List (Nat×ad)->List Nat->Prop):Prop:=
 (l=[]->K (.bY [.d (.bool false)]) [] [id])/\∀i k x,l[i]? =some (k,x)->K (.bY [.d (.bool true), .d k, .d x]) [(id, .rW (l.eraseIdx i) (some (k,x)))] [id]
def nj(o:Nat->ad)(x:V):Option gr:=
 match x with
 | .ptr id 0=>match o id with
   | .rW _ (some (k,x))=>some (.bY [.d k, .d x],[],[id])
   |_=>none
 |_=>none
def oA(P:Program)(o:Nat->ad)(t:TypeId)(m k:V):Option gr:=
 match sA P t,dM o k,pk o m with
 |some (kt,_),some kd,some (some (id,GO,GP),l)=>if k.ids=[]/\oX P 100 kt kd=true then match findD P kt kd l 0 with
  |some (some (i,_,_))=>some (.bY [],[(id, .map GO GP (l.eraseIdx i))],[id])
  |some none=>some (.bY [],[],[id])
  |none=>none
  else none
 |_,_,_=>none
def LP(x y z:V):Option V:=
 match x,y,z with
 | .d (.int k a), .d (.int k' b), .d (.int k'' c)=>if k=k'/\k=k'' then some (.d (.int k (if c>(if b>a then b else a)then c else(if b>a then b else a))))else none
 |_,_,_=>none
def PJ(P:Program)(ts:Array TypeId)(x:V):Option gr:=
 match ts.toList with
 |[t]=>match bV P t with
  |some _=>match x with
   | .ax=>some (.d (.int .i64 0),[],[])
   |_=>none
  |none=>none
 |_=>none
def yx(P:Program)(fr:Nat)(ts:Array TypeId)(x y:V):Option gr:=
 match ts.toList with
 |[t,t']=>if t=t' then none else match bV P t with
  |some e=>match oW P t',x,y with
   |some _, .ax, .d (.int _ n)=>if 0<n/\0<P.cellsOf e/\n.toNat*P.bytesOf e<=2^40/\n.toNat<=2^40 then match B8 P e with
    |some z=>some (.osl fr 0,[(fr, .arr 0 e (P.cellsOf e) (List.replicate n.toNat z))],[])
    |none=>none
    else none
   |_,_,_=>none
  |none=>none
 |_=>none
def vC(P:Program)(s:S)(fr:Nat)(b:Builtin)(args:List Operand)(ts:Array TypeId)(K:V->List (Nat×ad)->List Nat->Prop):Prop:=
 match b,args with
 | .len,[x]=>∃t,ts.toList=[t]/\LO P t s.o (s.ev x) fun v rd=>K v [] rd
 | .append,[x,y]=>dk (yx P fr ts (s.ev x) (s.ev y)) K\/qx P s.o fr ts (s.ev x) (s.ev y) K
 | .max,[x,y]=>oz true [s.ev x,s.ev y] fun v=>K v [] []
 | .min,[x,y]=>oz false [s.ev x,s.ev y] fun v=>K v [] []
 | .max,[x,y,z]=>dk ((LP (s.ev x) (s.ev y) (s.ev z)).map fun v=>(v,[],[])) K
 | .copy,[x,y]=>dk (yw P s.o ts (s.ev x) (s.ev y)) K
 | .delete,[x,y]=>∃t,ts.toList.head?=some t/\dk (oA P s.o t (s.ev x) (s.ev y)) K
 | .cap,[x]=>dk (PJ P ts (s.ev x)) K
 |_,_=>False
def Th(P:Program)(s:S)(fr:Nat)(op:Op)(K:V->List (Nat×ad)->List Nat->Prop):Prop:=
 match op with
 | .move x| .assign x=>K (s.ev x) [] []
 | .pick c a b=>B6 (s.ev c) (s.ev a) (s.ev b) fun v=>K v [] []
 | .alloc t=>∃cs,cB P t=some cs/\K (.ptr fr 0) [(fr, .row cs)] []
 | .box _ x=>∃cs,(s.ev x).cells=some cs/\K (.ptr fr 0) [(fr, .row cs)] []
 | .build t parts=>∃z pl cs,cB P t=some z/\cV P t=some pl/\tA pl z (parts.toList.map fun p=>(p.1,s.ev p.2))=some cs/\K (mQ cs) [] []
 | .buildSlice t len parts=>iV P s.o fr t len (parts.toList.map fun p=>(p.1,s.ev p.2)) K
 | .load t x=>B7 P s.o t (s.ev x) fun v rd=>K v [] rd
 | .store t x v=>vy P s.o t (s.ev x) (s.ev v) fun Δ rd=>K (.bY []) Δ rd
 | .nilCheck x=>lJ s.o (s.ev x) fun v=>K v [] []
 | .binOp op t x y _=>LN P op t (s.ev x) (s.ev y) (fun v=>K v [] [])\/dk (sy P s.o op t (isConst x||isConst y) (s.ev x) (s.ev y)) K
 | .unOp op _ x=>unV op (s.ev x) (fun v=>K v [] [])\/(op= .not/\s.ev x= .fH/\K .fH [] [])
 | .convert u t x=>(P.underlying u).isSome=true/\(match oW P t,s.ev x with
   |some k, .d (.int _ n)=>K (.d (.int k (k.wrap n))) [] []
   |_,_=>False)
 | .makeInterface t x=>(∃d,P.underlying t=some d/\(match d with| .interface _=>false|_=>true)=true)/\(match s.ev x with
   | .d y=>K (.d (.iface t y)) [] []
   |v=>K (.iface t v) [] [])
 | .makeFunc fn first cap=>K (.func fn (first.toList.map s.ev) (cap.toList.map s.ev)) [] []
 | .makeSlice t l c=>jV P fr t (s.ev l) (s.ev c) fun v Δ=>K v Δ []
 | .fieldAddr t x f=>jU P s.o t (s.ev x) f fun v=>K v [] []
 | .indexAddr t x i=>jT P s.o t (s.ev x) (s.ev i) fun v rd=>K v [] rd
 | .extract x i=>match s.ev x with
   | .bY vs=>∃v,vs[i]? =some v/\K v [] []
   |_=>False
 | .slice t x lo hi mx=>dk (su P s.o t (s.ev x) (lo.map s.ev) (hi.map s.ev) (mx.map s.ev)) K
 | .field t x f=>dk ((vz P t (s.ev x) f).map fun v=>(v,[],[])) K
 | .index t x i=>dk ((vA P t (s.ev x) (s.ev i)).map fun v=>(v,[],[])) K
 | .makeMap t none=>dk (nh P fr t) K
 | .lookup t m k ok=>dk (jr P s.o t (s.ev m) (s.ev k) ok) K
 | .mapUpdate t m k v=>dk (fZ P s.o t (s.ev m) (s.ev k) (s.ev v)) K
 | .insert t m k v=>dk (fZ P s.o t (s.ev m) (s.ev k) (s.ev v)) K
 | .range t x=>dk (ni P s.o fr t (s.ev x)) K
 | .next x str=>dk (pn s.o (s.ev x) str) K\/(str=false/\∃id l,pq s.o (s.ev x)=some (id,l)/\GQ id l K)
 | .entry x=>dk (nj s.o (s.ev x)) K
 | .typeAssert x _ t ok=>dk ((qz P t ok (s.ev x)).map fun v=>(v,[],[])) K
 | .call c=>match c.callee with
   | .builtin b=>vC P s fr b c.args.toList c.argTypes K
   |_=>False
 |_=>False
section
section
variable {B:Nat->Prop}{φ:Place}{H:Hp}{w:World}
theorem V.aC:∀ (cs:List V) (vs:List Value),V.aF B φ H w cs vs->vs.length=cs.length
 |[],_,h=>by simp[V.aF]at h;simp[h]
 |c::cs,_,h=>by obtain⟨u,us,rfl,_,h2⟩:=h;simp[V.aC cs us h2]
theorem V.dy:∀ (cs:List V) (vs:List Value) (i:Nat) (c:V),V.aF B φ H w cs vs->cs[i]? =some c->∃v,vs[i]? =some v/\V.den B φ H w c v
 |[],_,_,_,_,hd=>by simp at hd
 |c::cs,_,0,x,h,hd=>by
  exact Tb
 |c::cs,_,i+1,x,h,hd=>by
  obtain⟨u,us,rfl,_,h2⟩:=h
  simpa using V.dy cs us i x h2 (by simpa using hd)
theorem V.bu:∀ (cs ds:List V) (us vs:List Value),V.aF B φ H w cs us->V.aF B φ H w ds vs->V.aF B φ H w (cs++ds) (us++vs)
 |[],ds,us,vs,h,k=>by simp[V.aF]at h;subst h;simpa using k
 |c::cs,ds,_,vs,h,k=>by
  obtain⟨u,us,rfl,h1,h2⟩:=h
  exact⟨u,us++vs,aE,h1,V.bu cs ds us vs h2 k⟩
theorem V.cW:∀ (n:Nat) (cs:List V) (vs:List Value),V.aF B φ H w cs vs->V.aF B φ H w (cs.take n) (vs.take n)
 |0,_,_,_=>by simp[V.aF]
 |n+1,[],_,h=>by simp[V.aF]at h;subst h;simp[V.aF]
 |n+1,c::cs,_,h=>by
  obtain⟨u,us,rfl,h1,h2⟩:=h
  exact⟨u,us.take n,aE,h1,V.cW n cs us h2⟩
theorem V.eF:∀ (n:Nat) (cs:List V) (vs:List Value),V.aF B φ H w cs vs->V.aF B φ H w (cs.drop n) (vs.drop n)
 |0,_,_,h=>by simpa using h
 |n+1,[],_,h=>by simp[V.aF]at h;subst h;simp[V.aF]
 |n+1,c::cs,_,h=>by
  obtain⟨u,us,rfl,h1,h2⟩:=h
  simpa using V.eF n cs us h2
theorem V.cM:∀ (ds:List D) (vs:List Value),V.aF B φ H w (ds.map .d) vs↔D.aF B w ds vs
 |[],vs=>by simp[V.aF,D.aF]
 |x::ds,vs=>by simp only[List.map_cons,V.aF,D.aF,V.den,V.cM ds]
theorem D.bu:∀ (cs ds:List D) (us vs:List Value),D.aF B w cs us->D.aF B w ds vs->D.aF B w (cs++ds) (us++vs)
 |[],ds,us,vs,h,k=>by simp[D.aF]at h;subst h;simpa using k
 |c::cs,ds,_,vs,h,k=>by
  obtain⟨u,us,rfl,h1,h2⟩:=h
  exact⟨u,us++vs,aE,h1,D.bu cs ds us vs h2 k⟩
theorem D.cW:∀ (n:Nat) (cs:List D) (vs:List Value),D.aF B w cs vs->D.aF B w (cs.take n) (vs.take n)
 |0,_,_,_=>by simp[D.aF]
 |n+1,[],_,h=>by simp[D.aF]at h;subst h;simp[D.aF]
 |n+1,c::cs,_,h=>by
  obtain⟨u,us,rfl,h1,h2⟩:=h
  exact⟨u,us.take n,aE,h1,D.cW n cs us h2⟩
theorem D.eF:∀ (n:Nat) (cs:List D) (vs:List Value),D.aF B w cs vs->D.aF B w (cs.drop n) (vs.drop n)
 |0,_,_,h=>by simpa using h
 |n+1,[],_,h=>by simp[D.aF]at h;subst h;simp[D.aF]
 |n+1,c::cs,_,h=>by
  obtain⟨u,us,rfl,h1,h2⟩:=h
  simpa using D.eF n cs us h2
theorem D.Cb:∀ (i:Nat) (ds:List D) (vs:List Value) (x:D) (v:Value),D.aF B w ds vs->D.den B w x v->D.aF B w (ds.set i x) (vs.set i v)
 |_,[],_,_,_,h,_=>by simp[D.aF]at h;subst h;simp[D.aF]
 |0,c::cs,_,x,v,h,k=>by
  obtain⟨u,us,rfl,h1,h2⟩:=h
  exact⟨v,us,aE,k,h2⟩
 |i+1,c::cs,_,x,v,h,k=>by
  obtain⟨u,us,rfl,h1,h2⟩:=h
  exact⟨u,us.set i v,aE,h1,D.Cb i cs us x v h2 k⟩
theorem yy:∀ (cs:List V) (ds:List D),EI cs=some ds->cs=ds.map .d
 |[],ds,h=>by simp[EI]at h;subst h;rfl
 | .d x::cs,ds,h=>by
   simp only[EI,Option.map_eq_some_iff]at h
   obtain⟨a,h1,rfl⟩:=h
   simp[yy cs a h1]
 | .ax::_,_,h| .agg _::_,_,h| .bY _::_,_,h| .ptr _ _::_,_,h| .osl _ _::_,_,h| .pe _ _ _ _ _::_,_,h| .pp _ _::_,_,h
 | .func _ _ _::_,_,h| .iface _ _::_,_,h| .ab::_,_,h| .pb _::_,_,h| .yq _ _ _::_,_,h| .mp _::_,_,h| .fH::_,_,h=>by simp[EI]at h
theorem lK(cs:List V)(a:Array Value)(h:V.aF B φ H w cs a.toList)(hf:Flat a.toList):V.den B φ H w (mQ cs) (.agg a):=by
 unfold mQ
 split
 ·rename_i ds hd
  have:=yy cs ds hd
  subst this
  exact⟨a,rfl,(V.cM ds _).1 h,hf⟩
 ·exact⟨a,rfl,h,hf⟩
theorem D.oB:∀ (x:D) (v:Value),D.den B w x v->(∃cs a,x= .agg cs/\v= .agg a)\/v.oneCell'=true/\x.cells=[x]/\v.cells=#[v]
 | .int _ _,_,h| .bool _,_,h| .eW,_,h| .lG,_,h| .cF,_,h| .dL,_,h=>by
   simp only[D.den]at h;subst h;exact .inr ⟨rfl,rfl,rfl⟩
 | .str l,_,h=>by obtain⟨s,rfl,_⟩:=h;exact .inr ⟨rfl,rfl,rfl⟩
 | .agg cs,_,h=>by obtain⟨a,rfl,_,_⟩:=h;exact .inl ⟨cs,a,rfl,rfl⟩
 | .sl es,_,h=>by obtain⟨b,l,c,rfl,_⟩:=h;exact .inr ⟨rfl,rfl,rfl⟩
 | .iface t x,_,h=>by obtain⟨u,rfl,_⟩:=h;exact .inr ⟨rfl,rfl,rfl⟩
 | .mp ks vs,_,h=>by obtain⟨m,es,c,p,rfl,_⟩:=h;exact .inr ⟨rfl,rfl,rfl⟩
theorem D.ft (x:D)(v:Value)(h:D.den B w x v):D.aF B w x.cells v.cells.toList/\Flat v.cells.toList:=by
 rcases D.oB x v h with⟨cs,a,rfl,rfl⟩|⟨h1,h2,h3⟩
 ·obtain⟨a',h1,h2,h3⟩:=h
  injection h1 with h1;subst h1
  exact⟨h2,h3⟩
 ·rw[h2,h3]
  exact⟨⟨v,[],rfl,h,rfl⟩,by intro u hu;simp at hu;subst hu;exact h1⟩
theorem V.oB (x:V)(v:Value)(us:List V)(hx:x.cells=some us)(h:V.den B φ H w x v):V.aF B φ H w us v.cells.toList/\Flat v.cells.toList:=by
 have one:∀ (y:V),v.oneCell'=true->V.den B φ H w y v->V.aF B φ H w [y] v.cells.toList/\Flat v.cells.toList:=by
  intro y h1 h2
  have h3:v.cells=#[v]:=by cases v<;>simp_all[Value.oneCell',Value.cells]
  rw[h3]
  exact⟨⟨v,[],rfl,h2,rfl⟩,by intro u hu;simp at hu;subst hu;exact h1⟩
 cases x with
 |d x=>
  simp only[V.cells,Option.some.injEq]at hx;subst hx
  have:=D.ft x v h
  exact⟨(V.cM _ _).2 this.1,this.2⟩
 |ax=>simp only[V.cells,Option.some.injEq]at hx;subst hx;exact one _ (by cases h;rfl) h
 |agg cs=>
  simp only[V.cells,Option.some.injEq]at hx;subst hx
  obtain⟨a,rfl,h1,h2⟩:=h
  exact⟨h1,h2⟩
 |bY vs=>simp[V.cells]at hx
 |ab=>simp[V.cells]at hx
 |ptr id off=>simp only[V.cells,Option.some.injEq]at hx;subst hx;exact one _ h.1 h
 |osl id ep=>simp only[V.cells,Option.some.injEq]at hx;subst hx;exact one _ h.1 h
 |pe id ep i sz off=>simp only[V.cells,Option.some.injEq]at hx;subst hx;exact one _ h.1 h
 |pp cs off=>simp only[V.cells,Option.some.injEq]at hx;subst hx;exact one _ (by obtain⟨a,ev,_,rfl,_⟩:=h;rfl) h
 |func fn f c=>simp only[V.cells,Option.some.injEq]at hx;subst hx;exact one _ (by obtain⟨a,ev,rfl,_⟩:=h;rfl) h
 |iface t y=>simp only[V.cells,Option.some.injEq]at hx;subst hx;exact one _ (by obtain⟨a,rfl,_⟩:=h;rfl) h
 |pb es=>simp only[V.cells,Option.some.injEq]at hx;subst hx;exact one _ (by obtain⟨_,b,n,rfl⟩:=h;rfl) h
 |yq id off n=>simp only[V.cells,Option.some.injEq]at hx;subst hx;exact one _ h.1 h
 |mp id=>simp only[V.cells,Option.some.injEq]at hx;subst hx;exact one _ h.1 h
 |kH id=>simp only[V.cells,Option.some.injEq]at hx;subst hx;exact one _ h.1 h
 |fH=>simp only[V.cells,Option.some.injEq]at hx;subst hx;exact one _ (by obtain⟨a,rfl⟩:=h;rfl) h
theorem mc(v:Value)(h:v.oneCell'=true):V.den B φ H w (V.dz v) v:=by
 cases v<;>simp_all only[Value.oneCell',V.dz,V.den,D.den]<;>try trivial
 all_goals (try (split<;>simp_all[V.den,D.den]))
 all_goals (try first|(simp_all[D.den];done)|simp_all)
theorem dN:∀ (vs:List Value),Flat vs->V.aF B φ H w (vs.map V.dz) vs
 |[],_=>rfl
 |v::vs,h=>⟨v,vs,rfl,mc v (h v aE),dN vs fun u hu=>h u (by simp[hu])⟩
end
end
section
theorem oC(H:Hp):H.put []=H:=by
 obtain⟨o,us⟩:=H
 simp[Hp.put,put]
theorem eg(H:Hp)(A C:List (Nat×ad)):H.put (A++C)=(H.put A).put C:=by
 obtain⟨o,us⟩:=H
 simp only[Hp.put,put,List.foldl_append,Hp.mk.injEq,true_and]
 funext id
 simp only[List.map_append,List.mem_append,eq_iff_iff]
 exact⟨fun h=>by rcases h with h|h|h<;>simp[h],fun h=>by rcases h with(h|h)|h<;>simp[h]⟩
@[simp] theorem bM (H:Hp) (i:Nat) (x:ad):(H.put [(i,x)]).o=ay H.o i x:=rfl
@[simp] theorem eh (H:Hp) (i j:Nat) (x:ad):(H.put [(i,x)]).us j↔(H.us j\/j=i):=by simp[Hp.put]
section
variable {M:Nat->Prop}{φ aH:Place}{H H':Hp}{w w':World}
theorem aS.Cc (rY:∀b,dc w b-> ¬ao M φ H b->w'.heap[b]? =w.heap[b]? /\ ¬ao M aH H' b)(hrl:ef φ H aH H'){id:Nat}(ho:H'.o id=H.o id)(eT:aH id=φ id)
 (hb:(H.o id).live=true->∀b,eB (φ id)=some b->w'.heap[b]? =w.heap[b]?) (h:aS M φ H w id):aS M aH H' w' id:=by
 unfold aS at*
 rw[ho]
 cases hx:H.o id with
 |no=>trivial
 |row cs=>
  simp only[hx]at h|-
  obtain⟨b,ed,ty,h1,h2,h3,h4⟩:=h
  exact⟨b,ed,ty,eT.trans h1,(hb tx b yj).trans h2,V.gk rY hrl cs _ h3,h4⟩
 |arr ep ty sz es=>
  simp only[hx]at h|-
  obtain⟨h0,xs,h1,evs,h2,h3,h4⟩:=h
  refine⟨h0,xs, ?_,evs,h2,h3,D.aV rY es evs h4⟩
  rw[eT]
  obtain⟨g1,g2⟩:=h1
  refine⟨g1, ?_⟩
  rcases g2 with g2|⟨g,cap,cur,k1,k2,k3,k4⟩
  ·exact .inl g2
  ·exact .inr ⟨g,cap,cur,k1,k2,(hb tx g (by rw[k1];rfl)).trans k3,k4⟩
 |uI ep es=>
  simp only[hx]at h|-
  rw[eT]
  exact D.aU rY (.sl es) _ h
 |map kt vt l=>
  simp only[hx]at h|-
  obtain⟨b,es,clock,h1,h2,h4,h3⟩:=h
  exact⟨b,es,clock,eT.trans h1,(hb tx b yj).trans h2,h4,aJ.mono rY l _ h3⟩
 |cc l=>
  simp only[hx]at h|-
  rw[eT]
  exact kY.mono rY h
 |rW l last=>
  simp only[hx]at h|-
  obtain⟨b,h1,h2⟩:=h
  exact⟨b,eT.trans h1,h2.mono rY (hb tx b yj)⟩
 |z7 s pos=>
  simp only[hx]at h|-
  obtain⟨b,h1,h2⟩:=h
  exact⟨b,eT.trans h1,(hb tx b yj).trans h2⟩
 |loop nf n env ps jS fq st I5=>
  simp only[hx]at h|-
  obtain⟨b,r,h1,h2,h0,h3,h4,h5,h6,h7,h8,h9⟩:=h
  exact⟨b,r,eT.trans h1,(hb tx b yj).trans h2,h0,h3,h4,h5,h6,h7,h8,fun i=>V.lI rY hrl _ _ (h9 i)⟩
theorem aS.mono (ht:Trans φ H w aH H' w'){id:Nat}(ho:H'.o id=H.o id)(eT:aH id=φ id)
 (hb:(H.o id).live=true->∀b,eB (φ id)=some b->w'.heap[b]? =w.heap[b]?) (h:aS M φ H w id):aS M aH H' w' id:=aS.Cc ht.blocks ht.rel ho eT hb h
theorem aA.of (hH:aA M φ H w)(ht:Trans φ H w aH H' w')(T:Nat->Prop)(hT:∀id,T id->aS M aH H' w' id)
 (hn:∀id, ¬T id->H'.o id=H.o id/\aH id=φ id/\((H.o id).live=true->∀b,eB (φ id)=some b->w'.heap[b]? =w.heap[b]?))
 (jW:∀id, ¬H'.us id->H'.o id= .no)
 (hap:∀i j b,(H'.o i).live=true->(H'.o j).live=true->eB (aH i)=some b->eB (aH j)=some b->i=j)
 (abN:∀b,cI aH H' b->b<w'.heap.size):aA M aH H' w' where
 ok id:=by
  by_cases hc:T id
  ·exact hT id hc
  ·obtain⟨h1,h2,h3⟩:=hn id hc
   exact(hH.ok id).mono ht h1 h2 h3
 fresh:=jW
 apart:=hap
 ours b hb:=by
  refine⟨fun hM=> ?_,abN b hb⟩
  rcases ht.grow b hb with h1|h1
  ·exact(hH.ours b h1).1 hM
  ·have:=hH.BD b hM;omega
 BD b hM:=Nat.lt_of_lt_of_le (hH.BD b hM) ht.cL.size
theorem dO(hk:eC (fun _=>False) w w'){fr:Nat}(c7: ¬H.us fr)(obj:ad)(val:Value)(fS:∀b,eB val=some b->w.heap.size<=b):
 Trans φ H w (ay φ fr val) (H.put [(fr,obj)]) w' where
 cL:=⟨hk.os,hk.tape,hk.output,hk.size,fun k h _=>hk.block k h (fun h=>h)⟩
 grow b:=by
  rintro⟨id,h1,h2⟩
  by_cases aw:id=fr
  ·subst aw;simp at h2;exact .inr (fS b h2)
  ·simp[aw]at h1 h2;exact .inl ⟨id,h1,h2⟩
 rel:={
  us:=fun id h=>by simp[h]
  row:=fun id hu hr=>by
   have aw:id≠fr:=fun h=>c7 (h ▸ hu)
   simp[aw]at hr|-;exact hr
  ep:=fun id e' hu he=>by
   have aw:id≠fr:=fun h=>c7 (h ▸ hu)
   simp[aw]at he|-;exact⟨e',he,Nat.le_refl _⟩}
theorem iT(hH:aA M φ H w)(hk:eC (fun _=>False) w w'){fr:Nat}(c7: ¬H.us fr)(obj:ad)(val:Value)(fS:∀b,eB val=some b->w.heap.size<=b/\b<w'.heap.size)
 (vE:aS M (ay φ fr val) (H.put [(fr,obj)]) w' fr):aA M (ay φ fr val) (H.put [(fr,obj)]) w':=by
 have ht:Trans φ H w (ay φ fr val) (H.put [(fr,obj)]) w':=dO hk c7 obj val fun b hb=>(fS b hb).1
 refine hH.of ht (· =fr) (fun id h=>h ▸ vE) (fun id h=> ?_) (fun id h=> ?_) (fun i j b hi hj bi bj=> ?_) (fun b=> ?_)
 ·refine⟨by simp[h],by simp[h],fun hl b hb=>hk.block b ?_ (fun h=>h)⟩
  exact(hH.ours b ⟨id,hl,hb⟩).2
 ·rw[eh]at h
  have h1:id≠fr:=fun e=>h (.inr e)
  simp only[bM,aN,h1,if_false]
  exact hH.fresh id fun hu=>h (.inl hu)
 ·by_cases e1:i=fr<;>by_cases e2:j=fr
  ·exact e1.trans e2.symm
  ·simp[e1,e2]at hi hj bi bj
   have:=(hH.ours b ⟨j,hj,bj⟩).2;have:=(fS b bi).1;omega
  ·simp[e1,e2]at hi hj bi bj
   have:=(hH.ours b ⟨i,hi,bi⟩).2;have:=(fS b bj).1;omega
  ·simp[e1,e2]at hi hj bi bj
   exact hH.apart i j b hi hj bi bj
 ·rintro⟨id,h1,h2⟩
  by_cases aw:id=fr
  ·subst aw;simp at h2;exact(fS b h2).2
  ·simp[aw]at h1 h2
   exact Nat.lt_of_lt_of_le (hH.ours b ⟨id,h1,h2⟩).2 hk.size
theorem cy(w:World)(o:Obj):eC (fun _=>False) w (w.alloc o):=
 ⟨rfl,rfl,rfl,aE,fun k hk _=>RowKit.Below.heap_alloc w o k hk⟩
theorem me{w w':World}(h:w.grownBy w' none):eC (fun _=>False) w w':=
 ⟨h.os,h.tape,h.output,h.size,fun k hk _=>h.block k hk aE⟩
theorem PK(hH:aA M φ H w){fr:Nat}(c7: ¬H.us fr)(cs:List V)(ed:Array Value)(ty:TypeId)(hd:V.aF (ao M φ H) φ H w cs ed.toList)(hf:Flat ed.toList):
 let aH:=ay φ fr (.pointer (some ⟨w.heap.size,0,none⟩));let H':=H.put [(fr, .row cs)];let w':=w.alloc (.cells ed ty)
 aA M aH H' w'/\Trans φ H w aH H' w'/\V.den (ao M aH H') aH H' w' (.ptr fr 0) (.pointer (some ⟨w.heap.size,0,none⟩)):=by
 intro aH H' w'
 have hv:∀b,eB (.pointer (some ⟨w.heap.size,0,none⟩))=some b->w.heap.size<=b/\b<w'.heap.size:=by
  intro b hb;simp[eB]at hb;subst hb;simp[w']
 have ht:Trans φ H w aH H' w':=dO (cy w _) c7 _ _ fun b hb=>(hv b hb).1
 refine⟨iT hH (cy w _) c7 _ _ hv ?_,ht,rfl,by simp[H'],fun _=>⟨w.heap.size,by simp[aH],rfl⟩⟩
 unfold aS
 simp only[bM,aN,if_true]
 exact⟨w.heap.size,ed,ty,rfl,heap_alloc_new w _,V.aV ht cs _ hd,hf⟩
theorem eZ{id:Nat}(ec:H.us id){b:Nat}(cX:(H.o id).live=true)(hb:eB (φ id)=some b)(hk:eC (· =b) w w')(obj:ad)(c8:obj.cA=(H.o id).cA)(vF:obj.cz=(H.o id).cz):
 Trans φ H w φ (H.put [(id,obj)]) w' where
 cL:=⟨hk.os,hk.tape,hk.output,hk.size,fun k h hl=>hk.block k h (fun e=>hl ⟨id,cX,e ▸ hb⟩)⟩
 grow b':=by
  rintro⟨j,h1,h2⟩
  by_cases hj:j=id
  ·subst hj;exact .inl ⟨j,cX,h2⟩
  ·simp[hj]at h1;exact .inl ⟨j,h1,h2⟩
 rel:={
  us:=fun j h=>by simp[h]
  row:=fun j hu hr=>by
   by_cases hj:j=id
   ·subst hj;simp at hr;exact⟨c8 ▸ hr,rfl⟩
   ·exact LC
  ep:=fun j e' hu he=>by
   by_cases hj:j=id
   ·subst hj;simp at he;exact⟨e',vF ▸ he,Nat.le_refl _,fun _=>rfl⟩
   ·simp[hj]at he;exact⟨e',he,Nat.le_refl _,fun _=>rfl⟩}
theorem iD(hH:aA M φ H w){id:Nat}(ec:H.us id){b:Nat}(cX:(H.o id).live=true)(hb:eB (φ id)=some b)(hk:eC (· =b) w w')(obj:ad)(c8:obj.cA=(H.o id).cA)
 (vF:obj.cz=(H.o id).cz) (vE:aS M φ (H.put [(id,obj)]) w' id):aA M φ (H.put [(id,obj)]) w':=by
 refine hH.of (eZ ec cX hb hk obj c8 vF) (· =id) (fun j h=>h ▸ vE) (fun j h=> ?_) (fun j h=> ?_) (fun i j b' hi hj bi bj=> ?_) (fun b'=> ?_)
 ·refine⟨by simp[h],rfl,fun hl b' EL=>hk.block b' (hH.ours b' ⟨j,hl,EL⟩).2 fun e=>h ?_⟩
  exact hH.apart j id b hl cX (e ▸ EL) hb
 ·rw[eh]at h
  have h1:j≠id:=fun e=>h (.inr e)
  exact V3
 ·refine hH.apart i j b' ?_ ?_ bi bj
  ·by_cases e:i=id
   ·subst e;exact cX
   ·simpa[e]using hi
  ·by_cases e:j=id
   ·subst e;exact cX
   ·simpa[e]using hj
 ·rintro⟨j,h1,h2⟩
  refine Nat.lt_of_lt_of_le (hH.ours b' ⟨j, ?_,h2⟩).2 hk.size
  by_cases e:j=id
  ·subst e;exact cX
  ·simpa[e]using h1
theorem kI(w:World)(b:Nat)(cs:Array Value):eC (· =b) w (w.setRow b cs):=
 ⟨rfl,rfl,rfl,aE,fun k _ hk=>by
  unfold World.setRow
  simp only[Array.getElem?_modify]
  rw[if_neg (fun e=>hk e.symm)]⟩
theorem Cd(hH:aA M φ H w){id b:Nat}(ec:H.us id){cs cs':List V}(ho:H.o id= .row cs)(eT:φ id= .pointer (some ⟨b,0,none⟩)){ed:Array Value}{ty:TypeId}
 (hb:w.heap[b]? =some (.cells ed ty (0,0))) (qB:Array Value) (hd:V.aF (ao M φ H) φ H w cs' qB.toList) (hf:Flat qB.toList):
 aA M φ (H.put [(id, .row cs')]) (w.setRow b qB)/\Trans φ H w φ (H.put [(id, .row cs')]) (w.setRow b qB):=by
 have hl:(H.o id).live=true:=by rw[ho];rfl
 have rY:eB (φ id)=some b:=by rw[eT];rfl
 have ht:Trans φ H w φ (H.put [(id, .row cs')]) (w.setRow b qB):=eZ ec hl rY (kI w b qB) _ eI eI
 refine⟨iD hH ec hl rY (kI w b qB) _ eI eI ?_,ht⟩
 unfold aS
 simp only[bM,aN,if_true]
 exact⟨b,qB,ty,eT,setRow_heap w b ed qB ty (0,0) hb,V.aV ht cs' _ hd,hf⟩
theorem qC{B:Nat->Prop}{sz g:Nat}(cur:Array Value)(ty:TypeId)(fz:Nat×Nat)(hg:w.heap[g]? =some (.cells cur ty fz))(hB: ¬B g):
 ∀ (es:List D) (evs:List Value) (i:Nat),D.aF B w es evs->(∀ev∈evs,ev.cells.size=sz)->(∀j u,(evs.flatMap (·.cells.toList))[j]? =some u->cur[i*sz+j]? =some u)->D.elems B w sz ⟨g,0,none⟩ i es
 |[],_,_,_,_,_=>trivial
 |e::es,_,i,h,hs,hc=>by
  obtain⟨ev,evs,rfl,h1,h2⟩:=h
  have eA:ev.cells.size=sz:=hs ev aE
  refine⟨⟨ev,eA,fun j u hj=> ?_,h1⟩,qC cur ty fz hg hB es evs (i+1) h2 (fun x hx=>hs x kE) fun j u hj=> ?_⟩
  ·have cq:j<ev.cells.size:=(Array.getElem?_eq_some_iff.1 hj).1
   have:cur[i*sz+j]? =some u:=hc j u (by
    rw[List.flatMap_cons,List.getElem?_append_left (by simpa using cq)];simpa using hj)
   refine⟨?_,by simpa using hB⟩
   unfold Addr.add World.cell?
   by_cases e1:i*sz=0<;>by_cases e2:j=0<;>simp_all
  ·have:=hc (sz+j) u (by
    rw[List.flatMap_cons,List.getElem?_append_right (by simp[eA])]
    simpa[eA]using hj)
   rw[show(i+1)*sz+j=i*sz+(sz+j) by rw[Nat.add_mul];omega]
   exact this
theorem PL(hH:aA M φ H w){id ep sz:Nat}{ty:TypeId}{es:List D}(ec:H.us id)(ho:H.o id= .arr ep ty sz es):
 aA M φ (H.put [(id, .uI ep es)]) w/\Trans φ H w φ (H.put [(id, .uI ep es)]) w:=by
 have mP:∀b,cI φ (H.put [(id, .uI ep es)]) b->cI φ H b:=by
  rintro b ⟨j,h1,h2⟩
  by_cases hj:j=id
  ·subst hj;simp[ad.live]at h1
  ·simp[hj]at h1;exact⟨j,h1,h2⟩
 have ht:Trans φ H w φ (H.put [(id, .uI ep es)]) w:={
  cL:=eC.refl _ _
  grow:=fun b hb=> .inl (mP b hb)
  rel:={
   us:=fun j h=>by simp[h]
   row:=fun j hu hr=>by
    by_cases hj:j=id
    ·subst hj;simp[ad.cA]at hr
    ·exact LC
   ep:=fun j e' hu he=>by
    by_cases hj:j=id
    ·subst hj;simp[ad.cz]at he;subst he;exact⟨ep,by rw[ho];rfl,Nat.le_refl _,fun _=>rfl⟩
    ·simp[hj]at he;exact⟨e',he,Nat.le_refl _,fun _=>rfl⟩}}
 refine⟨hH.of ht (· =id) (fun j h=> ?_) (fun j h=>⟨by simp[h],rfl,fun _ _ _=>rfl⟩) (fun j h=> ?_) (fun i j b hi hj bi bj=> ?_) (fun b hb=>(hH.ours b (mP b hb)).2),ht⟩
 ·subst h
  have aY:=hH.ok j
  unfold aS at aY|-
  simp only[ho,bM,aN,if_true]at aY|-
  obtain⟨h0,xs,⟨hl,c8⟩,evs,rfl,h2,h3⟩:=aY
  have hlen:=D.aC _ _ h3
  rcases c8 with⟨h4,h5⟩|⟨g,cap,cur,h4,_,h5,h6,h7,h8,h9⟩
  ·rw[h4]
   have:es=[]:=by simpa using h5
   subst this
   exact Sc
  ·rw[h4]
   refine⟨some ⟨g,0,none⟩,es.length,cap,rfl,rfl,h6,(fun h=>by cases h),sz,fun a ha=> ?_⟩
   injection ha with ha;subst ha
   refine⟨fun _=>rfl,qC cur ty (0,0) h5 ?_ es evs 0 (D.aV (ht.blocks (M:=M)) es evs h3) h2 fun j' u Kz=> ?_⟩
   ·rintro(hM|⟨i,PM,hi2⟩)
    ·exact(hH.ours g ⟨j,by rw[ho];rfl,by rw[h4];rfl⟩).1 hM
    ·by_cases e:i=j
     ·subst e;simp[ad.live]at PM
     ·simp[e]at PM
      exact e (hH.apart i j g PM eI hi2 (by rw[h4];rfl))
   ·rw[<- h9]at Kz
    simp only[Nat.zero_mul,Nat.zero_add]
    rw[List.getElem?_take]at Kz
    split at Kz
    ·simpa using Kz
    ·cases Kz
 ·rw[eh]at h
  have h1:j≠id:=fun e=>h (.inr e)
  exact V3
 ·by_cases e1:i=id
  ·subst e1;simp[ad.live]at hi
  ·by_cases e2:j=id
   ·subst e2;simp[ad.live]at hj
   ·simp[e1,e2]at hi hj;exact hH.apart i j b hi hj bi bj
theorem Ad(hH:aA M φ H w){id:Nat}{kt vt:TypeId}{l:List (D×D)}(ec:H.us id)(ho:H.o id= .map kt vt l):
 aA M φ (H.put [(id, .cc l)]) w/\Trans φ H w φ (H.put [(id, .cc l)]) w:=by
 have mP:∀b,cI φ (H.put [(id, .cc l)]) b->cI φ H b:=by
  rintro b ⟨j,h1,h2⟩
  by_cases hj:j=id
  ·subst hj;simp[ad.live]at h1
  ·simp[hj]at h1;exact⟨j,h1,h2⟩
 have ht:Trans φ H w φ (H.put [(id, .cc l)]) w:={
  cL:=eC.refl _ _
  grow:=fun b hb=> .inl (mP b hb)
  rel:={
   us:=fun j h=>by simp[h]
   row:=fun j hu hr=>by
    by_cases hj:j=id
    ·subst hj;exact⟨by rw[ho];rfl,rfl⟩
    ·exact LC
   ep:=fun j e' hu he=>by
    by_cases hj:j=id
    ·subst hj;simp[ad.cz]at he
    ·simp[hj]at he;exact⟨e',he,Nat.le_refl _,fun _=>rfl⟩}}
 refine⟨hH.of ht (· =id) (fun j h=> ?_) (fun j h=>⟨by simp[h],rfl,fun _ _ _=>rfl⟩) (fun j h=> ?_) (fun i j b hi hj bi bj=> ?_) (fun b hb=>(hH.ours b (mP b hb)).2),ht⟩
 ·subst h
  have aY:=hH.ok j
  unfold aS at aY|-
  simp only[ho,bM,aN,if_true]at aY|-
  obtain⟨b,es,clock,h1,h2,h3,h4⟩:=aY
  refine⟨b,es,clock,h1,h2, ?_,h3,aJ.mono (ht.blocks (M:=M)) _ _ h4⟩
  rintro(hM|⟨i,PM,hi2⟩)
  ·exact(hH.ours b ⟨j,by rw[ho];rfl,by rw[h1];rfl⟩).1 hM
  ·by_cases e:i=j
   ·subst e;simp[ad.live]at PM
   ·simp[e]at PM
    exact e (hH.apart i j b PM eI hi2 yj)
 ·rw[eh]at h
  have h1:j≠id:=fun e=>h (.inr e)
  exact V3
 ·by_cases e1:i=id
  ·subst e1;simp[ad.live]at hi
  ·by_cases e2:j=id
   ·subst e2;simp[ad.live]at hj
   ·simp[e1,e2]at hi hj;exact hH.apart i j b hi hj bi bj
end
end
section
def cQ(M:Nat->Prop)(φ:Place)(H:Hp)(w:World)(fr:Nat)(r:Result Next)(K:V->List (Nat×ad)->List Nat->Prop):Prop:=
 ∃nx val w' aH v Δ rd,K v Δ rd/\r= .ok nx w'/\(nx= .value val\/nx= .skip/\val=undef)/\aA M aH (H.put Δ) w'/\Trans φ H w aH (H.put Δ) w'/\
  V.den (ao M aH (H.put Δ)) aH (H.put Δ) w' v val/\(∀id∈Δ.map (·.1),H.us id\/id=fr)
section
variable {P:Program}{M:Nat->Prop}{φ:Place}{H:Hp}{w:World}{fr:Nat}{K:V->List (Nat×ad)->List Nat->Prop}
theorem cQ.same (hH:aA M φ H w){r:Result Next}{v:V}{rd:List Nat}(val:Value)(hK:K v [] rd)(hr:r= .ok (.value val) w)(hd:V.den (ao M φ H) φ H w v val):cQ M φ H w fr r K:=
 ⟨_,val,w,φ,v,[],rd,hK,hr, .inl rfl,by rw[oC];exact hH,by rw[oC];exact Trans.refl _ _ _,by rw[oC];exact hd,aE⟩
theorem cQ.mono {r:Result Next}{K':V->List (Nat×ad)->List Nat->Prop}(h:cQ M φ H w fr r K)(hk:∀v Δ rd,K v Δ rd->K' v Δ rd):cQ M φ H w fr r K':=by
 obtain⟨nx,val,w',aH,v,Δ,rd,h1,h2⟩:=h
 exact⟨nx,val,w',aH,v,Δ,rd,hk _ _ _ h1,h2⟩
theorem info_of_underlying{t:TypeId}{d:TypeDesc}(h:P.underlying t=some d):∃i,P.info? t=some i:=by
 unfold Program.underlying at h
 cases hi:P.info? t with
 |none=>simp[hi]at h
 |some i=>exact⟨i,rfl⟩
theorem bW{t:TypeId}{i:TypeInfo}(h:P.info? t=some i):P.cellsOf t=i.size:=by simp[Program.cellsOf,h]
theorem mf{t:TypeId}{i:TypeInfo}(h:P.info? t=some i):P.bytesOf t=i.bytes:=by simp[Program.bytesOf,h]
theorem jX{t:TypeId}{z:List V}(h:cB P t=some z):∃i v,P.info? t=some i/\i.zero=some v/\v.cells.size=i.size/\Flat v.cells.toList/\z=v.cells.toList.map V.dz:=by
 unfold cB at h
 cases hi:P.info? t with
 |none=>simp[hi]at h
 |some i=>
  simp only[hi]at h
  cases hz:i.zero with
  |none=>simp[hz]at h
  |some v=>
   simp only[hz]at h
   split at h
   ·rename_i hc
    injection h with h
    exact⟨i,v,rfl,hz,hc.1,fun u hu=>List.all_eq_true.1 hc.2 u hu,h.symm⟩
   ·cases h
theorem sB{t:TypeId}(h:dg P t=some true)(w:World):(isAgg t).run P w= .ok true w:=by
 unfold dg at h
 unfold isAgg
 cases hd:P.underlying t with
 |none=>simp[hd]at h
 |some d=>cases d<;>simp_all[run_underlying hd]
theorem pJ{t:TypeId}(h:dg P t=some false)(w:World):(isAgg t).run P w= .ok false w:=by
 unfold dg at h
 unfold isAgg
 cases hd:P.underlying t with
 |none=>simp[hd]at h
 |some d=>cases d<;>simp_all[run_underlying hd]
theorem dP{t:TypeId}{i:TypeInfo}(h:P.info? t=some i)(w:World):(sizeOf t).run P w= .ok (P.cellsOf t) w:=by
 simp[sizeOf,typeInfo,h,bW h]
theorem sC{t:TypeId}{b:Bool}(h:dg P t=some b):∃i,P.info? t=some i:=by
 unfold dg at h
 cases hd:P.underlying t with
 |none=>simp[hd]at h
 |some d=>exact info_of_underlying hd
theorem bg{t e:TypeId}(h:bV P t=some e):P.underlying t=some (.slice e):=by
 unfold bV at h
 cases hd:P.underlying t with
 |none=>simp[hd]at h
 |some d=>cases d<;>simp_all
theorem yz{t e:TypeId}{n:Nat}(h:Aa P t=some (n,e)):P.underlying t=some (.array n e):=by
 unfold Aa at h
 cases hd:P.underlying t with
 |none=>simp[hd]at h
 |some d=>cases d<;>simp_all
theorem add_zero(a:Addr):a.add 0=a:=by simp[Addr.add]
theorem add_plain(b o j:Nat):(⟨b,o,none⟩:Addr).add j=⟨b,o+j,none⟩:=by
 unfold Addr.add;split
 ·rename_i h;subst h;rfl
 ·rfl
theorem add_add(a:Addr)(h:a.spot=none)(m n:Nat):(a.add m).add n=a.add (m+n):=by
 obtain⟨b,o,s⟩:=a
 simp only at h;subst h
 simp only[add_plain,Nat.add_assoc]
theorem Ce(a:Addr)(h:a.spot=none)(m:Nat):(a.add m).spot=none:=by
 unfold Addr.add;split<;>first|exact h|rfl
theorem nk(s:S)(a:Act)(eD:∀i,V.den (ao M φ H) φ H w (s.env i) (a.tmps.getD i undef))(x:Operand):V.den (ao M φ H) φ H w (s.ev x) (a.eval x):=by
 cases x with
 |tmp t=>exact eD t
 |func f=>exact⟨#[],#[],rfl,rfl,rfl⟩
 |global g=>trivial
 |const v=>
  cases v with
  |agg c=>
   simp only[S.ev,V.ofConst,Act.eval]
   split
   ·rename_i hc
    have hf:Flat c.toList:=fun u hu=>List.all_eq_true.1 hc u hu
    exact lK _ _ (dN _ hf) hf
   ·trivial
  |tuple _=>trivial
  |_=>simp only[S.ev,V.ofConst,Act.eval];exact mc _ (by rfl)
theorem kJ(s:S)(a:Act)(eD:∀i,V.den (ao M φ H) φ H w (s.env i) (a.tmps.getD i undef)):∀ (xs:List Operand),V.aF (ao M φ H) φ H w (xs.map s.ev) (xs.map a.eval)
 |[]=>rfl
 |x::xs=>⟨a.eval x,xs.map a.eval,rfl,nk s a eD x,kJ s a eD xs⟩
theorem nm{t:TypeId}(a:Addr)(us:List Value)(hc:∀j u,us[j]? =some u->w.cell? (a.add j)=some u):
 (dg P t=some true->us.length=P.cellsOf t->(Instr.loadAt t (.pointer (some a))).run P w= .ok (.agg us.toArray) w)/\
 (dg P t=some false->∀u,us[0]? =some u->(Instr.loadAt t (.pointer (some a))).run P w= .ok u w):=by
 constructor
 ·intro h hl
  obtain⟨i,hi⟩:=sC h
  have h1:=run_loadCells_list (P:=P) w a us hc
  rw[hl]at h1
  simp[Instr.loadAt,Instr.sureAddr,loadVar,sB h,dP hi,h1]
 ·intro h u hu
  have h1:=hc 0 u hu
  rw[add_zero]at h1
  simp[Instr.loadAt,Instr.sureAddr,loadVar,pJ h,h1]
theorem qD{t:TypeId}{cs:List V}{off:Nat}{v:V}(hg:eX P t cs off=some v)(a:Addr)(vs:List Value)(hd:V.aF (ao M φ H) φ H w cs vs)(hf:Flat vs)
 (hc:∀j u,vs[j]? =some u->w.cell? (a.add j)=some u) (ha:a.spot=none):∃val,(Instr.loadAt t (.pointer (some (a.add off)))).run P w= .ok val w/\V.den (ao M φ H) φ H w v val:=by
 have hlen:=V.aC _ _ hd
 unfold eX at hg
 cases EM:dg P t with
 |none=>simp[EM]at hg
 |some b=>
  cases b with
  |true=>
   simp only[EM]at hg
   split at hg
   ·rename_i hle
    injection hg with hg;subst hg
    refine⟨.agg ((vs.drop off).take (P.cellsOf t)).toArray,(nm (P:=P) (t:=t) (a.add off) ((vs.drop off).take (P.cellsOf t)) ?_).1 EM gL, ?_⟩
    ·intro j u hj
     rw[add_add a ha]
     rw[List.getElem?_take]at hj
     split at hj
     ·exact hc _ _ m8
     ·cases hj
    ·refine lK _ _ ?_ ?_
     ·exact V.cW _ _ _ (V.eF _ _ _ hd)
     ·intro u hu
      exact hf u (List.mem_of_mem_drop (List.mem_of_mem_take (by simpa using hu)))
   ·cases hg
  |false=>
   simp only[EM]at hg
   obtain⟨u,hu,PN⟩:=V.dy _ _ _ _ hd hg
   refine⟨u,(nm (P:=P) (t:=t) (a.add off) (vs.drop off) ?_).2 EM u (by simpa using hu),PN⟩
   intro j x hj
   rw[add_add a ha]
   exact hc _ _ m8
theorem np(sz:Nat):∀ (evs:List Value) (i j:Nat) (ev:Value) (u:Value),(∀x∈evs,x.cells.size=sz)->evs[i]? =some ev->ev.cells[j]? =some u->
 (evs.flatMap (·.cells.toList))[i*sz+j]? =some u
 |[],_,_,_,_,_,h,_=>by simp at h
 |e::evs,0,j,ev,u,hs,h,hu=>by
  simp at h;subst h
  have:j<e.cells.size:=(Array.getElem?_eq_some_iff.1 hu).1
  rw[List.flatMap_cons,List.getElem?_append_left (by simp;omega)]
  simpa using hu
 |e::evs,i+1,j,ev,u,hs,h,hu=>by
  have ih:=np sz evs i j ev u (fun x hx=>hs x kE) (by simpa using h) hu
  rw[List.flatMap_cons,List.getElem?_append_right (by simp[hs e (by simp),Nat.add_mul];omega)]
  simp only[Array.length_toList,hs e (by simp)]
  rw[show(i+1)*sz+j - sz=i*sz+j by rw[Nat.add_mul];omega]
  exact ih
theorem qE{g:Nat}{ed:Array Value}{ty:TypeId}{fz:Nat×Nat}(h:w.heap[g]? =some (.cells ed ty fz))(j:Nat)(u:Value)(hu:ed[j]? =some u):w.cell? ((⟨g,0,none⟩:Addr).add j)=some u:=by
 rw[add_plain,Nat.zero_add,cell_of_row w g j ed ty fz h];exact hu
theorem LQ{B:Nat->Prop}{ty:TypeId}{sz:Nat}{es:List D}{v:Value}{b n c i:Nat}{e:D}
 (aY:0<sz/\∃xs,w.ownsRow 0 ty sz v es.length xs/\eK B w sz es xs) (hv:v= .slice (some ⟨b,0,none⟩) n c) (he:es[i]? =some e):
 ∃ev:Value,ev.cells.size=sz/\D.aF B w e.cells ev.cells.toList/\Flat ev.cells.toList/\(∀j u,ev.cells.toList[j]? =some u->w.cell? ((⟨b,i*sz,none⟩:Addr).add j)=some u):=by
 obtain⟨h0,xs,⟨hl,c8⟩,evs,rfl,h2,h3⟩:=aY
 obtain⟨ev,dv,hd⟩:=D.dy _ _ _ _ h3 he
 have V7:=D.ft _ _ hd
 refine⟨ev,h2 ev (List.mem_of_getElem? dv),V7.1,V7.2,fun j u hj=> ?_⟩
 subst hv
 rcases c8 with⟨h4,_⟩|⟨g,cap,cur,h4,_,h5,h6,h7,h8,h9⟩
 ·simp at h4
 ·simp at h4;obtain⟨rfl,_,rfl⟩:=h4
  have:=np sz evs i j ev u h2 dv m8
  rw[<- h9,List.getElem?_take]at this
  split at this
  ·have Ti:=qE h5 (i*sz+j) u (by simpa using this)
   rw[add_plain]at Ti|-
   simpa using Ti
  ·cases this
theorem LR(hH:aA M φ H w){t:TypeId}{x:V}{xv:Value}(hx:V.den (ao M φ H) φ H w x xv)
 (h:B7 P H.o t x fun v rd=>K v [] rd):cQ M φ H w fr ((do let y <- Instr.loadAt t xv;pure (Next.value y):Sem Next).run P w) K:=by
 have fin:∀ (v:V) rd,K v [] rd->(∃val,(Instr.loadAt t xv).run P w= .ok val w/\V.den (ao M φ H) φ H w v val)->cQ M φ H w fr ((do let y <- Instr.loadAt t xv;pure (Next.value y):Sem Next).run P w) K:=by
  rintro v rd hK ⟨val,h1,h2⟩
  exact cQ.same hH val hK (by simp[h1]) h2
 unfold B7 at h
 split at h
 ·rename_i id off
  split at h
  ·rename_i cs ho
   obtain⟨v,h1,hK⟩:=h
   obtain⟨_,hu,hp⟩:=hx
   obtain⟨b,eT,rfl⟩:=hp eI
   have aY:=hH.ok id
   simp only[aS,ho]at aY
   obtain⟨b',ed,ty,g1,g2,g3,g4⟩:=aY
   rw[eT]at g1;simp at g1;subst g1
   refine fin v _ hK ?_
   have:=qD (P:=P) h1 ⟨b,0,none⟩ ed.toList g3 g4 (fun j u hj=>qE g2 j u m8) rfl
   rwa [add_plain,Nat.zero_add]at this
  ·exact h.elim
 ·rename_i cs off
  obtain⟨v,h1,hK⟩:=h
  obtain⟨a,ev,ha,rfl,hd,hf,hc⟩:=hx
  exact fin v _ hK (qD h1 a ev ((V.cM _ _).2 hd) hf (fun j u hj=>(hc j u m8).1) ha)
 ·rename_i id ep i sz off
  split at h
  ·rename_i fT ty rX es ho
   obtain⟨rfl,rfl,e,he,v,h1,hK⟩:=h
   obtain⟨_,hu,hp⟩:=hx
   obtain⟨b,n,c,eT,rfl⟩:=(hp ep eI).2 rfl
   have aY:=hH.ok id
   simp only[aS,ho]at aY
   obtain⟨ev,g1,g2,g3,g4⟩:=LQ aY eT he
   refine fin v _ hK ?_
   have:=qD (P:=P) h1 ⟨b,i*sz,none⟩ ev.cells.toList ((V.cM _ _).2 g2) g3 g4 rfl
   rwa [add_plain]at this
  ·exact h.elim
 ·exact h.elim
end
end
section
section
variable {P:Program}{M:Nat->Prop}{φ:Place}{H:Hp}{w:World}{fr:Nat}{K:V->List (Nat×ad)->List Nat->Prop}
theorem cQ.plain (hH:aA M φ H w){s:Sem Value}{v:V}{rd:List Nat}(val:Value)(hK:K v [] rd)(hr:s.run P w= .ok val w)(hd:V.den (ao M φ H) φ H w v val):
 cQ M φ H w fr ((do let y <- s;pure (Next.value y):Sem Next).run P w) K:=cQ.same hH val hK (by simp[hr]) hd
theorem Cf{t:TypeId}{f q:Nat}(h:b8 P t f=some q):∃fs fd,P.underlying t=some (.struct fs)/\fs[f]? =some fd/\P.cellsOf fd.type≠0/\fd.offset=q:=by
 unfold b8 at h
 cases hd:P.underlying t with
 |none=>simp[hd]at h
 |some d=>
  cases d<;>simp only[hd]at h<;>try (cases h;done)
  rename_i fs
  cases hf:fs[f]? with
  |none=>simp[hf]at h
  |some fd=>
   simp only[hf]at h
   split at h
   ·cases h
   ·injection h with h
    exact⟨fs,fd,rfl,hf,by assumption,h⟩
theorem Cg{t:TypeId}{f q:Nat}(h:b8 P t f=some q)(a:Addr):(Instr.fieldAt t (.pointer (some a)) f).run P w= .ok (.pointer (some (a.add q))) w:=by
 obtain⟨fs,fd,h1,h2,h3,rfl⟩:=Cf h
 have:∃i,P.info? fd.type=some i:=by
  cases hi:P.info? fd.type with
  |none=>simp[Program.cellsOf,hi]at h3
  |some i=>exact⟨i,rfl⟩
 obtain⟨i,hi⟩:=this
 simp[Instr.fieldAt,run_underlying h1,h2,Instr.sureAddr,fieldPlace,dP hi,h3]
def V.step (x:V)(q:Nat):Option V:=
 match x with
 | .ptr id off=>some (.ptr id (off+q))
 | .pp cs off=>some (.pp cs (off+q))
 | .pe id ep j sz off=>some (.pe id ep j sz (off+q))
 |_=>none
def V.place (o:Nat->ad):V->Prop
 | .ptr id _=>(o id).cA=true
 | .pe id ep _ _ _=>(o id).cz=some ep
 |_=>True
theorem Ch{x y:V}{q:Nat}(h:x.step q=some y){xv:Value}(hx:V.den (ao M φ H) φ H w x xv)
 (hr:x.place H.o):
 ∃a,xv= .pointer (some a)/\V.den (ao M φ H) φ H w y (.pointer (some (a.add q))):=by
 cases x with
 |ptr id off=>
  simp only[V.step,Option.some.injEq]at h;subst h
  obtain⟨h1,h2,h3⟩:=hx
  obtain⟨b,h4,rfl⟩:=h3 hr
  exact⟨_,rfl,rfl,h2,fun _=>⟨b,h4,by rw[add_plain]⟩⟩
 |pp cs off=>
  simp only[V.step,Option.some.injEq]at h;subst h
  obtain⟨a,ev,ha,rfl,hd⟩:=hx
  exact⟨_,rfl,a,ev,ha,by rw[add_add a ha],hd⟩
 |pe id ep j sz off=>
  simp only[V.step,Option.some.injEq]at h;subst h
  obtain⟨h1,h2,h3⟩:=hx
  obtain⟨b,n,c,h4,rfl⟩:=(h3 ep hr).2 rfl
  refine⟨_,rfl,rfl,h2,fun e he=>⟨(h3 e he).1,fun heq=>⟨b,n,c,h4,by rw[add_plain,Nat.add_assoc]⟩⟩⟩
 |_=>simp[V.step]at h
theorem xJ(hH:aA M φ H w){t:TypeId}{f:Nat}{x:V}{xv:Value}(hx:V.den (ao M φ H) φ H w x xv)(h:jU P H.o t x f fun v=>K v [] []):
 cQ M φ H w fr ((do let y <- Instr.fieldAt t xv f;pure (Next.value y):Sem Next).run P w) K:=by
 have fin:∀ (y:V) q,b8 P t f=some q->x.step q=some y->x.place H.o->K y [] []->
  cQ M φ H w fr ((do let y <- Instr.fieldAt t xv f;pure (Next.value y):Sem Next).run P w) K:=by
  intro y q hq hs hr hK
  obtain⟨a,rfl,hd⟩:=Ch hs hx hr
  exact cQ.plain hH _ hK (Cg hq a) hd
 unfold jU at h
 split at h
 ·rename_i q hq
  split at h
  ·exact fin _ q hq rfl h.1 h.2
  ·exact fin _ q hq rfl trivial h
  ·exact fin _ q hq rfl h.1 h.2
  ·exact h.elim
 ·exact h.elim
theorem EN{B:Nat->Prop}{es:List D}{xv:Value}(hx:D.den B w (.sl es) xv){i:Nat}{y:D}(hy:es[i]? =some y):
 ∃a len cap ev,xv= .slice (some a) len cap/\i<len/\a.spot=none/\D.aF B w y.cells ev/\Flat ev/\gR B w (a.add (i*y.cells.length)) ev.toArray/\len=es.length:=by
 obtain⟨base,len,cap,rfl,rfl,h2,h3,sz,h4⟩:=hx
 have cq:i<es.length:=(List.getElem?_eq_some_iff.1 hy).1
 cases base with
 |none=>have:=h3 rfl;omega
 |some a=>
  obtain⟨h5,h6⟩:=h4 a rfl
  obtain⟨ev,h7,h8,h9⟩:=D.yr es 0 i y h6 hy
  have Ti:=D.ft _ _ h9
  have h11:y.cells.length=sz:=by rw[<- h7, <- D.aC _ _ Ti.1];simp
  refine⟨a,es.length,cap,ev.cells.toList,rfl,cq,h5 af,Ti.1,Ti.2, ?_,rfl⟩
  rw[h11]
  simpa using h8
theorem pt{t e:TypeId}(ht:bV P t=some e)(a:Addr)(len cap:Nat)(k:IntKind)(i:Int)(h0:0<=i)(h1:i.toNat<len)(hc:0<P.cellsOf e):
 (Instr.indexAt t (.slice (some a) len cap) (.int k i)).run P w= .ok (.pointer (some (a.add (i.toNat*P.cellsOf e)))) w:=by
 have hu:=bg ht
 have:∃ie,P.info? e=some ie:=by
  cases hi:P.info? e with
  |none=>simp[Program.cellsOf,hi]at hc
  |some i=>exact⟨i,rfl⟩
 obtain⟨ie,hi⟩:=this
 have h2:0<=i/\i<(len:Int):=⟨h0,af⟩
 simp[Instr.indexAt,run_underlying hu,asIntOf,h2,dP hi]
theorem xK{t e:TypeId}{n:Nat}(ht:Aa P t=some (n,e))(a:Addr)(k:IntKind)(i:Int)(h0:0<=i)(h1:i<n)(hi:∃ie,P.info? e=some ie):
 (Instr.indexAt t (.pointer (some a)) (.int k i)).run P w= .ok (.pointer (some (a.add (i.toNat*P.cellsOf e)))) w:=by
 have hu:=yz ht
 obtain⟨ie,hi⟩:=hi
 have h2:0<=i/\i<(n:Int):=⟨h0,h1⟩
 simp[Instr.indexAt,run_underlying hu,asIntOf,Instr.sureAddr,h2,dP hi]
theorem xL(hH:aA M φ H w){t:TypeId}{x ix:V}{xv iv:Value}(hx:V.den (ao M φ H) φ H w x xv)(hi:V.den (ao M φ H) φ H w ix iv)
 (h:jT P H.o t x ix fun v rd=>K v [] rd):cQ M φ H w fr ((do let y <- Instr.indexAt t xv iv;pure (Next.value y):Sem Next).run P w) K:=by
 unfold jT at h
 split at h
 ·rename_i k i
  simp only[V.den,D.den]at hi;subst hi
  have Ae:∀ {e:TypeId} {es:List D} {rd},bV P t=some e->D.den (ao M φ H) w (.sl es) xv->(0<=i/\∃y,es[i.toNat]? =some y/\y.cells.length=P.cellsOf e/\0<P.cellsOf e/\K (.pp y.cells 0) [] rd)->
   cQ M φ H w fr ((do let y <- Instr.indexAt t xv (.int k i);pure (Next.value y):Sem Next).run P w) K:=by
   rintro e es rd ht hd ⟨h0,y,hy,hc,fI,hK⟩
   obtain⟨a,len,cap,ev,rfl,h1,h2,h3,h4,h5,_⟩:=EN hd hy
   refine cQ.plain hH _ hK (pt ht a len cap k i h0 h1 fI) ⟨a.add (i.toNat*P.cellsOf e),ev,Ce a h2 _,by rw[add_zero],h3,h4, ?_⟩
   rw[<- hc];exact h5
  split at h
  ·rename_i e ht
   split at h
   ·exact Ae ht hx h
   ·exact Ae ht hx.1 h
   ·rename_i id ep
    split at h
    ·rename_i fT ty sz es ho
     obtain⟨rfl,h0,h1,rfl,fI,hK⟩:=h
     obtain⟨I7,ec,vF⟩:=hx
     have hv:=(vF ep eI).2 rfl
     have aY:=hH.ok id
     simp only[aS,ho]at aY
     obtain⟨h3,xs,⟨_,c8⟩,_⟩:=aY
     rcases c8 with⟨_,h5⟩|⟨g,cap,cur,h4,_⟩
     ·omega
     ·subst hv
      rw[h4]
      refine cQ.plain hH _ hK (pt ht _ _ cap k i h0 h1 fI) ⟨rfl,ec,fun e' ql=>⟨(vF e' ql).1,fun heq=>⟨g,es.length,cap,h4,by rw[add_plain];simp⟩⟩⟩
    ·rename_i fT es ho
     obtain⟨rfl,h⟩:=h
     obtain⟨I7,ec,vF⟩:=hx
     have hv:=(vF ep eI).2 rfl
     have aY:=hH.ok id
     simp only[aS,ho]at aY
     exact Ae ht (hv ▸ aY) h
    ·exact h.elim
   ·exact h.elim
  ·split at h
   ·rename_i n e ht
    obtain⟨h0,h1,afJ,h⟩:=h
    have fin:∀ (y:V),x.step (i.toNat*P.cellsOf e)=some y->x.place H.o->K y [] []->
     cQ M φ H w fr ((do let y <- Instr.indexAt t xv (.int k i);pure (Next.value y):Sem Next).run P w) K:=by
     intro y hs hr hK
     obtain⟨a,rfl,hd⟩:=Ch hs hx hr
     refine cQ.plain hH _ hK (xK ht a k i h0 h1 (Option.isSome_iff_exists.1 afJ)) hd
    split at h
    ·exact fin _ rfl h.1 h.2
    ·exact fin _ rfl trivial h
    ·exact fin _ rfl h.1 h.2
    ·exact h.elim
   ·exact h.elim
 ·exact h.elim
theorem V8(hH:aA M φ H w){op:UnOp}{x:V}{xv:Value}(hx:V.den (ao M φ H) φ H w x xv)(h:unV op x fun v=>K v [] []):
 cQ M φ H w fr ((do let y <- Op.unary op xv;pure (Next.value y):Sem Next).run P w) K:=by
 unfold unV at h
 split at h
 ·simp only[V.den,D.den]at hx;subst hx
  exact cQ.plain hH _ h (by simp[Op.unary,Op.intArith]) rfl
 ·simp only[V.den,D.den]at hx;subst hx
  exact cQ.plain hH _ h (by simp[Op.unary]) rfl
 ·exact h.elim
theorem BZ{op:BinOp}{k:IntKind}{a b r:Int}(h:vw op k a b=some r):(Op.intBits op k a b).run P w= .ok (.int k r) w:=by
 unfold vw at h
 cases op<;>simp at h<;>subst h<;>simp[Op.intBits]
theorem tC{t:TypeId}(hu:P.underlying t=some .bool)(a b:Bool)(d:Nat):(Op.equalIn (d+1) t (.bool a) (.bool b)).run P w= .ok (a==b) w:=by
 simp[Op.equalIn,run_underlying hu]
theorem PO(hH:aA M φ H w){op:BinOp}{t:TypeId}{p q:Operand}{x y:V}{xv yv:Value}(hx:V.den (ao M φ H) φ H w x xv)(hy:V.den (ao M φ H) φ H w y yv)
 (h:LN P op t x y fun v=>K v [] []):
 cQ M φ H w fr ((do let y <- (do eqGuard op t p q xv yv;binOp op t xv yv);pure (Next.value y):Sem Next).run P w) K:=by
 unfold LN at h
 split at h
 ·rename_i k a k' b
  obtain⟨rfl,h⟩:=h
  simp only[V.den,D.den]at hx hy;subst hx;subst hy
  have hg:(eqGuard op t p q (.int k a) (.int k b)).run P w= .ok () w:=by
   exact LA
  have fin:∀ (v:V) (val:Value),K v [] []->(binOp op t (.int k a) (.int k b)).run P w= .ok val w->V.den (ao M φ H) φ H w v val->
   cQ M φ H w fr ((do let y <- (do eqGuard op t p q (.int k a) (.int k b);binOp op t (.int k a) (.int k b));pure (Next.value y):Sem Next).run P w) K:=by
   intro v val hK hr hd
   exact cQ.plain hH val hK (by simp[hg,hr]) hd
  cases op<;>simp only[PG]at h
  case add=>exact fin _ _ h (by simp[binOp,Op.intArith]) rfl
  case sub=>exact fin _ _ h (by simp[binOp,Op.intArith]) rfl
  case mul=>exact fin _ _ h (by simp[binOp,Op.intArith]) rfl
  case quo=>exact fin _ _ h.2 (by simp[binOp,Op.intDiv,h.1]) rfl
  case rem=>exact fin _ _ h.2 (by simp[binOp,Op.intDiv,h.1]) rfl
  case and=>obtain⟨r,hr,hK⟩:=h;exact fin _ _ hK Gz rfl
  case or=>obtain⟨r,hr,hK⟩:=h;exact fin _ _ hK Gz rfl
  case xor=>obtain⟨r,hr,hK⟩:=h;exact fin _ _ hK Gz rfl
  case andNot=>obtain⟨r,hr,hK⟩:=h;exact fin _ _ hK Gz rfl
  all_goals
   obtain⟨r,hr,hK⟩:=h
   simp only[abM,Option.some.injEq]at hr
   subst hr
   exact fin _ _ hK (by simp[binOp,Op.intCmp];rfl) (by simp[V.den,D.den])
 ·rename_i a b
  simp only[V.den,D.den]at hx hy;subst hx;subst hy
  have hg:(eqGuard op t p q (.bool a) (.bool b)).run P w= .ok () w:=by
   exact LA
  split at h
  ·obtain⟨hu,hK⟩:=h
   have h1:(Op.equal t (.bool a) (.bool b)).run P w= .ok (a==b) w:=tC hu a b 9999
   exact cQ.plain hH (.bool (a==b)) hK (by simp[hg,binOp,h1]) rfl
  ·obtain⟨hu,hK⟩:=h
   have h1:(Op.equal t (.bool a) (.bool b)).run P w= .ok (a==b) w:=tC hu a b 9999
   exact cQ.plain hH (.bool (a !=b)) hK (by simp[hg,binOp,h1,bne]) rfl
  ·exact h.elim
 ·rename_i a b
  obtain⟨u,rfl,rfl⟩:=hx
  obtain⟨v,rfl,rfl⟩:=hy
  have hg:(eqGuard op t p q (.string u) (.string v)).run P w= .ok () w:=by
   exact LA
  split at h
  ·exact cQ.plain hH (.bool (u.data.toList==v.data.toList)) h (by simp[hg,binOp,Op.stringOp,ByteArray.toList_eq]) rfl
  ·exact cQ.plain hH (.bool (u.data.toList !=v.data.toList)) h (by simp[hg,binOp,Op.stringOp,ByteArray.toList_eq,bne]) rfl
  ·exact h.elim
 ·rename_i a b
  obtain⟨a',rfl,hx⟩:=hx
  obtain⟨b',rfl,hy⟩:=hy
  split at h
  ·obtain⟨r,hr,hK⟩:=h
   obtain⟨h1,h2⟩:=hr (ao M φ H) w (.agg a') (.agg b') ⟨a',rfl,hx⟩ ⟨b',rfl,hy⟩
   exact cQ.plain hH (.bool r) hK (by simp[h2,binOp,h1]) rfl
  ·obtain⟨r,hr,hK⟩:=h
   obtain⟨h1,h2⟩:=hr (ao M φ H) w (.agg a') (.agg b') ⟨a',rfl,hx⟩ ⟨b',rfl,hy⟩
   exact cQ.plain hH (.bool !r) hK (by simp[h2,binOp,h1]) rfl
  ·exact h.elim
 ·exact h.elim
theorem LS(hH:aA M φ H w){c a b:V}{cv av bv:Value}(hc:V.den (ao M φ H) φ H w c cv)(ha:V.den (ao M φ H) φ H w a av)(hb:V.den (ao M φ H) φ H w b bv)
 (h:B6 c a b fun v=>K v [] []):cQ M φ H w fr ((do pure (.value (if <- asBool cv then av else bv)):Sem Next).run P w) K:=by
 unfold B6 at h
 split at h
 ·rename_i t
  simp only[V.den,D.den]at hc;subst hc
  have hr:((do pure (.value (if <- asBool (.bool t)then av else bv)):Sem Next).run P w)= .ok (.value (if t then av else bv)) w:=by simp[asBool]
  have fin:∀v,K v [] []->V.den (ao M φ H) φ H w v (if t then av else bv)->cQ M φ H w fr ((do pure (.value (if <- asBool (.bool t)then av else bv)):Sem Next).run P w) K:=
   fun v hK hd=>cQ.same hH _ hK hr hd
  cases t
  ·exact fin _ (h.2 rfl) (by simpa using hb)
  ·exact fin _ (h.1 rfl) (by simpa using ha)
 ·exact h.elim
theorem uK{t:TypeId}{e:TypeId}(hu:P.underlying t=some (.slice e))(base:Option Addr)(n c:Nat)(ty:TypeId):(Builtin.len_ #[t] ty #[.slice base n c]).run P w= .ok (goInt n) w:=by
 simp[Builtin.len_,run_underlying hu]
theorem PQ(hH:aA M φ H w){t ty:TypeId}{x:V}{xv:Value}(hx:V.den (ao M φ H) φ H w x xv)(h:LO P t H.o x fun v rd=>K v [] rd):
 cQ M φ H w fr ((do let y <- Builtin.len_ #[t] ty #[xv];pure (Next.value y):Sem Next).run P w) K:=by
 unfold LO at h
 split at h
 ·rename_i e hu
  have fin:∀ {es:List D} {rd},D.den (ao M φ H) w (.sl es) xv->K (.d (.int .i64 es.length)) [] rd->cQ M φ H w fr ((do let y <- Builtin.len_ #[t] ty #[xv];pure (Next.value y):Sem Next).run P w) K:=by
   rintro es rd ⟨base,len,cap,rfl,rfl,_⟩ hK
   exact cQ.plain hH _ hK (uK hu _ _ _ _) rfl
  split at h
  ·exact fin hx h
  ·simp only[V.den]at hx;subst hx
   exact cQ.plain hH _ h (uK hu _ _ _ _) rfl
  ·exact fin hx.1 h
  ·rename_i id ep
   split at h
   ·rename_i fT ty sz es ho
    obtain⟨rfl,hK⟩:=h
    obtain⟨I7,ec,vF⟩:=hx
    have hv:=(vF ep eI).2 rfl
    have aY:=hH.ok id
    simp only[aS,ho]at aY
    obtain⟨h3,xs,⟨_,c8⟩,_⟩:=aY
    subst hv
    rcases c8 with⟨h4,h5⟩|⟨g,cap,cur,h4,_⟩
    ·rw[h4];rw[h5]at hK;exact cQ.plain hH _ hK (uK hu _ _ _ _) rfl
    ·rw[h4];exact cQ.plain hH _ hK (uK hu _ _ _ _) rfl
   ·rename_i fT es ho
    obtain⟨rfl,hK⟩:=h
    obtain⟨I7,ec,vF⟩:=hx
    have hv:=(vF ep eI).2 rfl
    have aY:=hH.ok id
    simp only[aS,ho]at aY
    exact fin (hv ▸ aY) hK
   ·exact h.elim
  ·exact h.elim
 ·rename_i hu
  split at h
  ·obtain⟨u,rfl,rfl⟩:=hx
   exact cQ.plain hH (goInt u.size) h (by simp[Builtin.len_,run_underlying hu]) (by simp[V.den,D.den,goInt])
  ·exact h.elim
 ·rename_i n e hu
  exact cQ.plain hH _ h (by simp[Builtin.len_,run_underlying hu];rfl) rfl
 ·exact h.elim
end
end
end Go.Proofs.YtlhemmpklhhgoaaGreat
