/-
  A PART OF THE PROOF. Conditions: none.
-/
import Derived.Great.BuildSlice
import Derived.Great.FillDense
import Derived.Test.YtlhemmpklhhgoaaGreatQc1
set_option linter.unusedSimpArgs false
set_option linter.unusedVariables false
namespace Go.Proofs.YtlhemmpklhhgoaaGreat
def aM{α:Type}(f:Nat->α)(i:Nat)(x:α):Nat->α:=fun j=>if j=i then x else f j
@[simp] theorem aC {α:Type} (f:Nat->α) (i:Nat) (x:α) (j:Nat):aM f i x j=if j=i then x else f j:=rfl
structure S where
 env:Nat->V
 o:Nat->aa
 nx:Nat
def S.H (s:S):Hp:=⟨s.o,fun id=>id<s.nx⟩
def V.cG:Value->V
 | .int k n=> .d (.int k n)| .bool b=> .d (.bool b)| .string s=> .d (.str s.data.toList)
 | .nilIface=> .d .e9| .pointer none=> .d .j6| .nilFunc=> .d .bK| .map none=> .d .eJ
 | .slice none 0 0=> .a8
 |_=> .ab
def zj:List V->Option (List D)
 |[]=>some []
 | .d x::vs=>(zj vs).map (x::·)
 |_::_=>none
def lV(cs:List V):V:=match zj cs with|some ds=> .d (.agg ds)|none=> .agg cs
def V.ofConst:Value->V
 | .agg a=>if a.toList.all Value.oneCell' then lV (a.toList.map V.cG)else .ab
 |v=>V.cG v
def S.ev (s:S):Operand->V
 | .tmp t=>s.env t
 | .const v=>V.ofConst v
 | .func f=> .func (.func f) [] []
 | .global _=> .ab
def D.cells:D->List D
 | .agg cs=>cs
 |x=>[x]
def V.cells:V->Option (List V)
 | .d x=>some (x.cells.map .d)
 | .agg cs=>some cs
 | .bC _| .ab=>none
 |v=>some [v]
mutual
def du(o:Nat->aa):V->Option D
 | .d x=>some x
 | .a8=>some (.sl [])
 | .oj es=>some (.sl es)
 | .osl id ep=>match o id with
   | .arr fK _ _ es| .qo fK es=>if ep=fK then some (.sl es)else none
   |_=>none
 | .mp id=>match o id with
   | .map _ _ l=>some (.mp (l.map (·.1)) (l.map (·.2)))
   | .cO l=>some (.mp (l.map (·.1)) (l.map (·.2)))
   |_=>none
 | .agg cs=>(bD o cs).map .agg
 | .iface t x=>(du o x).map (.iface t)
 |_=>none
def bD(o:Nat->aa):List V->Option (List D)
 |[]=>some []
 |v::vs=>(du o v).bind fun x=>(bD o vs).map (x::·)
end
mutual
def V.ids:V->List Nat
 | .osl id _=>[id]
 | .mp id=>[id]
 | .agg cs=>V.aV cs
 | .iface _ x=>x.ids
 |_=>[]
def V.aV:List V->List Nat
 |[]=>[]
 |v::vs=>v.ids++V.aV vs
end
def cq(o:Nat->aa)(ids:List Nat):List (Nat×aa):=
 ids.map fun id=>(id,match o id with| .arr ep _ _ es=> .qo ep es| .map _ _ l=> .cO l|o=>o)
def oC(o:Nat->aa)(ids:List Nat):List (Nat×aa):=
 ids.filterMap fun id=>match o id with| .arr ep _ _ es=>some (id, .qo ep es)|_=>none
def put(o:Nat->aa)(Δ:List (Nat×aa)):Nat->aa:=Δ.foldl (fun f x=>aM f x.1 x.2) o
def Hp.put (H:Hp)(Δ:List (Nat×aa)):Hp:={o:=YtlhemmpklhhgoaaGreat.put H.o Δ,us:=fun id=>H.us id\/id∈Δ.map (·.1)}
def cN(P:Program)(t:TypeId):Option (List V):=
 match P.info? t with
 |some i=>match i.zero with
  |some z=>if z.cells.size=i.size/\z.cells.toList.all Value.oneCell'=true then some (z.cells.toList.map V.cG)else none
  |none=>none
 |none=>none
def dc(P:Program)(t:TypeId):Option Bool:=
 match P.underlying t with
 |some (.struct _)|some (.array _ _)=>some true
 |some _=>some false
 |none=>none
def bR(P:Program)(t:TypeId)(f:Nat):Option Nat:=
 match P.underlying t with
 |some (.struct fs)=>match fs[f]? with
  |some fd=>if P.cellsOf fd.type=0 then none else some fd.offset
  |none=>none
 |_=>none
def bJ(P:Program)(t:TypeId):Option TypeId:=
 match P.underlying t with
 |some (.slice e)=>some e
 |_=>none
def wS(P:Program)(t:TypeId):Option (Nat×TypeId):=
 match P.underlying t with
 |some (.array n e)=>some (n,e)
 |_=>none
def eQ(P:Program)(t:TypeId):Option (List (Nat×Nat)):=
 match P.underlying t with
 |some (.struct fs)=>if fs.toList.all (fun f=>(P.info? f.type).isSome)=true then some (fs.toList.map fun f=>(f.offset,P.cellsOf f.type))else none
 |some (.array n e)=>if(P.info? e).isSome=true then some ((List.range n).map fun i=>(i*P.cellsOf e,P.cellsOf e))else none
 |_=>none
def uR(P:Program)(t:TypeId):Option IntKind:=
 match P.underlying t with
 |some (.int k)=>some k
 |_=>none
def dG(P:Program)(t:TypeId)(cs:List V)(off:Nat):Option V:=
 match dc P t with
 |some true=>if off+P.cellsOf t<=cs.length then some (lV ((cs.drop off).take (P.cellsOf t)))else none
 |some false=>cs[off]?
 |none=>none
def uS(P:Program)(t:TypeId)(cs:List V)(off:Nat)(v:V):Option (List V):=
 match v.cells with
 |some us=>if us.length=P.cellsOf t/\(0<us.length\/(P.info? t).isSome=true)/\off+us.length<=cs.length then some (cs.take off++us++cs.drop (off+us.length))else none
 |none=>none
def py(places:List (Nat×Nat))(cs:List V):List (Nat×V)->Option (List V)
 |[]=>some cs
 |(i,v)::rest=>match places[i]?,v.cells with
  |some (off,size),some us=>if us.length=size/\off+us.length<=cs.length then py places (cs.take off++us++cs.drop (off+us.length)) rest else none
  |_,_=>none
def D.put (e:D)(off:Nat)(us:List D):Option D:=
 match e with
 | .agg cs=>if off+us.length<=cs.length then some (.agg (cs.take off++us++cs.drop (off+us.length)))else none
 |_=>match off,us with
  |0,[u]=>some u
  |_,_=>none
def R0(op:BinOp)(a b:Int):Option Bool:=
 match op with
 | .eql=>some (a==b)| .neq=>some (a !=b)| .lss=>some (decide (a<b))| .leq=>some (decide (a<=b))
 | .gtr=>some (decide (a>b))| .geq=>some (decide (a≥b))
 |_=>none
def qN(op:BinOp)(k:IntKind)(x y:Int):Option Int:=
 let a:=BitVec.ofInt k.bits x
 let b:=BitVec.ofInt k.bits y
 match op with
 | .and=>some (k.wrap (a&&&b).toNat)
 | .or=>some (k.wrap (a|||b).toNat)
 | .xor=>some (k.wrap (a ^^^ b).toNat)
 | .andNot=>some (k.wrap (a&&& ~~~b).toNat)
 |_=>none
def Hg(op:BinOp)(k:IntKind)(a b:Int)(K:V->Prop):Prop:=
 match op with
 | .add=>K (.d (.int k (k.wrap (a+b))))
 | .sub=>K (.d (.int k (k.wrap (a - b))))
 | .mul=>K (.d (.int k (k.wrap (a*b))))
 | .quo=>b≠0/\K (.d (.int k (k.wrap (a.tdiv b))))
 | .rem=>b≠0/\K (.d (.int k (a.tmod b)))
 | .and| .or| .xor| .andNot=>∃r,qN op k a b=some r/\K (.d (.int k r))
 | .shl| .shr=>False
 |op=>∃r,R0 op a b=some r/\K (.d (.bool r))
def Es(P:Program)(t:TypeId)(x y:D)(r:Bool):Prop:=
 ∀ (B:Nat->Prop) (w:World) (u v:Value),D.den B w x u->D.den B w y v->(Op.equal t u v).run P w= .ok r w/\∀ (op:BinOp) (a b:Operand),(eqGuard op t a b u v).run P w= .ok () w
def Et(P:Program)(op:BinOp)(t:TypeId)(x y:V)(K:V->Prop):Prop:=
 match x,y with
 | .d (.int k a), .d (.int k' b)=>k=k'/\Hg op k a b K
 | .d (.bool a), .d (.bool b)=>match op with
   | .eql=>P.underlying t=some .bool/\K (.d (.bool (a==b)))
   | .neq=>P.underlying t=some .bool/\K (.d (.bool (a !=b)))
   |_=>False
 | .d (.str a), .d (.str b)=>match op with
   | .eql=>K (.d (.bool (a==b)))
   | .neq=>K (.d (.bool (a !=b)))
   |_=>False
 | .d (.agg a), .d (.agg b)=>match op with
   | .eql=>∃r,Es P t (.agg a) (.agg b) r/\K (.d (.bool r))
   | .neq=>∃r,Es P t (.agg a) (.agg b) r/\K (.d (.bool !r))
   |_=>False
 |_,_=>False
def R1(op:UnOp)(x:V)(K:V->Prop):Prop:=
 match op,x with
 | .neg, .d (.int k n)=>K (.d (.int k (k.wrap (0 - n))))
 | .not, .d (.bool b)=>K (.d (.bool !b))
 |_,_=>False
def wT(c a b:V)(K:V->Prop):Prop:=
 match c with
 | .d (.bool t)=>(t=true->K a)/\(t=false->K b)
 |_=>False
def Eu(P:Program)(t:TypeId)(o:Nat->aa)(x:V)(K:V->List Nat->Prop):Prop:=
 match P.underlying t with
 |some (.slice _)=>match x with
  | .d (.sl es)=>K (.d (.int .i64 es.length)) []
  | .a8=>K (.d (.int .i64 0)) []
  | .oj es=>K (.d (.int .i64 es.length)) []
  | .osl id ep=>match o id with
    | .arr fK _ _ es| .qo fK es=>ep=fK/\K (.d (.int .i64 es.length)) [id]
    |_=>False
  |_=>False
 |some .string=>match x with
  | .d (.str s)=>K (.d (.int .i64 s.length)) []
  |_=>False
 |some (.array n _)=>K (.d (.int .i64 n)) []
 |_=>False
def gP(P:Program)(o:Nat->aa)(t:TypeId)(x ix:V)(K:V->List Nat->Prop):Prop:=
 match ix with
 | .d (.int _ i)=>match bJ P t with
   |some e=>match x with
    | .d (.sl es)=>0<=i/\∃y,es[i.toNat]? =some y/\y.cells.length=P.cellsOf e/\0<P.cellsOf e/\K (.pp y.cells 0) []
    | .oj es=>0<=i/\∃y,es[i.toNat]? =some y/\y.cells.length=P.cellsOf e/\0<P.cellsOf e/\K (.pp y.cells 0) []
    | .osl id ep=>match o id with
      | .arr fK _ sz es=>ep=fK/\0<=i/\i.toNat<es.length/\sz=P.cellsOf e/\0<P.cellsOf e/\K (.pe id ep i.toNat sz 0) [id]
      | .qo fK es=>ep=fK/\0<=i/\∃y,es[i.toNat]? =some y/\y.cells.length=P.cellsOf e/\0<P.cellsOf e/\K (.pp y.cells 0) [id]
      |_=>False
    |_=>False
   |none=>match wS P t with
    |some (n,e)=>0<=i/\i<n/\(P.info? e).isSome=true/\(match x with
     | .ptr id off=>(o id).bI=true/\K (.ptr id (off+i.toNat*P.cellsOf e)) []
     | .pp cs off=>K (.pp cs (off+i.toNat*P.cellsOf e)) []
     | .pe id ep j sz off=>(o id).bL=some ep/\K (.pe id ep j sz (off+i.toNat*P.cellsOf e)) []
     |_=>False)
    |none=>False
 |_=>False
def gQ(P:Program)(o:Nat->aa)(t:TypeId)(x:V)(f:Nat)(K:V->Prop):Prop:=
 match bR P t f with
 |some q=>match x with
  | .ptr id off=>(o id).bI=true/\K (.ptr id (off+q))
  | .pp cs off=>K (.pp cs (off+q))
  | .pe id ep j sz off=>(o id).bL=some ep/\K (.pe id ep j sz (off+q))
  |_=>False
 |none=>False
def wU(P:Program)(o:Nat->aa)(t:TypeId)(x:V)(K:V->List Nat->Prop):Prop:=
 match x with
 | .ptr id off=>match o id with
   | .row cs=>∃v,dG P t cs off=some v/\K v [id]
   |_=>False
 | .pp cs off=>∃v,dG P t (cs.map .d) off=some v/\K v []
 | .pe id ep i sz off=>match o id with
   | .arr fK _ om es=>ep=fK/\sz=om/\∃e,es[i]? =some e/\∃v,dG P t (e.cells.map .d) off=some v/\K v [id]
   |_=>False
 |_=>False
def qO(P:Program)(o:Nat->aa)(t:TypeId)(x v:V)(K:List (Nat×aa)->List Nat->Prop):Prop:=
 match x with
 | .ptr id off=>match o id with
   | .row cs=>∃cs',uS P t cs off v=some cs'/\K [(id, .row cs')] [id]
   |_=>False
 | .pe id ep i om off=>match o id with
   | .arr fK ty sz es=>ep=fK/\om=sz/\∃e,es[i]? =some e/\∃y,du o v=some y/\y.cells.length=P.cellsOf t/\0<y.cells.length/\v.ids.all (· !=id)=true/\
    ∃e',e.put off y.cells=some e'/\K (cq o v.ids++[(id, .arr ep ty sz (es.set i e'))]) (id::v.ids)
   |_=>False
 |_=>False
def fO(P:Program)(o:Nat->aa)(fr:Nat)(t:TypeId)(len:Nat)(parts:List (Nat×V))(K:V->List (Nat×aa)->List Nat->Prop):Prop:=
 match bJ P t with
 |some e=>(len=0/\parts=[]/\0<P.cellsOf e/\K (.osl fr 0) [(fr, .arr 0 e (P.cellsOf e) [])] [])\/(parts.map (·.1)=List.range len)/\(cN P e).isSome=true/\0<len/\0<P.cellsOf e/\len*P.cellsOf e<=2^24/\
  ∃ds,bD o (parts.map (·.2))=some ds/\(∀x∈ds,x.cells.length=P.cellsOf e)/\
   K (.osl fr 0) (cq o (V.aV (parts.map (·.2)))++[(fr, .arr 0 e (P.cellsOf e) ds)]) (V.aV (parts.map (·.2)))
 |none=>False
def wV(P:Program)(e:TypeId):Option D:=
 match cN P e with
 |some z=>match bD (fun _=> .no) z,dc P e with
  |some ds,some true=>some (.agg ds)
  |some [x],some false=>some x
  |_,_=>none
 |none=>none
def gR(P:Program)(fr:Nat)(t:TypeId)(l c:V)(K:V->List (Nat×aa)->Prop):Prop:=
 match bJ P t,l,c with
 |some e, .d (.int _ n), .d (.int _ m)=>n=m/\0<=n/\0<P.cellsOf e/\P.bytesOf e*n.toNat<=2^47/\n.toNat<=2^47/\
  ∃x,wV P e=some x/\K (.osl fr 0) [(fr, .arr 0 e (P.cellsOf e) (List.replicate n.toNat x))]
 |_,_,_=>False
def dH(o:Nat->aa)(x:V):Option (List D):=
 match du o x with
 |some (.sl es)=>some es
 |_=>none
def mX(P:Program)(o:Nat->aa)(fr:Nat)(ts:Array TypeId)(x y:V)(K:V->List (Nat×aa)->List Nat->Prop):Prop:=
 match ts.toList with
 |[t,t']=>t=t'/\(match bJ P t with
  |some e=>∃new,dH o y=some new/\0<P.cellsOf e/\(cN P e).isSome=true/\(∀z∈new,z.cells.length=P.cellsOf e)/\(match x with
   | .a8=>new.length<=2^47/\new.length*P.bytesOf e<=2^47/\K (.osl fr 0) [(fr, .arr 0 e (P.cellsOf e) new)] y.ids
   | .oj es=>(∀z∈es,z.cells.length=P.cellsOf e)/\(if new=[]then K (.oj es) [] y.ids else es.length+new.length<=2^40/\(es.length+new.length)*P.bytesOf e<=2^40/\K (.osl fr 0) [(fr, .arr 0 e (P.cellsOf e) (es++new))] y.ids)
   | .osl id ep=>match o id with
     | .arr fK ty sz es=>ep=fK/\ty=e/\sz=P.cellsOf e/\es.length+new.length<=2^47/\(es.length+new.length)*P.bytesOf e<=2^47/\
      K (.osl id (ep+1)) [(id, .arr (ep+1) ty sz (es++new))] (id::y.ids)
     |_=>False
   |_=>False)
  |none=>False)
 |_=>False
def lx(isMax:Bool)(args:List V)(K:V->Prop):Prop:=
 match args with
 |[.d (.int k a), .d (.int k' b)]=>k=k'/\K (.d (.int k (if isMax then(if b>a then b else a)else(if b<a then b else a))))
 |_=>False
def jh(o:Nat->aa)(x:V)(K:V->Prop):Prop:=
 match x with
 | .ptr id off=>(o id).bI=true/\K (.ptr id off)
 | .pp cs off=>K (.pp cs off)
 | .func (.func f) first cap=>K (.func (.func f) first cap)
 |_=>False
def gS(P:Program)(t:TypeId)(xs:List D)(off:Nat):Option D:=
 match dc P t with
 |some true=>if off+P.cellsOf t<=xs.length then some (.agg ((xs.drop off).take (P.cellsOf t)))else none
 |some false=>xs[off]?
 |none=>none
inductive Xf where
 |int|bool|str|struct (fs:List (TypeId×Nat))|arr (n:Nat) (e:TypeId)
def bB(P:Program)(t:TypeId):Option Xf:=
 match P.underlying t with
 |some (.int _)=>some .int
 |some .bool=>some .bool
 |some .string=>some .str
 |some (.struct fs)=>if(!P.stoodInHeld t&&fs.toList.all (fun f=>f.name != "_"))=true then some (.struct (fs.toList.map fun f=>(f.type,f.offset)))else none
 |some (.array n e)=>if(P.info? e).isSome=true then some (.arr n e)else none
 |_=>none
def Ev(a b:Option Bool):Option Bool:=
 match a,b with
 |some a,some b=>some (a&&b)
 |_,_=>none
def wW(f:TypeId->Nat->Option Bool):List (TypeId×Nat)->Option Bool
 |[]=>some true
 |x::l=>Ev (f x.1 x.2) (wW f l)
def A8(f:Nat->Option Bool):Nat->Nat->Option Bool
 |0,_=>some true
 |n+1,i=>Ev (f i) (A8 f n (i+1))
def L7(f:D->D->Option Bool)(x y:Option D):Option Bool:=
 match x,y with
 |some x,some y=>f x y
 |_,_=>none
def oo(P:Program):Nat->TypeId->D->D->Option Bool
 |0,_,_,_=>none
 |d+1,t,x,y=>match bB P t with
  |some .int=>match x,y with| .int k a, .int k' b=>if k=k' then some (a==b)else none|_,_=>none
  |some .bool=>match x,y with| .bool a, .bool b=>some (a==b)|_,_=>none
  |some .str=>match x,y with| .str a, .str b=>some (a==b)|_,_=>none
  |some (.struct fs)=>match x,y with
   | .agg xs, .agg ys=>wW (fun u off=>L7 (oo P d u) (gS P u xs off) (gS P u ys off)) fs
   |_,_=>none
  |some (.arr n e)=>match x,y with
   | .agg xs, .agg ys=>A8 (fun i=>L7 (oo P d e) (gS P e xs (i*P.cellsOf e)) (gS P e ys (i*P.cellsOf e))) n 0
   |_,_=>none
  |none=>none
abbrev et:=V×List (Nat×aa)×List Nat
def ct(x:Option et)(K:V->List (Nat×aa)->List Nat->Prop):Prop:=
 match x with
 |some (v,Δ,rd)=>K v Δ rd
 |none=>False
def Cr(x:Option V)(Xg:Nat):Option Nat:=
 match x with
 |none=>some Xg
 |some (.d (.int _ i))=>if 0<=i then some i.toNat else none
 |_=>none
def mg(o:Nat->aa)(x:V):Option (Nat×Nat):=
 match x with
 | .ptr id off=>if(o id).bI=true then some (id,off)else none
 |_=>none
def mh(o:Nat->aa)(x:V):Option (Nat×Nat×Nat×List V):=
 match x with
 | .tu id off n=>match o id with
   | .row cs=>some (id,off,n,cs)
   |_=>none
 |_=>none
def zk(P:Program)(o:Nat->aa)(t:TypeId)(x:V)(lo hi mx:Option V):Option et:=
 match x with
 | .a8=>match lo,hi,mx with
   |none,some (.d (.int _ k)),none=>match bJ P t with
    |some e=>if k=0/\(P.info? e).isSome=true then some (.a8,[],[])else none
    |none=>none
   |_,_,_=>none
 | .osl id ep=>match lo,hi,mx with
   |none,some (.d (.int _ k)),none=>match bJ P t,o id with
    |some e, .arr fK ty sz es=>if k=0/\ep=fK/\(P.info? e).isSome=true then some (.osl id (ep+1),[(id, .arr (ep+1) ty sz [])],[id])
     else if 0<k/\k.toNat<=es.length/\ep=fK/\(P.info? e).isSome=true then some (.osl id (ep+1),[(id, .arr (ep+1) ty sz (es.take k.toNat))],[id])else none
    |_,_=>none
   |_,_,_=>none
 |_=>none
def mY(P:Program)(o:Nat->aa)(t:TypeId)(x:V)(lo hi mx:Option V):Option et:=
 match bJ P t with
 |some e=>match dH o x,Cr lo 0 with
  |some es,some l=>match Cr hi es.length with
   |some h=>if l<=h/\h<=es.length/\(P.info? e).isSome=true/\(l=0\/es.all (fun y=>y.cells.length==P.cellsOf e)=true)then match mx with
    |none=>some (.d (.sl ((es.take h).drop l)),cq o x.ids,x.ids)
    |some m=>match hi,Cr (some m) 0 with
     |some _,some m=>if h<=m/\m<=es.length then some (if h=m then .oj ((es.take h).drop l)else .d (.sl ((es.take h).drop l)),cq o x.ids,x.ids)else none
     |_,_=>none
    else none
   |none=>none
  |_,_=>none
 |none=>match wS P t,lo,hi,mx with
  |some (n,e),none,none,none=>match mg o x with
   |some (id,off)=>if(P.info? e).isSome=true then some (.tu id off n,[],[id])else none
   |none=>none
  |_,_,_,_=>none
def oD(P:Program)(o:Nat->aa)(t:TypeId)(x:V)(lo hi mx:Option V):Option et:=
 match zk P o t x lo hi mx with
 |some r=>some r
 |none=>mY P o t x lo hi mx
def tw(P:Program)(o:Nat->aa)(ts:Array TypeId)(x y:V):Option et:=
 match ts.toList with
 |[t,_]=>match bJ P t with
  |some e=>match mh o x,dH o y with
   |some (id,off,n,cs),some es=>if P.cellsOf e=1/\off+n<=cs.length/\es.all (fun z=>z.cells.length==1)=true/\y.ids.all (· !=id)=true then
    some (.d (.int .i64 ((min es.length n:Nat):Int)),cq o y.ids++[(id, .row (cs.take off++((es.take n).flatMap D.cells).map .d++cs.drop (off+(es.take n).length)))],id::y.ids)else none
   |_,_=>none
  |none=>none
 |_=>none
def uT(P:Program)(t:TypeId)(f:Nat):Option (Nat×TypeId):=
 match P.underlying t with
 |some (.struct fs)=>match fs[f]? with
  |some fd=>some (fd.offset,fd.type)
  |none=>none
 |_=>none
def qP(P:Program)(t:TypeId)(x:V)(f:Nat):Option V:=
 match uT P t f with
 |some (off,u)=>match x with
  | .d (.agg cs)=>(gS P u cs off).map .d
  | .agg cs=>dG P u cs off
  |_=>none
 |none=>none
def qQ(P:Program)(t:TypeId)(x i:V):Option V:=
 match i with
 | .d (.int _ i)=>if 0<=i then match P.underlying t with
  |some .string=>match x with
   | .d (.str s)=>match s[i.toNat]? with
     |some b=>some (.d (.int .u8 b.toNat))
     |none=>none
   |_=>none
  |some (.array n e)=>if i<n/\(P.info? e).isSome=true then match x with
   | .d (.agg cs)=>(gS P e cs (i.toNat*P.cellsOf e)).map .d
   | .agg cs=>dG P e cs (i.toNat*P.cellsOf e)
   |_=>none
   else none
  |_=>none
   else none
 |_=>none
def zl(P:Program)(t:TypeId):Bool:=
 match P.underlying t with
 |some (.interface _)=>false
 |some _=>true
 |none=>false
def zeroV(P:Program)(t:TypeId):Option V:=
 match P.info? t with
 |some i=>match i.zero with
  |some (.agg a)=>if a.toList.all Value.oneCell'=true then some (lV (a.toList.map V.cG))else none
  |some v=>if v.oneCell'=true then some (V.cG v)else none
  |none=>none
 |none=>none
def mZ(P:Program)(t:TypeId)(ok:Bool)(x:V):Option V:=
 if zl P t=true then match x with
  | .d (.iface u y)=>if u=t then some (if ok=true then .bC [.d y, .d (.bool true)]else .d y)
   else if ok=true then(zeroV P t).map fun z=> .bC [z, .d (.bool false)]else none
  | .d .e9=>if ok=true then(zeroV P t).map fun z=> .bC [z, .d (.bool false)]else none
  |_=>none
 else none
def wX(o:Nat->aa)(x:V):Option V:=
 match x with
 | .a8=>some (.d (.bool true))
 |x=>match dH o x with
  |some es=>some (if es=[]then .ek else .d (.bool false))
  |none=>none
def isConst:Operand->Bool
 | .const _=>true
 |_=>false
def Hh:V->Option V
 | .d (.bool b)=>some (.d (.bool !b))
 | .ek=>some .ek
 |_=>none
def oE(o:Nat->aa)(x:V):Option V:=
 match x with
 | .d .eJ=>some (.d (.bool true))
 | .d (.mp _ _)=>some (.d (.bool false))
 | .mp id=>match o id with| .map _ _ _=>some (.d (.bool false))| .cO _=>some (.d (.bool false))|_=>none
 |_=>none
def oF(o:Nat->aa)(x:V):Option V:=
 match x with
 | .d .j6=>some (.d (.bool true))
 | .ptr id _=>if(o id).bI=true then some (.d (.bool false))else none
 | .pp _ _=>some (.d (.bool false))
 |_=>none
def Xh(P:Program)(a b:TypeId)(x y:D):Option Bool:=
 if a=b then(match P.info? a,P.underlying a with
  |some i,some (.int _)=>if i.comparable=true then(match x,y with
   | .int k m, .int k' n=>if k=k' then some (m==n)else none
   |_,_=>none)else none
  |_,_=>none)
 else some false
def DJ(P:Program)(o:Nat->aa)(t:TypeId)(mi:Bool)(x y:V):Option V:=
 match P.underlying t with
 |some (.interface _)=>match x,y with
  | .d .e9, .d .e9=>if mi=true then some (.d (.bool true))else none
  | .d (.iface _ _), .d .e9| .iface _ _, .d .e9| .d .e9, .d (.iface _ _)| .d .e9, .iface _ _=>some (.d (.bool false))
  | .d (.iface a x), .d (.iface b y)=>(Xh P a b x y).map fun r=> .d (.bool r)
  |_,_=>none
 |some (.func _ _ _)=>match x,y with
  | .d .bK, .d .bK=>some (.d (.bool true))
  | .func _ _ _, .d .bK=>some (.d (.bool false))
  |_,_=>none
 |some (.map _ _)=>match y with
  | .d .eJ=>oE o x
  |_=>none
 |some (.pointer _)=>match y with
  | .d .j6=>oF o x
  |_=>none
 |some (.slice _)=>match y with
  | .a8=>wX o x
  |_=>none
 |some (.struct _)|some (.array _ _)=>match x,y with
  | .d (.agg bF), .d (.agg bs)=>if P.eqGuardType P.depth t=false then(oo P 100 t (.agg bF) (.agg bs)).map fun r=> .d (.bool r)else none
  |_,_=>none
 |_=>none
def oG(P:Program)(o:Nat->aa)(op:BinOp)(t:TypeId)(mi:Bool)(x y:V):Option et:=
 match op with
 | .eql=>(DJ P o t mi x y).map fun v=>(v,[],[])
 | .neq=>((DJ P o t mi x y).bind Hh).map fun v=>(v,[],[])
 |_=>none
mutual
def D.same:D->D->Bool
 | .int k a, .int j b=>k==j&&a==b
 | .bool a, .bool b=>a==b
 | .str a, .str b=>a==b
 | .e9, .e9| .j6, .j6| .bK, .bK| .eJ, .eJ=>true
 | .agg bF, .agg bs=>D.ez bF bs
 | .sl bF, .sl bs=>D.ez bF bs
 | .iface t a, .iface u b=>t==u&&a.same b
 | .mp ks vs, .mp ks' V9=>D.ez ks ks'&&D.ez vs V9
 |_,_=>false
def D.ez:List D->List D->Bool
 |[],[]=>true
 |a::bF,b::bs=>a.same b&&D.ez bF bs
 |_,_=>false
end
def oH(P:Program)(t:TypeId):Option (TypeId×TypeId):=
 match P.underlying t with
 |some (.map k v)=>some (k,v)
 |_=>none
def lK(P:Program):Nat->TypeId->D->Bool
 |0,_,_=>false
 |d+1,t,x=>match bB P t with
  |some .int|some .bool|some .str=>true
  |some (.struct fs)=>match x with
   | .agg xs=>fs.all fun f=>match gS P f.1 xs f.2 with|some y=>lK P d f.1 y|none=>false
   |_=>false
  |some (.arr n e)=>match x with
   | .agg xs=>(List.range n).all fun i=>match gS P e xs (i*P.cellsOf e)with|some y=>lK P d e y|none=>false
   |_=>false
  |none=>false
def findD(P:Program)(kt:TypeId)(k:D):List (D×D)->Nat->Option (Option (Nat×D×D))
 |[],_=>some none
 |(k',x)::l,i=>match oo P 100 kt k k' with
  |some true=>some (some (i,k',x))
  |some false=>findD P kt k l (i+1)
  |none=>none
def lW:D->Bool
 | .int _ _| .bool _| .str _=>true
 |_=>false
def iS:D->Bool
 | .agg cs=>cs.all lW
 |x=>lW x
def lX(o:Nat->aa)(m:V):Option (Option (Nat×TypeId×TypeId)×List (D×D)):=
 match m with
 | .mp id=>match o id with
   | .map kt vt l=>some (some (id,kt,vt),l)
   |_=>none
 | .d .eJ=>some (none,[])
 |_=>none
def m4(o:Nat->aa)(m:V):Option (List Nat×List (D×D)):=
 match m with
 | .mp id=>match o id with
   | .map _ _ l=>some ([id],l)
   | .cO l=>some ([id],l)
   |_=>none
 | .d .eJ=>some ([],[])
 | .d (.mp ks vs)=>some ([],ks.zip vs)
 |_=>none
def Xi(r:Option (Nat×TypeId×TypeId)):List Nat:=match r with|some p=>[p.1]|none=>[]
def gy(P:Program)(o:Nat->aa)(t:TypeId)(m k:V)(ok:Bool):Option et:=
 match oH P t,du o k,m4 o m with
 |some (kt,vt),some kd,some (rd,l)=>if k.ids=[]/\lK P 100 kt kd=true then match findD P kt kd l 0 with
  |some (some (_,_,x))=>some (if ok=true then .bC [.d x, .d (.bool true)]else .d x,[],rd)
  |some none=>match zeroV P vt with
   |some z=>some (if ok=true then .bC [z, .d (.bool false)]else z,[],rd)
   |none=>none
  |none=>none
  else none
 |_,_,_=>none
def eg(P:Program)(o:Nat->aa)(t:TypeId)(m k v:V):Option et:=
 match oH P t,du o k,du o v,lX o m with
 |some (kt,_),some kd,some vd,some (some (id,A9,Ba),l)=>if k.ids=[]/\lK P 100 kt kd=true/\iS kd=true/\v.ids.all (· !=id)=true then match findD P kt kd l 0 with
  |some (some (i,k',_))=>if k'.same kd=true then some (.bC [],cq o v.ids++[(id, .map A9 Ba (l.set i (kd,vd)))],id::v.ids)else none
  |some none=>some (.bC [],cq o v.ids++[(id, .map A9 Ba (l++[(kd,vd)]))],id::v.ids)
  |none=>none
  else none
 |_,_,_,_=>none
def ko(P:Program)(fr:Nat)(t:TypeId):Option et:=
 match oH P t with
 |some (kt,vt)=>some (.mp fr,[(fr, .map kt vt [])],[])
 |none=>none
def kp(P:Program)(o:Nat->aa)(fr:Nat)(t:TypeId)(x:V):Option et:=
 match P.underlying t with
 |some .string=>match x with
  | .d (.str s)=>some (.ptr fr 0,[(fr, .uP s 0)],[])
  |_=>none
 |some (.map _ _)=>match x with
  | .d .eJ=>some (.ptr fr 0,[(fr, .oB [] none)],[])
  | .d (.mp ks vs)=>some (.ptr fr 0,[(fr, .oB (ks.zip vs) none)],[])
  | .mp id=>match o id with
    | .map _ _ l=>some (.ptr fr 0,[(id, .cO l),(fr, .oB l none)],[id])
    | .cO l=>some (.ptr fr 0,[(fr, .oB l none)],[id])
    |_=>none
  |_=>none
 |_=>none
def lY(o:Nat->aa)(x:V)(str:Bool):Option et:=
 match x with
 | .ptr id 0=>match o id with
   | .uP s pos=>if str=true then
    (if pos<s.length then some (.bC [.d (.bool true), .d (.int .i64 pos), .d (.int .i32 (Utf8.decode ⟨⟨s⟩⟩ pos).1)],[(id, .uP s (pos+(Utf8.decode ⟨⟨s⟩⟩ pos).2))],[id])else some (.bC [.d (.bool false)],[],[id]))
     else none
   |_=>none
 |_=>none
def lZ(o:Nat->aa)(x:V):Option (Nat×List (D×D)):=
 match x with
 | .ptr id 0=>match o id with
   | .oB l _=>some (id,l)
   |_=>none
 |_=>none
def Bb(id:Nat)(l:List (D×D))(K:V->List (Nat×aa)->List Nat->Prop):Prop:=
 (l=[]->K (.bC [.d (.bool false)]) [] [id])/\∀i k x,l[i]? =some (k,x)->K (.bC [.d (.bool true), .d k, .d x]) [(id, .oB (l.eraseIdx i) (some (k,x)))] [id]
def kq(o:Nat->aa)(x:V):Option et:=
 match x with
 | .ptr id 0=>match o id with
   | .oB _ (some (k,x))=>some (.bC [.d k, .d x],[],[id])
   |_=>none
 |_=>none
def ly(P:Program)(o:Nat->aa)(t:TypeId)(m k:V):Option et:=
 match oH P t,du o k,lX o m with
 |some (kt,_),some kd,some (some (id,A9,Ba),l)=>if k.ids=[]/\lK P 100 kt kd=true then match findD P kt kd l 0 with
  |some (some (i,_,_))=>some (.bC [],[(id, .map A9 Ba (l.eraseIdx i))],[id])
  |some none=>some (.bC [],[],[id])
  |none=>none
  else none
 |_,_,_=>none
def Ew(x y z:V):Option V:=
 match x,y,z with
 | .d (.int k a), .d (.int k' b), .d (.int ZV c)=>if k=k'/\k=ZV then some (.d (.int k (if c>(if b>a then b else a)then c else(if b>a then b else a))))else none
 |_,_,_=>none
def Hi(P:Program)(ts:Array TypeId)(x:V):Option et:=
 match ts.toList with
 |[t]=>match bJ P t with
  |some _=>match x with
   | .a8=>some (.d (.int .i64 0),[],[])
   |_=>none
  |none=>none
 |_=>none
def tx(P:Program)(fr:Nat)(ts:Array TypeId)(x y:V):Option et:=
 match ts.toList with
 |[t,t']=>if t=t' then none else match bJ P t with
  |some e=>match uR P t',x,y with
   |some _, .a8, .d (.int _ n)=>if 0<n/\0<P.cellsOf e/\n.toNat*P.bytesOf e<=2^40/\n.toNat<=2^40 then match wV P e with
    |some z=>some (.osl fr 0,[(fr, .arr 0 e (P.cellsOf e) (List.replicate n.toNat z))],[])
    |none=>none
    else none
   |_,_,_=>none
  |none=>none
 |_=>none
def qR(P:Program)(s:S)(fr:Nat)(b:Builtin)(args:List Operand)(ts:Array TypeId)(K:V->List (Nat×aa)->List Nat->Prop):Prop:=
 match b,args with
 | .len,[x]=>∃t,ts.toList=[t]/\Eu P t s.o (s.ev x) fun v rd=>K v [] rd
 | .append,[x,y]=>ct (tx P fr ts (s.ev x) (s.ev y)) K\/mX P s.o fr ts (s.ev x) (s.ev y) K
 | .max,[x,y]=>lx true [s.ev x,s.ev y] fun v=>K v [] []
 | .min,[x,y]=>lx false [s.ev x,s.ev y] fun v=>K v [] []
 | .max,[x,y,z]=>ct ((Ew (s.ev x) (s.ev y) (s.ev z)).map fun v=>(v,[],[])) K
 | .copy,[x,y]=>ct (tw P s.o ts (s.ev x) (s.ev y)) K
 | .delete,[x,y]=>∃t,ts.toList.head?=some t/\ct (ly P s.o t (s.ev x) (s.ev y)) K
 | .cap,[x]=>ct (Hi P ts (s.ev x)) K
 |_,_=>False
def Jy(P:Program)(s:S)(fr:Nat)(op:Op)(K:V->List (Nat×aa)->List Nat->Prop):Prop:=
 match op with
 | .move x| .assign x=>K (s.ev x) [] []
 | .pick c a b=>wT (s.ev c) (s.ev a) (s.ev b) fun v=>K v [] []
 | .alloc t=>∃cs,cN P t=some cs/\K (.ptr fr 0) [(fr, .row cs)] []
 | .box _ x=>∃cs,(s.ev x).cells=some cs/\K (.ptr fr 0) [(fr, .row cs)] []
 | .build t parts=>∃z pl cs,cN P t=some z/\eQ P t=some pl/\py pl z (parts.toList.map fun p=>(p.1,s.ev p.2))=some cs/\K (lV cs) [] []
 | .buildSlice t len parts=>fO P s.o fr t len (parts.toList.map fun p=>(p.1,s.ev p.2)) K
 | .load t x=>wU P s.o t (s.ev x) fun v rd=>K v [] rd
 | .store t x v=>qO P s.o t (s.ev x) (s.ev v) fun Δ rd=>K (.bC []) Δ rd
 | .nilCheck x=>jh s.o (s.ev x) fun v=>K v [] []
 | .binOp op t x y _=>Et P op t (s.ev x) (s.ev y) (fun v=>K v [] [])\/ct (oG P s.o op t (isConst x||isConst y) (s.ev x) (s.ev y)) K
 | .unOp op _ x=>R1 op (s.ev x) (fun v=>K v [] [])\/(op= .not/\s.ev x= .ek/\K .ek [] [])
 | .convert u t x=>(P.underlying u).isSome=true/\(match uR P t,s.ev x with
   |some k, .d (.int _ n)=>K (.d (.int k (k.wrap n))) [] []
   |_,_=>False)
 | .makeInterface t x=>(∃d,P.underlying t=some d/\(match d with| .interface _=>false|_=>true)=true)/\(match s.ev x with
   | .d y=>K (.d (.iface t y)) [] []
   |v=>K (.iface t v) [] [])
 | .makeFunc fn first cap=>K (.func fn (first.toList.map s.ev) (cap.toList.map s.ev)) [] []
 | .makeSlice t l c=>gR P fr t (s.ev l) (s.ev c) fun v Δ=>K v Δ []
 | .fieldAddr t x f=>gQ P s.o t (s.ev x) f fun v=>K v [] []
 | .indexAddr t x i=>gP P s.o t (s.ev x) (s.ev i) fun v rd=>K v [] rd
 | .extract x i=>match s.ev x with
   | .bC vs=>∃v,vs[i]? =some v/\K v [] []
   |_=>False
 | .slice t x lo hi mx=>ct (oD P s.o t (s.ev x) (lo.map s.ev) (hi.map s.ev) (mx.map s.ev)) K
 | .field t x f=>ct ((qP P t (s.ev x) f).map fun v=>(v,[],[])) K
 | .index t x i=>ct ((qQ P t (s.ev x) (s.ev i)).map fun v=>(v,[],[])) K
 | .makeMap t none=>ct (ko P fr t) K
 | .lookup t m k ok=>ct (gy P s.o t (s.ev m) (s.ev k) ok) K
 | .mapUpdate t m k v=>ct (eg P s.o t (s.ev m) (s.ev k) (s.ev v)) K
 | .insert t m k v=>ct (eg P s.o t (s.ev m) (s.ev k) (s.ev v)) K
 | .range t x=>ct (kp P s.o fr t (s.ev x)) K
 | .next x str=>ct (lY s.o (s.ev x) str) K\/(str=false/\∃id l,lZ s.o (s.ev x)=some (id,l)/\Bb id l K)
 | .entry x=>ct (kq s.o (s.ev x)) K
 | .typeAssert x _ t ok=>ct ((mZ P t ok (s.ev x)).map fun v=>(v,[],[])) K
 | .call c=>match c.callee with
   | .builtin b=>qR P s fr b c.args.toList c.argTypes K
   |_=>False
 |_=>False
section
section
variable {B:Nat->Prop}{φ:Place}{H:Hp}{w:World}
theorem V.au:∀ (cs:List V) (vs:List Value),V.az B φ H w cs vs->vs.length=cs.length
 |[],_,h=>by simp[V.az]at h;simp[h]
 |c::cs,_,h=>by obtain⟨u,us,rfl,_,h2⟩:=h;simp[V.au cs us h2]
theorem V.cF:∀ (cs:List V) (vs:List Value) (i:Nat) (c:V),V.az B φ H w cs vs->cs[i]? =some c->∃v,vs[i]? =some v/\V.den B φ H w c v
 |[],_,_,_,_,hd=>by simp at hd
 |c::cs,_,0,x,h,hd=>by
  exact Jr
 |c::cs,_,i+1,x,h,hd=>by
  obtain⟨u,us,rfl,_,h2⟩:=h
  simpa using V.cF cs us i x h2 (by simpa using hd)
theorem V.aW:∀ (cs ds:List V) (us vs:List Value),V.az B φ H w cs us->V.az B φ H w ds vs->V.az B φ H w (cs++ds) (us++vs)
 |[],ds,us,vs,h,k=>by simp[V.az]at h;subst h;simpa using k
 |c::cs,ds,_,vs,h,k=>by
  obtain⟨u,us,rfl,h1,h2⟩:=h
  exact⟨u,us++vs,aK,h1,V.aW cs ds us vs h2 k⟩
theorem V.b9:∀ (n:Nat) (cs:List V) (vs:List Value),V.az B φ H w cs vs->V.az B φ H w (cs.take n) (vs.take n)
 |0,_,_,_=>by simp[V.az]
 |n+1,[],_,h=>by simp[V.az]at h;subst h;simp[V.az]
 |n+1,c::cs,_,h=>by
  obtain⟨u,us,rfl,h1,h2⟩:=h
  exact⟨u,us.take n,aK,h1,V.b9 n cs us h2⟩
theorem V.dv:∀ (n:Nat) (cs:List V) (vs:List Value),V.az B φ H w cs vs->V.az B φ H w (cs.drop n) (vs.drop n)
 |0,_,_,h=>by simpa using h
 |n+1,[],_,h=>by simp[V.az]at h;subst h;simp[V.az]
 |n+1,c::cs,_,h=>by
  obtain⟨u,us,rfl,h1,h2⟩:=h
  simpa using V.dv n cs us h2
theorem V.bS:∀ (ds:List D) (vs:List Value),V.az B φ H w (ds.map .d) vs↔D.az B w ds vs
 |[],vs=>by simp[V.az,D.az]
 |x::ds,vs=>by simp only[List.map_cons,V.az,D.az,V.den,V.bS ds]
theorem D.aW:∀ (cs ds:List D) (us vs:List Value),D.az B w cs us->D.az B w ds vs->D.az B w (cs++ds) (us++vs)
 |[],ds,us,vs,h,k=>by simp[D.az]at h;subst h;simpa using k
 |c::cs,ds,_,vs,h,k=>by
  obtain⟨u,us,rfl,h1,h2⟩:=h
  exact⟨u,us++vs,aK,h1,D.aW cs ds us vs h2 k⟩
theorem D.b9:∀ (n:Nat) (cs:List D) (vs:List Value),D.az B w cs vs->D.az B w (cs.take n) (vs.take n)
 |0,_,_,_=>by simp[D.az]
 |n+1,[],_,h=>by simp[D.az]at h;subst h;simp[D.az]
 |n+1,c::cs,_,h=>by
  obtain⟨u,us,rfl,h1,h2⟩:=h
  exact⟨u,us.take n,aK,h1,D.b9 n cs us h2⟩
theorem D.dv:∀ (n:Nat) (cs:List D) (vs:List Value),D.az B w cs vs->D.az B w (cs.drop n) (vs.drop n)
 |0,_,_,h=>by simpa using h
 |n+1,[],_,h=>by simp[D.az]at h;subst h;simp[D.az]
 |n+1,c::cs,_,h=>by
  obtain⟨u,us,rfl,h1,h2⟩:=h
  simpa using D.dv n cs us h2
theorem D.wY:∀ (i:Nat) (ds:List D) (vs:List Value) (x:D) (v:Value),D.az B w ds vs->D.den B w x v->D.az B w (ds.set i x) (vs.set i v)
 |_,[],_,_,_,h,_=>by simp[D.az]at h;subst h;simp[D.az]
 |0,c::cs,_,x,v,h,k=>by
  obtain⟨u,us,rfl,h1,h2⟩:=h
  exact⟨v,us,aK,k,h2⟩
 |i+1,c::cs,_,x,v,h,k=>by
  obtain⟨u,us,rfl,h1,h2⟩:=h
  exact⟨u,us.set i v,aK,h1,D.wY i cs us x v h2 k⟩
theorem tz:∀ (cs:List V) (ds:List D),zj cs=some ds->cs=ds.map .d
 |[],ds,h=>by simp[zj]at h;subst h;rfl
 | .d x::cs,ds,h=>by
   simp only[zj,Option.map_eq_some_iff]at h
   obtain⟨a,h1,rfl⟩:=h
   simp[tz cs a h1]
 | .a8::_,_,h| .agg _::_,_,h| .bC _::_,_,h| .ptr _ _::_,_,h| .osl _ _::_,_,h| .pe _ _ _ _ _::_,_,h| .pp _ _::_,_,h
 | .func _ _ _::_,_,h| .iface _ _::_,_,h| .ab::_,_,h| .oj _::_,_,h| .tu _ _ _::_,_,h| .mp _::_,_,h| .ek::_,_,h=>by simp[zj]at h
theorem ji(cs:List V)(a:Array Value)(h:V.az B φ H w cs a.toList)(hf:Flat a.toList):V.den B φ H w (lV cs) (.agg a):=by
 unfold lV
 split
 ·rename_i ds hd
  have:=tz cs ds hd
  subst this
  exact⟨a,rfl,(V.bS ds _).1 h,hf⟩
 ·exact⟨a,rfl,h,hf⟩
theorem D.lz:∀ (x:D) (v:Value),D.den B w x v->(∃cs a,x= .agg cs/\v= .agg a)\/v.oneCell'=true/\x.cells=[x]/\v.cells=#[v]
 | .int _ _,_,h| .bool _,_,h| .e9,_,h| .j6,_,h| .bK,_,h| .eJ,_,h=>by
   simp only[D.den]at h;subst h;exact .inr ⟨rfl,rfl,rfl⟩
 | .str l,_,h=>by obtain⟨s,rfl,_⟩:=h;exact .inr ⟨rfl,rfl,rfl⟩
 | .agg cs,_,h=>by obtain⟨a,rfl,_,_⟩:=h;exact .inl ⟨cs,a,rfl,rfl⟩
 | .sl es,_,h=>by obtain⟨b,l,c,rfl,_⟩:=h;exact .inr ⟨rfl,rfl,rfl⟩
 | .iface t x,_,h=>by obtain⟨u,rfl,_⟩:=h;exact .inr ⟨rfl,rfl,rfl⟩
 | .mp ks vs,_,h=>by obtain⟨m,es,c,p,rfl,_⟩:=h;exact .inr ⟨rfl,rfl,rfl⟩
theorem D.dO (x:D)(v:Value)(h:D.den B w x v):D.az B w x.cells v.cells.toList/\Flat v.cells.toList:=by
 rcases D.lz x v h with⟨cs,a,rfl,rfl⟩|⟨h1,h2,h3⟩
 ·obtain⟨a',h1,h2,h3⟩:=h
  injection h1 with h1;subst h1
  exact⟨h2,h3⟩
 ·rw[h2,h3]
  exact⟨⟨v,[],rfl,h,rfl⟩,by intro u hu;simp at hu;subst hu;exact h1⟩
theorem V.lz (x:V)(v:Value)(us:List V)(hx:x.cells=some us)(h:V.den B φ H w x v):V.az B φ H w us v.cells.toList/\Flat v.cells.toList:=by
 have one:∀ (y:V),v.oneCell'=true->V.den B φ H w y v->V.az B φ H w [y] v.cells.toList/\Flat v.cells.toList:=by
  intro y h1 h2
  have h3:v.cells=#[v]:=by cases v<;>simp_all[Value.oneCell',Value.cells]
  rw[h3]
  exact⟨⟨v,[],rfl,h2,rfl⟩,by intro u hu;simp at hu;subst hu;exact h1⟩
 cases x with
 |d x=>
  simp only[V.cells,Option.some.injEq]at hx;subst hx
  have:=D.dO x v h
  exact⟨(V.bS _ _).2 this.1,this.2⟩
 |a8=>simp only[V.cells,Option.some.injEq]at hx;subst hx;exact one _ (by cases h;rfl) h
 |agg cs=>
  simp only[V.cells,Option.some.injEq]at hx;subst hx
  obtain⟨a,rfl,h1,h2⟩:=h
  exact⟨h1,h2⟩
 |bC vs=>simp[V.cells]at hx
 |ab=>simp[V.cells]at hx
 |ptr id off=>simp only[V.cells,Option.some.injEq]at hx;subst hx;exact one _ h.1 h
 |osl id ep=>simp only[V.cells,Option.some.injEq]at hx;subst hx;exact one _ h.1 h
 |pe id ep i sz off=>simp only[V.cells,Option.some.injEq]at hx;subst hx;exact one _ h.1 h
 |pp cs off=>simp only[V.cells,Option.some.injEq]at hx;subst hx;exact one _ (by obtain⟨a,ev,_,rfl,_⟩:=h;rfl) h
 |func fn f c=>simp only[V.cells,Option.some.injEq]at hx;subst hx;exact one _ (by obtain⟨a,ev,rfl,_⟩:=h;rfl) h
 |iface t y=>simp only[V.cells,Option.some.injEq]at hx;subst hx;exact one _ (by obtain⟨a,rfl,_⟩:=h;rfl) h
 |oj es=>simp only[V.cells,Option.some.injEq]at hx;subst hx;exact one _ (by obtain⟨_,b,n,rfl⟩:=h;rfl) h
 |tu id off n=>simp only[V.cells,Option.some.injEq]at hx;subst hx;exact one _ h.1 h
 |mp id=>simp only[V.cells,Option.some.injEq]at hx;subst hx;exact one _ h.1 h
 |jc id=>simp only[V.cells,Option.some.injEq]at hx;subst hx;exact one _ h.1 h
 |ek=>simp only[V.cells,Option.some.injEq]at hx;subst hx;exact one _ (by obtain⟨a,rfl⟩:=h;rfl) h
theorem jv(v:Value)(h:v.oneCell'=true):V.den B φ H w (V.cG v) v:=by
 cases v<;>simp_all only[Value.oneCell',V.cG,V.den,D.den]<;>try trivial
 all_goals (try (split<;>simp_all[V.den,D.den]))
 all_goals (try first|(simp_all[D.den];done)|simp_all)
theorem cS:∀ (vs:List Value),Flat vs->V.az B φ H w (vs.map V.cG) vs
 |[],_=>rfl
 |v::vs,h=>⟨v,vs,rfl,jv v (h v aK),cS vs fun u hu=>h u (by simp[hu])⟩
end
end
section
theorem lA(H:Hp):H.put []=H:=by
 obtain⟨o,us⟩:=H
 simp[Hp.put,put]
theorem de(H:Hp)(A C:List (Nat×aa)):H.put (A++C)=(H.put A).put C:=by
 obtain⟨o,us⟩:=H
 simp only[Hp.put,put,List.foldl_append,Hp.mk.injEq,true_and]
 funext id
 simp only[List.map_append,List.mem_append,eq_iff_iff]
 exact⟨fun h=>by rcases h with h|h|h<;>simp[h],fun h=>by rcases h with(h|h)|h<;>simp[h]⟩
@[simp] theorem ba (H:Hp) (i:Nat) (x:aa):(H.put [(i,x)]).o=aM H.o i x:=rfl
@[simp] theorem df (H:Hp) (i j:Nat) (x:aa):(H.put [(i,x)]).us j↔(H.us j\/j=i):=by simp[Hp.put]
section
variable {M:Nat->Prop}{φ aA:Place}{H H':Hp}{w w':World}
theorem aF.wZ (qS:∀b,cg w b-> ¬ai M φ H b->w'.heap[b]? =w.heap[b]? /\ ¬ai M aA H' b)(ZW:db φ H aA H'){id:Nat}(ho:H'.o id=H.o id)(dT:aA id=φ id)
 (hb:(H.o id).live=true->∀b,dK (φ id)=some b->w'.heap[b]? =w.heap[b]?) (h:aF M φ H w id):aF M aA H' w' id:=by
 unfold aF at*
 rw[ho]
 cases hx:H.o id with
 |no=>trivial
 |row cs=>
  simp only[hx]at h|-
  obtain⟨b,da,ty,h1,h2,h3,h4⟩:=h
  exact⟨b,da,ty,dT.trans h1,(hb pv b tp).trans h2,V.eo qS ZW cs _ h3,h4⟩
 |arr ep ty sz es=>
  simp only[hx]at h|-
  obtain⟨h0,xs,h1,evs,h2,h3,h4⟩:=h
  refine⟨h0,xs, ?_,evs,h2,h3,D.aI qS es evs h4⟩
  rw[dT]
  obtain⟨g1,g2⟩:=h1
  refine⟨g1, ?_⟩
  rcases g2 with g2|⟨g,cap,cur,k1,k2,k3,k4⟩
  ·exact .inl g2
  ·exact .inr ⟨g,cap,cur,k1,k2,(hb pv g (by rw[k1];rfl)).trans k3,k4⟩
 |qo ep es=>
  simp only[hx]at h|-
  rw[dT]
  exact D.aG qS (.sl es) _ h
 |map kt vt l=>
  simp only[hx]at h|-
  obtain⟨b,es,clock,h1,h2,h4,h3⟩:=h
  exact⟨b,es,clock,dT.trans h1,(hb pv b tp).trans h2,h4,aB.mono qS l _ h3⟩
 |cO l=>
  simp only[hx]at h|-
  rw[dT]
  exact iQ.mono qS h
 |oB l last=>
  simp only[hx]at h|-
  obtain⟨b,h1,h2⟩:=h
  exact⟨b,dT.trans h1,h2.mono qS (hb pv b tp)⟩
 |uP s pos=>
  simp only[hx]at h|-
  obtain⟨b,h1,h2⟩:=h
  exact⟨b,dT.trans h1,(hb pv b tp).trans h2⟩
 |loop nf n env ps iR eL st Cq=>
  simp only[hx]at h|-
  obtain⟨b,r,h1,h2,h0,h3,h4,h5,h6,h7,h8,h9⟩:=h
  exact⟨b,r,dT.trans h1,(hb pv b tp).trans h2,h0,h3,h4,h5,h6,h7,h8,fun i=>V.jg qS ZW _ _ (h9 i)⟩
theorem aF.mono (ht:Trans φ H w aA H' w'){id:Nat}(ho:H'.o id=H.o id)(dT:aA id=φ id)
 (hb:(H.o id).live=true->∀b,dK (φ id)=some b->w'.heap[b]? =w.heap[b]?) (h:aF M φ H w id):aF M aA H' w' id:=aF.wZ ht.blocks ht.rel ho dT hb h
theorem ao.of (hH:ao M φ H w)(ht:Trans φ H w aA H' w')(T:Nat->Prop)(hT:∀id,T id->aF M aA H' w' id)
 (hn:∀id, ¬T id->H'.o id=H.o id/\aA id=φ id/\((H.o id).live=true->∀b,dK (φ id)=some b->w'.heap[b]? =w.heap[b]?))
 (gU:∀id, ¬H'.us id->H'.o id= .no)
 (hap:∀i j b,(H'.o i).live=true->(H'.o j).live=true->dK (aA i)=some b->dK (aA j)=some b->i=j)
 (R2:∀b,cu aA H' b->b<w'.heap.size):ao M aA H' w' where
 ok id:=by
  by_cases hc:T id
  ·exact hT id hc
  ·obtain⟨h1,h2,h3⟩:=hn id hc
   exact(hH.ok id).mono ht h1 h2 h3
 fresh:=gU
 apart:=hap
 ours b hb:=by
  refine⟨fun hM=> ?_,R2 b hb⟩
  rcases ht.grow b hb with h1|h1
  ·exact(hH.ours b h1).1 hM
  ·have:=hH.wA b hM;omega
 wA b hM:=Nat.lt_of_lt_of_le (hH.wA b hM) ht.keep.size
theorem cT(hk:dy (fun _=>False) w w'){fr:Nat}(cC: ¬H.us fr)(obj:aa)(val:Value)(eI:∀b,dK val=some b->w.heap.size<=b):
 Trans φ H w (aM φ fr val) (H.put [(fr,obj)]) w' where
 keep:=⟨hk.os,hk.tape,hk.output,hk.size,fun k h _=>hk.block k h (fun h=>h)⟩
 grow b:=by
  rintro⟨id,h1,h2⟩
  by_cases aq:id=fr
  ·subst aq;simp at h2;exact .inr (eI b h2)
  ·simp[aq]at h1 h2;exact .inl ⟨id,h1,h2⟩
 rel:={
  us:=fun id h=>by simp[h]
  row:=fun id hu hr=>by
   have aq:id≠fr:=fun h=>cC (h ▸ hu)
   simp[aq]at hr|-;exact hr
  ep:=fun id e' hu he=>by
   have aq:id≠fr:=fun h=>cC (h ▸ hu)
   simp[aq]at he|-;exact⟨e',he,Nat.le_refl _⟩}
theorem fM(hH:ao M φ H w)(hk:dy (fun _=>False) w w'){fr:Nat}(cC: ¬H.us fr)(obj:aa)(val:Value)(eI:∀b,dK val=some b->w.heap.size<=b/\b<w'.heap.size)
 (uU:aF M (aM φ fr val) (H.put [(fr,obj)]) w' fr):ao M (aM φ fr val) (H.put [(fr,obj)]) w':=by
 have ht:Trans φ H w (aM φ fr val) (H.put [(fr,obj)]) w':=cT hk cC obj val fun b hb=>(eI b hb).1
 refine hH.of ht (· =fr) (fun id h=>h ▸ uU) (fun id h=> ?_) (fun id h=> ?_) (fun i j b hi hj bi bj=> ?_) (fun b=> ?_)
 ·refine⟨by simp[h],by simp[h],fun hl b hb=>hk.block b ?_ (fun h=>h)⟩
  exact(hH.ours b ⟨id,hl,hb⟩).2
 ·rw[df]at h
  have h1:id≠fr:=fun e=>h (.inr e)
  simp only[ba,aC,h1,if_false]
  exact hH.fresh id fun hu=>h (.inl hu)
 ·by_cases e1:i=fr<;>by_cases e2:j=fr
  ·exact e1.trans e2.symm
  ·simp[e1,e2]at hi hj bi bj
   have:=(hH.ours b ⟨j,hj,bj⟩).2;have:=(eI b bi).1;omega
  ·simp[e1,e2]at hi hj bi bj
   have:=(hH.ours b ⟨i,hi,bi⟩).2;have:=(eI b bj).1;omega
  ·simp[e1,e2]at hi hj bi bj
   exact hH.apart i j b hi hj bi bj
 ·rintro⟨id,h1,h2⟩
  by_cases aq:id=fr
  ·subst aq;simp at h2;exact(eI b h2).2
  ·simp[aq]at h1 h2
   exact Nat.lt_of_lt_of_le (hH.ours b ⟨id,h1,h2⟩).2 hk.size
theorem bH(w:World)(o:Obj):dy (fun _=>False) w (w.alloc o):=
 ⟨rfl,rfl,rfl,aK,fun k hk _=>RowKit.Below.heap_alloc w o k hk⟩
theorem jw{w w':World}(h:w.grownBy w' none):dy (fun _=>False) w w':=
 ⟨h.os,h.tape,h.output,h.size,fun k hk _=>h.block k hk aK⟩
theorem Hj(hH:ao M φ H w){fr:Nat}(cC: ¬H.us fr)(cs:List V)(da:Array Value)(ty:TypeId)(hd:V.az (ai M φ H) φ H w cs da.toList)(hf:Flat da.toList):
 let aA:=aM φ fr (.pointer (some ⟨w.heap.size,0,none⟩));let H':=H.put [(fr, .row cs)];let w':=w.alloc (.cells da ty)
 ao M aA H' w'/\Trans φ H w aA H' w'/\V.den (ai M aA H') aA H' w' (.ptr fr 0) (.pointer (some ⟨w.heap.size,0,none⟩)):=by
 intro aA H' w'
 have hv:∀b,dK (.pointer (some ⟨w.heap.size,0,none⟩))=some b->w.heap.size<=b/\b<w'.heap.size:=by
  intro b hb;simp[dK]at hb;subst hb;simp[w']
 have ht:Trans φ H w aA H' w':=cT (bH w _) cC _ _ fun b hb=>(hv b hb).1
 refine⟨fM hH (bH w _) cC _ _ hv ?_,ht,rfl,by simp[H'],fun _=>⟨w.heap.size,by simp[aA],rfl⟩⟩
 unfold aF
 simp only[ba,aC,if_true]
 exact⟨w.heap.size,da,ty,rfl,heap_alloc_new w _,V.aI ht cs _ hd,hf⟩
theorem eu{id:Nat}(ed:H.us id){b:Nat}(cw:(H.o id).live=true)(hb:dK (φ id)=some b)(hk:dy (· =b) w w')(obj:aa)(cn:obj.bI=(H.o id).bI)(qT:obj.bL=(H.o id).bL):
 Trans φ H w φ (H.put [(id,obj)]) w' where
 keep:=⟨hk.os,hk.tape,hk.output,hk.size,fun k h hl=>hk.block k h (fun e=>hl ⟨id,cw,e ▸ hb⟩)⟩
 grow b':=by
  rintro⟨j,h1,h2⟩
  by_cases hj:j=id
  ·subst hj;exact .inl ⟨j,cw,h2⟩
  ·simp[hj]at h1;exact .inl ⟨j,h1,h2⟩
 rel:={
  us:=fun j h=>by simp[h]
  row:=fun j hu hr=>by
   by_cases hj:j=id
   ·subst hj;simp at hr;exact⟨cn ▸ hr,rfl⟩
   ·exact Em
  ep:=fun j e' hu he=>by
   by_cases hj:j=id
   ·subst hj;simp at he;exact⟨e',qT ▸ he,Nat.le_refl _,fun _=>rfl⟩
   ·simp[hj]at he;exact⟨e',he,Nat.le_refl _,fun _=>rfl⟩}
theorem gD(hH:ao M φ H w){id:Nat}(ed:H.us id){b:Nat}(cw:(H.o id).live=true)(hb:dK (φ id)=some b)(hk:dy (· =b) w w')(obj:aa)(cn:obj.bI=(H.o id).bI)
 (qT:obj.bL=(H.o id).bL) (uU:aF M φ (H.put [(id,obj)]) w' id):ao M φ (H.put [(id,obj)]) w':=by
 refine hH.of (eu ed cw hb hk obj cn qT) (· =id) (fun j h=>h ▸ uU) (fun j h=> ?_) (fun j h=> ?_) (fun i j b' hi hj bi bj=> ?_) (fun b'=> ?_)
 ·refine⟨by simp[h],rfl,fun hl b' Ex=>hk.block b' (hH.ours b' ⟨j,hl,Ex⟩).2 fun e=>h ?_⟩
  exact hH.apart j id b hl cw (e ▸ Ex) hb
 ·rw[df]at h
  have h1:j≠id:=fun e=>h (.inr e)
  exact L2
 ·refine hH.apart i j b' ?_ ?_ bi bj
  ·by_cases e:i=id
   ·subst e;exact cw
   ·simpa[e]using hi
  ·by_cases e:j=id
   ·subst e;exact cw
   ·simpa[e]using hj
 ·rintro⟨j,h1,h2⟩
  refine Nat.lt_of_lt_of_le (hH.ours b' ⟨j, ?_,h2⟩).2 hk.size
  by_cases e:j=id
  ·subst e;exact cw
  ·simpa[e]using h1
theorem iD(w:World)(b:Nat)(cs:Array Value):dy (· =b) w (w.setRow b cs):=
 ⟨rfl,rfl,rfl,aK,fun k _ hk=>by
  unfold World.setRow
  simp only[Array.getElem?_modify]
  rw[if_neg (fun e=>hk e.symm)]⟩
theorem w6(hH:ao M φ H w){id b:Nat}(ed:H.us id){cs cs':List V}(ho:H.o id= .row cs)(dT:φ id= .pointer (some ⟨b,0,none⟩)){da:Array Value}{ty:TypeId}
 (hb:w.heap[b]? =some (.cells da ty (0,0))) (m5:Array Value) (hd:V.az (ai M φ H) φ H w cs' m5.toList) (hf:Flat m5.toList):
 ao M φ (H.put [(id, .row cs')]) (w.setRow b m5)/\Trans φ H w φ (H.put [(id, .row cs')]) (w.setRow b m5):=by
 have hl:(H.o id).live=true:=by rw[ho];rfl
 have qS:dK (φ id)=some b:=by rw[dT];rfl
 have ht:Trans φ H w φ (H.put [(id, .row cs')]) (w.setRow b m5):=eu ed hl qS (iD w b m5) _ dw dw
 refine⟨gD hH ed hl qS (iD w b m5) _ dw dw ?_,ht⟩
 unfold aF
 simp only[ba,aC,if_true]
 exact⟨b,m5,ty,dT,setRow_heap w b da m5 ty (0,0) hb,V.aI ht cs' _ hd,hf⟩
theorem m6{B:Nat->Prop}{sz g:Nat}(cur:Array Value)(ty:TypeId)(fz:Nat×Nat)(hg:w.heap[g]? =some (.cells cur ty fz))(hB: ¬B g):
 ∀ (es:List D) (evs:List Value) (i:Nat),D.az B w es evs->(∀ev∈evs,ev.cells.size=sz)->(∀j u,(evs.flatMap (·.cells.toList))[j]? =some u->cur[i*sz+j]? =some u)->D.elems B w sz ⟨g,0,none⟩ i es
 |[],_,_,_,_,_=>trivial
 |e::es,_,i,h,hs,hc=>by
  obtain⟨ev,evs,rfl,h1,h2⟩:=h
  have dn:ev.cells.size=sz:=hs ev aK
  refine⟨⟨ev,dn,fun j u hj=> ?_,h1⟩,m6 cur ty fz hg hB es evs (i+1) h2 (fun x hx=>hs x pw) fun j u hj=> ?_⟩
  ·have bQ:j<ev.cells.size:=(Array.getElem?_eq_some_iff.1 hj).1
   have:cur[i*sz+j]? =some u:=hc j u (by
    rw[List.flatMap_cons,List.getElem?_append_left (by simpa using bQ)];simpa using hj)
   refine⟨?_,by simpa using hB⟩
   unfold Addr.add World.cell?
   by_cases e1:i*sz=0<;>by_cases e2:j=0<;>simp_all
  ·have:=hc (sz+j) u (by
    rw[List.flatMap_cons,List.getElem?_append_right (by simp[dn])]
    simpa[dn]using hj)
   rw[show(i+1)*sz+j=i*sz+(sz+j) by rw[Nat.add_mul];omega]
   exact this
theorem Hk(hH:ao M φ H w){id ep sz:Nat}{ty:TypeId}{es:List D}(ed:H.us id)(ho:H.o id= .arr ep ty sz es):
 ao M φ (H.put [(id, .qo ep es)]) w/\Trans φ H w φ (H.put [(id, .qo ep es)]) w:=by
 have Cs:∀b,cu φ (H.put [(id, .qo ep es)]) b->cu φ H b:=by
  rintro b ⟨j,h1,h2⟩
  by_cases hj:j=id
  ·subst hj;simp[aa.live]at h1
  ·simp[hj]at h1;exact⟨j,h1,h2⟩
 have ht:Trans φ H w φ (H.put [(id, .qo ep es)]) w:={
  keep:=dy.refl _ _
  grow:=fun b hb=> .inl (Cs b hb)
  rel:={
   us:=fun j h=>by simp[h]
   row:=fun j hu hr=>by
    by_cases hj:j=id
    ·subst hj;simp[aa.bI]at hr
    ·exact Em
   ep:=fun j e' hu he=>by
    by_cases hj:j=id
    ·subst hj;simp[aa.bL]at he;subst he;exact⟨ep,by rw[ho];rfl,Nat.le_refl _,fun _=>rfl⟩
    ·simp[hj]at he;exact⟨e',he,Nat.le_refl _,fun _=>rfl⟩}}
 refine⟨hH.of ht (· =id) (fun j h=> ?_) (fun j h=>⟨by simp[h],rfl,fun _ _ _=>rfl⟩) (fun j h=> ?_) (fun i j b hi hj bi bj=> ?_) (fun b hb=>(hH.ours b (Cs b hb)).2),ht⟩
 ·subst h
  have aP:=hH.ok j
  unfold aF at aP|-
  simp only[ho,ba,aC,if_true]at aP|-
  obtain⟨h0,xs,⟨hl,cn⟩,evs,rfl,h2,h3⟩:=aP
  have hlen:=D.au _ _ h3
  rcases cn with⟨h4,h5⟩|⟨g,cap,cur,h4,_,h5,h6,h7,h8,h9⟩
  ·rw[h4]
   have:es=[]:=by simpa using h5
   subst this
   exact Q1
  ·rw[h4]
   refine⟨some ⟨g,0,none⟩,es.length,cap,rfl,rfl,h6,(fun h=>by cases h),sz,fun a ha=> ?_⟩
   injection ha with ha;subst ha
   refine⟨fun _=>rfl,m6 cur ty (0,0) h5 ?_ es evs 0 (D.aI (ht.blocks (M:=M)) es evs h3) h2 fun j' u DN=> ?_⟩
   ·rintro(hM|⟨i,Hl,R3⟩)
    ·exact(hH.ours g ⟨j,by rw[ho];rfl,by rw[h4];rfl⟩).1 hM
    ·by_cases e:i=j
     ·subst e;simp[aa.live]at Hl
     ·simp[e]at Hl
      exact e (hH.apart i j g Hl dw R3 (by rw[h4];rfl))
   ·rw[<- h9]at DN
    simp only[Nat.zero_mul,Nat.zero_add]
    rw[List.getElem?_take]at DN
    split at DN
    ·simpa using DN
    ·cases DN
 ·rw[df]at h
  have h1:j≠id:=fun e=>h (.inr e)
  exact L2
 ·by_cases e1:i=id
  ·subst e1;simp[aa.live]at hi
  ·by_cases e2:j=id
   ·subst e2;simp[aa.live]at hj
   ·simp[e1,e2]at hi hj;exact hH.apart i j b hi hj bi bj
theorem Bc(hH:ao M φ H w){id:Nat}{kt vt:TypeId}{l:List (D×D)}(ed:H.us id)(ho:H.o id= .map kt vt l):
 ao M φ (H.put [(id, .cO l)]) w/\Trans φ H w φ (H.put [(id, .cO l)]) w:=by
 have Cs:∀b,cu φ (H.put [(id, .cO l)]) b->cu φ H b:=by
  rintro b ⟨j,h1,h2⟩
  by_cases hj:j=id
  ·subst hj;simp[aa.live]at h1
  ·simp[hj]at h1;exact⟨j,h1,h2⟩
 have ht:Trans φ H w φ (H.put [(id, .cO l)]) w:={
  keep:=dy.refl _ _
  grow:=fun b hb=> .inl (Cs b hb)
  rel:={
   us:=fun j h=>by simp[h]
   row:=fun j hu hr=>by
    by_cases hj:j=id
    ·subst hj;exact⟨by rw[ho];rfl,rfl⟩
    ·exact Em
   ep:=fun j e' hu he=>by
    by_cases hj:j=id
    ·subst hj;simp[aa.bL]at he
    ·simp[hj]at he;exact⟨e',he,Nat.le_refl _,fun _=>rfl⟩}}
 refine⟨hH.of ht (· =id) (fun j h=> ?_) (fun j h=>⟨by simp[h],rfl,fun _ _ _=>rfl⟩) (fun j h=> ?_) (fun i j b hi hj bi bj=> ?_) (fun b hb=>(hH.ours b (Cs b hb)).2),ht⟩
 ·subst h
  have aP:=hH.ok j
  unfold aF at aP|-
  simp only[ho,ba,aC,if_true]at aP|-
  obtain⟨b,es,clock,h1,h2,h3,h4⟩:=aP
  refine⟨b,es,clock,h1,h2, ?_,h3,aB.mono (ht.blocks (M:=M)) _ _ h4⟩
  rintro(hM|⟨i,Hl,R3⟩)
  ·exact(hH.ours b ⟨j,by rw[ho];rfl,by rw[h1];rfl⟩).1 hM
  ·by_cases e:i=j
   ·subst e;simp[aa.live]at Hl
   ·simp[e]at Hl
    exact e (hH.apart i j b Hl dw R3 tp)
 ·rw[df]at h
  have h1:j≠id:=fun e=>h (.inr e)
  exact L2
 ·by_cases e1:i=id
  ·subst e1;simp[aa.live]at hi
  ·by_cases e2:j=id
   ·subst e2;simp[aa.live]at hj
   ·simp[e1,e2]at hi hj;exact hH.apart i j b hi hj bi bj
end
end
section
def bY(M:Nat->Prop)(φ:Place)(H:Hp)(w:World)(fr:Nat)(r:Result Next)(K:V->List (Nat×aa)->List Nat->Prop):Prop:=
 ∃nx val w' aA v Δ rd,K v Δ rd/\r= .ok nx w'/\(nx= .value val\/nx= .skip/\val=undef)/\ao M aA (H.put Δ) w'/\Trans φ H w aA (H.put Δ) w'/\
  V.den (ai M aA (H.put Δ)) aA (H.put Δ) w' v val/\(∀id∈Δ.map (·.1),H.us id\/id=fr)
section
variable {P:Program}{M:Nat->Prop}{φ:Place}{H:Hp}{w:World}{fr:Nat}{K:V->List (Nat×aa)->List Nat->Prop}
theorem bY.same (hH:ao M φ H w){r:Result Next}{v:V}{rd:List Nat}(val:Value)(hK:K v [] rd)(hr:r= .ok (.value val) w)(hd:V.den (ai M φ H) φ H w v val):bY M φ H w fr r K:=
 ⟨_,val,w,φ,v,[],rd,hK,hr, .inl rfl,by rw[lA];exact hH,by rw[lA];exact Trans.refl _ _ _,by rw[lA];exact hd,aK⟩
theorem bY.mono {r:Result Next}{K':V->List (Nat×aa)->List Nat->Prop}(h:bY M φ H w fr r K)(hk:∀v Δ rd,K v Δ rd->K' v Δ rd):bY M φ H w fr r K':=by
 obtain⟨nx,val,w',aA,v,Δ,rd,h1,h2⟩:=h
 exact⟨nx,val,w',aA,v,Δ,rd,hk _ _ _ h1,h2⟩
theorem info_of_underlying{t:TypeId}{d:TypeDesc}(h:P.underlying t=some d):∃i,P.info? t=some i:=by
 unfold Program.underlying at h
 cases hi:P.info? t with
 |none=>simp[hi]at h
 |some i=>exact⟨i,rfl⟩
theorem br{t:TypeId}{i:TypeInfo}(h:P.info? t=some i):P.cellsOf t=i.size:=by simp[Program.cellsOf,h]
theorem jx{t:TypeId}{i:TypeInfo}(h:P.info? t=some i):P.bytesOf t=i.bytes:=by simp[Program.bytesOf,h]
theorem gV{t:TypeId}{z:List V}(h:cN P t=some z):∃i v,P.info? t=some i/\i.zero=some v/\v.cells.size=i.size/\Flat v.cells.toList/\z=v.cells.toList.map V.cG:=by
 unfold cN at h
 cases hi:P.info? t with
 |none=>simp[hi]at h
 |some i=>
  simp only[hi]at h
  cases hz:i.zero with
  |none=>simp[hz]at h
  |some v=>
   simp only[hz]at h
   split at h
   ·rename_i hc
    injection h with h
    exact⟨i,v,rfl,hz,hc.1,fun u hu=>List.all_eq_true.1 hc.2 u hu,h.symm⟩
   ·cases h
theorem oI{t:TypeId}(h:dc P t=some true)(w:World):(isAgg t).run P w= .ok true w:=by
 unfold dc at h
 unfold isAgg
 cases hd:P.underlying t with
 |none=>simp[hd]at h
 |some d=>cases d<;>simp_all[run_underlying hd]
theorem mj{t:TypeId}(h:dc P t=some false)(w:World):(isAgg t).run P w= .ok false w:=by
 unfold dc at h
 unfold isAgg
 cases hd:P.underlying t with
 |none=>simp[hd]at h
 |some d=>cases d<;>simp_all[run_underlying hd]
theorem cU{t:TypeId}{i:TypeInfo}(h:P.info? t=some i)(w:World):(sizeOf t).run P w= .ok (P.cellsOf t) w:=by
 simp[sizeOf,typeInfo,h,br h]
theorem oJ{t:TypeId}{b:Bool}(h:dc P t=some b):∃i,P.info? t=some i:=by
 unfold dc at h
 cases hd:P.underlying t with
 |none=>simp[hd]at h
 |some d=>exact info_of_underlying hd
theorem aT{t e:TypeId}(h:bJ P t=some e):P.underlying t=some (.slice e):=by
 unfold bJ at h
 cases hd:P.underlying t with
 |none=>simp[hd]at h
 |some d=>cases d<;>simp_all
theorem tA{t e:TypeId}{n:Nat}(h:wS P t=some (n,e)):P.underlying t=some (.array n e):=by
 unfold wS at h
 cases hd:P.underlying t with
 |none=>simp[hd]at h
 |some d=>cases d<;>simp_all
theorem add_zero(a:Addr):a.add 0=a:=by simp[Addr.add]
theorem add_plain(b o j:Nat):(⟨b,o,none⟩:Addr).add j=⟨b,o+j,none⟩:=by
 unfold Addr.add;split
 ·rename_i h;subst h;rfl
 ·rfl
theorem add_add(a:Addr)(h:a.spot=none)(m n:Nat):(a.add m).add n=a.add (m+n):=by
 obtain⟨b,o,s⟩:=a
 simp only at h;subst h
 simp only[add_plain,Nat.add_assoc]
theorem w7(a:Addr)(h:a.spot=none)(m:Nat):(a.add m).spot=none:=by
 unfold Addr.add;split<;>first|exact h|rfl
theorem ku(s:S)(a:Act)(dp:∀i,V.den (ai M φ H) φ H w (s.env i) (a.tmps.getD i undef))(x:Operand):V.den (ai M φ H) φ H w (s.ev x) (a.eval x):=by
 cases x with
 |tmp t=>exact dp t
 |func f=>exact⟨#[],#[],rfl,rfl,rfl⟩
 |global g=>trivial
 |const v=>
  cases v with
  |agg c=>
   simp only[S.ev,V.ofConst,Act.eval]
   split
   ·rename_i hc
    have hf:Flat c.toList:=fun u hu=>List.all_eq_true.1 hc u hu
    exact ji _ _ (cS _ hf) hf
   ·trivial
  |tuple _=>trivial
  |_=>simp only[S.ev,V.ofConst,Act.eval];exact jv _ (by rfl)
theorem iE(s:S)(a:Act)(dp:∀i,V.den (ai M φ H) φ H w (s.env i) (a.tmps.getD i undef)):∀ (xs:List Operand),V.az (ai M φ H) φ H w (xs.map s.ev) (xs.map a.eval)
 |[]=>rfl
 |x::xs=>⟨a.eval x,xs.map a.eval,rfl,ku s a dp x,iE s a dp xs⟩
theorem kx{t:TypeId}(a:Addr)(us:List Value)(hc:∀j u,us[j]? =some u->w.cell? (a.add j)=some u):
 (dc P t=some true->us.length=P.cellsOf t->(Instr.loadAt t (.pointer (some a))).run P w= .ok (.agg us.toArray) w)/\
 (dc P t=some false->∀u,us[0]? =some u->(Instr.loadAt t (.pointer (some a))).run P w= .ok u w):=by
 constructor
 ·intro h hl
  obtain⟨i,hi⟩:=oJ h
  have h1:=run_loadCells_list (P:=P) w a us hc
  rw[hl]at h1
  simp[Instr.loadAt,Instr.sureAddr,loadVar,oI h,cU hi,h1]
 ·intro h u hu
  have h1:=hc 0 u hu
  rw[add_zero]at h1
  simp[Instr.loadAt,Instr.sureAddr,loadVar,mj h,h1]
theorem m7{t:TypeId}{cs:List V}{off:Nat}{v:V}(hg:dG P t cs off=some v)(a:Addr)(vs:List Value)(hd:V.az (ai M φ H) φ H w cs vs)(hf:Flat vs)
 (hc:∀j u,vs[j]? =some u->w.cell? (a.add j)=some u) (ha:a.spot=none):∃val,(Instr.loadAt t (.pointer (some (a.add off)))).run P w= .ok val w/\V.den (ai M φ H) φ H w v val:=by
 have hlen:=V.au _ _ hd
 unfold dG at hg
 cases zm:dc P t with
 |none=>simp[zm]at hg
 |some b=>
  cases b with
  |true=>
   simp only[zm]at hg
   split at hg
   ·rename_i hle
    injection hg with hg;subst hg
    refine⟨.agg ((vs.drop off).take (P.cellsOf t)).toArray,(kx (P:=P) (t:=t) (a.add off) ((vs.drop off).take (P.cellsOf t)) ?_).1 zm tt, ?_⟩
    ·intro j u hj
     rw[add_add a ha]
     rw[List.getElem?_take]at hj
     split at hj
     ·exact hc _ _ ki
     ·cases hj
    ·refine ji _ _ ?_ ?_
     ·exact V.b9 _ _ _ (V.dv _ _ _ hd)
     ·intro u hu
      exact hf u (List.mem_of_mem_drop (List.mem_of_mem_take (by simpa using hu)))
   ·cases hg
  |false=>
   simp only[zm]at hg
   obtain⟨u,hu,Hm⟩:=V.cF _ _ _ _ hd hg
   refine⟨u,(kx (P:=P) (t:=t) (a.add off) (vs.drop off) ?_).2 zm u (by simpa using hu),Hm⟩
   intro j x hj
   rw[add_add a ha]
   exact hc _ _ ki
theorem ky(sz:Nat):∀ (evs:List Value) (i j:Nat) (ev:Value) (u:Value),(∀x∈evs,x.cells.size=sz)->evs[i]? =some ev->ev.cells[j]? =some u->
 (evs.flatMap (·.cells.toList))[i*sz+j]? =some u
 |[],_,_,_,_,_,h,_=>by simp at h
 |e::evs,0,j,ev,u,hs,h,hu=>by
  simp at h;subst h
  have:j<e.cells.size:=(Array.getElem?_eq_some_iff.1 hu).1
  rw[List.flatMap_cons,List.getElem?_append_left (by simp;omega)]
  simpa using hu
 |e::evs,i+1,j,ev,u,hs,h,hu=>by
  have ih:=ky sz evs i j ev u (fun x hx=>hs x pw) (by simpa using h) hu
  rw[List.flatMap_cons,List.getElem?_append_right (by simp[hs e (by simp),Nat.add_mul];omega)]
  simp only[Array.length_toList,hs e (by simp)]
  rw[show(i+1)*sz+j - sz=i*sz+j by rw[Nat.add_mul];omega]
  exact ih
theorem m8{g:Nat}{da:Array Value}{ty:TypeId}{fz:Nat×Nat}(h:w.heap[g]? =some (.cells da ty fz))(j:Nat)(u:Value)(hu:da[j]? =some u):w.cell? ((⟨g,0,none⟩:Addr).add j)=some u:=by
 rw[add_plain,Nat.zero_add,cell_of_row w g j da ty fz h];exact hu
theorem Ey{B:Nat->Prop}{ty:TypeId}{sz:Nat}{es:List D}{v:Value}{b n c i:Nat}{e:D}
 (aP:0<sz/\∃xs,w.ownsRow 0 ty sz v es.length xs/\dF B w sz es xs) (hv:v= .slice (some ⟨b,0,none⟩) n c) (he:es[i]? =some e):
 ∃ev:Value,ev.cells.size=sz/\D.az B w e.cells ev.cells.toList/\Flat ev.cells.toList/\(∀j u,ev.cells.toList[j]? =some u->w.cell? ((⟨b,i*sz,none⟩:Addr).add j)=some u):=by
 obtain⟨h0,xs,⟨hl,cn⟩,evs,rfl,h2,h3⟩:=aP
 obtain⟨ev,cH,hd⟩:=D.cF _ _ _ _ h3 he
 have L8:=D.dO _ _ hd
 refine⟨ev,h2 ev (List.mem_of_getElem? cH),L8.1,L8.2,fun j u hj=> ?_⟩
 subst hv
 rcases cn with⟨h4,_⟩|⟨g,cap,cur,h4,_,h5,h6,h7,h8,h9⟩
 ·simp at h4
 ·simp at h4;obtain⟨rfl,_,rfl⟩:=h4
  have:=ky sz evs i j ev u h2 cH ki
  rw[<- h9,List.getElem?_take]at this
  split at this
  ·have Jz:=m8 h5 (i*sz+j) u (by simpa using this)
   rw[add_plain]at Jz|-
   simpa using Jz
  ·cases this
theorem Ez(hH:ao M φ H w){t:TypeId}{x:V}{xv:Value}(hx:V.den (ai M φ H) φ H w x xv)
 (h:wU P H.o t x fun v rd=>K v [] rd):bY M φ H w fr ((do let y <- Instr.loadAt t xv;pure (Next.value y):Sem Next).run P w) K:=by
 have fin:∀ (v:V) rd,K v [] rd->(∃val,(Instr.loadAt t xv).run P w= .ok val w/\V.den (ai M φ H) φ H w v val)->bY M φ H w fr ((do let y <- Instr.loadAt t xv;pure (Next.value y):Sem Next).run P w) K:=by
  rintro v rd hK ⟨val,h1,h2⟩
  exact bY.same hH val hK (by simp[h1]) h2
 unfold wU at h
 split at h
 ·rename_i id off
  split at h
  ·rename_i cs ho
   obtain⟨v,h1,hK⟩:=h
   obtain⟨_,hu,hp⟩:=hx
   obtain⟨b,dT,rfl⟩:=hp dw
   have aP:=hH.ok id
   simp only[aF,ho]at aP
   obtain⟨b',da,ty,g1,g2,g3,g4⟩:=aP
   rw[dT]at g1;simp at g1;subst g1
   refine fin v _ hK ?_
   have:=m7 (P:=P) h1 ⟨b,0,none⟩ da.toList g3 g4 (fun j u hj=>m8 g2 j u ki) rfl
   rwa [add_plain,Nat.zero_add]at this
  ·exact h.elim
 ·rename_i cs off
  obtain⟨v,h1,hK⟩:=h
  obtain⟨a,ev,ha,rfl,hd,hf,hc⟩:=hx
  exact fin v _ hK (m7 h1 a ev ((V.bS _ _).2 hd) hf (fun j u hj=>(hc j u ki).1) ha)
 ·rename_i id ep i sz off
  split at h
  ·rename_i fK ty om es ho
   obtain⟨rfl,rfl,e,he,v,h1,hK⟩:=h
   obtain⟨_,hu,hp⟩:=hx
   obtain⟨b,n,c,dT,rfl⟩:=(hp ep dw).2 rfl
   have aP:=hH.ok id
   simp only[aF,ho]at aP
   obtain⟨ev,g1,g2,g3,g4⟩:=Ey aP dT he
   refine fin v _ hK ?_
   have:=m7 (P:=P) h1 ⟨b,i*sz,none⟩ ev.cells.toList ((V.bS _ _).2 g2) g3 g4 rfl
   rwa [add_plain]at this
  ·exact h.elim
 ·exact h.elim
end
end
section
section
variable {P:Program}{M:Nat->Prop}{φ:Place}{H:Hp}{w:World}{fr:Nat}{K:V->List (Nat×aa)->List Nat->Prop}
theorem bY.plain (hH:ao M φ H w){s:Sem Value}{v:V}{rd:List Nat}(val:Value)(hK:K v [] rd)(hr:s.run P w= .ok val w)(hd:V.den (ai M φ H) φ H w v val):
 bY M φ H w fr ((do let y <- s;pure (Next.value y):Sem Next).run P w) K:=bY.same hH val hK (by simp[hr]) hd
theorem w8{t:TypeId}{f q:Nat}(h:bR P t f=some q):∃fs fd,P.underlying t=some (.struct fs)/\fs[f]? =some fd/\P.cellsOf fd.type≠0/\fd.offset=q:=by
 unfold bR at h
 cases hd:P.underlying t with
 |none=>simp[hd]at h
 |some d=>
  cases d<;>simp only[hd]at h<;>try (cases h;done)
  rename_i fs
  cases hf:fs[f]? with
  |none=>simp[hf]at h
  |some fd=>
   simp only[hf]at h
   split at h
   ·cases h
   ·injection h with h
    exact⟨fs,fd,rfl,hf,by assumption,h⟩
theorem w9{t:TypeId}{f q:Nat}(h:bR P t f=some q)(a:Addr):(Instr.fieldAt t (.pointer (some a)) f).run P w= .ok (.pointer (some (a.add q))) w:=by
 obtain⟨fs,fd,h1,h2,h3,rfl⟩:=w8 h
 have:∃i,P.info? fd.type=some i:=by
  cases hi:P.info? fd.type with
  |none=>simp[Program.cellsOf,hi]at h3
  |some i=>exact⟨i,rfl⟩
 obtain⟨i,hi⟩:=this
 simp[Instr.fieldAt,run_underlying h1,h2,Instr.sureAddr,fieldPlace,cU hi,h3]
def V.step (x:V)(q:Nat):Option V:=
 match x with
 | .ptr id off=>some (.ptr id (off+q))
 | .pp cs off=>some (.pp cs (off+q))
 | .pe id ep j sz off=>some (.pe id ep j sz (off+q))
 |_=>none
def V.place (o:Nat->aa):V->Prop
 | .ptr id _=>(o id).bI=true
 | .pe id ep _ _ _=>(o id).bL=some ep
 |_=>True
theorem xa{x y:V}{q:Nat}(h:x.step q=some y){xv:Value}(hx:V.den (ai M φ H) φ H w x xv)
 (hr:x.place H.o):
 ∃a,xv= .pointer (some a)/\V.den (ai M φ H) φ H w y (.pointer (some (a.add q))):=by
 cases x with
 |ptr id off=>
  simp only[V.step,Option.some.injEq]at h;subst h
  obtain⟨h1,h2,h3⟩:=hx
  obtain⟨b,h4,rfl⟩:=h3 hr
  exact⟨_,rfl,rfl,h2,fun _=>⟨b,h4,by rw[add_plain]⟩⟩
 |pp cs off=>
  simp only[V.step,Option.some.injEq]at h;subst h
  obtain⟨a,ev,ha,rfl,hd⟩:=hx
  exact⟨_,rfl,a,ev,ha,by rw[add_add a ha],hd⟩
 |pe id ep j sz off=>
  simp only[V.step,Option.some.injEq]at h;subst h
  obtain⟨h1,h2,h3⟩:=hx
  obtain⟨b,n,c,h4,rfl⟩:=(h3 ep hr).2 rfl
  refine⟨_,rfl,rfl,h2,fun e he=>⟨(h3 e he).1,fun heq=>⟨b,n,c,h4,by rw[add_plain,Nat.add_assoc]⟩⟩⟩
 |_=>simp[V.step]at h
theorem sU(hH:ao M φ H w){t:TypeId}{f:Nat}{x:V}{xv:Value}(hx:V.den (ai M φ H) φ H w x xv)(h:gQ P H.o t x f fun v=>K v [] []):
 bY M φ H w fr ((do let y <- Instr.fieldAt t xv f;pure (Next.value y):Sem Next).run P w) K:=by
 have fin:∀ (y:V) q,bR P t f=some q->x.step q=some y->x.place H.o->K y [] []->
  bY M φ H w fr ((do let y <- Instr.fieldAt t xv f;pure (Next.value y):Sem Next).run P w) K:=by
  intro y q hq hs hr hK
  obtain⟨a,rfl,hd⟩:=xa hs hx hr
  exact bY.plain hH _ hK (w9 hq a) hd
 unfold gQ at h
 split at h
 ·rename_i q hq
  split at h
  ·exact fin _ q hq rfl h.1 h.2
  ·exact fin _ q hq rfl trivial h
  ·exact fin _ q hq rfl h.1 h.2
  ·exact h.elim
 ·exact h.elim
theorem zo{B:Nat->Prop}{es:List D}{xv:Value}(hx:D.den B w (.sl es) xv){i:Nat}{y:D}(hy:es[i]? =some y):
 ∃a len cap ev,xv= .slice (some a) len cap/\i<len/\a.spot=none/\D.az B w y.cells ev/\Flat ev/\eP B w (a.add (i*y.cells.length)) ev.toArray/\len=es.length:=by
 obtain⟨base,len,cap,rfl,rfl,h2,h3,sz,h4⟩:=hx
 have bQ:i<es.length:=(List.getElem?_eq_some_iff.1 hy).1
 cases base with
 |none=>have:=h3 rfl;omega
 |some a=>
  obtain⟨h5,h6⟩:=h4 a rfl
  obtain⟨ev,h7,h8,h9⟩:=D.tv es 0 i y h6 hy
  have Jz:=D.dO _ _ h9
  have h11:y.cells.length=sz:=by rw[<- h7, <- D.au _ _ Jz.1];simp
  refine⟨a,es.length,cap,ev.cells.toList,rfl,bQ,h5 af,Jz.1,Jz.2, ?_,rfl⟩
  rw[h11]
  simpa using h8
theorem l0{t e:TypeId}(ht:bJ P t=some e)(a:Addr)(len cap:Nat)(k:IntKind)(i:Int)(h0:0<=i)(h1:i.toNat<len)(hc:0<P.cellsOf e):
 (Instr.indexAt t (.slice (some a) len cap) (.int k i)).run P w= .ok (.pointer (some (a.add (i.toNat*P.cellsOf e)))) w:=by
 have hu:=aT ht
 have:∃ie,P.info? e=some ie:=by
  cases hi:P.info? e with
  |none=>simp[Program.cellsOf,hi]at hc
  |some i=>exact⟨i,rfl⟩
 obtain⟨ie,hi⟩:=this
 have h2:0<=i/\i<(len:Int):=⟨h0,af⟩
 simp[Instr.indexAt,run_underlying hu,asIntOf,h2,cU hi]
theorem sV{t e:TypeId}{n:Nat}(ht:wS P t=some (n,e))(a:Addr)(k:IntKind)(i:Int)(h0:0<=i)(h1:i<n)(hi:∃ie,P.info? e=some ie):
 (Instr.indexAt t (.pointer (some a)) (.int k i)).run P w= .ok (.pointer (some (a.add (i.toNat*P.cellsOf e)))) w:=by
 have hu:=tA ht
 obtain⟨ie,hi⟩:=hi
 have h2:0<=i/\i<(n:Int):=⟨h0,h1⟩
 simp[Instr.indexAt,run_underlying hu,asIntOf,Instr.sureAddr,h2,cU hi]
theorem sW(hH:ao M φ H w){t:TypeId}{x ix:V}{xv iv:Value}(hx:V.den (ai M φ H) φ H w x xv)(hi:V.den (ai M φ H) φ H w ix iv)
 (h:gP P H.o t x ix fun v rd=>K v [] rd):bY M φ H w fr ((do let y <- Instr.indexAt t xv iv;pure (Next.value y):Sem Next).run P w) K:=by
 unfold gP at h
 split at h
 ·rename_i k i
  simp only[V.den,D.den]at hi;subst hi
  have uV:∀ {e:TypeId} {es:List D} {rd},bJ P t=some e->D.den (ai M φ H) w (.sl es) xv->(0<=i/\∃y,es[i.toNat]? =some y/\y.cells.length=P.cellsOf e/\0<P.cellsOf e/\K (.pp y.cells 0) [] rd)->
   bY M φ H w fr ((do let y <- Instr.indexAt t xv (.int k i);pure (Next.value y):Sem Next).run P w) K:=by
   rintro e es rd ht hd ⟨h0,y,hy,hc,ew,hK⟩
   obtain⟨a,len,cap,ev,rfl,h1,h2,h3,h4,h5,_⟩:=zo hd hy
   refine bY.plain hH _ hK (l0 ht a len cap k i h0 h1 ew) ⟨a.add (i.toNat*P.cellsOf e),ev,w7 a h2 _,by rw[add_zero],h3,h4, ?_⟩
   rw[<- hc];exact h5
  split at h
  ·rename_i e ht
   split at h
   ·exact uV ht hx h
   ·exact uV ht hx.1 h
   ·rename_i id ep
    split at h
    ·rename_i fK ty sz es ho
     obtain⟨rfl,h0,h1,rfl,ew,hK⟩:=h
     obtain⟨Hn,ed,qT⟩:=hx
     have hv:=(qT ep dw).2 rfl
     have aP:=hH.ok id
     simp only[aF,ho]at aP
     obtain⟨h3,xs,⟨_,cn⟩,_⟩:=aP
     rcases cn with⟨_,h5⟩|⟨g,cap,cur,h4,_⟩
     ·omega
     ·subst hv
      rw[h4]
      refine bY.plain hH _ hK (l0 ht _ _ cap k i h0 h1 ew) ⟨rfl,ed,fun e' mO=>⟨(qT e' mO).1,fun heq=>⟨g,es.length,cap,h4,by rw[add_plain];simp⟩⟩⟩
    ·rename_i fK es ho
     obtain⟨rfl,h⟩:=h
     obtain⟨Hn,ed,qT⟩:=hx
     have hv:=(qT ep dw).2 rfl
     have aP:=hH.ok id
     simp only[aF,ho]at aP
     exact uV ht (hv ▸ aP) h
    ·exact h.elim
   ·exact h.elim
  ·split at h
   ·rename_i n e ht
    obtain⟨h0,h1,Xj,h⟩:=h
    have fin:∀ (y:V),x.step (i.toNat*P.cellsOf e)=some y->x.place H.o->K y [] []->
     bY M φ H w fr ((do let y <- Instr.indexAt t xv (.int k i);pure (Next.value y):Sem Next).run P w) K:=by
     intro y hs hr hK
     obtain⟨a,rfl,hd⟩:=xa hs hx hr
     refine bY.plain hH _ hK (sV ht a k i h0 h1 (Option.isSome_iff_exists.1 Xj)) hd
    split at h
    ·exact fin _ rfl h.1 h.2
    ·exact fin _ rfl trivial h
    ·exact fin _ rfl h.1 h.2
    ·exact h.elim
   ·exact h.elim
 ·exact h.elim
theorem L9(hH:ao M φ H w){op:UnOp}{x:V}{xv:Value}(hx:V.den (ai M φ H) φ H w x xv)(h:R1 op x fun v=>K v [] []):
 bY M φ H w fr ((do let y <- Op.unary op xv;pure (Next.value y):Sem Next).run P w) K:=by
 unfold R1 at h
 split at h
 ·simp only[V.den,D.den]at hx;subst hx
  exact bY.plain hH _ h (by simp[Op.unary,Op.intArith]) rfl
 ·simp only[V.den,D.den]at hx;subst hx
  exact bY.plain hH _ h (by simp[Op.unary]) rfl
 ·exact h.elim
theorem wN{op:BinOp}{k:IntKind}{a b r:Int}(h:qN op k a b=some r):(Op.intBits op k a b).run P w= .ok (.int k r) w:=by
 unfold qN at h
 cases op<;>simp at h<;>subst h<;>simp[Op.intBits]
theorem pz{t:TypeId}(hu:P.underlying t=some .bool)(a b:Bool)(d:Nat):(Op.equalIn (d+1) t (.bool a) (.bool b)).run P w= .ok (a==b) w:=by
 simp[Op.equalIn,run_underlying hu]
theorem Ho(hH:ao M φ H w){op:BinOp}{t:TypeId}{p q:Operand}{x y:V}{xv yv:Value}(hx:V.den (ai M φ H) φ H w x xv)(hy:V.den (ai M φ H) φ H w y yv)
 (h:Et P op t x y fun v=>K v [] []):
 bY M φ H w fr ((do let y <- (do eqGuard op t p q xv yv;binOp op t xv yv);pure (Next.value y):Sem Next).run P w) K:=by
 unfold Et at h
 split at h
 ·rename_i k a k' b
  obtain⟨rfl,h⟩:=h
  simp only[V.den,D.den]at hx hy;subst hx;subst hy
  have hg:(eqGuard op t p q (.int k a) (.int k b)).run P w= .ok () w:=by
   exact El
  have fin:∀ (v:V) (val:Value),K v [] []->(binOp op t (.int k a) (.int k b)).run P w= .ok val w->V.den (ai M φ H) φ H w v val->
   bY M φ H w fr ((do let y <- (do eqGuard op t p q (.int k a) (.int k b);binOp op t (.int k a) (.int k b));pure (Next.value y):Sem Next).run P w) K:=by
   intro v val hK hr hd
   exact bY.plain hH val hK (by simp[hg,hr]) hd
  cases op<;>simp only[Hg]at h
  case add=>exact fin _ _ h (by simp[binOp,Op.intArith]) rfl
  case sub=>exact fin _ _ h (by simp[binOp,Op.intArith]) rfl
  case mul=>exact fin _ _ h (by simp[binOp,Op.intArith]) rfl
  case quo=>exact fin _ _ h.2 (by simp[binOp,Op.intDiv,h.1]) rfl
  case rem=>exact fin _ _ h.2 (by simp[binOp,Op.intDiv,h.1]) rfl
  case and=>obtain⟨r,hr,hK⟩:=h;exact fin _ _ hK A0 rfl
  case or=>obtain⟨r,hr,hK⟩:=h;exact fin _ _ hK A0 rfl
  case xor=>obtain⟨r,hr,hK⟩:=h;exact fin _ _ hK A0 rfl
  case andNot=>obtain⟨r,hr,hK⟩:=h;exact fin _ _ hK A0 rfl
  all_goals
   obtain⟨r,hr,hK⟩:=h
   simp only[R0,Option.some.injEq]at hr
   subst hr
   exact fin _ _ hK (by simp[binOp,Op.intCmp];rfl) (by simp[V.den,D.den])
 ·rename_i a b
  simp only[V.den,D.den]at hx hy;subst hx;subst hy
  have hg:(eqGuard op t p q (.bool a) (.bool b)).run P w= .ok () w:=by
   exact El
  split at h
  ·obtain⟨hu,hK⟩:=h
   have h1:(Op.equal t (.bool a) (.bool b)).run P w= .ok (a==b) w:=pz hu a b 9999
   exact bY.plain hH (.bool (a==b)) hK (by simp[hg,binOp,h1]) rfl
  ·obtain⟨hu,hK⟩:=h
   have h1:(Op.equal t (.bool a) (.bool b)).run P w= .ok (a==b) w:=pz hu a b 9999
   exact bY.plain hH (.bool (a !=b)) hK (by simp[hg,binOp,h1,bne]) rfl
  ·exact h.elim
 ·rename_i a b
  obtain⟨u,rfl,rfl⟩:=hx
  obtain⟨v,rfl,rfl⟩:=hy
  have hg:(eqGuard op t p q (.string u) (.string v)).run P w= .ok () w:=by
   exact El
  split at h
  ·exact bY.plain hH (.bool (u.data.toList==v.data.toList)) h (by simp[hg,binOp,Op.stringOp,ByteArray.toList_eq]) rfl
  ·exact bY.plain hH (.bool (u.data.toList !=v.data.toList)) h (by simp[hg,binOp,Op.stringOp,ByteArray.toList_eq,bne]) rfl
  ·exact h.elim
 ·rename_i a b
  obtain⟨a',rfl,hx⟩:=hx
  obtain⟨b',rfl,hy⟩:=hy
  split at h
  ·obtain⟨r,hr,hK⟩:=h
   obtain⟨h1,h2⟩:=hr (ai M φ H) w (.agg a') (.agg b') ⟨a',rfl,hx⟩ ⟨b',rfl,hy⟩
   exact bY.plain hH (.bool r) hK (by simp[h2,binOp,h1]) rfl
  ·obtain⟨r,hr,hK⟩:=h
   obtain⟨h1,h2⟩:=hr (ai M φ H) w (.agg a') (.agg b') ⟨a',rfl,hx⟩ ⟨b',rfl,hy⟩
   exact bY.plain hH (.bool !r) hK (by simp[h2,binOp,h1]) rfl
  ·exact h.elim
 ·exact h.elim
theorem EA(hH:ao M φ H w){c a b:V}{cv av bv:Value}(hc:V.den (ai M φ H) φ H w c cv)(ha:V.den (ai M φ H) φ H w a av)(hb:V.den (ai M φ H) φ H w b bv)
 (h:wT c a b fun v=>K v [] []):bY M φ H w fr ((do pure (.value (if <- asBool cv then av else bv)):Sem Next).run P w) K:=by
 unfold wT at h
 split at h
 ·rename_i t
  simp only[V.den,D.den]at hc;subst hc
  have hr:((do pure (.value (if <- asBool (.bool t)then av else bv)):Sem Next).run P w)= .ok (.value (if t then av else bv)) w:=by simp[asBool]
  have fin:∀v,K v [] []->V.den (ai M φ H) φ H w v (if t then av else bv)->bY M φ H w fr ((do pure (.value (if <- asBool (.bool t)then av else bv)):Sem Next).run P w) K:=
   fun v hK hd=>bY.same hH _ hK hr hd
  cases t
  ·exact fin _ (h.2 rfl) (by simpa using hb)
  ·exact fin _ (h.1 rfl) (by simpa using ha)
 ·exact h.elim
theorem qp{t:TypeId}{e:TypeId}(hu:P.underlying t=some (.slice e))(base:Option Addr)(n c:Nat)(ty:TypeId):(Builtin.len_ #[t] ty #[.slice base n c]).run P w= .ok (goInt n) w:=by
 simp[Builtin.len_,run_underlying hu]
theorem Hq(hH:ao M φ H w){t ty:TypeId}{x:V}{xv:Value}(hx:V.den (ai M φ H) φ H w x xv)(h:Eu P t H.o x fun v rd=>K v [] rd):
 bY M φ H w fr ((do let y <- Builtin.len_ #[t] ty #[xv];pure (Next.value y):Sem Next).run P w) K:=by
 unfold Eu at h
 split at h
 ·rename_i e hu
  have fin:∀ {es:List D} {rd},D.den (ai M φ H) w (.sl es) xv->K (.d (.int .i64 es.length)) [] rd->bY M φ H w fr ((do let y <- Builtin.len_ #[t] ty #[xv];pure (Next.value y):Sem Next).run P w) K:=by
   rintro es rd ⟨base,len,cap,rfl,rfl,_⟩ hK
   exact bY.plain hH _ hK (qp hu _ _ _ _) rfl
  split at h
  ·exact fin hx h
  ·simp only[V.den]at hx;subst hx
   exact bY.plain hH _ h (qp hu _ _ _ _) rfl
  ·exact fin hx.1 h
  ·rename_i id ep
   split at h
   ·rename_i fK ty sz es ho
    obtain⟨rfl,hK⟩:=h
    obtain⟨Hn,ed,qT⟩:=hx
    have hv:=(qT ep dw).2 rfl
    have aP:=hH.ok id
    simp only[aF,ho]at aP
    obtain⟨h3,xs,⟨_,cn⟩,_⟩:=aP
    subst hv
    rcases cn with⟨h4,h5⟩|⟨g,cap,cur,h4,_⟩
    ·rw[h4];rw[h5]at hK;exact bY.plain hH _ hK (qp hu _ _ _ _) rfl
    ·rw[h4];exact bY.plain hH _ hK (qp hu _ _ _ _) rfl
   ·rename_i fK es ho
    obtain⟨rfl,hK⟩:=h
    obtain⟨Hn,ed,qT⟩:=hx
    have hv:=(qT ep dw).2 rfl
    have aP:=hH.ok id
    simp only[aF,ho]at aP
    exact fin (hv ▸ aP) hK
   ·exact h.elim
  ·exact h.elim
 ·rename_i hu
  split at h
  ·obtain⟨u,rfl,rfl⟩:=hx
   exact bY.plain hH (goInt u.size) h (by simp[Builtin.len_,run_underlying hu]) (by simp[V.den,D.den,goInt])
  ·exact h.elim
 ·rename_i n e hu
  exact bY.plain hH _ h (by simp[Builtin.len_,run_underlying hu];rfl) rfl
 ·exact h.elim
end
end
end Go.Proofs.YtlhemmpklhhgoaaGreat
