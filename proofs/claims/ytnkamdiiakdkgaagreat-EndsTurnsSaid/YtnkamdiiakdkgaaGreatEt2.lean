/-
  A PART OF THE PROOF. Conditions: none.
-/
import Derived.Great.BuildSlice
import Derived.Great.FillDense
import Derived.Test.YtnkamdiiakdkgaaGreatEt1
set_option linter.unusedSimpArgs false
set_option linter.unusedVariables false
namespace Go.Proofs.YtnkamdiiakdkgaaGreat
def aD{α:Type}(f:Nat->α)(i:Nat)(x:α):Nat->α:=fun j=>if j=i then x else f j
@[simp] theorem aG {α:Type} (f:Nat->α) (i:Nat) (x:α) (j:Nat):aD f i x j=if j=i then x else f j:=rfl
structure S where
 env:Nat->V
 o:Nat->ab
 nx:Nat
def S.H (s:S):Hp:=⟨s.o,fun id=>id<s.nx⟩
def V.cZ:Value->V
 | .int k n=> .d (.int k n)| .bool b=> .d (.bool b)| .string s=> .d (.str s.data.toList)
 | .nilIface=> .d .gA| .pointer none=> .d .lY| .nilFunc=> .d .bZ| .map none=> .d .hZ
 | .slice none 0 0=> .bu
 |_=> .aa
def xI:List V->Option (List D)
 |[]=>some []
 | .d x::vs=>(xI vs).map (x::·)
 |_::_=>none
def o8(cs:List V):V:=match xI cs with|some ds=> .d (.agg ds)|none=> .agg cs
def V.ofConst:Value->V
 | .agg a=>if a.toList.all Value.oneCell' then o8 (a.toList.map V.cZ)else .aa
 |v=>V.cZ v
def S.ev (s:S):Operand->V
 | .tmp t=>s.env t
 | .const v=>V.ofConst v
 | .func f=> .func (.func f) [] []
 | .global _=> .aa
def D.cells:D->List D
 | .agg cs=>cs
 |x=>[x]
def V.cells:V->Option (List V)
 | .d x=>some (x.cells.map .d)
 | .agg cs=>some cs
 | .bT _| .aa=>none
 |v=>some [v]
mutual
def dC(o:Nat->ab):V->Option D
 | .d x=>some x
 | .bu=>some (.sl [])
 | .qn es=>some (.sl es)
 | .osl id ep=>match o id with
   | .arr ig _ _ es| .rz ig es=>if ep=ig then some (.sl es)else none
   |_=>none
 | .mp id=>match o id with
   | .map _ _ l=>some (.mp (l.map (·.1)) (l.map (·.2)))
   | .gH l=>some (.mp (l.map (·.1)) (l.map (·.2)))
   |_=>none
 | .agg cs=>(bU o cs).map .agg
 | .iface t x=>(dC o x).map (.iface t)
 |_=>none
def bU(o:Nat->ab):List V->Option (List D)
 |[]=>some []
 |v::vs=>(dC o v).bind fun x=>(bU o vs).map (x::·)
end
mutual
def V.ids:V->List Nat
 | .osl id _=>[id]
 | .mp id=>[id]
 | .agg cs=>V.bc cs
 | .iface _ x=>x.ids
 |_=>[]
def V.bc:List V->List Nat
 |[]=>[]
 |v::vs=>v.ids++V.bc vs
end
def cc(o:Nat->ab)(ids:List Nat):List (Nat×ab):=
 ids.map fun id=>(id,match o id with| .arr ep _ _ es=> .rz ep es| .map _ _ l=> .gH l|o=>o)
def qy(o:Nat->ab)(ids:List Nat):List (Nat×ab):=
 ids.filterMap fun id=>match o id with| .arr ep _ _ es=>some (id, .rz ep es)|_=>none
def put(o:Nat->ab)(Δ:List (Nat×ab)):Nat->ab:=Δ.foldl (fun f x=>aD f x.1 x.2) o
def Hp.put (H:Hp)(Δ:List (Nat×ab)):Hp:={o:=YtnkamdiiakdkgaaGreat.put H.o Δ,us:=fun id=>H.us id\/id∈Δ.map (·.1)}
def cp(P:Program)(t:TypeId):Option (List V):=
 match P.info? t with
 |some i=>match i.zero with
  |some z=>if z.cells.size=i.size/\z.cells.toList.all Value.oneCell'=true then some (z.cells.toList.map V.cZ)else none
  |none=>none
 |none=>none
def cE(P:Program)(t:TypeId):Option Bool:=
 match P.underlying t with
 |some (.struct _)|some (.array _ _)=>some true
 |some _=>some false
 |none=>none
def bJ(P:Program)(t:TypeId)(f:Nat):Option Nat:=
 match P.underlying t with
 |some (.struct fs)=>match fs[f]? with
  |some fd=>if P.cellsOf fd.type=0 then none else some fd.offset
  |none=>none
 |_=>none
def bV(P:Program)(t:TypeId):Option TypeId:=
 match P.underlying t with
 |some (.slice e)=>some e
 |_=>none
def vo(P:Program)(t:TypeId):Option (Nat×TypeId):=
 match P.underlying t with
 |some (.array n e)=>some (n,e)
 |_=>none
def ef(P:Program)(t:TypeId):Option (List (Nat×Nat)):=
 match P.underlying t with
 |some (.struct fs)=>if fs.toList.all (fun f=>(P.info? f.type).isSome)=true then some (fs.toList.map fun f=>(f.offset,P.cellsOf f.type))else none
 |some (.array n e)=>if(P.info? e).isSome=true then some ((List.range n).map fun i=>(i*P.cellsOf e,P.cellsOf e))else none
 |_=>none
def tp(P:Program)(t:TypeId):Option IntKind:=
 match P.underlying t with
 |some (.int k)=>some k
 |_=>none
def ez(P:Program)(t:TypeId)(cs:List V)(off:Nat):Option V:=
 match cE P t with
 |some true=>if off+P.cellsOf t<=cs.length then some (o8 ((cs.drop off).take (P.cellsOf t)))else none
 |some false=>cs[off]?
 |none=>none
def xJ(P:Program)(t:TypeId)(cs:List V)(off:Nat)(v:V):Option (List V):=
 match v.cells with
 |some us=>if us.length=P.cellsOf t/\(0<us.length\/(P.info? t).isSome=true)/\off+us.length<=cs.length then some (cs.take off++us++cs.drop (off+us.length))else none
 |none=>none
def rA(places:List (Nat×Nat))(cs:List V):List (Nat×V)->Option (List V)
 |[]=>some cs
 |(i,v)::rest=>match places[i]?,v.cells with
  |some (off,size),some us=>if us.length=size/\off+us.length<=cs.length then rA places (cs.take off++us++cs.drop (off+us.length)) rest else none
  |_,_=>none
def D.put (e:D)(off:Nat)(us:List D):Option D:=
 match e with
 | .agg cs=>if off+us.length<=cs.length then some (.agg (cs.take off++us++cs.drop (off+us.length)))else none
 |_=>match off,us with
  |0,[u]=>some u
  |_,_=>none
def XY(op:BinOp)(a b:Int):Option Bool:=
 match op with
 | .eql=>some (a==b)| .neq=>some (a !=b)| .lss=>some (decide (a<b))| .leq=>some (decide (a<=b))
 | .gtr=>some (decide (a>b))| .geq=>some (decide (a≥b))
 |_=>none
def tq(op:BinOp)(k:IntKind)(x y:Int):Option Int:=
 let a:=BitVec.ofInt k.bits x
 let b:=BitVec.ofInt k.bits y
 match op with
 | .and=>some (k.wrap (a&&&b).toNat)
 | .or=>some (k.wrap (a|||b).toNat)
 | .xor=>some (k.wrap (a ^^^ b).toNat)
 | .andNot=>some (k.wrap (a&&& ~~~b).toNat)
 |_=>none
def L1(op:BinOp)(k:IntKind)(a b:Int)(K:V->Prop):Prop:=
 match op with
 | .add=>K (.d (.int k (k.wrap (a+b))))
 | .sub=>K (.d (.int k (k.wrap (a - b))))
 | .mul=>K (.d (.int k (k.wrap (a*b))))
 | .quo=>b≠0/\K (.d (.int k (k.wrap (a.tdiv b))))
 | .rem=>b≠0/\K (.d (.int k (a.tmod b)))
 | .and| .or| .xor| .andNot=>∃r,tq op k a b=some r/\K (.d (.int k r))
 | .shl| .shr=>False
 |op=>∃r,XY op a b=some r/\K (.d (.bool r))
def It(P:Program)(t:TypeId)(x y:D)(r:Bool):Prop:=
 ∀ (B:Nat->Prop) (w:World) (u v:Value),D.den B w x u->D.den B w y v->(Op.equal t u v).run P w= .ok r w/\∀ (op:BinOp) (a b:Operand),(eqGuard op t a b u v).run P w= .ok () w
def Iu(P:Program)(op:BinOp)(t:TypeId)(x y:V)(K:V->Prop):Prop:=
 match x,y with
 | .d (.int k a), .d (.int k' b)=>k=k'/\L1 op k a b K
 | .d (.bool a), .d (.bool b)=>match op with
   | .eql=>P.underlying t=some .bool/\K (.d (.bool (a==b)))
   | .neq=>P.underlying t=some .bool/\K (.d (.bool (a !=b)))
   |_=>False
 | .d (.str a), .d (.str b)=>match op with
   | .eql=>K (.d (.bool (a==b)))
   | .neq=>K (.d (.bool (a !=b)))
   |_=>False
 | .d (.agg a), .d (.agg b)=>match op with
   | .eql=>∃r,It P t (.agg a) (.agg b) r/\K (.d (.bool r))
   | .neq=>∃r,It P t (.agg a) (.agg b) r/\K (.d (.bool !r))
   |_=>False
 |_,_=>False
def XZ(op:UnOp)(x:V)(K:V->Prop):Prop:=
 match op,x with
 | .neg, .d (.int k n)=>K (.d (.int k (k.wrap (0 - n))))
 | .not, .d (.bool b)=>K (.d (.bool !b))
 |_,_=>False
def Aa(c a b:V)(K:V->Prop):Prop:=
 match c with
 | .d (.bool t)=>(t=true->K a)/\(t=false->K b)
 |_=>False
def Iv(P:Program)(t:TypeId)(o:Nat->ab)(x:V)(K:V->List Nat->Prop):Prop:=
 match P.underlying t with
 |some (.slice _)=>match x with
  | .d (.sl es)=>K (.d (.int .i64 es.length)) []
  | .bu=>K (.d (.int .i64 0)) []
  | .qn es=>K (.d (.int .i64 es.length)) []
  | .osl id ep=>match o id with
    | .arr ig _ _ es| .rz ig es=>ep=ig/\K (.d (.int .i64 es.length)) [id]
    |_=>False
  |_=>False
 |some .string=>match x with
  | .d (.str s)=>K (.d (.int .i64 s.length)) []
  |_=>False
 |some (.array n _)=>K (.d (.int .i64 n)) []
 |_=>False
def jo(P:Program)(o:Nat->ab)(t:TypeId)(x ix:V)(K:V->List Nat->Prop):Prop:=
 match ix with
 | .d (.int _ i)=>match bV P t with
   |some e=>match x with
    | .d (.sl es)=>0<=i/\∃y,es[i.toNat]? =some y/\y.cells.length=P.cellsOf e/\0<P.cellsOf e/\K (.pp y.cells 0) []
    | .qn es=>0<=i/\∃y,es[i.toNat]? =some y/\y.cells.length=P.cellsOf e/\0<P.cellsOf e/\K (.pp y.cells 0) []
    | .osl id ep=>match o id with
      | .arr ig _ sz es=>ep=ig/\0<=i/\i.toNat<es.length/\sz=P.cellsOf e/\0<P.cellsOf e/\K (.pe id ep i.toNat sz 0) [id]
      | .rz ig es=>ep=ig/\0<=i/\∃y,es[i.toNat]? =some y/\y.cells.length=P.cellsOf e/\0<P.cellsOf e/\K (.pp y.cells 0) [id]
      |_=>False
    |_=>False
   |none=>match vo P t with
    |some (n,e)=>0<=i/\i<n/\(P.info? e).isSome=true/\(match x with
     | .ptr id off=>(o id).b7=true/\K (.ptr id (off+i.toNat*P.cellsOf e)) []
     | .pp cs off=>K (.pp cs (off+i.toNat*P.cellsOf e)) []
     | .pe id ep j sz off=>(o id).bX=some ep/\K (.pe id ep j sz (off+i.toNat*P.cellsOf e)) []
     |_=>False)
    |none=>False
 |_=>False
def jq(P:Program)(o:Nat->ab)(t:TypeId)(x:V)(f:Nat)(K:V->Prop):Prop:=
 match bJ P t f with
 |some q=>match x with
  | .ptr id off=>(o id).b7=true/\K (.ptr id (off+q))
  | .pp cs off=>K (.pp cs (off+q))
  | .pe id ep j sz off=>(o id).bX=some ep/\K (.pe id ep j sz (off+q))
  |_=>False
 |none=>False
def Ab(P:Program)(o:Nat->ab)(t:TypeId)(x:V)(K:V->List Nat->Prop):Prop:=
 match x with
 | .ptr id off=>match o id with
   | .row cs=>∃v,ez P t cs off=some v/\K v [id]
   |_=>False
 | .pp cs off=>∃v,ez P t (cs.map .d) off=some v/\K v []
 | .pe id ep i sz off=>match o id with
   | .arr ig _ qo es=>ep=ig/\sz=qo/\∃e,es[i]? =some e/\∃v,ez P t (e.cells.map .d) off=some v/\K v [id]
   |_=>False
 |_=>False
def tt(P:Program)(o:Nat->ab)(t:TypeId)(x v:V)(K:List (Nat×ab)->List Nat->Prop):Prop:=
 match x with
 | .ptr id off=>match o id with
   | .row cs=>∃cs',xJ P t cs off v=some cs'/\K [(id, .row cs')] [id]
   |_=>False
 | .pe id ep i qo off=>match o id with
   | .arr ig ty sz es=>ep=ig/\qo=sz/\∃e,es[i]? =some e/\∃y,dC o v=some y/\y.cells.length=P.cellsOf t/\0<y.cells.length/\v.ids.all (· !=id)=true/\
    ∃e',e.put off y.cells=some e'/\K (cc o v.ids++[(id, .arr ep ty sz (es.set i e'))]) (id::v.ids)
   |_=>False
 |_=>False
def ij(P:Program)(o:Nat->ab)(fr:Nat)(t:TypeId)(len:Nat)(parts:List (Nat×V))(K:V->List (Nat×ab)->List Nat->Prop):Prop:=
 match bV P t with
 |some e=>(len=0/\parts=[]/\0<P.cellsOf e/\K (.osl fr 0) [(fr, .arr 0 e (P.cellsOf e) [])] [])\/(parts.map (·.1)=List.range len)/\(cp P e).isSome=true/\0<len/\0<P.cellsOf e/\len*P.cellsOf e<=2^24/\
  ∃ds,bU o (parts.map (·.2))=some ds/\(∀x∈ds,x.cells.length=P.cellsOf e)/\
   K (.osl fr 0) (cc o (V.bc (parts.map (·.2)))++[(fr, .arr 0 e (P.cellsOf e) ds)]) (V.bc (parts.map (·.2)))
 |none=>False
def Ac(P:Program)(e:TypeId):Option D:=
 match cp P e with
 |some z=>match bU (fun _=> .no) z,cE P e with
  |some ds,some true=>some (.agg ds)
  |some [x],some false=>some x
  |_,_=>none
 |none=>none
def jr(P:Program)(fr:Nat)(t:TypeId)(l c:V)(K:V->List (Nat×ab)->Prop):Prop:=
 match bV P t,l,c with
 |some e, .d (.int _ n), .d (.int _ m)=>n=m/\0<=n/\0<P.cellsOf e/\P.bytesOf e*n.toNat<=2^47/\n.toNat<=2^47/\
  ∃x,Ac P e=some x/\K (.osl fr 0) [(fr, .arr 0 e (P.cellsOf e) (List.replicate n.toNat x))]
 |_,_,_=>False
def eA(o:Nat->ab)(x:V):Option (List D):=
 match dC o x with
 |some (.sl es)=>some es
 |_=>none
def o9(P:Program)(o:Nat->ab)(fr:Nat)(ts:Array TypeId)(x y:V)(K:V->List (Nat×ab)->List Nat->Prop):Prop:=
 match ts.toList with
 |[t,t']=>t=t'/\(match bV P t with
  |some e=>∃new,eA o y=some new/\0<P.cellsOf e/\(cp P e).isSome=true/\(∀z∈new,z.cells.length=P.cellsOf e)/\(match x with
   | .bu=>new.length<=2^47/\new.length*P.bytesOf e<=2^47/\K (.osl fr 0) [(fr, .arr 0 e (P.cellsOf e) new)] y.ids
   | .qn es=>(∀z∈es,z.cells.length=P.cellsOf e)/\(if new=[]then K (.qn es) [] y.ids else es.length+new.length<=2^40/\(es.length+new.length)*P.bytesOf e<=2^40/\K (.osl fr 0) [(fr, .arr 0 e (P.cellsOf e) (es++new))] y.ids)
   | .osl id ep=>match o id with
     | .arr ig ty sz es=>ep=ig/\ty=e/\sz=P.cellsOf e/\es.length+new.length<=2^47/\(es.length+new.length)*P.bytesOf e<=2^47/\
      K (.osl id (ep+1)) [(id, .arr (ep+1) ty sz (es++new))] (id::y.ids)
     |_=>False
   |_=>False)
  |none=>False)
 |_=>False
def nj(isMax:Bool)(args:List V)(K:V->Prop):Prop:=
 match args with
 |[.d (.int k a), .d (.int k' b)]=>k=k'/\K (.d (.int k (if isMax then(if b>a then b else a)else(if b<a then b else a))))
 |_=>False
def kN(o:Nat->ab)(x:V)(K:V->Prop):Prop:=
 match x with
 | .ptr id off=>(o id).b7=true/\K (.ptr id off)
 | .pp cs off=>K (.pp cs off)
 | .func (.func f) first cap=>K (.func (.func f) first cap)
 |_=>False
def gB(P:Program)(t:TypeId)(xs:List D)(off:Nat):Option D:=
 match cE P t with
 |some true=>if off+P.cellsOf t<=xs.length then some (.agg ((xs.drop off).take (P.cellsOf t)))else none
 |some false=>xs[off]?
 |none=>none
inductive abW where
 |int|bool|str|struct (fs:List (TypeId×Nat))|arr (n:Nat) (e:TypeId)
def bD(P:Program)(t:TypeId):Option abW:=
 match P.underlying t with
 |some (.int _)=>some .int
 |some .bool=>some .bool
 |some .string=>some .str
 |some (.struct fs)=>if(!P.stoodInHeld t&&fs.toList.all (fun f=>f.name != "_"))=true then some (.struct (fs.toList.map fun f=>(f.type,f.offset)))else none
 |some (.array n e)=>if(P.info? e).isSome=true then some (.arr n e)else none
 |_=>none
def FV(a b:Option Bool):Option Bool:=
 match a,b with
 |some a,some b=>some (a&&b)
 |_,_=>none
def vZ(f:TypeId->Nat->Option Bool):List (TypeId×Nat)->Option Bool
 |[]=>some true
 |x::l=>FV (f x.1 x.2) (vZ f l)
def D6(f:Nat->Option Bool):Nat->Nat->Option Bool
 |0,_=>some true
 |n+1,i=>FV (f i) (D6 f n (i+1))
def OR(f:D->D->Option Bool)(x y:Option D):Option Bool:=
 match x,y with
 |some x,some y=>f x y
 |_,_=>none
def oR(P:Program):Nat->TypeId->D->D->Option Bool
 |0,_,_,_=>none
 |d+1,t,x,y=>match bD P t with
  |some .int=>match x,y with| .int k a, .int k' b=>if k=k' then some (a==b)else none|_,_=>none
  |some .bool=>match x,y with| .bool a, .bool b=>some (a==b)|_,_=>none
  |some .str=>match x,y with| .str a, .str b=>some (a==b)|_,_=>none
  |some (.struct fs)=>match x,y with
   | .agg xs, .agg ys=>vZ (fun u off=>OR (oR P d u) (gB P u xs off) (gB P u ys off)) fs
   |_,_=>none
  |some (.arr n e)=>match x,y with
   | .agg xs, .agg ys=>D6 (fun i=>OR (oR P d e) (gB P e xs (i*P.cellsOf e)) (gB P e ys (i*P.cellsOf e))) n 0
   |_,_=>none
  |none=>none
abbrev fy:=V×List (Nat×ab)×List Nat
def cO(x:Option fy)(K:V->List (Nat×ab)->List Nat->Prop):Prop:=
 match x with
 |some (v,Δ,rd)=>K v Δ rd
 |none=>False
def FW(x:Option V)(abX:Nat):Option Nat:=
 match x with
 |none=>some abX
 |some (.d (.int _ i))=>if 0<=i then some i.toNat else none
 |_=>none
def oi(o:Nat->ab)(x:V):Option (Nat×Nat):=
 match x with
 | .ptr id off=>if(o id).b7=true then some (id,off)else none
 |_=>none
def oj(o:Nat->ab)(x:V):Option (Nat×Nat×Nat×List V):=
 match x with
 | .vX id off n=>match o id with
   | .row cs=>some (id,off,n,cs)
   |_=>none
 |_=>none
def CB(P:Program)(o:Nat->ab)(t:TypeId)(x:V)(lo hi mx:Option V):Option fy:=
 match x with
 | .bu=>match lo,hi,mx with
   |none,some (.d (.int _ k)),none=>match bV P t with
    |some e=>if k=0/\(P.info? e).isSome=true then some (.bu,[],[])else none
    |none=>none
   |_,_,_=>none
 | .osl id ep=>match lo,hi,mx with
   |none,some (.d (.int _ k)),none=>match bV P t,o id with
    |some e, .arr ig ty sz _=>if k=0/\ep=ig/\(P.info? e).isSome=true then some (.osl id (ep+1),[(id, .arr (ep+1) ty sz [])],[id])else none
    |_,_=>none
   |_,_,_=>none
 |_=>none
def pb(P:Program)(o:Nat->ab)(t:TypeId)(x:V)(lo hi mx:Option V):Option fy:=
 match bV P t with
 |some e=>match eA o x,FW lo 0 with
  |some es,some l=>match FW hi es.length with
   |some h=>if l<=h/\h<=es.length/\(P.info? e).isSome=true/\(l=0\/es.all (fun y=>y.cells.length==P.cellsOf e)=true)then match mx with
    |none=>some (.d (.sl ((es.take h).drop l)),cc o x.ids,x.ids)
    |some m=>match hi,FW (some m) 0 with
     |some _,some m=>if h<=m/\m<=es.length then some (if h=m then .qn ((es.take h).drop l)else .d (.sl ((es.take h).drop l)),cc o x.ids,x.ids)else none
     |_,_=>none
    else none
   |none=>none
  |_,_=>none
 |none=>match vo P t,lo,hi,mx with
  |some (n,e),none,none,none=>match oi o x with
   |some (id,off)=>if(P.info? e).isSome=true then some (.vX id off n,[],[id])else none
   |none=>none
  |_,_,_,_=>none
def qz(P:Program)(o:Nat->ab)(t:TypeId)(x:V)(lo hi mx:Option V):Option fy:=
 match CB P o t x lo hi mx with
 |some r=>some r
 |none=>pb P o t x lo hi mx
def v7(P:Program)(o:Nat->ab)(ts:Array TypeId)(x y:V):Option fy:=
 match ts.toList with
 |[t,_]=>match bV P t with
  |some e=>match oj o x,eA o y with
   |some (id,off,n,cs),some es=>if P.cellsOf e=1/\off+n<=cs.length/\es.all (fun z=>z.cells.length==1)=true/\y.ids.all (· !=id)=true then
    some (.d (.int .i64 ((min es.length n:Nat):Int)),cc o y.ids++[(id, .row (cs.take off++((es.take n).flatMap D.cells).map .d++cs.drop (off+(es.take n).length)))],id::y.ids)else none
   |_,_=>none
  |none=>none
 |_=>none
def xK(P:Program)(t:TypeId)(f:Nat):Option (Nat×TypeId):=
 match P.underlying t with
 |some (.struct fs)=>match fs[f]? with
  |some fd=>some (fd.offset,fd.type)
  |none=>none
 |_=>none
def tu(P:Program)(t:TypeId)(x:V)(f:Nat):Option V:=
 match xK P t f with
 |some (off,u)=>match x with
  | .d (.agg cs)=>(gB P u cs off).map .d
  | .agg cs=>ez P u cs off
  |_=>none
 |none=>none
def tv(P:Program)(t:TypeId)(x i:V):Option V:=
 match i with
 | .d (.int _ i)=>if 0<=i then match P.underlying t with
  |some .string=>match x with
   | .d (.str s)=>match s[i.toNat]? with
     |some b=>some (.d (.int .u8 b.toNat))
     |none=>none
   |_=>none
  |some (.array n e)=>if i<n/\(P.info? e).isSome=true then match x with
   | .d (.agg cs)=>(gB P e cs (i.toNat*P.cellsOf e)).map .d
   | .agg cs=>ez P e cs (i.toNat*P.cellsOf e)
   |_=>none
   else none
  |_=>none
   else none
 |_=>none
def CC(P:Program)(t:TypeId):Bool:=
 match P.underlying t with
 |some (.interface _)=>false
 |some _=>true
 |none=>false
def zeroV(P:Program)(t:TypeId):Option V:=
 match P.info? t with
 |some i=>match i.zero with
  |some (.agg a)=>if a.toList.all Value.oneCell'=true then some (o8 (a.toList.map V.cZ))else none
  |some v=>if v.oneCell'=true then some (V.cZ v)else none
  |none=>none
 |none=>none
def pc(P:Program)(t:TypeId)(ok:Bool)(x:V):Option V:=
 if CC P t=true then match x with
  | .d (.iface u y)=>if u=t then some (if ok=true then .bT [.d y, .d (.bool true)]else .d y)
   else if ok=true then(zeroV P t).map fun z=> .bT [z, .d (.bool false)]else none
  | .d .gA=>if ok=true then(zeroV P t).map fun z=> .bT [z, .d (.bool false)]else none
  |_=>none
 else none
def Ad(o:Nat->ab)(x:V):Option V:=
 match x with
 | .bu=>some (.d (.bool true))
 |x=>match eA o x with
  |some es=>some (if es=[]then .eW else .d (.bool false))
  |none=>none
def isConst:Operand->Bool
 | .const _=>true
 |_=>false
def L2:V->Option V
 | .d (.bool b)=>some (.d (.bool !b))
 | .eW=>some .eW
 |_=>none
def qA(o:Nat->ab)(x:V):Option V:=
 match x with
 | .d .hZ=>some (.d (.bool true))
 | .d (.mp _ _)=>some (.d (.bool false))
 | .mp id=>match o id with| .map _ _ _=>some (.d (.bool false))| .gH _=>some (.d (.bool false))|_=>none
 |_=>none
def qB(o:Nat->ab)(x:V):Option V:=
 match x with
 | .d .lY=>some (.d (.bool true))
 | .ptr id _=>if(o id).b7=true then some (.d (.bool false))else none
 | .pp _ _=>some (.d (.bool false))
 |_=>none
def eqI(P:Program)(a b:TypeId)(x y:D):Option Bool:=
 if a=b then(match P.info? a,P.underlying a with
  |some i,some (.int _)=>if i.comparable=true then(match x,y with
   | .int k m, .int k' n=>if k=k' then some (m==n)else none
   |_,_=>none)else none
  |_,_=>none)
 else some false
def vh(P:Program)(o:Nat->ab)(t:TypeId)(nH:Bool)(x y:V):Option V:=
 match P.underlying t with
 |some (.interface _)=>match x,y with
  | .d .gA, .d .gA=>if nH=true then some (.d (.bool true))else none
  | .d (.iface _ _), .d .gA| .iface _ _, .d .gA| .d .gA, .d (.iface _ _)| .d .gA, .iface _ _=>some (.d (.bool false))
  | .d (.iface a x), .d (.iface b y)=>(eqI P a b x y).map fun r=> .d (.bool r)
  |_,_=>none
 |some (.func _ _ _)=>match x,y with
  | .d .bZ, .d .bZ=>some (.d (.bool true))
  | .func _ _ _, .d .bZ=>some (.d (.bool false))
  |_,_=>none
 |some (.map _ _)=>match y with
  | .d .hZ=>qA o x
  |_=>none
 |some (.pointer _)=>match y with
  | .d .lY=>qB o x
  |_=>none
 |some (.slice _)=>match y with
  | .bu=>Ad o x
  |_=>none
 |some (.struct _)|some (.array _ _)=>match x,y with
  | .d (.agg bY), .d (.agg bs)=>if P.eqGuardType P.depth t=false then(oR P 100 t (.agg bY) (.agg bs)).map fun r=> .d (.bool r)else none
  |_,_=>none
 |_=>none
def qC(P:Program)(o:Nat->ab)(op:BinOp)(t:TypeId)(nH:Bool)(x y:V):Option fy:=
 match op with
 | .eql=>(vh P o t nH x y).map fun v=>(v,[],[])
 | .neq=>((vh P o t nH x y).bind L2).map fun v=>(v,[],[])
 |_=>none
mutual
def D.same:D->D->Bool
 | .int k a, .int j b=>k==j&&a==b
 | .bool a, .bool b=>a==b
 | .str a, .str b=>a==b
 | .gA, .gA| .lY, .lY| .bZ, .bZ| .hZ, .hZ=>true
 | .agg bY, .agg bs=>D.fI bY bs
 | .sl bY, .sl bs=>D.fI bY bs
 | .iface t a, .iface u b=>t==u&&a.same b
 | .mp ks vs, .mp ks' vs'=>D.fI ks ks'&&D.fI vs vs'
 |_,_=>false
def D.fI:List D->List D->Bool
 |[],[]=>true
 |a::bY,b::bs=>a.same b&&D.fI bY bs
 |_,_=>false
end
def qD(P:Program)(t:TypeId):Option (TypeId×TypeId):=
 match P.underlying t with
 |some (.map k v)=>some (k,v)
 |_=>none
def nI(P:Program):Nat->TypeId->D->Bool
 |0,_,_=>false
 |d+1,t,x=>match bD P t with
  |some .int|some .bool|some .str=>true
  |some (.struct fs)=>match x with
   | .agg xs=>fs.all fun f=>match gB P f.1 xs f.2 with|some y=>nI P d f.1 y|none=>false
   |_=>false
  |some (.arr n e)=>match x with
   | .agg xs=>(List.range n).all fun i=>match gB P e xs (i*P.cellsOf e)with|some y=>nI P d e y|none=>false
   |_=>false
  |none=>false
def findD(P:Program)(kt:TypeId)(k:D):List (D×D)->Nat->Option (Option (Nat×D×D))
 |[],_=>some none
 |(k',x)::l,i=>match oR P 100 kt k k' with
  |some true=>some (some (i,k',x))
  |some false=>findD P kt k l (i+1)
  |none=>none
def nS:D->Bool
 | .int _ _| .bool _| .str _=>true
 |_=>false
def kq:D->Bool
 | .agg cs=>cs.all nS
 |x=>nS x
def nT(o:Nat->ab)(m:V):Option (Option (Nat×TypeId×TypeId)×List (D×D)):=
 match m with
 | .mp id=>match o id with
   | .map kt vt l=>some (some (id,kt,vt),l)
   |_=>none
 | .d .hZ=>some (none,[])
 |_=>none
def pf(o:Nat->ab)(m:V):Option (List Nat×List (D×D)):=
 match m with
 | .mp id=>match o id with
   | .map _ _ l=>some ([id],l)
   | .gH l=>some ([id],l)
   |_=>none
 | .d .hZ=>some ([],[])
 | .d (.mp ks vs)=>some ([],ks.zip vs)
 |_=>none
def abY(r:Option (Nat×TypeId×TypeId)):List Nat:=match r with|some p=>[p.1]|none=>[]
def gZ(P:Program)(o:Nat->ab)(t:TypeId)(m k:V)(ok:Bool):Option fy:=
 match qD P t,dC o k,pf o m with
 |some (kt,vt),some kd,some (rd,l)=>if k.ids=[]/\nI P 100 kt kd=true then match findD P kt kd l 0 with
  |some (some (_,_,x))=>some (if ok=true then .bT [.d x, .d (.bool true)]else .d x,[],rd)
  |some none=>match zeroV P vt with
   |some z=>some (if ok=true then .bT [z, .d (.bool false)]else z,[],rd)
   |none=>none
  |none=>none
  else none
 |_,_,_=>none
def fm(P:Program)(o:Nat->ab)(t:TypeId)(m k v:V):Option fy:=
 match qD P t,dC o k,dC o v,nT o m with
 |some (kt,_),some kd,some vd,some (some (id,D7,D8),l)=>if k.ids=[]/\nI P 100 kt kd=true/\kq kd=true/\v.ids.all (· !=id)=true then match findD P kt kd l 0 with
  |some (some (i,k',_))=>if k'.same kd=true then some (.bT [],cc o v.ids++[(id, .map D7 D8 (l.set i (kd,vd)))],id::v.ids)else none
  |some none=>some (.bT [],cc o v.ids++[(id, .map D7 D8 (l++[(kd,vd)]))],id::v.ids)
  |none=>none
  else none
 |_,_,_,_=>none
def me(P:Program)(fr:Nat)(t:TypeId):Option fy:=
 match qD P t with
 |some (kt,vt)=>some (.mp fr,[(fr, .map kt vt [])],[])
 |none=>none
def mf(P:Program)(o:Nat->ab)(fr:Nat)(t:TypeId)(x:V):Option fy:=
 match P.underlying t with
 |some .string=>match x with
  | .d (.str s)=>some (.ptr fr 0,[(fr, .xG s 0)],[])
  |_=>none
 |some (.map _ _)=>match x with
  | .d .hZ=>some (.ptr fr 0,[(fr, .oh [] none)],[])
  | .d (.mp ks vs)=>some (.ptr fr 0,[(fr, .oh (ks.zip vs) none)],[])
  | .mp id=>match o id with
    | .map _ _ l=>some (.ptr fr 0,[(id, .gH l),(fr, .oh l none)],[id])
    | .gH l=>some (.ptr fr 0,[(fr, .oh l none)],[id])
    |_=>none
  |_=>none
 |_=>none
def nU(o:Nat->ab)(x:V)(str:Bool):Option fy:=
 match x with
 | .ptr id 0=>match o id with
   | .xG s pos=>if str=true then
    (if pos<s.length then some (.bT [.d (.bool true), .d (.int .i64 pos), .d (.int .i32 (Utf8.decode ⟨⟨s⟩⟩ pos).1)],[(id, .xG s (pos+(Utf8.decode ⟨⟨s⟩⟩ pos).2))],[id])else some (.bT [.d (.bool false)],[],[id]))
     else none
   |_=>none
 |_=>none
def nV(o:Nat->ab)(x:V):Option (Nat×List (D×D)):=
 match x with
 | .ptr id 0=>match o id with
   | .oh l _=>some (id,l)
   |_=>none
 |_=>none
def D9(id:Nat)(l:List (D×D))(K:V->List (Nat×ab)->List Nat->Prop):Prop:=
 (l=[]->K (.bT [.d (.bool false)]) [] [id])/\∀i k x,l[i]? =some (k,x)->K (.bT [.d (.bool true), .d k, .d x]) [(id, .oh (l.eraseIdx i) (some (k,x)))] [id]
def mh(o:Nat->ab)(x:V):Option fy:=
 match x with
 | .ptr id 0=>match o id with
   | .oh _ (some (k,x))=>some (.bT [.d k, .d x],[],[id])
   |_=>none
 |_=>none
def nk(P:Program)(o:Nat->ab)(t:TypeId)(m k:V):Option fy:=
 match qD P t,dC o k,nT o m with
 |some (kt,_),some kd,some (some (id,D7,D8),l)=>if k.ids=[]/\nI P 100 kt kd=true then match findD P kt kd l 0 with
  |some (some (i,_,_))=>some (.bT [],[(id, .map D7 D8 (l.eraseIdx i))],[id])
  |some none=>some (.bT [],[],[id])
  |none=>none
  else none
 |_,_,_=>none
def Ea(x y z:V):Option V:=
 match x,y,z with
 | .d (.int k a), .d (.int k' b), .d (.int k'' c)=>if k=k'/\k=k'' then some (.d (.int k (if c>(if b>a then b else a)then c else(if b>a then b else a))))else none
 |_,_,_=>none
def L3(P:Program)(ts:Array TypeId)(x:V):Option fy:=
 match ts.toList with
 |[t]=>match bV P t with
  |some _=>match x with
   | .bu=>some (.d (.int .i64 0),[],[])
   |_=>none
  |none=>none
 |_=>none
def v8(P:Program)(fr:Nat)(ts:Array TypeId)(x y:V):Option fy:=
 match ts.toList with
 |[t,t']=>if t=t' then none else match bV P t with
  |some e=>match tp P t',x,y with
   |some _, .bu, .d (.int _ n)=>if 0<n/\0<P.cellsOf e/\n.toNat*P.bytesOf e<=2^40/\n.toNat<=2^40 then match Ac P e with
    |some z=>some (.osl fr 0,[(fr, .arr 0 e (P.cellsOf e) (List.replicate n.toNat z))],[])
    |none=>none
    else none
   |_,_,_=>none
  |none=>none
 |_=>none
def tw(P:Program)(s:S)(fr:Nat)(b:Builtin)(args:List Operand)(ts:Array TypeId)(K:V->List (Nat×ab)->List Nat->Prop):Prop:=
 match b,args with
 | .len,[x]=>∃t,ts.toList=[t]/\Iv P t s.o (s.ev x) fun v rd=>K v [] rd
 | .append,[x,y]=>cO (v8 P fr ts (s.ev x) (s.ev y)) K\/o9 P s.o fr ts (s.ev x) (s.ev y) K
 | .max,[x,y]=>nj true [s.ev x,s.ev y] fun v=>K v [] []
 | .min,[x,y]=>nj false [s.ev x,s.ev y] fun v=>K v [] []
 | .max,[x,y,z]=>cO ((Ea (s.ev x) (s.ev y) (s.ev z)).map fun v=>(v,[],[])) K
 | .copy,[x,y]=>cO (v7 P s.o ts (s.ev x) (s.ev y)) K
 | .delete,[x,y]=>∃t,ts.toList.head?=some t/\cO (nk P s.o t (s.ev x) (s.ev y)) K
 | .cap,[x]=>cO (L3 P ts (s.ev x)) K
 |_,_=>False
def OS(P:Program)(s:S)(fr:Nat)(op:Op)(K:V->List (Nat×ab)->List Nat->Prop):Prop:=
 match op with
 | .move x| .assign x=>K (s.ev x) [] []
 | .pick c a b=>Aa (s.ev c) (s.ev a) (s.ev b) fun v=>K v [] []
 | .alloc t=>∃cs,cp P t=some cs/\K (.ptr fr 0) [(fr, .row cs)] []
 | .box _ x=>∃cs,(s.ev x).cells=some cs/\K (.ptr fr 0) [(fr, .row cs)] []
 | .build t parts=>∃z pl cs,cp P t=some z/\ef P t=some pl/\rA pl z (parts.toList.map fun p=>(p.1,s.ev p.2))=some cs/\K (o8 cs) [] []
 | .buildSlice t len parts=>ij P s.o fr t len (parts.toList.map fun p=>(p.1,s.ev p.2)) K
 | .load t x=>Ab P s.o t (s.ev x) fun v rd=>K v [] rd
 | .store t x v=>tt P s.o t (s.ev x) (s.ev v) fun Δ rd=>K (.bT []) Δ rd
 | .nilCheck x=>kN s.o (s.ev x) fun v=>K v [] []
 | .binOp op t x y _=>Iu P op t (s.ev x) (s.ev y) (fun v=>K v [] [])\/cO (qC P s.o op t (isConst x||isConst y) (s.ev x) (s.ev y)) K
 | .unOp op _ x=>XZ op (s.ev x) (fun v=>K v [] [])\/(op= .not/\s.ev x= .eW/\K .eW [] [])
 | .convert u t x=>(P.underlying u).isSome=true/\(match tp P t,s.ev x with
   |some k, .d (.int _ n)=>K (.d (.int k (k.wrap n))) [] []
   |_,_=>False)
 | .makeInterface t x=>(∃d,P.underlying t=some d/\(match d with| .interface _=>false|_=>true)=true)/\(match s.ev x with
   | .d y=>K (.d (.iface t y)) [] []
   |v=>K (.iface t v) [] [])
 | .makeFunc fn first cap=>K (.func fn (first.toList.map s.ev) (cap.toList.map s.ev)) [] []
 | .makeSlice t l c=>jr P fr t (s.ev l) (s.ev c) fun v Δ=>K v Δ []
 | .fieldAddr t x f=>jq P s.o t (s.ev x) f fun v=>K v [] []
 | .indexAddr t x i=>jo P s.o t (s.ev x) (s.ev i) fun v rd=>K v [] rd
 | .extract x i=>match s.ev x with
   | .bT vs=>∃v,vs[i]? =some v/\K v [] []
   |_=>False
 | .slice t x lo hi mx=>cO (qz P s.o t (s.ev x) (lo.map s.ev) (hi.map s.ev) (mx.map s.ev)) K
 | .field t x f=>cO ((tu P t (s.ev x) f).map fun v=>(v,[],[])) K
 | .index t x i=>cO ((tv P t (s.ev x) (s.ev i)).map fun v=>(v,[],[])) K
 | .makeMap t none=>cO (me P fr t) K
 | .lookup t m k ok=>cO (gZ P s.o t (s.ev m) (s.ev k) ok) K
 | .mapUpdate t m k v=>cO (fm P s.o t (s.ev m) (s.ev k) (s.ev v)) K
 | .insert t m k v=>cO (fm P s.o t (s.ev m) (s.ev k) (s.ev v)) K
 | .range t x=>cO (mf P s.o fr t (s.ev x)) K
 | .next x str=>cO (nU s.o (s.ev x) str) K\/(str=false/\∃id l,nV s.o (s.ev x)=some (id,l)/\D9 id l K)
 | .entry x=>cO (mh s.o (s.ev x)) K
 | .typeAssert x _ t ok=>cO ((pc P t ok (s.ev x)).map fun v=>(v,[],[])) K
 | .call c=>match c.callee with
   | .builtin b=>tw P s fr b c.args.toList c.argTypes K
   |_=>False
 |_=>False
section
section
variable {B:Nat->Prop}{φ:Place}{H:Hp}{w:World}
theorem V.ax:∀ (cs:List V) (vs:List Value),V.az B φ H w cs vs->vs.length=cs.length
 |[],_,h=>by simp[V.az]at h;simp[h]
 |c::cs,_,h=>by obtain⟨u,us,rfl,_,h2⟩:=h;simp[V.ax cs us h2]
theorem V.dm:∀ (cs:List V) (vs:List Value) (i:Nat) (c:V),V.az B φ H w cs vs->cs[i]? =some c->∃v,vs[i]? =some v/\V.den B φ H w c v
 |[],_,_,_,_,hd=>by simp at hd
 |c::cs,_,0,x,h,hd=>by
  exact OP
 |c::cs,_,i+1,x,h,hd=>by
  obtain⟨u,us,rfl,_,h2⟩:=h
  simpa using V.dm cs us i x h2 (by simpa using hd)
theorem V.bf:∀ (cs ds:List V) (us vs:List Value),V.az B φ H w cs us->V.az B φ H w ds vs->V.az B φ H w (cs++ds) (us++vs)
 |[],ds,us,vs,h,k=>by simp[V.az]at h;subst h;simpa using k
 |c::cs,ds,_,vs,h,k=>by
  obtain⟨u,us,rfl,h1,h2⟩:=h
  exact⟨u,us++vs,aJ,h1,V.bf cs ds us vs h2 k⟩
theorem V.dn:∀ (n:Nat) (cs:List V) (vs:List Value),V.az B φ H w cs vs->V.az B φ H w (cs.take n) (vs.take n)
 |0,_,_,_=>by simp[V.az]
 |n+1,[],_,h=>by simp[V.az]at h;subst h;simp[V.az]
 |n+1,c::cs,_,h=>by
  obtain⟨u,us,rfl,h1,h2⟩:=h
  exact⟨u,us.take n,aJ,h1,V.dn n cs us h2⟩
theorem V.dS:∀ (n:Nat) (cs:List V) (vs:List Value),V.az B φ H w cs vs->V.az B φ H w (cs.drop n) (vs.drop n)
 |0,_,_,h=>by simpa using h
 |n+1,[],_,h=>by simp[V.az]at h;subst h;simp[V.az]
 |n+1,c::cs,_,h=>by
  obtain⟨u,us,rfl,h1,h2⟩:=h
  simpa using V.dS n cs us h2
theorem V.b8:∀ (ds:List D) (vs:List Value),V.az B φ H w (ds.map .d) vs↔D.az B w ds vs
 |[],vs=>by simp[V.az,D.az]
 |x::ds,vs=>by simp only[List.map_cons,V.az,D.az,V.den,V.b8 ds]
theorem D.bf:∀ (cs ds:List D) (us vs:List Value),D.az B w cs us->D.az B w ds vs->D.az B w (cs++ds) (us++vs)
 |[],ds,us,vs,h,k=>by simp[D.az]at h;subst h;simpa using k
 |c::cs,ds,_,vs,h,k=>by
  obtain⟨u,us,rfl,h1,h2⟩:=h
  exact⟨u,us++vs,aJ,h1,D.bf cs ds us vs h2 k⟩
theorem D.dn:∀ (n:Nat) (cs:List D) (vs:List Value),D.az B w cs vs->D.az B w (cs.take n) (vs.take n)
 |0,_,_,_=>by simp[D.az]
 |n+1,[],_,h=>by simp[D.az]at h;subst h;simp[D.az]
 |n+1,c::cs,_,h=>by
  obtain⟨u,us,rfl,h1,h2⟩:=h
  exact⟨u,us.take n,aJ,h1,D.dn n cs us h2⟩
theorem D.dS:∀ (n:Nat) (cs:List D) (vs:List Value),D.az B w cs vs->D.az B w (cs.drop n) (vs.drop n)
 |0,_,_,h=>by simpa using h
 |n+1,[],_,h=>by simp[D.az]at h;subst h;simp[D.az]
 |n+1,c::cs,_,h=>by
  obtain⟨u,us,rfl,h1,h2⟩:=h
  simpa using D.dS n cs us h2
theorem D.Ae:∀ (i:Nat) (ds:List D) (vs:List Value) (x:D) (v:Value),D.az B w ds vs->D.den B w x v->D.az B w (ds.set i x) (vs.set i v)
 |_,[],_,_,_,h,_=>by simp[D.az]at h;subst h;simp[D.az]
 |0,c::cs,_,x,v,h,k=>by
  obtain⟨u,us,rfl,h1,h2⟩:=h
  exact⟨v,us,aJ,k,h2⟩
 |i+1,c::cs,_,x,v,h,k=>by
  obtain⟨u,us,rfl,h1,h2⟩:=h
  exact⟨u,us.set i v,aJ,h1,D.Ae i cs us x v h2 k⟩
theorem wa:∀ (cs:List V) (ds:List D),xI cs=some ds->cs=ds.map .d
 |[],ds,h=>by simp[xI]at h;subst h;rfl
 | .d x::cs,ds,h=>by
   simp only[xI,Option.map_eq_some_iff]at h
   obtain⟨a,h1,rfl⟩:=h
   simp[wa cs a h1]
 | .bu::_,_,h| .agg _::_,_,h| .bT _::_,_,h| .ptr _ _::_,_,h| .osl _ _::_,_,h| .pe _ _ _ _ _::_,_,h| .pp _ _::_,_,h
 | .func _ _ _::_,_,h| .iface _ _::_,_,h| .aa::_,_,h| .qn _::_,_,h| .vX _ _ _::_,_,h| .mp _::_,_,h| .eW::_,_,h=>by simp[xI]at h
theorem kO(cs:List V)(a:Array Value)(h:V.az B φ H w cs a.toList)(hf:Flat a.toList):V.den B φ H w (o8 cs) (.agg a):=by
 unfold o8
 split
 ·rename_i ds hd
  have:=wa cs ds hd
  subst this
  exact⟨a,rfl,(V.b8 ds _).1 h,hf⟩
 ·exact⟨a,rfl,h,hf⟩
theorem D.nm:∀ (x:D) (v:Value),D.den B w x v->(∃cs a,x= .agg cs/\v= .agg a)\/v.oneCell'=true/\x.cells=[x]/\v.cells=#[v]
 | .int _ _,_,h| .bool _,_,h| .gA,_,h| .lY,_,h| .bZ,_,h| .hZ,_,h=>by
   simp only[D.den]at h;subst h;exact .inr ⟨rfl,rfl,rfl⟩
 | .str l,_,h=>by obtain⟨s,rfl,_⟩:=h;exact .inr ⟨rfl,rfl,rfl⟩
 | .agg cs,_,h=>by obtain⟨a,rfl,_,_⟩:=h;exact .inl ⟨cs,a,rfl,rfl⟩
 | .sl es,_,h=>by obtain⟨b,l,c,rfl,_⟩:=h;exact .inr ⟨rfl,rfl,rfl⟩
 | .iface t x,_,h=>by obtain⟨u,rfl,_⟩:=h;exact .inr ⟨rfl,rfl,rfl⟩
 | .mp ks vs,_,h=>by obtain⟨m,es,c,p,rfl,_⟩:=h;exact .inr ⟨rfl,rfl,rfl⟩
theorem D.eN (x:D)(v:Value)(h:D.den B w x v):D.az B w x.cells v.cells.toList/\Flat v.cells.toList:=by
 rcases D.nm x v h with⟨cs,a,rfl,rfl⟩|⟨h1,h2,h3⟩
 ·obtain⟨a',h1,h2,h3⟩:=h
  injection h1 with h1;subst h1
  exact⟨h2,h3⟩
 ·rw[h2,h3]
  exact⟨⟨v,[],rfl,h,rfl⟩,by intro u hu;simp at hu;subst hu;exact h1⟩
theorem V.nm (x:V)(v:Value)(us:List V)(hx:x.cells=some us)(h:V.den B φ H w x v):V.az B φ H w us v.cells.toList/\Flat v.cells.toList:=by
 have one:∀ (y:V),v.oneCell'=true->V.den B φ H w y v->V.az B φ H w [y] v.cells.toList/\Flat v.cells.toList:=by
  intro y h1 h2
  have h3:v.cells=#[v]:=by cases v<;>simp_all[Value.oneCell',Value.cells]
  rw[h3]
  exact⟨⟨v,[],rfl,h2,rfl⟩,by intro u hu;simp at hu;subst hu;exact h1⟩
 cases x with
 |d x=>
  simp only[V.cells,Option.some.injEq]at hx;subst hx
  have:=D.eN x v h
  exact⟨(V.b8 _ _).2 this.1,this.2⟩
 |bu=>simp only[V.cells,Option.some.injEq]at hx;subst hx;exact one _ (by cases h;rfl) h
 |agg cs=>
  simp only[V.cells,Option.some.injEq]at hx;subst hx
  obtain⟨a,rfl,h1,h2⟩:=h
  exact⟨h1,h2⟩
 |bT vs=>simp[V.cells]at hx
 |aa=>simp[V.cells]at hx
 |ptr id off=>simp only[V.cells,Option.some.injEq]at hx;subst hx;exact one _ h.1 h
 |osl id ep=>simp only[V.cells,Option.some.injEq]at hx;subst hx;exact one _ h.1 h
 |pe id ep i sz off=>simp only[V.cells,Option.some.injEq]at hx;subst hx;exact one _ h.1 h
 |pp cs off=>simp only[V.cells,Option.some.injEq]at hx;subst hx;exact one _ (by obtain⟨a,ev,_,rfl,_⟩:=h;rfl) h
 |func fn f c=>simp only[V.cells,Option.some.injEq]at hx;subst hx;exact one _ (by obtain⟨a,ev,rfl,_⟩:=h;rfl) h
 |iface t y=>simp only[V.cells,Option.some.injEq]at hx;subst hx;exact one _ (by obtain⟨a,rfl,_⟩:=h;rfl) h
 |qn es=>simp only[V.cells,Option.some.injEq]at hx;subst hx;exact one _ (by obtain⟨_,b,n,rfl⟩:=h;rfl) h
 |vX id off n=>simp only[V.cells,Option.some.injEq]at hx;subst hx;exact one _ h.1 h
 |mp id=>simp only[V.cells,Option.some.injEq]at hx;subst hx;exact one _ h.1 h
 |iW id=>simp only[V.cells,Option.some.injEq]at hx;subst hx;exact one _ h.1 h
 |eW=>simp only[V.cells,Option.some.injEq]at hx;subst hx;exact one _ (by obtain⟨a,rfl⟩:=h;rfl) h
theorem lu(v:Value)(h:v.oneCell'=true):V.den B φ H w (V.cZ v) v:=by
 cases v<;>simp_all only[Value.oneCell',V.cZ,V.den,D.den]<;>try trivial
 all_goals (try (split<;>simp_all[V.den,D.den]))
 all_goals (try first|(simp_all[D.den];done)|simp_all)
theorem dp:∀ (vs:List Value),Flat vs->V.az B φ H w (vs.map V.cZ) vs
 |[],_=>rfl
 |v::vs,h=>⟨v,vs,rfl,lu v (h v aJ),dp vs fun u hu=>h u (by simp[hu])⟩
end
end
section
theorem nn(H:Hp):H.put []=H:=by
 obtain⟨o,us⟩:=H
 simp[Hp.put,put]
theorem dI(H:Hp)(A C:List (Nat×ab)):H.put (A++C)=(H.put A).put C:=by
 obtain⟨o,us⟩:=H
 simp only[Hp.put,put,List.foldl_append,Hp.mk.injEq,true_and]
 funext id
 simp only[List.map_append,List.mem_append,eq_iff_iff]
 exact⟨fun h=>by rcases h with h|h|h<;>simp[h],fun h=>by rcases h with(h|h)|h<;>simp[h]⟩
@[simp] theorem bA (H:Hp) (i:Nat) (x:ab):(H.put [(i,x)]).o=aD H.o i x:=rfl
@[simp] theorem dJ (H:Hp) (i j:Nat) (x:ab):(H.put [(i,x)]).us j↔(H.us j\/j=i):=by simp[Hp.put]
section
variable {M:Nat->Prop}{φ aC:Place}{H H':Hp}{w w':World}
theorem aM.Af (zJ:∀b,cS w b-> ¬ak M φ H b->w'.heap[b]? =w.heap[b]? /\ ¬ak M aC H' b)(hrl:dH φ H aC H'){id:Nat}(ho:H'.o id=H.o id)(dT:aC id=φ id)
 (hb:(H.o id).live=true->∀b,de (φ id)=some b->w'.heap[b]? =w.heap[b]?) (h:aM M φ H w id):aM M aC H' w' id:=by
 unfold aM at*
 rw[ho]
 cases hx:H.o id with
 |no=>trivial
 |row cs=>
  simp only[hx]at h|-
  obtain⟨b,dG,ty,h1,h2,h3,h4⟩:=h
  exact⟨b,dG,ty,dT.trans h1,(hb rv b tf).trans h2,V.fw zJ hrl cs _ h3,h4⟩
 |arr ep ty sz es=>
  simp only[hx]at h|-
  obtain⟨h0,xs,h1,evs,h2,h3,h4⟩:=h
  refine⟨h0,xs, ?_,evs,h2,h3,D.aN zJ es evs h4⟩
  rw[dT]
  obtain⟨g1,g2⟩:=h1
  refine⟨g1, ?_⟩
  rcases g2 with g2|⟨g,cap,cur,k1,k2,k3,k4⟩
  ·exact .inl g2
  ·exact .inr ⟨g,cap,cur,k1,k2,(hb rv g (by rw[k1];rfl)).trans k3,k4⟩
 |rz ep es=>
  simp only[hx]at h|-
  rw[dT]
  exact D.aK zJ (.sl es) _ h
 |map kt vt l=>
  simp only[hx]at h|-
  obtain⟨b,es,clock,h1,h2,h4,h3⟩:=h
  exact⟨b,es,clock,dT.trans h1,(hb rv b tf).trans h2,h4,aH.mono zJ l _ h3⟩
 |gH l=>
  simp only[hx]at h|-
  rw[dT]
  exact D.aK zJ (.mp _ _) _ h
 |oh l last=>
  simp only[hx]at h|-
  obtain⟨b,h1,h2⟩:=h
  exact⟨b,dT.trans h1,h2.mono zJ (hb rv b tf)⟩
 |xG s pos=>
  simp only[hx]at h|-
  obtain⟨b,h1,h2⟩:=h
  exact⟨b,dT.trans h1,(hb rv b tf).trans h2⟩
 |loop nf n env ps jn fl st FU=>
  simp only[hx]at h|-
  obtain⟨b,r,h1,h2,h0,h3,h4,h5,h6,h7,h8,h9⟩:=h
  exact⟨b,r,dT.trans h1,(hb rv b tf).trans h2,h0,h3,h4,h5,h6,h7,h8,fun i=>V.kM zJ hrl _ _ (h9 i)⟩
theorem aM.mono (ht:Trans φ H w aC H' w'){id:Nat}(ho:H'.o id=H.o id)(dT:aC id=φ id)
 (hb:(H.o id).live=true->∀b,de (φ id)=some b->w'.heap[b]? =w.heap[b]?) (h:aM M φ H w id):aM M aC H' w' id:=aM.Af ht.blocks ht.rel ho dT hb h
theorem aw.of (hH:aw M φ H w)(ht:Trans φ H w aC H' w')(T:Nat->Prop)(hT:∀id,T id->aM M aC H' w' id)
 (hn:∀id, ¬T id->H'.o id=H.o id/\aC id=φ id/\((H.o id).live=true->∀b,de (φ id)=some b->w'.heap[b]? =w.heap[b]?))
 (js:∀id, ¬H'.us id->H'.o id= .no)
 (hap:∀i j b,(H'.o i).live=true->(H'.o j).live=true->de (aC i)=some b->de (aC j)=some b->i=j)
 (X0:∀b,cw aC H' b->b<w'.heap.size):aw M aC H' w' where
 ok id:=by
  by_cases hc:T id
  ·exact hT id hc
  ·obtain⟨h1,h2,h3⟩:=hn id hc
   exact(hH.ok id).mono ht h1 h2 h3
 fresh:=js
 apart:=hap
 ours b hb:=by
  refine⟨fun hM=> ?_,X0 b hb⟩
  rcases ht.grow b hb with h1|h1
  ·exact(hH.ours b h1).1 hM
  ·have:=hH.zH b hM;omega
 zH b hM:=Nat.lt_of_lt_of_le (hH.zH b hM) ht.keep.size
theorem dU(hk:dx (fun _=>False) w w'){fr:Nat}(cL: ¬H.us fr)(obj:ab)(val:Value)(eK:∀b,de val=some b->w.heap.size<=b):
 Trans φ H w (aD φ fr val) (H.put [(fr,obj)]) w' where
 keep:=⟨hk.os,hk.tape,hk.output,hk.size,fun k h _=>hk.block k h (fun h=>h)⟩
 grow b:=by
  rintro⟨id,h1,h2⟩
  by_cases au:id=fr
  ·subst au;simp at h2;exact .inr (eK b h2)
  ·simp[au]at h1 h2;exact .inl ⟨id,h1,h2⟩
 rel:={
  us:=fun id h=>by simp[h]
  row:=fun id hu hr=>by
   have au:id≠fr:=fun h=>cL (h ▸ hu)
   simp[au]at hr|-;exact hr
  ep:=fun id e' hu he=>by
   have au:id≠fr:=fun h=>cL (h ▸ hu)
   simp[au]at he|-;exact⟨e',he,Nat.le_refl _⟩}
theorem ik(hH:aw M φ H w)(hk:dx (fun _=>False) w w'){fr:Nat}(cL: ¬H.us fr)(obj:ab)(val:Value)(eK:∀b,de val=some b->w.heap.size<=b/\b<w'.heap.size)
 (tx:aM M (aD φ fr val) (H.put [(fr,obj)]) w' fr):aw M (aD φ fr val) (H.put [(fr,obj)]) w':=by
 have ht:Trans φ H w (aD φ fr val) (H.put [(fr,obj)]) w':=dU hk cL obj val fun b hb=>(eK b hb).1
 refine hH.of ht (· =fr) (fun id h=>h ▸ tx) (fun id h=> ?_) (fun id h=> ?_) (fun i j b hi hj bi bj=> ?_) (fun b=> ?_)
 ·refine⟨by simp[h],by simp[h],fun hl b hb=>hk.block b ?_ (fun h=>h)⟩
  exact(hH.ours b ⟨id,hl,hb⟩).2
 ·rw[dJ]at h
  have h1:id≠fr:=fun e=>h (.inr e)
  simp only[bA,aG,h1,if_false]
  exact hH.fresh id fun hu=>h (.inl hu)
 ·by_cases e1:i=fr<;>by_cases e2:j=fr
  ·exact e1.trans e2.symm
  ·simp[e1,e2]at hi hj bi bj
   have:=(hH.ours b ⟨j,hj,bj⟩).2;have:=(eK b bi).1;omega
  ·simp[e1,e2]at hi hj bi bj
   have:=(hH.ours b ⟨i,hi,bi⟩).2;have:=(eK b bj).1;omega
  ·simp[e1,e2]at hi hj bi bj
   exact hH.apart i j b hi hj bi bj
 ·rintro⟨id,h1,h2⟩
  by_cases au:id=fr
  ·subst au;simp at h2;exact(eK b h2).2
  ·simp[au]at h1 h2
   exact Nat.lt_of_lt_of_le (hH.ours b ⟨id,h1,h2⟩).2 hk.size
theorem cj(w:World)(o:Obj):dx (fun _=>False) w (w.alloc o):=
 ⟨rfl,rfl,rfl,aJ,fun k hk _=>RowKit.Below.heap_alloc w o k hk⟩
theorem lx{w w':World}(h:w.grownBy w' none):dx (fun _=>False) w w':=
 ⟨h.os,h.tape,h.output,h.size,fun k hk _=>h.block k hk aJ⟩
theorem L4(hH:aw M φ H w){fr:Nat}(cL: ¬H.us fr)(cs:List V)(dG:Array Value)(ty:TypeId)(hd:V.az (ak M φ H) φ H w cs dG.toList)(hf:Flat dG.toList):
 let aC:=aD φ fr (.pointer (some ⟨w.heap.size,0,none⟩));let H':=H.put [(fr, .row cs)];let w':=w.alloc (.cells dG ty)
 aw M aC H' w'/\Trans φ H w aC H' w'/\V.den (ak M aC H') aC H' w' (.ptr fr 0) (.pointer (some ⟨w.heap.size,0,none⟩)):=by
 intro aC H' w'
 have hv:∀b,de (.pointer (some ⟨w.heap.size,0,none⟩))=some b->w.heap.size<=b/\b<w'.heap.size:=by
  intro b hb;simp[de]at hb;subst hb;simp[w']
 have ht:Trans φ H w aC H' w':=dU (cj w _) cL _ _ fun b hb=>(hv b hb).1
 refine⟨ik hH (cj w _) cL _ _ hv ?_,ht,rfl,by simp[H'],fun _=>⟨w.heap.size,by simp[aC],rfl⟩⟩
 unfold aM
 simp only[bA,aG,if_true]
 exact⟨w.heap.size,dG,ty,rfl,heap_alloc_new w _,V.aN ht cs _ hd,hf⟩
theorem eB{id:Nat}(dX:H.us id){b:Nat}(cz:(H.o id).live=true)(hb:de (φ id)=some b)(hk:dx (· =b) w w')(obj:ab)(bE:obj.b7=(H.o id).b7)(vq:obj.bX=(H.o id).bX):
 Trans φ H w φ (H.put [(id,obj)]) w' where
 keep:=⟨hk.os,hk.tape,hk.output,hk.size,fun k h hl=>hk.block k h (fun e=>hl ⟨id,cz,e ▸ hb⟩)⟩
 grow b':=by
  rintro⟨j,h1,h2⟩
  by_cases hj:j=id
  ·subst hj;exact .inl ⟨j,cz,h2⟩
  ·simp[hj]at h1;exact .inl ⟨j,h1,h2⟩
 rel:={
  us:=fun j h=>by simp[h]
  row:=fun j hu hr=>by
   by_cases hj:j=id
   ·subst hj;simp at hr;exact⟨bE ▸ hr,rfl⟩
   ·exact Ik
  ep:=fun j e' hu he=>by
   by_cases hj:j=id
   ·subst hj;simp at he;exact⟨e',vq ▸ he,Nat.le_refl _,fun _=>rfl⟩
   ·simp[hj]at he;exact⟨e',he,Nat.le_refl _,fun _=>rfl⟩}
theorem gI(hH:aw M φ H w){id:Nat}(dX:H.us id){b:Nat}(cz:(H.o id).live=true)(hb:de (φ id)=some b)(hk:dx (· =b) w w')(obj:ab)(bE:obj.b7=(H.o id).b7)
 (vq:obj.bX=(H.o id).bX) (tx:aM M φ (H.put [(id,obj)]) w' id):aw M φ (H.put [(id,obj)]) w':=by
 refine hH.of (eB dX cz hb hk obj bE vq) (· =id) (fun j h=>h ▸ tx) (fun j h=> ?_) (fun j h=> ?_) (fun i j b' hi hj bi bj=> ?_) (fun b'=> ?_)
 ·refine⟨by simp[h],rfl,fun hl b' Iw=>hk.block b' (hH.ours b' ⟨j,hl,Iw⟩).2 fun e=>h ?_⟩
  exact hH.apart j id b hl cz (e ▸ Iw) hb
 ·rw[dJ]at h
  have h1:j≠id:=fun e=>h (.inr e)
  exact RT
 ·refine hH.apart i j b' ?_ ?_ bi bj
  ·by_cases e:i=id
   ·subst e;exact cz
   ·simpa[e]using hi
  ·by_cases e:j=id
   ·subst e;exact cz
   ·simpa[e]using hj
 ·rintro⟨j,h1,h2⟩
  refine Nat.lt_of_lt_of_le (hH.ours b' ⟨j, ?_,h2⟩).2 hk.size
  by_cases e:j=id
  ·subst e;exact cz
  ·simpa[e]using h1
theorem jV(w:World)(b:Nat)(cs:Array Value):dx (· =b) w (w.setRow b cs):=
 ⟨rfl,rfl,rfl,aJ,fun k _ hk=>by
  unfold World.setRow
  simp only[Array.getElem?_modify]
  rw[if_neg (fun e=>hk e.symm)]⟩
theorem Ag(hH:aw M φ H w){id b:Nat}(dX:H.us id){cs cs':List V}(ho:H.o id= .row cs)(dT:φ id= .pointer (some ⟨b,0,none⟩)){dG:Array Value}{ty:TypeId}
 (hb:w.heap[b]? =some (.cells dG ty (0,0))) (pg:Array Value) (hd:V.az (ak M φ H) φ H w cs' pg.toList) (hf:Flat pg.toList):
 aw M φ (H.put [(id, .row cs')]) (w.setRow b pg)/\Trans φ H w φ (H.put [(id, .row cs')]) (w.setRow b pg):=by
 have hl:(H.o id).live=true:=by rw[ho];rfl
 have zJ:de (φ id)=some b:=by rw[dT];rfl
 have ht:Trans φ H w φ (H.put [(id, .row cs')]) (w.setRow b pg):=eB dX hl zJ (jV w b pg) _ ew ew
 refine⟨gI hH dX hl zJ (jV w b pg) _ ew ew ?_,ht⟩
 unfold aM
 simp only[bA,aG,if_true]
 exact⟨b,pg,ty,dT,setRow_heap w b dG pg ty (0,0) hb,V.aN ht cs' _ hd,hf⟩
theorem ph{B:Nat->Prop}{sz g:Nat}(cur:Array Value)(ty:TypeId)(fz:Nat×Nat)(hg:w.heap[g]? =some (.cells cur ty fz))(hB: ¬B g):
 ∀ (es:List D) (evs:List Value) (i:Nat),D.az B w es evs->(∀ev∈evs,ev.cells.size=sz)->(∀j u,(evs.flatMap (·.cells.toList))[j]? =some u->cur[i*sz+j]? =some u)->D.elems B w sz ⟨g,0,none⟩ i es
 |[],_,_,_,_,_=>trivial
 |e::es,_,i,h,hs,hc=>by
  obtain⟨ev,evs,rfl,h1,h2⟩:=h
  have dA:ev.cells.size=sz:=hs ev aJ
  refine⟨⟨ev,dA,fun j u hj=> ?_,h1⟩,ph cur ty fz hg hB es evs (i+1) h2 (fun x hx=>hs x og) fun j u hj=> ?_⟩
  ·have cm:j<ev.cells.size:=(Array.getElem?_eq_some_iff.1 hj).1
   have:cur[i*sz+j]? =some u:=hc j u (by
    rw[List.flatMap_cons,List.getElem?_append_left (by simpa using cm)];simpa using hj)
   refine⟨?_,by simpa using hB⟩
   unfold Addr.add World.cell?
   by_cases e1:i*sz=0<;>by_cases e2:j=0<;>simp_all
  ·have:=hc (sz+j) u (by
    rw[List.flatMap_cons,List.getElem?_append_right (by simp[dA])]
    simpa[dA]using hj)
   rw[show(i+1)*sz+j=i*sz+(sz+j) by rw[Nat.add_mul];omega]
   exact this
theorem L5(hH:aw M φ H w){id ep sz:Nat}{ty:TypeId}{es:List D}(dX:H.us id)(ho:H.o id= .arr ep ty sz es):
 aw M φ (H.put [(id, .rz ep es)]) w/\Trans φ H w φ (H.put [(id, .rz ep es)]) w:=by
 have oP:∀b,cw φ (H.put [(id, .rz ep es)]) b->cw φ H b:=by
  rintro b ⟨j,h1,h2⟩
  by_cases hj:j=id
  ·subst hj;simp[ab.live]at h1
  ·simp[hj]at h1;exact⟨j,h1,h2⟩
 have ht:Trans φ H w φ (H.put [(id, .rz ep es)]) w:={
  keep:=dx.refl _ _
  grow:=fun b hb=> .inl (oP b hb)
  rel:={
   us:=fun j h=>by simp[h]
   row:=fun j hu hr=>by
    by_cases hj:j=id
    ·subst hj;simp[ab.b7]at hr
    ·exact Ik
   ep:=fun j e' hu he=>by
    by_cases hj:j=id
    ·subst hj;simp[ab.bX]at he;subst he;exact⟨ep,by rw[ho];rfl,Nat.le_refl _,fun _=>rfl⟩
    ·simp[hj]at he;exact⟨e',he,Nat.le_refl _,fun _=>rfl⟩}}
 refine⟨hH.of ht (· =id) (fun j h=> ?_) (fun j h=>⟨by simp[h],rfl,fun _ _ _=>rfl⟩) (fun j h=> ?_) (fun i j b hi hj bi bj=> ?_) (fun b hb=>(hH.ours b (oP b hb)).2),ht⟩
 ·subst h
  have aS:=hH.ok j
  unfold aM at aS|-
  simp only[ho,bA,aG,if_true]at aS|-
  obtain⟨h0,xs,⟨hl,bE⟩,evs,rfl,h2,h3⟩:=aS
  have hlen:=D.ax _ _ h3
  rcases bE with⟨h4,h5⟩|⟨g,cap,cur,h4,_,h5,h6,h7,h8,h9⟩
  ·rw[h4]
   have:es=[]:=by simpa using h5
   subst this
   exact W9
  ·rw[h4]
   refine⟨some ⟨g,0,none⟩,es.length,cap,rfl,rfl,h6,(fun h=>by cases h),sz,fun a ha=> ?_⟩
   injection ha with ha;subst ha
   refine⟨fun _=>rfl,ph cur ty (0,0) h5 ?_ es evs 0 (D.aN (ht.blocks (M:=M)) es evs h3) h2 fun j' u HA=> ?_⟩
   ·rintro(hM|⟨i,Ix,X1⟩)
    ·exact(hH.ours g ⟨j,by rw[ho];rfl,by rw[h4];rfl⟩).1 hM
    ·by_cases e:i=j
     ·subst e;simp[ab.live]at Ix
     ·simp[e]at Ix
      exact e (hH.apart i j g Ix ew X1 (by rw[h4];rfl))
   ·rw[<- h9]at HA
    simp only[Nat.zero_mul,Nat.zero_add]
    rw[List.getElem?_take]at HA
    split at HA
    ·simpa using HA
    ·cases HA
 ·rw[dJ]at h
  have h1:j≠id:=fun e=>h (.inr e)
  exact RT
 ·by_cases e1:i=id
  ·subst e1;simp[ab.live]at hi
  ·by_cases e2:j=id
   ·subst e2;simp[ab.live]at hj
   ·simp[e1,e2]at hi hj;exact hH.apart i j b hi hj bi bj
theorem Eb(hH:aw M φ H w){id:Nat}{kt vt:TypeId}{l:List (D×D)}(dX:H.us id)(ho:H.o id= .map kt vt l):
 aw M φ (H.put [(id, .gH l)]) w/\Trans φ H w φ (H.put [(id, .gH l)]) w:=by
 have oP:∀b,cw φ (H.put [(id, .gH l)]) b->cw φ H b:=by
  rintro b ⟨j,h1,h2⟩
  by_cases hj:j=id
  ·subst hj;simp[ab.live]at h1
  ·simp[hj]at h1;exact⟨j,h1,h2⟩
 have ht:Trans φ H w φ (H.put [(id, .gH l)]) w:={
  keep:=dx.refl _ _
  grow:=fun b hb=> .inl (oP b hb)
  rel:={
   us:=fun j h=>by simp[h]
   row:=fun j hu hr=>by
    by_cases hj:j=id
    ·subst hj;exact⟨by rw[ho];rfl,rfl⟩
    ·exact Ik
   ep:=fun j e' hu he=>by
    by_cases hj:j=id
    ·subst hj;simp[ab.bX]at he
    ·simp[hj]at he;exact⟨e',he,Nat.le_refl _,fun _=>rfl⟩}}
 refine⟨hH.of ht (· =id) (fun j h=> ?_) (fun j h=>⟨by simp[h],rfl,fun _ _ _=>rfl⟩) (fun j h=> ?_) (fun i j b hi hj bi bj=> ?_) (fun b hb=>(hH.ours b (oP b hb)).2),ht⟩
 ·subst h
  have aS:=hH.ok j
  unfold aM at aS|-
  simp only[ho,bA,aG,if_true]at aS|-
  obtain⟨b,es,clock,h1,h2,h3,h4⟩:=aS
  obtain⟨h5,h6⟩:=(kL _ _).1 h4
  refine⟨b,es,clock,es.toList,h1,h2, ?_,h3, .inl rfl,D.aN (ht.blocks (M:=M)) _ _ h5,D.aN (ht.blocks (M:=M)) _ _ h6⟩
  rintro(hM|⟨i,Ix,X1⟩)
  ·exact(hH.ours b ⟨j,by rw[ho];rfl,by rw[h1];rfl⟩).1 hM
  ·by_cases e:i=j
   ·subst e;simp[ab.live]at Ix
   ·simp[e]at Ix
    exact e (hH.apart i j b Ix ew X1 tf)
 ·rw[dJ]at h
  have h1:j≠id:=fun e=>h (.inr e)
  exact RT
 ·by_cases e1:i=id
  ·subst e1;simp[ab.live]at hi
  ·by_cases e2:j=id
   ·subst e2;simp[ab.live]at hj
   ·simp[e1,e2]at hi hj;exact hH.apart i j b hi hj bi bj
end
end
section
def cn(M:Nat->Prop)(φ:Place)(H:Hp)(w:World)(fr:Nat)(r:Result Next)(K:V->List (Nat×ab)->List Nat->Prop):Prop:=
 ∃nx val w' aC v Δ rd,K v Δ rd/\r= .ok nx w'/\(nx= .value val\/nx= .skip/\val=undef)/\aw M aC (H.put Δ) w'/\Trans φ H w aC (H.put Δ) w'/\
  V.den (ak M aC (H.put Δ)) aC (H.put Δ) w' v val/\(∀id∈Δ.map (·.1),H.us id\/id=fr)
section
variable {P:Program}{M:Nat->Prop}{φ:Place}{H:Hp}{w:World}{fr:Nat}{K:V->List (Nat×ab)->List Nat->Prop}
theorem cn.same (hH:aw M φ H w){r:Result Next}{v:V}{rd:List Nat}(val:Value)(hK:K v [] rd)(hr:r= .ok (.value val) w)(hd:V.den (ak M φ H) φ H w v val):cn M φ H w fr r K:=
 ⟨_,val,w,φ,v,[],rd,hK,hr, .inl rfl,by rw[nn];exact hH,by rw[nn];exact Trans.refl _ _ _,by rw[nn];exact hd,aJ⟩
theorem cn.mono {r:Result Next}{K':V->List (Nat×ab)->List Nat->Prop}(h:cn M φ H w fr r K)(hk:∀v Δ rd,K v Δ rd->K' v Δ rd):cn M φ H w fr r K':=by
 obtain⟨nx,val,w',aC,v,Δ,rd,h1,h2⟩:=h
 exact⟨nx,val,w',aC,v,Δ,rd,hk _ _ _ h1,h2⟩
theorem info_of_underlying{t:TypeId}{d:TypeDesc}(h:P.underlying t=some d):∃i,P.info? t=some i:=by
 unfold Program.underlying at h
 cases hi:P.info? t with
 |none=>simp[hi]at h
 |some i=>exact⟨i,rfl⟩
theorem bF{t:TypeId}{i:TypeInfo}(h:P.info? t=some i):P.cellsOf t=i.size:=by simp[Program.cellsOf,h]
theorem ly{t:TypeId}{i:TypeInfo}(h:P.info? t=some i):P.bytesOf t=i.bytes:=by simp[Program.bytesOf,h]
theorem jt{t:TypeId}{z:List V}(h:cp P t=some z):∃i v,P.info? t=some i/\i.zero=some v/\v.cells.size=i.size/\Flat v.cells.toList/\z=v.cells.toList.map V.cZ:=by
 unfold cp at h
 cases hi:P.info? t with
 |none=>simp[hi]at h
 |some i=>
  simp only[hi]at h
  cases hz:i.zero with
  |none=>simp[hz]at h
  |some v=>
   simp only[hz]at h
   split at h
   ·rename_i hc
    injection h with h
    exact⟨i,v,rfl,hz,hc.1,fun u hu=>List.all_eq_true.1 hc.2 u hu,h.symm⟩
   ·cases h
theorem qE{t:TypeId}(h:cE P t=some true)(w:World):(isAgg t).run P w= .ok true w:=by
 unfold cE at h
 unfold isAgg
 cases hd:P.underlying t with
 |none=>simp[hd]at h
 |some d=>cases d<;>simp_all[run_underlying hd]
theorem om{t:TypeId}(h:cE P t=some false)(w:World):(isAgg t).run P w= .ok false w:=by
 unfold cE at h
 unfold isAgg
 cases hd:P.underlying t with
 |none=>simp[hd]at h
 |some d=>cases d<;>simp_all[run_underlying hd]
theorem dq{t:TypeId}{i:TypeInfo}(h:P.info? t=some i)(w:World):(sizeOf t).run P w= .ok (P.cellsOf t) w:=by
 simp[sizeOf,typeInfo,h,bF h]
theorem qF{t:TypeId}{b:Bool}(h:cE P t=some b):∃i,P.info? t=some i:=by
 unfold cE at h
 cases hd:P.underlying t with
 |none=>simp[hd]at h
 |some d=>exact info_of_underlying hd
theorem a8{t e:TypeId}(h:bV P t=some e):P.underlying t=some (.slice e):=by
 unfold bV at h
 cases hd:P.underlying t with
 |none=>simp[hd]at h
 |some d=>cases d<;>simp_all
theorem wb{t e:TypeId}{n:Nat}(h:vo P t=some (n,e)):P.underlying t=some (.array n e):=by
 unfold vo at h
 cases hd:P.underlying t with
 |none=>simp[hd]at h
 |some d=>cases d<;>simp_all
theorem add_zero(a:Addr):a.add 0=a:=by simp[Addr.add]
theorem add_plain(b o j:Nat):(⟨b,o,none⟩:Addr).add j=⟨b,o+j,none⟩:=by
 unfold Addr.add;split
 ·rename_i h;subst h;rfl
 ·rfl
theorem add_add(a:Addr)(h:a.spot=none)(m n:Nat):(a.add m).add n=a.add (m+n):=by
 obtain⟨b,o,s⟩:=a
 simp only at h;subst h
 simp only[add_plain,Nat.add_assoc]
theorem Ah(a:Addr)(h:a.spot=none)(m:Nat):(a.add m).spot=none:=by
 unfold Addr.add;split<;>first|exact h|rfl
theorem mi(s:S)(a:Act)(dO:∀i,V.den (ak M φ H) φ H w (s.env i) (a.tmps.getD i undef))(x:Operand):V.den (ak M φ H) φ H w (s.ev x) (a.eval x):=by
 cases x with
 |tmp t=>exact dO t
 |func f=>exact⟨#[],#[],rfl,rfl,rfl⟩
 |global g=>trivial
 |const v=>
  cases v with
  |agg c=>
   simp only[S.ev,V.ofConst,Act.eval]
   split
   ·rename_i hc
    have hf:Flat c.toList:=fun u hu=>List.all_eq_true.1 hc u hu
    exact kO _ _ (dp _ hf) hf
   ·trivial
  |tuple _=>trivial
  |_=>simp only[S.ev,V.ofConst,Act.eval];exact lu _ (by rfl)
theorem jW(s:S)(a:Act)(dO:∀i,V.den (ak M φ H) φ H w (s.env i) (a.tmps.getD i undef)):∀ (xs:List Operand),V.az (ak M φ H) φ H w (xs.map s.ev) (xs.map a.eval)
 |[]=>rfl
 |x::xs=>⟨a.eval x,xs.map a.eval,rfl,mi s a dO x,jW s a dO xs⟩
theorem mj{t:TypeId}(a:Addr)(us:List Value)(hc:∀j u,us[j]? =some u->w.cell? (a.add j)=some u):
 (cE P t=some true->us.length=P.cellsOf t->(Instr.loadAt t (.pointer (some a))).run P w= .ok (.agg us.toArray) w)/\
 (cE P t=some false->∀u,us[0]? =some u->(Instr.loadAt t (.pointer (some a))).run P w= .ok u w):=by
 constructor
 ·intro h hl
  obtain⟨i,hi⟩:=qF h
  have h1:=run_loadCells_list (P:=P) w a us hc
  rw[hl]at h1
  simp[Instr.loadAt,Instr.sureAddr,loadVar,qE h,dq hi,h1]
 ·intro h u hu
  have h1:=hc 0 u hu
  rw[add_zero]at h1
  simp[Instr.loadAt,Instr.sureAddr,loadVar,om h,h1]
theorem pj{t:TypeId}{cs:List V}{off:Nat}{v:V}(hg:ez P t cs off=some v)(a:Addr)(vs:List Value)(hd:V.az (ak M φ H) φ H w cs vs)(hf:Flat vs)
 (hc:∀j u,vs[j]? =some u->w.cell? (a.add j)=some u) (ha:a.spot=none):∃val,(Instr.loadAt t (.pointer (some (a.add off)))).run P w= .ok val w/\V.den (ak M φ H) φ H w v val:=by
 have hlen:=V.ax _ _ hd
 unfold ez at hg
 cases CD:cE P t with
 |none=>simp[CD]at hg
 |some b=>
  cases b with
  |true=>
   simp only[CD]at hg
   split at hg
   ·rename_i hle
    injection hg with hg;subst hg
    refine⟨.agg ((vs.drop off).take (P.cellsOf t)).toArray,(mj (P:=P) (t:=t) (a.add off) ((vs.drop off).take (P.cellsOf t)) ?_).1 CD oW, ?_⟩
    ·intro j u hj
     rw[add_add a ha]
     rw[List.getElem?_take]at hj
     split at hj
     ·exact hc _ _ l7
     ·cases hj
    ·refine kO _ _ ?_ ?_
     ·exact V.dn _ _ _ (V.dS _ _ _ hd)
     ·intro u hu
      exact hf u (List.mem_of_mem_drop (List.mem_of_mem_take (by simpa using hu)))
   ·cases hg
  |false=>
   simp only[CD]at hg
   obtain⟨u,hu,L6⟩:=V.dm _ _ _ _ hd hg
   refine⟨u,(mj (P:=P) (t:=t) (a.add off) (vs.drop off) ?_).2 CD u (by simpa using hu),L6⟩
   intro j x hj
   rw[add_add a ha]
   exact hc _ _ l7
theorem ml(sz:Nat):∀ (evs:List Value) (i j:Nat) (ev:Value) (u:Value),(∀x∈evs,x.cells.size=sz)->evs[i]? =some ev->ev.cells[j]? =some u->
 (evs.flatMap (·.cells.toList))[i*sz+j]? =some u
 |[],_,_,_,_,_,h,_=>by simp at h
 |e::evs,0,j,ev,u,hs,h,hu=>by
  simp at h;subst h
  have:j<e.cells.size:=(Array.getElem?_eq_some_iff.1 hu).1
  rw[List.flatMap_cons,List.getElem?_append_left (by simp;omega)]
  simpa using hu
 |e::evs,i+1,j,ev,u,hs,h,hu=>by
  have ih:=ml sz evs i j ev u (fun x hx=>hs x og) (by simpa using h) hu
  rw[List.flatMap_cons,List.getElem?_append_right (by simp[hs e (by simp),Nat.add_mul];omega)]
  simp only[Array.length_toList,hs e (by simp)]
  rw[show(i+1)*sz+j - sz=i*sz+j by rw[Nat.add_mul];omega]
  exact ih
theorem pk{g:Nat}{dG:Array Value}{ty:TypeId}{fz:Nat×Nat}(h:w.heap[g]? =some (.cells dG ty fz))(j:Nat)(u:Value)(hu:dG[j]? =some u):w.cell? ((⟨g,0,none⟩:Addr).add j)=some u:=by
 rw[add_plain,Nat.zero_add,cell_of_row w g j dG ty fz h];exact hu
theorem Iy{B:Nat->Prop}{ty:TypeId}{sz:Nat}{es:List D}{v:Value}{b n c i:Nat}{e:D}
 (aS:0<sz/\∃xs,w.ownsRow 0 ty sz v es.length xs/\fu B w sz es xs) (hv:v= .slice (some ⟨b,0,none⟩) n c) (he:es[i]? =some e):
 ∃ev:Value,ev.cells.size=sz/\D.az B w e.cells ev.cells.toList/\Flat ev.cells.toList/\(∀j u,ev.cells.toList[j]? =some u->w.cell? ((⟨b,i*sz,none⟩:Addr).add j)=some u):=by
 obtain⟨h0,xs,⟨hl,bE⟩,evs,rfl,h2,h3⟩:=aS
 obtain⟨ev,dc,hd⟩:=D.dm _ _ _ _ h3 he
 have RY:=D.eN _ _ hd
 refine⟨ev,h2 ev (List.mem_of_getElem? dc),RY.1,RY.2,fun j u hj=> ?_⟩
 subst hv
 rcases bE with⟨h4,_⟩|⟨g,cap,cur,h4,_,h5,h6,h7,h8,h9⟩
 ·simp at h4
 ·simp at h4;obtain⟨rfl,_,rfl⟩:=h4
  have:=ml sz evs i j ev u h2 dc l7
  rw[<- h9,List.getElem?_take]at this
  split at this
  ·have OT:=pk h5 (i*sz+j) u (by simpa using this)
   rw[add_plain]at OT|-
   simpa using OT
  ·cases this
theorem Iz(hH:aw M φ H w){t:TypeId}{x:V}{xv:Value}(hx:V.den (ak M φ H) φ H w x xv)
 (h:Ab P H.o t x fun v rd=>K v [] rd):cn M φ H w fr ((do let y <- Instr.loadAt t xv;pure (Next.value y):Sem Next).run P w) K:=by
 have fin:∀ (v:V) rd,K v [] rd->(∃val,(Instr.loadAt t xv).run P w= .ok val w/\V.den (ak M φ H) φ H w v val)->cn M φ H w fr ((do let y <- Instr.loadAt t xv;pure (Next.value y):Sem Next).run P w) K:=by
  rintro v rd hK ⟨val,h1,h2⟩
  exact cn.same hH val hK (by simp[h1]) h2
 unfold Ab at h
 split at h
 ·rename_i id off
  split at h
  ·rename_i cs ho
   obtain⟨v,h1,hK⟩:=h
   obtain⟨_,hu,hp⟩:=hx
   obtain⟨b,dT,rfl⟩:=hp ew
   have aS:=hH.ok id
   simp only[aM,ho]at aS
   obtain⟨b',dG,ty,g1,g2,g3,g4⟩:=aS
   rw[dT]at g1;simp at g1;subst g1
   refine fin v _ hK ?_
   have:=pj (P:=P) h1 ⟨b,0,none⟩ dG.toList g3 g4 (fun j u hj=>pk g2 j u l7) rfl
   rwa [add_plain,Nat.zero_add]at this
  ·exact h.elim
 ·rename_i cs off
  obtain⟨v,h1,hK⟩:=h
  obtain⟨a,ev,ha,rfl,hd,hf,hc⟩:=hx
  exact fin v _ hK (pj h1 a ev ((V.b8 _ _).2 hd) hf (fun j u hj=>(hc j u l7).1) ha)
 ·rename_i id ep i sz off
  split at h
  ·rename_i ig ty qo es ho
   obtain⟨rfl,rfl,e,he,v,h1,hK⟩:=h
   obtain⟨_,hu,hp⟩:=hx
   obtain⟨b,n,c,dT,rfl⟩:=(hp ep ew).2 rfl
   have aS:=hH.ok id
   simp only[aM,ho]at aS
   obtain⟨ev,g1,g2,g3,g4⟩:=Iy aS dT he
   refine fin v _ hK ?_
   have:=pj (P:=P) h1 ⟨b,i*sz,none⟩ ev.cells.toList ((V.b8 _ _).2 g2) g3 g4 rfl
   rwa [add_plain]at this
  ·exact h.elim
 ·exact h.elim
end
end
section
section
variable {P:Program}{M:Nat->Prop}{φ:Place}{H:Hp}{w:World}{fr:Nat}{K:V->List (Nat×ab)->List Nat->Prop}
theorem cn.plain (hH:aw M φ H w){s:Sem Value}{v:V}{rd:List Nat}(val:Value)(hK:K v [] rd)(hr:s.run P w= .ok val w)(hd:V.den (ak M φ H) φ H w v val):
 cn M φ H w fr ((do let y <- s;pure (Next.value y):Sem Next).run P w) K:=cn.same hH val hK (by simp[hr]) hd
theorem Ai{t:TypeId}{f q:Nat}(h:bJ P t f=some q):∃fs fd,P.underlying t=some (.struct fs)/\fs[f]? =some fd/\P.cellsOf fd.type≠0/\fd.offset=q:=by
 unfold bJ at h
 cases hd:P.underlying t with
 |none=>simp[hd]at h
 |some d=>
  cases d<;>simp only[hd]at h<;>try (cases h;done)
  rename_i fs
  cases hf:fs[f]? with
  |none=>simp[hf]at h
  |some fd=>
   simp only[hf]at h
   split at h
   ·cases h
   ·injection h with h
    exact⟨fs,fd,rfl,hf,by assumption,h⟩
theorem Aj{t:TypeId}{f q:Nat}(h:bJ P t f=some q)(a:Addr):(Instr.fieldAt t (.pointer (some a)) f).run P w= .ok (.pointer (some (a.add q))) w:=by
 obtain⟨fs,fd,h1,h2,h3,rfl⟩:=Ai h
 have:∃i,P.info? fd.type=some i:=by
  cases hi:P.info? fd.type with
  |none=>simp[Program.cellsOf,hi]at h3
  |some i=>exact⟨i,rfl⟩
 obtain⟨i,hi⟩:=this
 simp[Instr.fieldAt,run_underlying h1,h2,Instr.sureAddr,fieldPlace,dq hi,h3]
def V.step (x:V)(q:Nat):Option V:=
 match x with
 | .ptr id off=>some (.ptr id (off+q))
 | .pp cs off=>some (.pp cs (off+q))
 | .pe id ep j sz off=>some (.pe id ep j sz (off+q))
 |_=>none
def V.place (o:Nat->ab):V->Prop
 | .ptr id _=>(o id).b7=true
 | .pe id ep _ _ _=>(o id).bX=some ep
 |_=>True
theorem Ak{x y:V}{q:Nat}(h:x.step q=some y){xv:Value}(hx:V.den (ak M φ H) φ H w x xv)
 (hr:x.place H.o):
 ∃a,xv= .pointer (some a)/\V.den (ak M φ H) φ H w y (.pointer (some (a.add q))):=by
 cases x with
 |ptr id off=>
  simp only[V.step,Option.some.injEq]at h;subst h
  obtain⟨h1,h2,h3⟩:=hx
  obtain⟨b,h4,rfl⟩:=h3 hr
  exact⟨_,rfl,rfl,h2,fun _=>⟨b,h4,by rw[add_plain]⟩⟩
 |pp cs off=>
  simp only[V.step,Option.some.injEq]at h;subst h
  obtain⟨a,ev,ha,rfl,hd⟩:=hx
  exact⟨_,rfl,a,ev,ha,by rw[add_add a ha],hd⟩
 |pe id ep j sz off=>
  simp only[V.step,Option.some.injEq]at h;subst h
  obtain⟨h1,h2,h3⟩:=hx
  obtain⟨b,n,c,h4,rfl⟩:=(h3 ep hr).2 rfl
  refine⟨_,rfl,rfl,h2,fun e he=>⟨(h3 e he).1,fun heq=>⟨b,n,c,h4,by rw[add_plain,Nat.add_assoc]⟩⟩⟩
 |_=>simp[V.step]at h
theorem vr(hH:aw M φ H w){t:TypeId}{f:Nat}{x:V}{xv:Value}(hx:V.den (ak M φ H) φ H w x xv)(h:jq P H.o t x f fun v=>K v [] []):
 cn M φ H w fr ((do let y <- Instr.fieldAt t xv f;pure (Next.value y):Sem Next).run P w) K:=by
 have fin:∀ (y:V) q,bJ P t f=some q->x.step q=some y->x.place H.o->K y [] []->
  cn M φ H w fr ((do let y <- Instr.fieldAt t xv f;pure (Next.value y):Sem Next).run P w) K:=by
  intro y q hq hs hr hK
  obtain⟨a,rfl,hd⟩:=Ak hs hx hr
  exact cn.plain hH _ hK (Aj hq a) hd
 unfold jq at h
 split at h
 ·rename_i q hq
  split at h
  ·exact fin _ q hq rfl h.1 h.2
  ·exact fin _ q hq rfl trivial h
  ·exact fin _ q hq rfl h.1 h.2
  ·exact h.elim
 ·exact h.elim
theorem CE{B:Nat->Prop}{es:List D}{xv:Value}(hx:D.den B w (.sl es) xv){i:Nat}{y:D}(hy:es[i]? =some y):
 ∃a len cap ev,xv= .slice (some a) len cap/\i<len/\a.spot=none/\D.az B w y.cells ev/\Flat ev/\fW B w (a.add (i*y.cells.length)) ev.toArray/\len=es.length:=by
 obtain⟨base,len,cap,rfl,rfl,h2,h3,sz,h4⟩:=hx
 have cm:i<es.length:=(List.getElem?_eq_some_iff.1 hy).1
 cases base with
 |none=>have:=h3 rfl;omega
 |some a=>
  obtain⟨h5,h6⟩:=h4 a rfl
  obtain⟨ev,h7,h8,h9⟩:=D.vY es 0 i y h6 hy
  have OT:=D.eN _ _ h9
  have h11:y.cells.length=sz:=by rw[<- h7, <- D.ax _ _ OT.1];simp
  refine⟨a,es.length,cap,ev.cells.toList,rfl,cm,h5 ae,OT.1,OT.2, ?_,rfl⟩
  rw[h11]
  simpa using h8
theorem nW{t e:TypeId}(ht:bV P t=some e)(a:Addr)(len cap:Nat)(k:IntKind)(i:Int)(h0:0<=i)(h1:i.toNat<len)(hc:0<P.cellsOf e):
 (Instr.indexAt t (.slice (some a) len cap) (.int k i)).run P w= .ok (.pointer (some (a.add (i.toNat*P.cellsOf e)))) w:=by
 have hu:=a8 ht
 have:∃ie,P.info? e=some ie:=by
  cases hi:P.info? e with
  |none=>simp[Program.cellsOf,hi]at hc
  |some i=>exact⟨i,rfl⟩
 obtain⟨ie,hi⟩:=this
 have h2:0<=i/\i<(len:Int):=⟨h0,ae⟩
 simp[Instr.indexAt,run_underlying hu,asIntOf,h2,dq hi]
theorem vu{t e:TypeId}{n:Nat}(ht:vo P t=some (n,e))(a:Addr)(k:IntKind)(i:Int)(h0:0<=i)(h1:i<n)(hi:∃ie,P.info? e=some ie):
 (Instr.indexAt t (.pointer (some a)) (.int k i)).run P w= .ok (.pointer (some (a.add (i.toNat*P.cellsOf e)))) w:=by
 have hu:=wb ht
 obtain⟨ie,hi⟩:=hi
 have h2:0<=i/\i<(n:Int):=⟨h0,h1⟩
 simp[Instr.indexAt,run_underlying hu,asIntOf,Instr.sureAddr,h2,dq hi]
theorem vw(hH:aw M φ H w){t:TypeId}{x ix:V}{xv iv:Value}(hx:V.den (ak M φ H) φ H w x xv)(hi:V.den (ak M φ H) φ H w ix iv)
 (h:jo P H.o t x ix fun v rd=>K v [] rd):cn M φ H w fr ((do let y <- Instr.indexAt t xv iv;pure (Next.value y):Sem Next).run P w) K:=by
 unfold jo at h
 split at h
 ·rename_i k i
  simp only[V.den,D.den]at hi;subst hi
  have xL:∀ {e:TypeId} {es:List D} {rd},bV P t=some e->D.den (ak M φ H) w (.sl es) xv->(0<=i/\∃y,es[i.toNat]? =some y/\y.cells.length=P.cellsOf e/\0<P.cellsOf e/\K (.pp y.cells 0) [] rd)->
   cn M φ H w fr ((do let y <- Instr.indexAt t xv (.int k i);pure (Next.value y):Sem Next).run P w) K:=by
   rintro e es rd ht hd ⟨h0,y,hy,hc,fA,hK⟩
   obtain⟨a,len,cap,ev,rfl,h1,h2,h3,h4,h5,_⟩:=CE hd hy
   refine cn.plain hH _ hK (nW ht a len cap k i h0 h1 fA) ⟨a.add (i.toNat*P.cellsOf e),ev,Ah a h2 _,by rw[add_zero],h3,h4, ?_⟩
   rw[<- hc];exact h5
  split at h
  ·rename_i e ht
   split at h
   ·exact xL ht hx h
   ·exact xL ht hx.1 h
   ·rename_i id ep
    split at h
    ·rename_i ig ty sz es ho
     obtain⟨rfl,h0,h1,rfl,fA,hK⟩:=h
     obtain⟨L7,dX,vq⟩:=hx
     have hv:=(vq ep ew).2 rfl
     have aS:=hH.ok id
     simp only[aM,ho]at aS
     obtain⟨h3,xs,⟨_,bE⟩,_⟩:=aS
     rcases bE with⟨_,h5⟩|⟨g,cap,cur,h4,_⟩
     ·omega
     ·subst hv
      rw[h4]
      refine cn.plain hH _ hK (nW ht _ _ cap k i h0 h1 fA) ⟨rfl,dX,fun e' oQ=>⟨(vq e' oQ).1,fun heq=>⟨g,es.length,cap,h4,by rw[add_plain];simp⟩⟩⟩
    ·rename_i ig es ho
     obtain⟨rfl,h⟩:=h
     obtain⟨L7,dX,vq⟩:=hx
     have hv:=(vq ep ew).2 rfl
     have aS:=hH.ok id
     simp only[aM,ho]at aS
     exact xL ht (hv ▸ aS) h
    ·exact h.elim
   ·exact h.elim
  ·split at h
   ·rename_i n e ht
    obtain⟨h0,h1,abZ,h⟩:=h
    have fin:∀ (y:V),x.step (i.toNat*P.cellsOf e)=some y->x.place H.o->K y [] []->
     cn M φ H w fr ((do let y <- Instr.indexAt t xv (.int k i);pure (Next.value y):Sem Next).run P w) K:=by
     intro y hs hr hK
     obtain⟨a,rfl,hd⟩:=Ak hs hx hr
     refine cn.plain hH _ hK (vu ht a k i h0 h1 (Option.isSome_iff_exists.1 abZ)) hd
    split at h
    ·exact fin _ rfl h.1 h.2
    ·exact fin _ rfl trivial h
    ·exact fin _ rfl h.1 h.2
    ·exact h.elim
   ·exact h.elim
 ·exact h.elim
theorem RZ(hH:aw M φ H w){op:UnOp}{x:V}{xv:Value}(hx:V.den (ak M φ H) φ H w x xv)(h:XZ op x fun v=>K v [] []):
 cn M φ H w fr ((do let y <- Op.unary op xv;pure (Next.value y):Sem Next).run P w) K:=by
 unfold XZ at h
 split at h
 ·simp only[V.den,D.den]at hx;subst hx
  exact cn.plain hH _ h (by simp[Op.unary,Op.intArith]) rfl
 ·simp only[V.den,D.den]at hx;subst hx
  exact cn.plain hH _ h (by simp[Op.unary]) rfl
 ·exact h.elim
theorem zV{op:BinOp}{k:IntKind}{a b r:Int}(h:tq op k a b=some r):(Op.intBits op k a b).run P w= .ok (.int k r) w:=by
 unfold tq at h
 cases op<;>simp at h<;>subst h<;>simp[Op.intBits]
theorem rB{t:TypeId}(hu:P.underlying t=some .bool)(a b:Bool)(d:Nat):(Op.equalIn (d+1) t (.bool a) (.bool b)).run P w= .ok (a==b) w:=by
 simp[Op.equalIn,run_underlying hu]
theorem L8(hH:aw M φ H w){op:BinOp}{t:TypeId}{p q:Operand}{x y:V}{xv yv:Value}(hx:V.den (ak M φ H) φ H w x xv)(hy:V.den (ak M φ H) φ H w y yv)
 (h:Iu P op t x y fun v=>K v [] []):
 cn M φ H w fr ((do let y <- (do eqGuard op t p q xv yv;binOp op t xv yv);pure (Next.value y):Sem Next).run P w) K:=by
 unfold Iu at h
 split at h
 ·rename_i k a k' b
  obtain⟨rfl,h⟩:=h
  simp only[V.den,D.den]at hx hy;subst hx;subst hy
  have hg:(eqGuard op t p q (.int k a) (.int k b)).run P w= .ok () w:=by
   exact Ii
  have fin:∀ (v:V) (val:Value),K v [] []->(binOp op t (.int k a) (.int k b)).run P w= .ok val w->V.den (ak M φ H) φ H w v val->
   cn M φ H w fr ((do let y <- (do eqGuard op t p q (.int k a) (.int k b);binOp op t (.int k a) (.int k b));pure (Next.value y):Sem Next).run P w) K:=by
   intro v val hK hr hd
   exact cn.plain hH val hK (by simp[hg,hr]) hd
  cases op<;>simp only[L1]at h
  case add=>exact fin _ _ h (by simp[binOp,Op.intArith]) rfl
  case sub=>exact fin _ _ h (by simp[binOp,Op.intArith]) rfl
  case mul=>exact fin _ _ h (by simp[binOp,Op.intArith]) rfl
  case quo=>exact fin _ _ h.2 (by simp[binOp,Op.intDiv,h.1]) rfl
  case rem=>exact fin _ _ h.2 (by simp[binOp,Op.intDiv,h.1]) rfl
  case and=>obtain⟨r,hr,hK⟩:=h;exact fin _ _ hK DX rfl
  case or=>obtain⟨r,hr,hK⟩:=h;exact fin _ _ hK DX rfl
  case xor=>obtain⟨r,hr,hK⟩:=h;exact fin _ _ hK DX rfl
  case andNot=>obtain⟨r,hr,hK⟩:=h;exact fin _ _ hK DX rfl
  all_goals
   obtain⟨r,hr,hK⟩:=h
   simp only[XY,Option.some.injEq]at hr
   subst hr
   exact fin _ _ hK (by simp[binOp,Op.intCmp];rfl) (by simp[V.den,D.den])
 ·rename_i a b
  simp only[V.den,D.den]at hx hy;subst hx;subst hy
  have hg:(eqGuard op t p q (.bool a) (.bool b)).run P w= .ok () w:=by
   exact Ii
  split at h
  ·obtain⟨hu,hK⟩:=h
   have h1:(Op.equal t (.bool a) (.bool b)).run P w= .ok (a==b) w:=rB hu a b 9999
   exact cn.plain hH (.bool (a==b)) hK (by simp[hg,binOp,h1]) rfl
  ·obtain⟨hu,hK⟩:=h
   have h1:(Op.equal t (.bool a) (.bool b)).run P w= .ok (a==b) w:=rB hu a b 9999
   exact cn.plain hH (.bool (a !=b)) hK (by simp[hg,binOp,h1,bne]) rfl
  ·exact h.elim
 ·rename_i a b
  obtain⟨u,rfl,rfl⟩:=hx
  obtain⟨v,rfl,rfl⟩:=hy
  have hg:(eqGuard op t p q (.string u) (.string v)).run P w= .ok () w:=by
   exact Ii
  split at h
  ·exact cn.plain hH (.bool (u.data.toList==v.data.toList)) h (by simp[hg,binOp,Op.stringOp,ByteArray.toList_eq]) rfl
  ·exact cn.plain hH (.bool (u.data.toList !=v.data.toList)) h (by simp[hg,binOp,Op.stringOp,ByteArray.toList_eq,bne]) rfl
  ·exact h.elim
 ·rename_i a b
  obtain⟨a',rfl,hx⟩:=hx
  obtain⟨b',rfl,hy⟩:=hy
  split at h
  ·obtain⟨r,hr,hK⟩:=h
   obtain⟨h1,h2⟩:=hr (ak M φ H) w (.agg a') (.agg b') ⟨a',rfl,hx⟩ ⟨b',rfl,hy⟩
   exact cn.plain hH (.bool r) hK (by simp[h2,binOp,h1]) rfl
  ·obtain⟨r,hr,hK⟩:=h
   obtain⟨h1,h2⟩:=hr (ak M φ H) w (.agg a') (.agg b') ⟨a',rfl,hx⟩ ⟨b',rfl,hy⟩
   exact cn.plain hH (.bool !r) hK (by simp[h2,binOp,h1]) rfl
  ·exact h.elim
 ·exact h.elim
theorem IA(hH:aw M φ H w){c a b:V}{cv av bv:Value}(hc:V.den (ak M φ H) φ H w c cv)(ha:V.den (ak M φ H) φ H w a av)(hb:V.den (ak M φ H) φ H w b bv)
 (h:Aa c a b fun v=>K v [] []):cn M φ H w fr ((do pure (.value (if <- asBool cv then av else bv)):Sem Next).run P w) K:=by
 unfold Aa at h
 split at h
 ·rename_i t
  simp only[V.den,D.den]at hc;subst hc
  have hr:((do pure (.value (if <- asBool (.bool t)then av else bv)):Sem Next).run P w)= .ok (.value (if t then av else bv)) w:=by simp[asBool]
  have fin:∀v,K v [] []->V.den (ak M φ H) φ H w v (if t then av else bv)->cn M φ H w fr ((do pure (.value (if <- asBool (.bool t)then av else bv)):Sem Next).run P w) K:=
   fun v hK hd=>cn.same hH _ hK hr hd
  cases t
  ·exact fin _ (h.2 rfl) (by simpa using hb)
  ·exact fin _ (h.1 rfl) (by simpa using ha)
 ·exact h.elim
theorem sK{t:TypeId}{e:TypeId}(hu:P.underlying t=some (.slice e))(base:Option Addr)(n c:Nat)(ty:TypeId):(Builtin.len_ #[t] ty #[.slice base n c]).run P w= .ok (goInt n) w:=by
 simp[Builtin.len_,run_underlying hu]
theorem L9(hH:aw M φ H w){t ty:TypeId}{x:V}{xv:Value}(hx:V.den (ak M φ H) φ H w x xv)(h:Iv P t H.o x fun v rd=>K v [] rd):
 cn M φ H w fr ((do let y <- Builtin.len_ #[t] ty #[xv];pure (Next.value y):Sem Next).run P w) K:=by
 unfold Iv at h
 split at h
 ·rename_i e hu
  have fin:∀ {es:List D} {rd},D.den (ak M φ H) w (.sl es) xv->K (.d (.int .i64 es.length)) [] rd->cn M φ H w fr ((do let y <- Builtin.len_ #[t] ty #[xv];pure (Next.value y):Sem Next).run P w) K:=by
   rintro es rd ⟨base,len,cap,rfl,rfl,_⟩ hK
   exact cn.plain hH _ hK (sK hu _ _ _ _) rfl
  split at h
  ·exact fin hx h
  ·simp only[V.den]at hx;subst hx
   exact cn.plain hH _ h (sK hu _ _ _ _) rfl
  ·exact fin hx.1 h
  ·rename_i id ep
   split at h
   ·rename_i ig ty sz es ho
    obtain⟨rfl,hK⟩:=h
    obtain⟨L7,dX,vq⟩:=hx
    have hv:=(vq ep ew).2 rfl
    have aS:=hH.ok id
    simp only[aM,ho]at aS
    obtain⟨h3,xs,⟨_,bE⟩,_⟩:=aS
    subst hv
    rcases bE with⟨h4,h5⟩|⟨g,cap,cur,h4,_⟩
    ·rw[h4];rw[h5]at hK;exact cn.plain hH _ hK (sK hu _ _ _ _) rfl
    ·rw[h4];exact cn.plain hH _ hK (sK hu _ _ _ _) rfl
   ·rename_i ig es ho
    obtain⟨rfl,hK⟩:=h
    obtain⟨L7,dX,vq⟩:=hx
    have hv:=(vq ep ew).2 rfl
    have aS:=hH.ok id
    simp only[aM,ho]at aS
    exact fin (hv ▸ aS) hK
   ·exact h.elim
  ·exact h.elim
 ·rename_i hu
  split at h
  ·obtain⟨u,rfl,rfl⟩:=hx
   exact cn.plain hH (goInt u.size) h (by simp[Builtin.len_,run_underlying hu]) (by simp[V.den,D.den,goInt])
  ·exact h.elim
 ·rename_i n e hu
  exact cn.plain hH _ h (by simp[Builtin.len_,run_underlying hu];rfl) rfl
 ·exact h.elim
end
end
end Go.Proofs.YtnkamdiiakdkgaaGreat
