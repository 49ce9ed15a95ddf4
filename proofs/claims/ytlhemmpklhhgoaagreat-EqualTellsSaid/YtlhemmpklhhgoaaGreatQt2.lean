/-
  A PART OF THE PROOF. Conditions: none.
-/
import Derived.Great.BuildSlice
import Derived.Great.FillDense
import Derived.Test.YtlhemmpklhhgoaaGreatQt1
set_option linter.unusedSimpArgs false
set_option linter.unusedVariables false
namespace Go.Proofs.YtlhemmpklhhgoaaGreat
def ay{α:Type}(f:Nat->α)(i:Nat)(x:α):Nat->α:=fun j=>if j=i then x else f j
@[simp] theorem aL {α:Type} (f:Nat->α) (i:Nat) (x:α) (j:Nat):ay f i x j=if j=i then x else f j:=rfl
structure S where
 env:Nat->V
 o:Nat->ab
 nx:Nat
def S.H (s:S):Hp:=⟨s.o,fun id=>id<s.nx⟩
def V.dq:Value->V
 | .int k n=> .d (.int k n)| .bool b=> .d (.bool b)| .string s=> .d (.str s.data.toList)
 | .nilIface=> .d .eT| .pointer none=> .d .lu| .nilFunc=> .d .cz| .map none=> .d .dK
 | .slice none 0 0=> .ax
 |_=> .ad
def D9:List V->Option (List D)
 |[]=>some []
 | .d x::vs=>(D9 vs).map (x::·)
 |_::_=>none
def mD(cs:List V):V:=match D9 cs with|some ds=> .d (.agg ds)|none=> .agg cs
def V.ofConst:Value->V
 | .agg a=>if a.toList.all Value.oneCell' then mD (a.toList.map V.dq)else .ad
 |v=>V.dq v
def S.ev (s:S):Operand->V
 | .tmp t=>s.env t
 | .const v=>V.ofConst v
 | .func f=> .func (.func f) [] []
 | .global _=> .ad
def D.cells:D->List D
 | .agg cs=>cs
 |x=>[x]
def V.cells:V->Option (List V)
 | .d x=>some (x.cells.map .d)
 | .agg cs=>some cs
 | .bS _| .ad=>none
 |v=>some [v]
mutual
def dQ(o:Nat->ab):V->Option D
 | .d x=>some x
 | .ax=>some (.sl [])
 | .oV es=>some (.sl es)
 | .osl id ep=>match o id with
   | .arr fW _ _ es| .uo fW es=>if ep=fW then some (.sl es)else none
   |_=>none
 | .mp id=>match o id with
   | .map _ _ l=>some (.mp (l.map (·.1)) (l.map (·.2)))
   | .b7 l=>some (.mp (l.map (·.1)) (l.map (·.2)))
   |_=>none
 | .agg cs=>(cf o cs).map .agg
 | .iface t x=>(dQ o x).map (.iface t)
 |_=>none
def cf(o:Nat->ab):List V->Option (List D)
 |[]=>some []
 |v::vs=>(dQ o v).bind fun x=>(cf o vs).map (x::·)
end
mutual
def V.ids:V->List Nat
 | .osl id _=>[id]
 | .mp id=>[id]
 | .agg cs=>V.bp cs
 | .iface _ x=>x.ids
 |_=>[]
def V.bp:List V->List Nat
 |[]=>[]
 |v::vs=>v.ids++V.bp vs
end
def bE(o:Nat->ab)(ids:List Nat):List (Nat×ab):=
 ids.map fun id=>(id,match o id with| .arr ep _ _ es=> .uo ep es| .map _ _ l=> .b7 l|o=>o)
def rV(o:Nat->ab)(ids:List Nat):List (Nat×ab):=
 ids.filterMap fun id=>match o id with| .arr ep _ _ es=>some (id, .uo ep es)|_=>none
def put(o:Nat->ab)(Δ:List (Nat×ab)):Nat->ab:=Δ.foldl (fun f x=>ay f x.1 x.2) o
def Hp.put (H:Hp)(Δ:List (Nat×ab)):Hp:={o:=YtlhemmpklhhgoaaGreat.put H.o Δ,us:=fun id=>H.us id\/id∈Δ.map (·.1)}
def cE(P:Program)(t:TypeId):Option (List V):=
 match P.info? t with
 |some i=>match i.zero with
  |some z=>if z.cells.size=i.size/\z.cells.toList.all Value.oneCell'=true then some (z.cells.toList.map V.dq)else none
  |none=>none
 |none=>none
def df(P:Program)(t:TypeId):Option Bool:=
 match P.underlying t with
 |some (.struct _)|some (.array _ _)=>some true
 |some _=>some false
 |none=>none
def cg(P:Program)(t:TypeId)(f:Nat):Option Nat:=
 match P.underlying t with
 |some (.struct fs)=>match fs[f]? with
  |some fd=>if P.cellsOf fd.type=0 then none else some fd.offset
  |none=>none
 |_=>none
def b8(P:Program)(t:TypeId):Option TypeId:=
 match P.underlying t with
 |some (.slice e)=>some e
 |_=>none
def zJ(P:Program)(t:TypeId):Option (Nat×TypeId):=
 match P.underlying t with
 |some (.array n e)=>some (n,e)
 |_=>none
def cR(P:Program)(t:TypeId):Option (List (Nat×Nat)):=
 match P.underlying t with
 |some (.struct fs)=>if fs.toList.all (fun f=>(P.info? f.type).isSome)=true then some (fs.toList.map fun f=>(f.offset,P.cellsOf f.type))else none
 |some (.array n e)=>if(P.info? e).isSome=true then some ((List.range n).map fun i=>(i*P.cellsOf e,P.cellsOf e))else none
 |_=>none
def qf(P:Program)(t:TypeId):Option IntKind:=
 match P.underlying t with
 |some (.int k)=>some k
 |_=>none
def eU(P:Program)(t:TypeId)(cs:List V)(off:Nat):Option V:=
 match df P t with
 |some true=>if off+P.cellsOf t<=cs.length then some (mD ((cs.drop off).take (P.cellsOf t)))else none
 |some false=>cs[off]?
 |none=>none
def zK(P:Program)(t:TypeId)(cs:List V)(off:Nat)(v:V):Option (List V):=
 match v.cells with
 |some us=>if us.length=P.cellsOf t/\(0<us.length\/(P.info? t).isSome=true)/\off+us.length<=cs.length then some (cs.take off++us++cs.drop (off+us.length))else none
 |none=>none
def tf(places:List (Nat×Nat))(cs:List V):List (Nat×V)->Option (List V)
 |[]=>some cs
 |(i,v)::rest=>match places[i]?,v.cells with
  |some (off,size),some us=>if us.length=size/\off+us.length<=cs.length then tf places (cs.take off++us++cs.drop (off+us.length)) rest else none
  |_,_=>none
def D.put (e:D)(off:Nat)(us:List D):Option D:=
 match e with
 | .agg cs=>if off+us.length<=cs.length then some (.agg (cs.take off++us++cs.drop (off+us.length)))else none
 |_=>match off,us with
  |0,[u]=>some u
  |_,_=>none
def ZJ(op:BinOp)(a b:Int):Option Bool:=
 match op with
 | .eql=>some (a==b)| .neq=>some (a !=b)| .lss=>some (decide (a<b))| .leq=>some (decide (a<=b))
 | .gtr=>some (decide (a>b))| .geq=>some (decide (a≥b))
 |_=>none
def uX(op:BinOp)(k:IntKind)(x y:Int):Option Int:=
 let a:=BitVec.ofInt k.bits x
 let b:=BitVec.ofInt k.bits y
 match op with
 | .and=>some (k.wrap (a&&&b).toNat)
 | .or=>some (k.wrap (a|||b).toNat)
 | .xor=>some (k.wrap (a ^^^ b).toNat)
 | .andNot=>some (k.wrap (a&&& ~~~b).toNat)
 |_=>none
def NB(op:BinOp)(k:IntKind)(a b:Int)(K:V->Prop):Prop:=
 match op with
 | .add=>K (.d (.int k (k.wrap (a+b))))
 | .sub=>K (.d (.int k (k.wrap (a - b))))
 | .mul=>K (.d (.int k (k.wrap (a*b))))
 | .quo=>b≠0/\K (.d (.int k (k.wrap (a.tdiv b))))
 | .rem=>b≠0/\K (.d (.int k (a.tmod b)))
 | .and| .or| .xor| .andNot=>∃r,uX op k a b=some r/\K (.d (.int k r))
 | .shl| .shr=>False
 |op=>∃r,ZJ op a b=some r/\K (.d (.bool r))
def J6(P:Program)(t:TypeId)(x y:D)(r:Bool):Prop:=
 ∀ (B:Nat->Prop) (w:World) (u v:Value),D.den B w x u->D.den B w y v->(Op.equal t u v).run P w= .ok r w/\∀ (op:BinOp) (a b:Operand),(eqGuard op t a b u v).run P w= .ok () w
def J7(P:Program)(op:BinOp)(t:TypeId)(x y:V)(K:V->Prop):Prop:=
 match x,y with
 | .d (.int k a), .d (.int k' b)=>k=k'/\NB op k a b K
 | .d (.bool a), .d (.bool b)=>match op with
   | .eql=>P.underlying t=some .bool/\K (.d (.bool (a==b)))
   | .neq=>P.underlying t=some .bool/\K (.d (.bool (a !=b)))
   |_=>False
 | .d (.str a), .d (.str b)=>match op with
   | .eql=>K (.d (.bool (a==b)))
   | .neq=>K (.d (.bool (a !=b)))
   |_=>False
 | .d (.agg a), .d (.agg b)=>match op with
   | .eql=>∃r,J6 P t (.agg a) (.agg b) r/\K (.d (.bool r))
   | .neq=>∃r,J6 P t (.agg a) (.agg b) r/\K (.d (.bool !r))
   |_=>False
 |_,_=>False
def ZK(op:UnOp)(x:V)(K:V->Prop):Prop:=
 match op,x with
 | .neg, .d (.int k n)=>K (.d (.int k (k.wrap (0 - n))))
 | .not, .d (.bool b)=>K (.d (.bool !b))
 |_,_=>False
def BF(c a b:V)(K:V->Prop):Prop:=
 match c with
 | .d (.bool t)=>(t=true->K a)/\(t=false->K b)
 |_=>False
def J8(P:Program)(t:TypeId)(o:Nat->ab)(x:V)(K:V->List Nat->Prop):Prop:=
 match P.underlying t with
 |some (.slice _)=>match x with
  | .d (.sl es)=>K (.d (.int .i64 es.length)) []
  | .ax=>K (.d (.int .i64 0)) []
  | .oV es=>K (.d (.int .i64 es.length)) []
  | .osl id ep=>match o id with
    | .arr fW _ _ es| .uo fW es=>ep=fW/\K (.d (.int .i64 es.length)) [id]
    |_=>False
  |_=>False
 |some .string=>match x with
  | .d (.str s)=>K (.d (.int .i64 s.length)) []
  |_=>False
 |some (.array n _)=>K (.d (.int .i64 n)) []
 |_=>False
def jF(P:Program)(o:Nat->ab)(t:TypeId)(x ix:V)(K:V->List Nat->Prop):Prop:=
 match ix with
 | .d (.int _ i)=>match b8 P t with
   |some e=>match x with
    | .d (.sl es)=>0<=i/\∃y,es[i.toNat]? =some y/\y.cells.length=P.cellsOf e/\0<P.cellsOf e/\K (.pp y.cells 0) []
    | .oV es=>0<=i/\∃y,es[i.toNat]? =some y/\y.cells.length=P.cellsOf e/\0<P.cellsOf e/\K (.pp y.cells 0) []
    | .osl id ep=>match o id with
      | .arr fW _ sz es=>ep=fW/\0<=i/\i.toNat<es.length/\sz=P.cellsOf e/\0<P.cellsOf e/\K (.pe id ep i.toNat sz 0) [id]
      | .uo fW es=>ep=fW/\0<=i/\∃y,es[i.toNat]? =some y/\y.cells.length=P.cellsOf e/\0<P.cellsOf e/\K (.pp y.cells 0) [id]
      |_=>False
    |_=>False
   |none=>match zJ P t with
    |some (n,e)=>0<=i/\i<n/\(P.info? e).isSome=true/\(match x with
     | .ptr id off=>(o id).cu=true/\K (.ptr id (off+i.toNat*P.cellsOf e)) []
     | .pp cs off=>K (.pp cs (off+i.toNat*P.cellsOf e)) []
     | .pe id ep j sz off=>(o id).ct=some ep/\K (.pe id ep j sz (off+i.toNat*P.cellsOf e)) []
     |_=>False)
    |none=>False
 |_=>False
def jG(P:Program)(o:Nat->ab)(t:TypeId)(x:V)(f:Nat)(K:V->Prop):Prop:=
 match cg P t f with
 |some q=>match x with
  | .ptr id off=>(o id).cu=true/\K (.ptr id (off+q))
  | .pp cs off=>K (.pp cs (off+q))
  | .pe id ep j sz off=>(o id).ct=some ep/\K (.pe id ep j sz (off+q))
  |_=>False
 |none=>False
def BG(P:Program)(o:Nat->ab)(t:TypeId)(x:V)(K:V->List Nat->Prop):Prop:=
 match x with
 | .ptr id off=>match o id with
   | .row cs=>∃v,eU P t cs off=some v/\K v [id]
   |_=>False
 | .pp cs off=>∃v,eU P t (cs.map .d) off=some v/\K v []
 | .pe id ep i sz off=>match o id with
   | .arr fW _ rH es=>ep=fW/\sz=rH/\∃e,es[i]? =some e/\∃v,eU P t (e.cells.map .d) off=some v/\K v [id]
   |_=>False
 |_=>False
def uY(P:Program)(o:Nat->ab)(t:TypeId)(x v:V)(K:List (Nat×ab)->List Nat->Prop):Prop:=
 match x with
 | .ptr id off=>match o id with
   | .row cs=>∃cs',zK P t cs off v=some cs'/\K [(id, .row cs')] [id]
   |_=>False
 | .pe id ep i rH off=>match o id with
   | .arr fW ty sz es=>ep=fW/\rH=sz/\∃e,es[i]? =some e/\∃y,dQ o v=some y/\y.cells.length=P.cellsOf t/\0<y.cells.length/\v.ids.all (· !=id)=true/\
    ∃e',e.put off y.cells=some e'/\K (bE o v.ids++[(id, .arr ep ty sz (es.set i e'))]) (id::v.ids)
   |_=>False
 |_=>False
def iI(P:Program)(o:Nat->ab)(fr:Nat)(t:TypeId)(len:Nat)(parts:List (Nat×V))(K:V->List (Nat×ab)->List Nat->Prop):Prop:=
 match b8 P t with
 |some e=>(len=0/\parts=[]/\0<P.cellsOf e/\K (.osl fr 0) [(fr, .arr 0 e (P.cellsOf e) [])] [])\/(parts.map (·.1)=List.range len)/\(cE P e).isSome=true/\0<len/\0<P.cellsOf e/\len*P.cellsOf e<=2^24/\
  ∃ds,cf o (parts.map (·.2))=some ds/\(∀x∈ds,x.cells.length=P.cellsOf e)/\
   K (.osl fr 0) (bE o (V.bp (parts.map (·.2)))++[(fr, .arr 0 e (P.cellsOf e) ds)]) (V.bp (parts.map (·.2)))
 |none=>False
def BH(P:Program)(e:TypeId):Option D:=
 match cE P e with
 |some z=>match cf (fun _=> .no) z,df P e with
  |some ds,some true=>some (.agg ds)
  |some [x],some false=>some x
  |_,_=>none
 |none=>none
def jH(P:Program)(fr:Nat)(t:TypeId)(l c:V)(K:V->List (Nat×ab)->Prop):Prop:=
 match b8 P t,l,c with
 |some e, .d (.int _ n), .d (.int _ m)=>n=m/\0<=n/\0<P.cellsOf e/\P.bytesOf e*n.toNat<=2^47/\n.toNat<=2^47/\
  ∃x,BH P e=some x/\K (.osl fr 0) [(fr, .arr 0 e (P.cellsOf e) (List.replicate n.toNat x))]
 |_,_,_=>False
def eV(o:Nat->ab)(x:V):Option (List D):=
 match dQ o x with
 |some (.sl es)=>some es
 |_=>none
def qg(P:Program)(o:Nat->ab)(fr:Nat)(ts:Array TypeId)(x y:V)(K:V->List (Nat×ab)->List Nat->Prop):Prop:=
 match ts.toList with
 |[t,t']=>t=t'/\(match b8 P t with
  |some e=>∃new,eV o y=some new/\0<P.cellsOf e/\(cE P e).isSome=true/\(∀z∈new,z.cells.length=P.cellsOf e)/\(match x with
   | .ax=>new.length<=2^47/\new.length*P.bytesOf e<=2^47/\K (.osl fr 0) [(fr, .arr 0 e (P.cellsOf e) new)] y.ids
   | .oV es=>(∀z∈es,z.cells.length=P.cellsOf e)/\(if new=[]then K (.oV es) [] y.ids else es.length+new.length<=2^40/\(es.length+new.length)*P.bytesOf e<=2^40/\K (.osl fr 0) [(fr, .arr 0 e (P.cellsOf e) (es++new))] y.ids)
   | .osl id ep=>match o id with
     | .arr fW ty sz es=>ep=fW/\ty=e/\sz=P.cellsOf e/\es.length+new.length<=2^47/\(es.length+new.length)*P.bytesOf e<=2^47/\
      K (.osl id (ep+1)) [(id, .arr (ep+1) ty sz (es++new))] (id::y.ids)
     |_=>False
   |_=>False)
  |none=>False)
 |_=>False
def n9(isMax:Bool)(args:List V)(K:V->Prop):Prop:=
 match args with
 |[.d (.int k a), .d (.int k' b)]=>k=k'/\K (.d (.int k (if isMax then(if b>a then b else a)else(if b<a then b else a))))
 |_=>False
def lA(o:Nat->ab)(x:V)(K:V->Prop):Prop:=
 match x with
 | .ptr id off=>(o id).cu=true/\K (.ptr id off)
 | .pp cs off=>K (.pp cs off)
 | .func (.func f) first cap=>K (.func (.func f) first cap)
 |_=>False
def iJ(P:Program)(t:TypeId)(xs:List D)(off:Nat):Option D:=
 match df P t with
 |some true=>if off+P.cellsOf t<=xs.length then some (.agg ((xs.drop off).take (P.cellsOf t)))else none
 |some false=>xs[off]?
 |none=>none
inductive adO where
 |int|bool|str|struct (fs:List (TypeId×Nat))|arr (n:Nat) (e:TypeId)
def bN(P:Program)(t:TypeId):Option adO:=
 match P.underlying t with
 |some (.int _)=>some .int
 |some .bool=>some .bool
 |some .string=>some .str
 |some (.struct fs)=>if(!P.stoodInHeld t&&fs.toList.all (fun f=>f.name != "_"))=true then some (.struct (fs.toList.map fun f=>(f.type,f.offset)))else none
 |some (.array n e)=>if(P.info? e).isSome=true then some (.arr n e)else none
 |_=>none
def Ea(a b:Option Bool):Option Bool:=
 match a,b with
 |some a,some b=>some (a&&b)
 |_,_=>none
def x6(f:TypeId->Nat->Option Bool):List (TypeId×Nat)->Option Bool
 |[]=>some true
 |x::l=>Ea (f x.1 x.2) (x6 f l)
def BI(f:Nat->Option Bool):Nat->Nat->Option Bool
 |0,_=>some true
 |n+1,i=>Ea (f i) (BI f n (i+1))
def NC(f:D->D->Option Bool)(x y:Option D):Option Bool:=
 match x,y with
 |some x,some y=>f x y
 |_,_=>none
def oX(P:Program):Nat->TypeId->D->D->Option Bool
 |0,_,_,_=>none
 |d+1,t,x,y=>match bN P t with
  |some .int=>match x,y with| .int k a, .int k' b=>if k=k' then some (a==b)else none|_,_=>none
  |some .bool=>match x,y with| .bool a, .bool b=>some (a==b)|_,_=>none
  |some .str=>match x,y with| .str a, .str b=>some (a==b)|_,_=>none
  |some (.struct fs)=>match x,y with
   | .agg xs, .agg ys=>x6 (fun u off=>NC (oX P d u) (iJ P u xs off) (iJ P u ys off)) fs
   |_,_=>none
  |some (.arr n e)=>match x,y with
   | .agg xs, .agg ys=>BI (fun i=>NC (oX P d e) (iJ P e xs (i*P.cellsOf e)) (iJ P e ys (i*P.cellsOf e))) n 0
   |_,_=>none
  |none=>none
abbrev fX:=V×List (Nat×ab)×List Nat
def c8(x:Option fX)(K:V->List (Nat×ab)->List Nat->Prop):Prop:=
 match x with
 |some (v,Δ,rd)=>K v Δ rd
 |none=>False
def HE(x:Option V)(adP:Nat):Option Nat:=
 match x with
 |none=>some adP
 |some (.d (.int _ i))=>if 0<=i then some i.toNat else none
 |_=>none
def pv(o:Nat->ab)(x:V):Option (Nat×Nat):=
 match x with
 | .ptr id off=>if(o id).cu=true then some (id,off)else none
 |_=>none
def pw(o:Nat->ab)(x:V):Option (Nat×Nat×Nat×List V):=
 match x with
 | .x4 id off n=>match o id with
   | .row cs=>some (id,off,n,cs)
   |_=>none
 |_=>none
def Eb(P:Program)(o:Nat->ab)(t:TypeId)(x:V)(lo hi mx:Option V):Option fX:=
 match x with
 | .ax=>match lo,hi,mx with
   |none,some (.d (.int _ k)),none=>match b8 P t with
    |some e=>if k=0/\(P.info? e).isSome=true then some (.ax,[],[])else none
    |none=>none
   |_,_,_=>none
 | .osl id ep=>match lo,hi,mx with
   |none,some (.d (.int _ k)),none=>match b8 P t,o id with
    |some e, .arr fW ty sz es=>if k=0/\ep=fW/\(P.info? e).isSome=true then some (.osl id (ep+1),[(id, .arr (ep+1) ty sz [])],[id])
     else if 0<k/\k.toNat<=es.length/\ep=fW/\(P.info? e).isSome=true then some (.osl id (ep+1),[(id, .arr (ep+1) ty sz (es.take k.toNat))],[id])else none
    |_,_=>none
   |_,_,_=>none
 |_=>none
def qh(P:Program)(o:Nat->ab)(t:TypeId)(x:V)(lo hi mx:Option V):Option fX:=
 match b8 P t with
 |some e=>match eV o x,HE lo 0 with
  |some es,some l=>match HE hi es.length with
   |some h=>if l<=h/\h<=es.length/\(P.info? e).isSome=true/\(l=0\/es.all (fun y=>y.cells.length==P.cellsOf e)=true)then match mx with
    |none=>some (.d (.sl ((es.take h).drop l)),bE o x.ids,x.ids)
    |some m=>match hi,HE (some m) 0 with
     |some _,some m=>if h<=m/\m<=es.length then some (if h=m then .oV ((es.take h).drop l)else .d (.sl ((es.take h).drop l)),bE o x.ids,x.ids)else none
     |_,_=>none
    else none
   |none=>none
  |_,_=>none
 |none=>match zJ P t,lo,hi,mx with
  |some (n,e),none,none,none=>match pv o x with
   |some (id,off)=>if(P.info? e).isSome=true then some (.x4 id off n,[],[id])else none
   |none=>none
  |_,_,_,_=>none
def rW(P:Program)(o:Nat->ab)(t:TypeId)(x:V)(lo hi mx:Option V):Option fX:=
 match Eb P o t x lo hi mx with
 |some r=>some r
 |none=>qh P o t x lo hi mx
def x7(P:Program)(o:Nat->ab)(ts:Array TypeId)(x y:V):Option fX:=
 match ts.toList with
 |[t,_]=>match b8 P t with
  |some e=>match pw o x,eV o y with
   |some (id,off,n,cs),some es=>if P.cellsOf e=1/\off+n<=cs.length/\es.all (fun z=>z.cells.length==1)=true/\y.ids.all (· !=id)=true then
    some (.d (.int .i64 ((min es.length n:Nat):Int)),bE o y.ids++[(id, .row (cs.take off++((es.take n).flatMap D.cells).map .d++cs.drop (off+(es.take n).length)))],id::y.ids)else none
   |_,_=>none
  |none=>none
 |_=>none
def zL(P:Program)(t:TypeId)(f:Nat):Option (Nat×TypeId):=
 match P.underlying t with
 |some (.struct fs)=>match fs[f]? with
  |some fd=>some (fd.offset,fd.type)
  |none=>none
 |_=>none
def uZ(P:Program)(t:TypeId)(x:V)(f:Nat):Option V:=
 match zL P t f with
 |some (off,u)=>match x with
  | .d (.agg cs)=>(iJ P u cs off).map .d
  | .agg cs=>eU P u cs off
  |_=>none
 |none=>none
def u0(P:Program)(t:TypeId)(x i:V):Option V:=
 match i with
 | .d (.int _ i)=>if 0<=i then match P.underlying t with
  |some .string=>match x with
   | .d (.str s)=>match s[i.toNat]? with
     |some b=>some (.d (.int .u8 b.toNat))
     |none=>none
   |_=>none
  |some (.array n e)=>if i<n/\(P.info? e).isSome=true then match x with
   | .d (.agg cs)=>(iJ P e cs (i.toNat*P.cellsOf e)).map .d
   | .agg cs=>eU P e cs (i.toNat*P.cellsOf e)
   |_=>none
   else none
  |_=>none
   else none
 |_=>none
def u5(P:Program)(t:TypeId):Bool:=
 match P.underlying t with
 |some (.interface _)=>false
 |some _=>true
 |none=>false
def zeroV(P:Program)(t:TypeId):Option V:=
 match P.info? t with
 |some i=>match i.zero with
  |some (.agg a)=>if a.toList.all Value.oneCell'=true then some (mD (a.toList.map V.dq))else none
  |some v=>if v.oneCell'=true then some (V.dq v)else none
  |none=>none
 |none=>none
def qi(P:Program)(t:TypeId)(ok:Bool)(x:V):Option V:=
 if u5 P t=true then match x with
  | .d (.iface u y)=>if u=t then some (if ok=true then .bS [.d y, .d (.bool true)]else .d y)
   else if ok=true then(zeroV P t).map fun z=> .bS [z, .d (.bool false)]else none
  | .d .eT=>if ok=true then(zeroV P t).map fun z=> .bS [z, .d (.bool false)]else none
  |_=>none
 else none
def BJ(o:Nat->ab)(x:V):Option V:=
 match x with
 | .ax=>some (.d (.bool true))
 |x=>match eV o x with
  |some es=>some (if es=[]then .fC else .d (.bool false))
  |none=>none
def isConst:Operand->Bool
 | .const _=>true
 |_=>false
def ND:V->Option V
 | .d (.bool b)=>some (.d (.bool !b))
 | .fC=>some .fC
 |_=>none
def rX(o:Nat->ab)(x:V):Option V:=
 match x with
 | .d .dK=>some (.d (.bool true))
 | .d (.mp _ _)=>some (.d (.bool false))
 | .mp id=>match o id with| .map _ _ _=>some (.d (.bool false))| .b7 _=>some (.d (.bool false))|_=>none
 |_=>none
def rY(o:Nat->ab)(x:V):Option V:=
 match x with
 | .d .lu=>some (.d (.bool true))
 | .ptr id _=>if(o id).cu=true then some (.d (.bool false))else none
 | .pp _ _=>some (.d (.bool false))
 |_=>none
def eqI(P:Program)(a b:TypeId)(x y:D):Option Bool:=
 if a=b then(match P.info? a,P.underlying a with
  |some i,some (.int _)=>if i.comparable=true then(match x,y with
   | .int k m, .int k' n=>if k=k' then some (m==n)else none
   |_,_=>none)else none
  |_,_=>none)
 else some false
def rR(P:Program)(o:Nat->ab)(t:TypeId)(mW:Bool)(x y:V):Option V:=
 match P.underlying t with
 |some (.interface _)=>match x,y with
  | .d .eT, .d .eT=>if mW=true then some (.d (.bool true))else none
  | .d (.iface _ _), .d .eT| .iface _ _, .d .eT| .d .eT, .d (.iface _ _)| .d .eT, .iface _ _=>some (.d (.bool false))
  | .d (.iface a x), .d (.iface b y)=>(eqI P a b x y).map fun r=> .d (.bool r)
  |_,_=>none
 |some (.func _ _ _)=>match x,y with
  | .d .cz, .d .cz=>some (.d (.bool true))
  | .func _ _ _, .d .cz=>some (.d (.bool false))
  |_,_=>none
 |some (.map _ _)=>match y with
  | .d .dK=>rX o x
  |_=>none
 |some (.pointer _)=>match y with
  | .d .lu=>rY o x
  |_=>none
 |some (.slice _)=>match y with
  | .ax=>BJ o x
  |_=>none
 |some (.struct _)|some (.array _ _)=>match x,y with
  | .d (.agg cm), .d (.agg bs)=>if P.eqGuardType P.depth t=false then(oX P 100 t (.agg cm) (.agg bs)).map fun r=> .d (.bool r)else none
  |_,_=>none
 |_=>none
def rZ(P:Program)(o:Nat->ab)(op:BinOp)(t:TypeId)(mW:Bool)(x y:V):Option fX:=
 match op with
 | .eql=>(rR P o t mW x y).map fun v=>(v,[],[])
 | .neq=>((rR P o t mW x y).bind ND).map fun v=>(v,[],[])
 |_=>none
mutual
def D.same:D->D->Bool
 | .int k a, .int j b=>k==j&&a==b
 | .bool a, .bool b=>a==b
 | .str a, .str b=>a==b
 | .eT, .eT| .lu, .lu| .cz, .cz| .dK, .dK=>true
 | .agg cm, .agg bs=>D.gh cm bs
 | .sl cm, .sl bs=>D.gh cm bs
 | .iface t a, .iface u b=>t==u&&a.same b
 | .mp ks vs, .mp dD vs'=>D.gh ks dD&&D.gh vs vs'
 |_,_=>false
def D.gh:List D->List D->Bool
 |[],[]=>true
 |a::cm,b::bs=>a.same b&&D.gh cm bs
 |_,_=>false
end
def r8(P:Program)(t:TypeId):Option (TypeId×TypeId):=
 match P.underlying t with
 |some (.map k v)=>some (k,v)
 |_=>none
def oH(P:Program):Nat->TypeId->D->Bool
 |0,_,_=>false
 |d+1,t,x=>match bN P t with
  |some .int|some .bool|some .str=>true
  |some (.struct fs)=>match x with
   | .agg xs=>fs.all fun f=>match iJ P f.1 xs f.2 with|some y=>oH P d f.1 y|none=>false
   |_=>false
  |some (.arr n e)=>match x with
   | .agg xs=>(List.range n).all fun i=>match iJ P e xs (i*P.cellsOf e)with|some y=>oH P d e y|none=>false
   |_=>false
  |none=>false
def findD(P:Program)(kt:TypeId)(k:D):List (D×D)->Nat->Option (Option (Nat×D×D))
 |[],_=>some none
 |(k',x)::l,i=>match oX P 100 kt k k' with
  |some true=>some (some (i,k',x))
  |some false=>findD P kt k l (i+1)
  |none=>none
def oY:D->Bool
 | .int _ _| .bool _| .str _=>true
 |_=>false
def kL:D->Bool
 | .agg cs=>cs.all oY
 |x=>oY x
def oZ(o:Nat->ab)(m:V):Option (Option (Nat×TypeId×TypeId)×List (D×D)):=
 match m with
 | .mp id=>match o id with
   | .map kt vt l=>some (some (id,kt,vt),l)
   |_=>none
 | .d .dK=>some (none,[])
 |_=>none
def qj(o:Nat->ab)(m:V):Option (List Nat×List (D×D)):=
 match m with
 | .mp id=>match o id with
   | .map _ _ l=>some ([id],l)
   | .b7 l=>some ([id],l)
   |_=>none
 | .d .dK=>some ([],[])
 | .d (.mp ks vs)=>some ([],ks.zip vs)
 |_=>none
def adQ(r:Option (Nat×TypeId×TypeId)):List Nat:=match r with|some p=>[p.1]|none=>[]
def jk(P:Program)(o:Nat->ab)(t:TypeId)(m k:V)(ok:Bool):Option fX:=
 match r8 P t,dQ o k,qj o m with
 |some (kt,vt),some kd,some (rd,l)=>if k.ids=[]/\oH P 100 kt kd=true then match findD P kt kd l 0 with
  |some (some (_,_,x))=>some (if ok=true then .bS [.d x, .d (.bool true)]else .d x,[],rd)
  |some none=>match zeroV P vt with
   |some z=>some (if ok=true then .bS [z, .d (.bool false)]else z,[],rd)
   |none=>none
  |none=>none
  else none
 |_,_,_=>none
def fQ(P:Program)(o:Nat->ab)(t:TypeId)(m k v:V):Option fX:=
 match r8 P t,dQ o k,dQ o v,oZ o m with
 |some (kt,_),some kd,some vd,some (some (id,FW,FX),l)=>if k.ids=[]/\oH P 100 kt kd=true/\kL kd=true/\v.ids.all (· !=id)=true then match findD P kt kd l 0 with
  |some (some (i,k',_))=>if k'.same kd=true then some (.bS [],bE o v.ids++[(id, .map FW FX (l.set i (kd,vd)))],id::v.ids)else none
  |some none=>some (.bS [],bE o v.ids++[(id, .map FW FX (l++[(kd,vd)]))],id::v.ids)
  |none=>none
  else none
 |_,_,_,_=>none
def mX(P:Program)(fr:Nat)(t:TypeId):Option fX:=
 match r8 P t with
 |some (kt,vt)=>some (.mp fr,[(fr, .map kt vt [])],[])
 |none=>none
def mY(P:Program)(o:Nat->ab)(fr:Nat)(t:TypeId)(x:V):Option fX:=
 match P.underlying t with
 |some .string=>match x with
  | .d (.str s)=>some (.ptr fr 0,[(fr, .zH s 0)],[])
  |_=>none
 |some (.map _ _)=>match x with
  | .d .dK=>some (.ptr fr 0,[(fr, .rG [] none)],[])
  | .d (.mp ks vs)=>some (.ptr fr 0,[(fr, .rG (ks.zip vs) none)],[])
  | .mp id=>match o id with
    | .map _ _ l=>some (.ptr fr 0,[(id, .b7 l),(fr, .rG l none)],[id])
    | .b7 l=>some (.ptr fr 0,[(fr, .rG l none)],[id])
    |_=>none
  |_=>none
 |_=>none
def o6(o:Nat->ab)(x:V)(str:Bool):Option fX:=
 match x with
 | .ptr id 0=>match o id with
   | .zH s pos=>if str=true then
    (if pos<s.length then some (.bS [.d (.bool true), .d (.int .i64 pos), .d (.int .i32 (Utf8.decode ⟨⟨s⟩⟩ pos).1)],[(id, .zH s (pos+(Utf8.decode ⟨⟨s⟩⟩ pos).2))],[id])else some (.bS [.d (.bool false)],[],[id]))
     else none
   |_=>none
 |_=>none
def o7(o:Nat->ab)(x:V):Option (Nat×List (D×D)):=
 match x with
 | .ptr id 0=>match o id with
   | .rG l _=>some (id,l)
   |_=>none
 |_=>none
def FY(id:Nat)(l:List (D×D))(K:V->List (Nat×ab)->List Nat->Prop):Prop:=
 (l=[]->K (.bS [.d (.bool false)]) [] [id])/\∀i k x,l[i]? =some (k,x)->K (.bS [.d (.bool true), .d k, .d x]) [(id, .rG (l.eraseIdx i) (some (k,x)))] [id]
def mZ(o:Nat->ab)(x:V):Option fX:=
 match x with
 | .ptr id 0=>match o id with
   | .rG _ (some (k,x))=>some (.bS [.d k, .d x],[],[id])
   |_=>none
 |_=>none
def od(P:Program)(o:Nat->ab)(t:TypeId)(m k:V):Option fX:=
 match r8 P t,dQ o k,oZ o m with
 |some (kt,_),some kd,some (some (id,FW,FX),l)=>if k.ids=[]/\oH P 100 kt kd=true then match findD P kt kd l 0 with
  |some (some (i,_,_))=>some (.bS [],[(id, .map FW FX (l.eraseIdx i))],[id])
  |some none=>some (.bS [],[],[id])
  |none=>none
  else none
 |_,_,_=>none
def J9(x y z:V):Option V:=
 match x,y,z with
 | .d (.int k a), .d (.int k' b), .d (.int k'' c)=>if k=k'/\k=k'' then some (.d (.int k (if c>(if b>a then b else a)then c else(if b>a then b else a))))else none
 |_,_,_=>none
def NF(P:Program)(ts:Array TypeId)(x:V):Option fX:=
 match ts.toList with
 |[t]=>match b8 P t with
  |some _=>match x with
   | .ax=>some (.d (.int .i64 0),[],[])
   |_=>none
  |none=>none
 |_=>none
def x8(P:Program)(fr:Nat)(ts:Array TypeId)(x y:V):Option fX:=
 match ts.toList with
 |[t,t']=>if t=t' then none else match b8 P t with
  |some e=>match qf P t',x,y with
   |some _, .ax, .d (.int _ n)=>if 0<n/\0<P.cellsOf e/\n.toNat*P.bytesOf e<=2^40/\n.toNat<=2^40 then match BH P e with
    |some z=>some (.osl fr 0,[(fr, .arr 0 e (P.cellsOf e) (List.replicate n.toNat z))],[])
    |none=>none
    else none
   |_,_,_=>none
  |none=>none
 |_=>none
def u6(P:Program)(s:S)(fr:Nat)(b:Builtin)(args:List Operand)(ts:Array TypeId)(K:V->List (Nat×ab)->List Nat->Prop):Prop:=
 match b,args with
 | .len,[x]=>∃t,ts.toList=[t]/\J8 P t s.o (s.ev x) fun v rd=>K v [] rd
 | .append,[x,y]=>c8 (x8 P fr ts (s.ev x) (s.ev y)) K\/qg P s.o fr ts (s.ev x) (s.ev y) K
 | .max,[x,y]=>n9 true [s.ev x,s.ev y] fun v=>K v [] []
 | .min,[x,y]=>n9 false [s.ev x,s.ev y] fun v=>K v [] []
 | .max,[x,y,z]=>c8 ((J9 (s.ev x) (s.ev y) (s.ev z)).map fun v=>(v,[],[])) K
 | .copy,[x,y]=>c8 (x7 P s.o ts (s.ev x) (s.ev y)) K
 | .delete,[x,y]=>∃t,ts.toList.head?=some t/\c8 (od P s.o t (s.ev x) (s.ev y)) K
 | .cap,[x]=>c8 (NF P ts (s.ev x)) K
 |_,_=>False
def QU(P:Program)(s:S)(fr:Nat)(op:Op)(K:V->List (Nat×ab)->List Nat->Prop):Prop:=
 match op with
 | .move x| .assign x=>K (s.ev x) [] []
 | .pick c a b=>BF (s.ev c) (s.ev a) (s.ev b) fun v=>K v [] []
 | .alloc t=>∃cs,cE P t=some cs/\K (.ptr fr 0) [(fr, .row cs)] []
 | .box _ x=>∃cs,(s.ev x).cells=some cs/\K (.ptr fr 0) [(fr, .row cs)] []
 | .build t parts=>∃z pl cs,cE P t=some z/\cR P t=some pl/\tf pl z (parts.toList.map fun p=>(p.1,s.ev p.2))=some cs/\K (mD cs) [] []
 | .buildSlice t len parts=>iI P s.o fr t len (parts.toList.map fun p=>(p.1,s.ev p.2)) K
 | .load t x=>BG P s.o t (s.ev x) fun v rd=>K v [] rd
 | .store t x v=>uY P s.o t (s.ev x) (s.ev v) fun Δ rd=>K (.bS []) Δ rd
 | .nilCheck x=>lA s.o (s.ev x) fun v=>K v [] []
 | .binOp op t x y _=>J7 P op t (s.ev x) (s.ev y) (fun v=>K v [] [])\/c8 (rZ P s.o op t (isConst x||isConst y) (s.ev x) (s.ev y)) K
 | .unOp op _ x=>ZK op (s.ev x) (fun v=>K v [] [])\/(op= .not/\s.ev x= .fC/\K .fC [] [])
 | .convert u t x=>(P.underlying u).isSome=true/\(match qf P t,s.ev x with
   |some k, .d (.int _ n)=>K (.d (.int k (k.wrap n))) [] []
   |_,_=>False)
 | .makeInterface t x=>(∃d,P.underlying t=some d/\(match d with| .interface _=>false|_=>true)=true)/\(match s.ev x with
   | .d y=>K (.d (.iface t y)) [] []
   |v=>K (.iface t v) [] [])
 | .makeFunc fn first cap=>K (.func fn (first.toList.map s.ev) (cap.toList.map s.ev)) [] []
 | .makeSlice t l c=>jH P fr t (s.ev l) (s.ev c) fun v Δ=>K v Δ []
 | .fieldAddr t x f=>jG P s.o t (s.ev x) f fun v=>K v [] []
 | .indexAddr t x i=>jF P s.o t (s.ev x) (s.ev i) fun v rd=>K v [] rd
 | .extract x i=>match s.ev x with
   | .bS vs=>∃v,vs[i]? =some v/\K v [] []
   |_=>False
 | .slice t x lo hi mx=>c8 (rW P s.o t (s.ev x) (lo.map s.ev) (hi.map s.ev) (mx.map s.ev)) K
 | .field t x f=>c8 ((uZ P t (s.ev x) f).map fun v=>(v,[],[])) K
 | .index t x i=>c8 ((u0 P t (s.ev x) (s.ev i)).map fun v=>(v,[],[])) K
 | .makeMap t none=>c8 (mX P fr t) K
 | .lookup t m k ok=>c8 (jk P s.o t (s.ev m) (s.ev k) ok) K
 | .mapUpdate t m k v=>c8 (fQ P s.o t (s.ev m) (s.ev k) (s.ev v)) K
 | .insert t m k v=>c8 (fQ P s.o t (s.ev m) (s.ev k) (s.ev v)) K
 | .range t x=>c8 (mY P s.o fr t (s.ev x)) K
 | .next x str=>c8 (o6 s.o (s.ev x) str) K\/(str=false/\∃id l,o7 s.o (s.ev x)=some (id,l)/\FY id l K)
 | .entry x=>c8 (mZ s.o (s.ev x)) K
 | .typeAssert x _ t ok=>c8 ((qi P t ok (s.ev x)).map fun v=>(v,[],[])) K
 | .call c=>match c.callee with
   | .builtin b=>u6 P s fr b c.args.toList c.argTypes K
   |_=>False
 |_=>False
section
section
variable {B:Nat->Prop}{φ:Place}{H:Hp}{w:World}
theorem V.aB:∀ (cs:List V) (vs:List Value),V.aD B φ H w cs vs->vs.length=cs.length
 |[],_,h=>by simp[V.aD]at h;simp[h]
 |c::cs,_,h=>by obtain⟨u,us,rfl,_,h2⟩:=h;simp[V.aB cs us h2]
theorem V.dp:∀ (cs:List V) (vs:List Value) (i:Nat) (c:V),V.aD B φ H w cs vs->cs[i]? =some c->∃v,vs[i]? =some v/\V.den B φ H w c v
 |[],_,_,_,_,hd=>by simp at hd
 |c::cs,_,0,x,h,hd=>by
  exact QK
 |c::cs,_,i+1,x,h,hd=>by
  obtain⟨u,us,rfl,_,h2⟩:=h
  simpa using V.dp cs us i x h2 (by simpa using hd)
theorem V.bz:∀ (cs ds:List V) (us vs:List Value),V.aD B φ H w cs us->V.aD B φ H w ds vs->V.aD B φ H w (cs++ds) (us++vs)
 |[],ds,us,vs,h,k=>by simp[V.aD]at h;subst h;simpa using k
 |c::cs,ds,_,vs,h,k=>by
  obtain⟨u,us,rfl,h1,h2⟩:=h
  exact⟨u,us++vs,aH,h1,V.bz cs ds us vs h2 k⟩
theorem V.cS:∀ (n:Nat) (cs:List V) (vs:List Value),V.aD B φ H w cs vs->V.aD B φ H w (cs.take n) (vs.take n)
 |0,_,_,_=>by simp[V.aD]
 |n+1,[],_,h=>by simp[V.aD]at h;subst h;simp[V.aD]
 |n+1,c::cs,_,h=>by
  obtain⟨u,us,rfl,h1,h2⟩:=h
  exact⟨u,us.take n,aH,h1,V.cS n cs us h2⟩
theorem V.eC:∀ (n:Nat) (cs:List V) (vs:List Value),V.aD B φ H w cs vs->V.aD B φ H w (cs.drop n) (vs.drop n)
 |0,_,_,h=>by simpa using h
 |n+1,[],_,h=>by simp[V.aD]at h;subst h;simp[V.aD]
 |n+1,c::cs,_,h=>by
  obtain⟨u,us,rfl,h1,h2⟩:=h
  simpa using V.eC n cs us h2
theorem V.cH:∀ (ds:List D) (vs:List Value),V.aD B φ H w (ds.map .d) vs↔D.aD B w ds vs
 |[],vs=>by simp[V.aD,D.aD]
 |x::ds,vs=>by simp only[List.map_cons,V.aD,D.aD,V.den,V.cH ds]
theorem D.bz:∀ (cs ds:List D) (us vs:List Value),D.aD B w cs us->D.aD B w ds vs->D.aD B w (cs++ds) (us++vs)
 |[],ds,us,vs,h,k=>by simp[D.aD]at h;subst h;simpa using k
 |c::cs,ds,_,vs,h,k=>by
  obtain⟨u,us,rfl,h1,h2⟩:=h
  exact⟨u,us++vs,aH,h1,D.bz cs ds us vs h2 k⟩
theorem D.cS:∀ (n:Nat) (cs:List D) (vs:List Value),D.aD B w cs vs->D.aD B w (cs.take n) (vs.take n)
 |0,_,_,_=>by simp[D.aD]
 |n+1,[],_,h=>by simp[D.aD]at h;subst h;simp[D.aD]
 |n+1,c::cs,_,h=>by
  obtain⟨u,us,rfl,h1,h2⟩:=h
  exact⟨u,us.take n,aH,h1,D.cS n cs us h2⟩
theorem D.eC:∀ (n:Nat) (cs:List D) (vs:List Value),D.aD B w cs vs->D.aD B w (cs.drop n) (vs.drop n)
 |0,_,_,h=>by simpa using h
 |n+1,[],_,h=>by simp[D.aD]at h;subst h;simp[D.aD]
 |n+1,c::cs,_,h=>by
  obtain⟨u,us,rfl,h1,h2⟩:=h
  simpa using D.eC n cs us h2
theorem D.BK:∀ (i:Nat) (ds:List D) (vs:List Value) (x:D) (v:Value),D.aD B w ds vs->D.den B w x v->D.aD B w (ds.set i x) (vs.set i v)
 |_,[],_,_,_,h,_=>by simp[D.aD]at h;subst h;simp[D.aD]
 |0,c::cs,_,x,v,h,k=>by
  obtain⟨u,us,rfl,h1,h2⟩:=h
  exact⟨v,us,aH,k,h2⟩
 |i+1,c::cs,_,x,v,h,k=>by
  obtain⟨u,us,rfl,h1,h2⟩:=h
  exact⟨u,us.set i v,aH,h1,D.BK i cs us x v h2 k⟩
theorem x9:∀ (cs:List V) (ds:List D),D9 cs=some ds->cs=ds.map .d
 |[],ds,h=>by simp[D9]at h;subst h;rfl
 | .d x::cs,ds,h=>by
   simp only[D9,Option.map_eq_some_iff]at h
   obtain⟨a,h1,rfl⟩:=h
   simp[x9 cs a h1]
 | .ax::_,_,h| .agg _::_,_,h| .bS _::_,_,h| .ptr _ _::_,_,h| .osl _ _::_,_,h| .pe _ _ _ _ _::_,_,h| .pp _ _::_,_,h
 | .func _ _ _::_,_,h| .iface _ _::_,_,h| .ad::_,_,h| .oV _::_,_,h| .x4 _ _ _::_,_,h| .mp _::_,_,h| .fC::_,_,h=>by simp[D9]at h
theorem lB(cs:List V)(a:Array Value)(h:V.aD B φ H w cs a.toList)(hf:Flat a.toList):V.den B φ H w (mD cs) (.agg a):=by
 unfold mD
 split
 ·rename_i ds hd
  have:=x9 cs ds hd
  subst this
  exact⟨a,rfl,(V.cH ds _).1 h,hf⟩
 ·exact⟨a,rfl,h,hf⟩
theorem D.oe:∀ (x:D) (v:Value),D.den B w x v->(∃cs a,x= .agg cs/\v= .agg a)\/v.oneCell'=true/\x.cells=[x]/\v.cells=#[v]
 | .int _ _,_,h| .bool _,_,h| .eT,_,h| .lu,_,h| .cz,_,h| .dK,_,h=>by
   simp only[D.den]at h;subst h;exact .inr ⟨rfl,rfl,rfl⟩
 | .str l,_,h=>by obtain⟨s,rfl,_⟩:=h;exact .inr ⟨rfl,rfl,rfl⟩
 | .agg cs,_,h=>by obtain⟨a,rfl,_,_⟩:=h;exact .inl ⟨cs,a,rfl,rfl⟩
 | .sl es,_,h=>by obtain⟨b,l,c,rfl,_⟩:=h;exact .inr ⟨rfl,rfl,rfl⟩
 | .iface t x,_,h=>by obtain⟨u,rfl,_⟩:=h;exact .inr ⟨rfl,rfl,rfl⟩
 | .mp ks vs,_,h=>by obtain⟨m,es,c,p,rfl,_⟩:=h;exact .inr ⟨rfl,rfl,rfl⟩
theorem D.fi (x:D)(v:Value)(h:D.den B w x v):D.aD B w x.cells v.cells.toList/\Flat v.cells.toList:=by
 rcases D.oe x v h with⟨cs,a,rfl,rfl⟩|⟨h1,h2,h3⟩
 ·obtain⟨a',h1,h2,h3⟩:=h
  injection h1 with h1;subst h1
  exact⟨h2,h3⟩
 ·rw[h2,h3]
  exact⟨⟨v,[],rfl,h,rfl⟩,by intro u hu;simp at hu;subst hu;exact h1⟩
theorem V.oe (x:V)(v:Value)(us:List V)(hx:x.cells=some us)(h:V.den B φ H w x v):V.aD B φ H w us v.cells.toList/\Flat v.cells.toList:=by
 have one:∀ (y:V),v.oneCell'=true->V.den B φ H w y v->V.aD B φ H w [y] v.cells.toList/\Flat v.cells.toList:=by
  intro y h1 h2
  have h3:v.cells=#[v]:=by cases v<;>simp_all[Value.oneCell',Value.cells]
  rw[h3]
  exact⟨⟨v,[],rfl,h2,rfl⟩,by intro u hu;simp at hu;subst hu;exact h1⟩
 cases x with
 |d x=>
  simp only[V.cells,Option.some.injEq]at hx;subst hx
  have:=D.fi x v h
  exact⟨(V.cH _ _).2 this.1,this.2⟩
 |ax=>simp only[V.cells,Option.some.injEq]at hx;subst hx;exact one _ (by cases h;rfl) h
 |agg cs=>
  simp only[V.cells,Option.some.injEq]at hx;subst hx
  obtain⟨a,rfl,h1,h2⟩:=h
  exact⟨h1,h2⟩
 |bS vs=>simp[V.cells]at hx
 |ad=>simp[V.cells]at hx
 |ptr id off=>simp only[V.cells,Option.some.injEq]at hx;subst hx;exact one _ h.1 h
 |osl id ep=>simp only[V.cells,Option.some.injEq]at hx;subst hx;exact one _ h.1 h
 |pe id ep i sz off=>simp only[V.cells,Option.some.injEq]at hx;subst hx;exact one _ h.1 h
 |pp cs off=>simp only[V.cells,Option.some.injEq]at hx;subst hx;exact one _ (by obtain⟨a,ev,_,rfl,_⟩:=h;rfl) h
 |func fn f c=>simp only[V.cells,Option.some.injEq]at hx;subst hx;exact one _ (by obtain⟨a,ev,rfl,_⟩:=h;rfl) h
 |iface t y=>simp only[V.cells,Option.some.injEq]at hx;subst hx;exact one _ (by obtain⟨a,rfl,_⟩:=h;rfl) h
 |oV es=>simp only[V.cells,Option.some.injEq]at hx;subst hx;exact one _ (by obtain⟨_,b,n,rfl⟩:=h;rfl) h
 |x4 id off n=>simp only[V.cells,Option.some.injEq]at hx;subst hx;exact one _ h.1 h
 |mp id=>simp only[V.cells,Option.some.injEq]at hx;subst hx;exact one _ h.1 h
 |kn id=>simp only[V.cells,Option.some.injEq]at hx;subst hx;exact one _ h.1 h
 |fC=>simp only[V.cells,Option.some.injEq]at hx;subst hx;exact one _ (by obtain⟨a,rfl⟩:=h;rfl) h
theorem lZ(v:Value)(h:v.oneCell'=true):V.den B φ H w (V.dq v) v:=by
 cases v<;>simp_all only[Value.oneCell',V.dq,V.den,D.den]<;>try trivial
 all_goals (try (split<;>simp_all[V.den,D.den]))
 all_goals (try first|(simp_all[D.den];done)|simp_all)
theorem dL:∀ (vs:List Value),Flat vs->V.aD B φ H w (vs.map V.dq) vs
 |[],_=>rfl
 |v::vs,h=>⟨v,vs,rfl,lZ v (h v aH),dL vs fun u hu=>h u (by simp[hu])⟩
end
end
section
theorem og(H:Hp):H.put []=H:=by
 obtain⟨o,us⟩:=H
 simp[Hp.put,put]
theorem dX(H:Hp)(A C:List (Nat×ab)):H.put (A++C)=(H.put A).put C:=by
 obtain⟨o,us⟩:=H
 simp only[Hp.put,put,List.foldl_append,Hp.mk.injEq,true_and]
 funext id
 simp only[List.map_append,List.mem_append,eq_iff_iff]
 exact⟨fun h=>by rcases h with h|h|h<;>simp[h],fun h=>by rcases h with(h|h)|h<;>simp[h]⟩
@[simp] theorem bJ (H:Hp) (i:Nat) (x:ab):(H.put [(i,x)]).o=ay H.o i x:=rfl
@[simp] theorem dY (H:Hp) (i j:Nat) (x:ab):(H.put [(i,x)]).us j↔(H.us j\/j=i):=by simp[Hp.put]
section
variable {M:Nat->Prop}{φ aI:Place}{H H':Hp}{w w':World}
theorem aR.BM (u7:∀b,cY w b-> ¬aq M φ H b->w'.heap[b]? =w.heap[b]? /\ ¬aq M aI H' b)(hrl:dW φ H aI H'){id:Nat}(ho:H'.o id=H.o id)(eQ:aI id=φ id)
 (hb:(H.o id).live=true->∀b,ej (φ id)=some b->w'.heap[b]? =w.heap[b]?) (h:aR M φ H w id):aR M aI H' w' id:=by
 unfold aR at*
 rw[ho]
 cases hx:H.o id with
 |no=>trivial
 |row cs=>
  simp only[hx]at h|-
  obtain⟨b,dV,ty,h1,h2,h3,h4⟩:=h
  exact⟨b,dV,ty,eQ.trans h1,(hb ta b xY).trans h2,V.fV u7 hrl cs _ h3,h4⟩
 |arr ep ty sz es=>
  simp only[hx]at h|-
  obtain⟨h0,xs,h1,evs,h2,h3,h4⟩:=h
  refine⟨h0,xs, ?_,evs,h2,h3,D.aU u7 es evs h4⟩
  rw[eQ]
  obtain⟨g1,g2⟩:=h1
  refine⟨g1, ?_⟩
  rcases g2 with g2|⟨g,cap,cur,k1,k2,k3,k4⟩
  ·exact .inl g2
  ·exact .inr ⟨g,cap,cur,k1,k2,(hb ta g (by rw[k1];rfl)).trans k3,k4⟩
 |uo ep es=>
  simp only[hx]at h|-
  rw[eQ]
  exact D.aT u7 (.sl es) _ h
 |map kt vt l=>
  simp only[hx]at h|-
  obtain⟨b,es,clock,h1,h2,h4,h3⟩:=h
  exact⟨b,es,clock,eQ.trans h1,(hb ta b xY).trans h2,h4,aK.mono u7 l _ h3⟩
 |b7 l=>
  simp only[hx]at h|-
  rw[eQ]
  exact kK.mono u7 h
 |rG l last=>
  simp only[hx]at h|-
  obtain⟨b,h1,h2⟩:=h
  exact⟨b,eQ.trans h1,h2.mono u7 (hb ta b xY)⟩
 |zH s pos=>
  simp only[hx]at h|-
  obtain⟨b,h1,h2⟩:=h
  exact⟨b,eQ.trans h1,(hb ta b xY).trans h2⟩
 |loop nf n env ps jE fh st HD=>
  simp only[hx]at h|-
  obtain⟨b,r,h1,h2,h0,h3,h4,h5,h6,h7,h8,h9⟩:=h
  exact⟨b,r,eQ.trans h1,(hb ta b xY).trans h2,h0,h3,h4,h5,h6,h7,h8,fun i=>V.lz u7 hrl _ _ (h9 i)⟩
theorem aR.mono (ht:Trans φ H w aI H' w'){id:Nat}(ho:H'.o id=H.o id)(eQ:aI id=φ id)
 (hb:(H.o id).live=true->∀b,ej (φ id)=some b->w'.heap[b]? =w.heap[b]?) (h:aR M φ H w id):aR M aI H' w' id:=aR.BM ht.blocks ht.rel ho eQ hb h
theorem az.of (hH:az M φ H w)(ht:Trans φ H w aI H' w')(T:Nat->Prop)(hT:∀id,T id->aR M aI H' w' id)
 (hn:∀id, ¬T id->H'.o id=H.o id/\aI id=φ id/\((H.o id).live=true->∀b,ej (φ id)=some b->w'.heap[b]? =w.heap[b]?))
 (jI:∀id, ¬H'.us id->H'.o id= .no)
 (hap:∀i j b,(H'.o i).live=true->(H'.o j).live=true->ej (aI i)=some b->ej (aI j)=some b->i=j)
 (ZL:∀b,cD aI H' b->b<w'.heap.size):az M aI H' w' where
 ok id:=by
  by_cases hc:T id
  ·exact hT id hc
  ·obtain⟨h1,h2,h3⟩:=hn id hc
   exact(hH.ok id).mono ht h1 h2 h3
 fresh:=jI
 apart:=hap
 ours b hb:=by
  refine⟨fun hM=> ?_,ZL b hb⟩
  rcases ht.grow b hb with h1|h1
  ·exact(hH.ours b h1).1 hM
  ·have:=hH.Bi b hM;omega
 Bi b hM:=Nat.lt_of_lt_of_le (hH.Bi b hM) ht.cG.size
theorem dM(hk:eo (fun _=>False) w w'){fr:Nat}(cQ: ¬H.us fr)(obj:ab)(val:Value)(fK:∀b,ej val=some b->w.heap.size<=b):
 Trans φ H w (ay φ fr val) (H.put [(fr,obj)]) w' where
 cG:=⟨hk.os,hk.tape,hk.output,hk.size,fun k h _=>hk.block k h (fun h=>h)⟩
 grow b:=by
  rintro⟨id,h1,h2⟩
  by_cases aw:id=fr
  ·subst aw;simp at h2;exact .inr (fK b h2)
  ·simp[aw]at h1 h2;exact .inl ⟨id,h1,h2⟩
 rel:={
  us:=fun id h=>by simp[h]
  row:=fun id hu hr=>by
   have aw:id≠fr:=fun h=>cQ (h ▸ hu)
   simp[aw]at hr|-;exact hr
  ep:=fun id e' hu he=>by
   have aw:id≠fr:=fun h=>cQ (h ▸ hu)
   simp[aw]at he|-;exact⟨e',he,Nat.le_refl _⟩}
theorem iG(hH:az M φ H w)(hk:eo (fun _=>False) w w'){fr:Nat}(cQ: ¬H.us fr)(obj:ab)(val:Value)(fK:∀b,ej val=some b->w.heap.size<=b/\b<w'.heap.size)
 (u9:aR M (ay φ fr val) (H.put [(fr,obj)]) w' fr):az M (ay φ fr val) (H.put [(fr,obj)]) w':=by
 have ht:Trans φ H w (ay φ fr val) (H.put [(fr,obj)]) w':=dM hk cQ obj val fun b hb=>(fK b hb).1
 refine hH.of ht (· =fr) (fun id h=>h ▸ u9) (fun id h=> ?_) (fun id h=> ?_) (fun i j b hi hj bi bj=> ?_) (fun b=> ?_)
 ·refine⟨by simp[h],by simp[h],fun hl b hb=>hk.block b ?_ (fun h=>h)⟩
  exact(hH.ours b ⟨id,hl,hb⟩).2
 ·rw[dY]at h
  have h1:id≠fr:=fun e=>h (.inr e)
  simp only[bJ,aL,h1,if_false]
  exact hH.fresh id fun hu=>h (.inl hu)
 ·by_cases e1:i=fr<;>by_cases e2:j=fr
  ·exact e1.trans e2.symm
  ·simp[e1,e2]at hi hj bi bj
   have:=(hH.ours b ⟨j,hj,bj⟩).2;have:=(fK b bi).1;omega
  ·simp[e1,e2]at hi hj bi bj
   have:=(hH.ours b ⟨i,hi,bi⟩).2;have:=(fK b bj).1;omega
  ·simp[e1,e2]at hi hj bi bj
   exact hH.apart i j b hi hj bi bj
 ·rintro⟨id,h1,h2⟩
  by_cases aw:id=fr
  ·subst aw;simp at h2;exact(fK b h2).2
  ·simp[aw]at h1 h2
   exact Nat.lt_of_lt_of_le (hH.ours b ⟨id,h1,h2⟩).2 hk.size
theorem cq(w:World)(o:Obj):eo (fun _=>False) w (w.alloc o):=
 ⟨rfl,rfl,rfl,aH,fun k hk _=>RowKit.Below.heap_alloc w o k hk⟩
theorem l0{w w':World}(h:w.grownBy w' none):eo (fun _=>False) w w':=
 ⟨h.os,h.tape,h.output,h.size,fun k hk _=>h.block k hk aH⟩
theorem NG(hH:az M φ H w){fr:Nat}(cQ: ¬H.us fr)(cs:List V)(dV:Array Value)(ty:TypeId)(hd:V.aD (aq M φ H) φ H w cs dV.toList)(hf:Flat dV.toList):
 let aI:=ay φ fr (.pointer (some ⟨w.heap.size,0,none⟩));let H':=H.put [(fr, .row cs)];let w':=w.alloc (.cells dV ty)
 az M aI H' w'/\Trans φ H w aI H' w'/\V.den (aq M aI H') aI H' w' (.ptr fr 0) (.pointer (some ⟨w.heap.size,0,none⟩)):=by
 intro aI H' w'
 have hv:∀b,ej (.pointer (some ⟨w.heap.size,0,none⟩))=some b->w.heap.size<=b/\b<w'.heap.size:=by
  intro b hb;simp[ej]at hb;subst hb;simp[w']
 have ht:Trans φ H w aI H' w':=dM (cq w _) cQ _ _ fun b hb=>(hv b hb).1
 refine⟨iG hH (cq w _) cQ _ _ hv ?_,ht,rfl,by simp[H'],fun _=>⟨w.heap.size,by simp[aI],rfl⟩⟩
 unfold aR
 simp only[bJ,aL,if_true]
 exact⟨w.heap.size,dV,ty,rfl,heap_alloc_new w _,V.aU ht cs _ hd,hf⟩
theorem eW{id:Nat}(dU:H.us id){b:Nat}(cT:(H.o id).live=true)(hb:ej (φ id)=some b)(hk:eo (· =b) w w')(obj:ab)(cV:obj.cu=(H.o id).cu)(ve:obj.ct=(H.o id).ct):
 Trans φ H w φ (H.put [(id,obj)]) w' where
 cG:=⟨hk.os,hk.tape,hk.output,hk.size,fun k h hl=>hk.block k h (fun e=>hl ⟨id,cT,e ▸ hb⟩)⟩
 grow b':=by
  rintro⟨j,h1,h2⟩
  by_cases hj:j=id
  ·subst hj;exact .inl ⟨j,cT,h2⟩
  ·simp[hj]at h1;exact .inl ⟨j,h1,h2⟩
 rel:={
  us:=fun j h=>by simp[h]
  row:=fun j hu hr=>by
   by_cases hj:j=id
   ·subst hj;simp at hr;exact⟨cV ▸ hr,rfl⟩
   ·exact JZ
  ep:=fun j e' hu he=>by
   by_cases hj:j=id
   ·subst hj;simp at he;exact⟨e',ve ▸ he,Nat.le_refl _,fun _=>rfl⟩
   ·simp[hj]at he;exact⟨e',he,Nat.le_refl _,fun _=>rfl⟩}
theorem hZ(hH:az M φ H w){id:Nat}(dU:H.us id){b:Nat}(cT:(H.o id).live=true)(hb:ej (φ id)=some b)(hk:eo (· =b) w w')(obj:ab)(cV:obj.cu=(H.o id).cu)
 (ve:obj.ct=(H.o id).ct) (u9:aR M φ (H.put [(id,obj)]) w' id):az M φ (H.put [(id,obj)]) w':=by
 refine hH.of (eW dU cT hb hk obj cV ve) (· =id) (fun j h=>h ▸ u9) (fun j h=> ?_) (fun j h=> ?_) (fun i j b' hi hj bi bj=> ?_) (fun b'=> ?_)
 ·refine⟨by simp[h],rfl,fun hl b' ya=>hk.block b' (hH.ours b' ⟨j,hl,ya⟩).2 fun e=>h ?_⟩
  exact hH.apart j id b hl cT (e ▸ ya) hb
 ·rw[dY]at h
  have h1:j≠id:=fun e=>h (.inr e)
  exact TN
 ·refine hH.apart i j b' ?_ ?_ bi bj
  ·by_cases e:i=id
   ·subst e;exact cT
   ·simpa[e]using hi
  ·by_cases e:j=id
   ·subst e;exact cT
   ·simpa[e]using hj
 ·rintro⟨j,h1,h2⟩
  refine Nat.lt_of_lt_of_le (hH.ours b' ⟨j, ?_,h2⟩).2 hk.size
  by_cases e:j=id
  ·subst e;exact cT
  ·simpa[e]using h1
theorem ko(w:World)(b:Nat)(cs:Array Value):eo (· =b) w (w.setRow b cs):=
 ⟨rfl,rfl,rfl,aH,fun k _ hk=>by
  unfold World.setRow
  simp only[Array.getElem?_modify]
  rw[if_neg (fun e=>hk e.symm)]⟩
theorem BN(hH:az M φ H w){id b:Nat}(dU:H.us id){cs cs':List V}(ho:H.o id= .row cs)(eQ:φ id= .pointer (some ⟨b,0,none⟩)){dV:Array Value}{ty:TypeId}
 (hb:w.heap[b]? =some (.cells dV ty (0,0))) (qk:Array Value) (hd:V.aD (aq M φ H) φ H w cs' qk.toList) (hf:Flat qk.toList):
 az M φ (H.put [(id, .row cs')]) (w.setRow b qk)/\Trans φ H w φ (H.put [(id, .row cs')]) (w.setRow b qk):=by
 have hl:(H.o id).live=true:=by rw[ho];rfl
 have u7:ej (φ id)=some b:=by rw[eQ];rfl
 have ht:Trans φ H w φ (H.put [(id, .row cs')]) (w.setRow b qk):=eW dU hl u7 (ko w b qk) _ eF eF
 refine⟨hZ hH dU hl u7 (ko w b qk) _ eF eF ?_,ht⟩
 unfold aR
 simp only[bJ,aL,if_true]
 exact⟨b,qk,ty,eQ,setRow_heap w b dV qk ty (0,0) hb,V.aU ht cs' _ hd,hf⟩
theorem ql{B:Nat->Prop}{sz g:Nat}(cur:Array Value)(ty:TypeId)(fz:Nat×Nat)(hg:w.heap[g]? =some (.cells cur ty fz))(hB: ¬B g):
 ∀ (es:List D) (evs:List Value) (i:Nat),D.aD B w es evs->(∀ev∈evs,ev.cells.size=sz)->(∀j u,(evs.flatMap (·.cells.toList))[j]? =some u->cur[i*sz+j]? =some u)->D.elems B w sz ⟨g,0,none⟩ i es
 |[],_,_,_,_,_=>trivial
 |e::es,_,i,h,hs,hc=>by
  obtain⟨ev,evs,rfl,h1,h2⟩:=h
  have ek:ev.cells.size=sz:=hs ev aH
  refine⟨⟨ev,ek,fun j u hj=> ?_,h1⟩,ql cur ty fz hg hB es evs (i+1) h2 (fun x hx=>hs x oT) fun j u hj=> ?_⟩
  ·have ck:j<ev.cells.size:=(Array.getElem?_eq_some_iff.1 hj).1
   have:cur[i*sz+j]? =some u:=hc j u (by
    rw[List.flatMap_cons,List.getElem?_append_left (by simpa using ck)];simpa using hj)
   refine⟨?_,by simpa using hB⟩
   unfold Addr.add World.cell?
   by_cases e1:i*sz=0<;>by_cases e2:j=0<;>simp_all
  ·have:=hc (sz+j) u (by
    rw[List.flatMap_cons,List.getElem?_append_right (by simp[ek])]
    simpa[ek]using hj)
   rw[show(i+1)*sz+j=i*sz+(sz+j) by rw[Nat.add_mul];omega]
   exact this
theorem NH(hH:az M φ H w){id ep sz:Nat}{ty:TypeId}{es:List D}(dU:H.us id)(ho:H.o id= .arr ep ty sz es):
 az M φ (H.put [(id, .uo ep es)]) w/\Trans φ H w φ (H.put [(id, .uo ep es)]) w:=by
 have oQ:∀b,cD φ (H.put [(id, .uo ep es)]) b->cD φ H b:=by
  rintro b ⟨j,h1,h2⟩
  by_cases hj:j=id
  ·subst hj;simp[ab.live]at h1
  ·simp[hj]at h1;exact⟨j,h1,h2⟩
 have ht:Trans φ H w φ (H.put [(id, .uo ep es)]) w:={
  cG:=eo.refl _ _
  grow:=fun b hb=> .inl (oQ b hb)
  rel:={
   us:=fun j h=>by simp[h]
   row:=fun j hu hr=>by
    by_cases hj:j=id
    ·subst hj;simp[ab.cu]at hr
    ·exact JZ
   ep:=fun j e' hu he=>by
    by_cases hj:j=id
    ·subst hj;simp[ab.ct]at he;subst he;exact⟨ep,by rw[ho];rfl,Nat.le_refl _,fun _=>rfl⟩
    ·simp[hj]at he;exact⟨e',he,Nat.le_refl _,fun _=>rfl⟩}}
 refine⟨hH.of ht (· =id) (fun j h=> ?_) (fun j h=>⟨by simp[h],rfl,fun _ _ _=>rfl⟩) (fun j h=> ?_) (fun i j b hi hj bi bj=> ?_) (fun b hb=>(hH.ours b (oQ b hb)).2),ht⟩
 ·subst h
  have aW:=hH.ok j
  unfold aR at aW|-
  simp only[ho,bJ,aL,if_true]at aW|-
  obtain⟨h0,xs,⟨hl,cV⟩,evs,rfl,h2,h3⟩:=aW
  have hlen:=D.aB _ _ h3
  rcases cV with⟨h4,h5⟩|⟨g,cap,cur,h4,_,h5,h6,h7,h8,h9⟩
  ·rw[h4]
   have:es=[]:=by simpa using h5
   subst this
   exact YW
  ·rw[h4]
   refine⟨some ⟨g,0,none⟩,es.length,cap,rfl,rfl,h6,(fun h=>by cases h),sz,fun a ha=> ?_⟩
   injection ha with ha;subst ha
   refine⟨fun _=>rfl,ql cur ty (0,0) h5 ?_ es evs 0 (D.aU (ht.blocks (M:=M)) es evs h3) h2 fun j' u Jk=> ?_⟩
   ·rintro(hM|⟨i,NI,ZM⟩)
    ·exact(hH.ours g ⟨j,by rw[ho];rfl,by rw[h4];rfl⟩).1 hM
    ·by_cases e:i=j
     ·subst e;simp[ab.live]at NI
     ·simp[e]at NI
      exact e (hH.apart i j g NI eF ZM (by rw[h4];rfl))
   ·rw[<- h9]at Jk
    simp only[Nat.zero_mul,Nat.zero_add]
    rw[List.getElem?_take]at Jk
    split at Jk
    ·simpa using Jk
    ·cases Jk
 ·rw[dY]at h
  have h1:j≠id:=fun e=>h (.inr e)
  exact TN
 ·by_cases e1:i=id
  ·subst e1;simp[ab.live]at hi
  ·by_cases e2:j=id
   ·subst e2;simp[ab.live]at hj
   ·simp[e1,e2]at hi hj;exact hH.apart i j b hi hj bi bj
theorem zM(hH:az M φ H w){id:Nat}{kt vt:TypeId}{l:List (D×D)}(dU:H.us id)(ho:H.o id= .map kt vt l):
 az M φ (H.put [(id, .b7 l)]) w/\Trans φ H w φ (H.put [(id, .b7 l)]) w:=by
 have oQ:∀b,cD φ (H.put [(id, .b7 l)]) b->cD φ H b:=by
  rintro b ⟨j,h1,h2⟩
  by_cases hj:j=id
  ·subst hj;simp[ab.live]at h1
  ·simp[hj]at h1;exact⟨j,h1,h2⟩
 have ht:Trans φ H w φ (H.put [(id, .b7 l)]) w:={
  cG:=eo.refl _ _
  grow:=fun b hb=> .inl (oQ b hb)
  rel:={
   us:=fun j h=>by simp[h]
   row:=fun j hu hr=>by
    by_cases hj:j=id
    ·subst hj;exact⟨by rw[ho];rfl,rfl⟩
    ·exact JZ
   ep:=fun j e' hu he=>by
    by_cases hj:j=id
    ·subst hj;simp[ab.ct]at he
    ·simp[hj]at he;exact⟨e',he,Nat.le_refl _,fun _=>rfl⟩}}
 refine⟨hH.of ht (· =id) (fun j h=> ?_) (fun j h=>⟨by simp[h],rfl,fun _ _ _=>rfl⟩) (fun j h=> ?_) (fun i j b hi hj bi bj=> ?_) (fun b hb=>(hH.ours b (oQ b hb)).2),ht⟩
 ·subst h
  have aW:=hH.ok j
  unfold aR at aW|-
  simp only[ho,bJ,aL,if_true]at aW|-
  obtain⟨b,es,clock,h1,h2,h3,h4⟩:=aW
  refine⟨b,es,clock,h1,h2, ?_,h3,aK.mono (ht.blocks (M:=M)) _ _ h4⟩
  rintro(hM|⟨i,NI,ZM⟩)
  ·exact(hH.ours b ⟨j,by rw[ho];rfl,by rw[h1];rfl⟩).1 hM
  ·by_cases e:i=j
   ·subst e;simp[ab.live]at NI
   ·simp[e]at NI
    exact e (hH.apart i j b NI eF ZM xY)
 ·rw[dY]at h
  have h1:j≠id:=fun e=>h (.inr e)
  exact TN
 ·by_cases e1:i=id
  ·subst e1;simp[ab.live]at hi
  ·by_cases e2:j=id
   ·subst e2;simp[ab.live]at hj
   ·simp[e1,e2]at hi hj;exact hH.apart i j b hi hj bi bj
end
end
section
def cN(M:Nat->Prop)(φ:Place)(H:Hp)(w:World)(fr:Nat)(r:Result Next)(K:V->List (Nat×ab)->List Nat->Prop):Prop:=
 ∃nx val w' aI v Δ rd,K v Δ rd/\r= .ok nx w'/\(nx= .value val\/nx= .skip/\val=undef)/\az M aI (H.put Δ) w'/\Trans φ H w aI (H.put Δ) w'/\
  V.den (aq M aI (H.put Δ)) aI (H.put Δ) w' v val/\(∀id∈Δ.map (·.1),H.us id\/id=fr)
section
variable {P:Program}{M:Nat->Prop}{φ:Place}{H:Hp}{w:World}{fr:Nat}{K:V->List (Nat×ab)->List Nat->Prop}
theorem cN.same (hH:az M φ H w){r:Result Next}{v:V}{rd:List Nat}(val:Value)(hK:K v [] rd)(hr:r= .ok (.value val) w)(hd:V.den (aq M φ H) φ H w v val):cN M φ H w fr r K:=
 ⟨_,val,w,φ,v,[],rd,hK,hr, .inl rfl,by rw[og];exact hH,by rw[og];exact Trans.refl _ _ _,by rw[og];exact hd,aH⟩
theorem cN.mono {r:Result Next}{K':V->List (Nat×ab)->List Nat->Prop}(h:cN M φ H w fr r K)(hk:∀v Δ rd,K v Δ rd->K' v Δ rd):cN M φ H w fr r K':=by
 obtain⟨nx,val,w',aI,v,Δ,rd,h1,h2⟩:=h
 exact⟨nx,val,w',aI,v,Δ,rd,hk _ _ _ h1,h2⟩
theorem info_of_underlying{t:TypeId}{d:TypeDesc}(h:P.underlying t=some d):∃i,P.info? t=some i:=by
 unfold Program.underlying at h
 cases hi:P.info? t with
 |none=>simp[hi]at h
 |some i=>exact⟨i,rfl⟩
theorem bQ{t:TypeId}{i:TypeInfo}(h:P.info? t=some i):P.cellsOf t=i.size:=by simp[Program.cellsOf,h]
theorem l6{t:TypeId}{i:TypeInfo}(h:P.info? t=some i):P.bytesOf t=i.bytes:=by simp[Program.bytesOf,h]
theorem jJ{t:TypeId}{z:List V}(h:cE P t=some z):∃i v,P.info? t=some i/\i.zero=some v/\v.cells.size=i.size/\Flat v.cells.toList/\z=v.cells.toList.map V.dq:=by
 unfold cE at h
 cases hi:P.info? t with
 |none=>simp[hi]at h
 |some i=>
  simp only[hi]at h
  cases hz:i.zero with
  |none=>simp[hz]at h
  |some v=>
   simp only[hz]at h
   split at h
   ·rename_i hc
    injection h with h
    exact⟨i,v,rfl,hz,hc.1,fun u hu=>List.all_eq_true.1 hc.2 u hu,h.symm⟩
   ·cases h
theorem r9{t:TypeId}(h:df P t=some true)(w:World):(isAgg t).run P w= .ok true w:=by
 unfold df at h
 unfold isAgg
 cases hd:P.underlying t with
 |none=>simp[hd]at h
 |some d=>cases d<;>simp_all[run_underlying hd]
theorem px{t:TypeId}(h:df P t=some false)(w:World):(isAgg t).run P w= .ok false w:=by
 unfold df at h
 unfold isAgg
 cases hd:P.underlying t with
 |none=>simp[hd]at h
 |some d=>cases d<;>simp_all[run_underlying hd]
theorem dN{t:TypeId}{i:TypeInfo}(h:P.info? t=some i)(w:World):(sizeOf t).run P w= .ok (P.cellsOf t) w:=by
 simp[sizeOf,typeInfo,h,bQ h]
theorem sb{t:TypeId}{b:Bool}(h:df P t=some b):∃i,P.info? t=some i:=by
 unfold df at h
 cases hd:P.underlying t with
 |none=>simp[hd]at h
 |some d=>exact info_of_underlying hd
theorem bu{t e:TypeId}(h:b8 P t=some e):P.underlying t=some (.slice e):=by
 unfold b8 at h
 cases hd:P.underlying t with
 |none=>simp[hd]at h
 |some d=>cases d<;>simp_all
theorem yc{t e:TypeId}{n:Nat}(h:zJ P t=some (n,e)):P.underlying t=some (.array n e):=by
 unfold zJ at h
 cases hd:P.underlying t with
 |none=>simp[hd]at h
 |some d=>cases d<;>simp_all
theorem add_zero(a:Addr):a.add 0=a:=by simp[Addr.add]
theorem add_plain(b o j:Nat):(⟨b,o,none⟩:Addr).add j=⟨b,o+j,none⟩:=by
 unfold Addr.add;split
 ·rename_i h;subst h;rfl
 ·rfl
theorem add_add(a:Addr)(h:a.spot=none)(m n:Nat):(a.add m).add n=a.add (m+n):=by
 obtain⟨b,o,s⟩:=a
 simp only at h;subst h
 simp only[add_plain,Nat.add_assoc]
theorem BO(a:Addr)(h:a.spot=none)(m:Nat):(a.add m).spot=none:=by
 unfold Addr.add;split<;>first|exact h|rfl
theorem m7(s:S)(a:Act)(ew:∀i,V.den (aq M φ H) φ H w (s.env i) (a.tmps.getD i undef))(x:Operand):V.den (aq M φ H) φ H w (s.ev x) (a.eval x):=by
 cases x with
 |tmp t=>exact ew t
 |func f=>exact⟨#[],#[],rfl,rfl,rfl⟩
 |global g=>trivial
 |const v=>
  cases v with
  |agg c=>
   simp only[S.ev,V.ofConst,Act.eval]
   split
   ·rename_i hc
    have hf:Flat c.toList:=fun u hu=>List.all_eq_true.1 hc u hu
    exact lB _ _ (dL _ hf) hf
   ·trivial
  |tuple _=>trivial
  |_=>simp only[S.ev,V.ofConst,Act.eval];exact lZ _ (by rfl)
theorem kp(s:S)(a:Act)(ew:∀i,V.den (aq M φ H) φ H w (s.env i) (a.tmps.getD i undef)):∀ (xs:List Operand),V.aD (aq M φ H) φ H w (xs.map s.ev) (xs.map a.eval)
 |[]=>rfl
 |x::xs=>⟨a.eval x,xs.map a.eval,rfl,m7 s a ew x,kp s a ew xs⟩
theorem m8{t:TypeId}(a:Addr)(us:List Value)(hc:∀j u,us[j]? =some u->w.cell? (a.add j)=some u):
 (df P t=some true->us.length=P.cellsOf t->(Instr.loadAt t (.pointer (some a))).run P w= .ok (.agg us.toArray) w)/\
 (df P t=some false->∀u,us[0]? =some u->(Instr.loadAt t (.pointer (some a))).run P w= .ok u w):=by
 constructor
 ·intro h hl
  obtain⟨i,hi⟩:=sb h
  have h1:=run_loadCells_list (P:=P) w a us hc
  rw[hl]at h1
  simp[Instr.loadAt,Instr.sureAddr,loadVar,r9 h,dN hi,h1]
 ·intro h u hu
  have h1:=hc 0 u hu
  rw[add_zero]at h1
  simp[Instr.loadAt,Instr.sureAddr,loadVar,px h,h1]
theorem qm{t:TypeId}{cs:List V}{off:Nat}{v:V}(hg:eU P t cs off=some v)(a:Addr)(vs:List Value)(hd:V.aD (aq M φ H) φ H w cs vs)(hf:Flat vs)
 (hc:∀j u,vs[j]? =some u->w.cell? (a.add j)=some u) (ha:a.spot=none):∃val,(Instr.loadAt t (.pointer (some (a.add off)))).run P w= .ok val w/\V.den (aq M φ H) φ H w v val:=by
 have hlen:=V.aB _ _ hd
 unfold eU at hg
 cases Ec:df P t with
 |none=>simp[Ec]at hg
 |some b=>
  cases b with
  |true=>
   simp only[Ec]at hg
   split at hg
   ·rename_i hle
    injection hg with hg;subst hg
    refine⟨.agg ((vs.drop off).take (P.cellsOf t)).toArray,(m8 (P:=P) (t:=t) (a.add off) ((vs.drop off).take (P.cellsOf t)) ?_).1 Ec fI, ?_⟩
    ·intro j u hj
     rw[add_add a ha]
     rw[List.getElem?_take]at hj
     split at hj
     ·exact hc _ _ mP
     ·cases hj
    ·refine lB _ _ ?_ ?_
     ·exact V.cS _ _ _ (V.eC _ _ _ hd)
     ·intro u hu
      exact hf u (List.mem_of_mem_drop (List.mem_of_mem_take (by simpa using hu)))
   ·cases hg
  |false=>
   simp only[Ec]at hg
   obtain⟨u,hu,NJ⟩:=V.dp _ _ _ _ hd hg
   refine⟨u,(m8 (P:=P) (t:=t) (a.add off) (vs.drop off) ?_).2 Ec u (by simpa using hu),NJ⟩
   intro j x hj
   rw[add_add a ha]
   exact hc _ _ mP
theorem m9(sz:Nat):∀ (evs:List Value) (i j:Nat) (ev:Value) (u:Value),(∀x∈evs,x.cells.size=sz)->evs[i]? =some ev->ev.cells[j]? =some u->
 (evs.flatMap (·.cells.toList))[i*sz+j]? =some u
 |[],_,_,_,_,_,h,_=>by simp at h
 |e::evs,0,j,ev,u,hs,h,hu=>by
  simp at h;subst h
  have:j<e.cells.size:=(Array.getElem?_eq_some_iff.1 hu).1
  rw[List.flatMap_cons,List.getElem?_append_left (by simp;omega)]
  simpa using hu
 |e::evs,i+1,j,ev,u,hs,h,hu=>by
  have ih:=m9 sz evs i j ev u (fun x hx=>hs x oT) (by simpa using h) hu
  rw[List.flatMap_cons,List.getElem?_append_right (by simp[hs e (by simp),Nat.add_mul];omega)]
  simp only[Array.length_toList,hs e (by simp)]
  rw[show(i+1)*sz+j - sz=i*sz+j by rw[Nat.add_mul];omega]
  exact ih
theorem qn{g:Nat}{dV:Array Value}{ty:TypeId}{fz:Nat×Nat}(h:w.heap[g]? =some (.cells dV ty fz))(j:Nat)(u:Value)(hu:dV[j]? =some u):w.cell? ((⟨g,0,none⟩:Addr).add j)=some u:=by
 rw[add_plain,Nat.zero_add,cell_of_row w g j dV ty fz h];exact hu
theorem Ka{B:Nat->Prop}{ty:TypeId}{sz:Nat}{es:List D}{v:Value}{b n c i:Nat}{e:D}
 (aW:0<sz/\∃xs,w.ownsRow 0 ty sz v es.length xs/\eH B w sz es xs) (hv:v= .slice (some ⟨b,0,none⟩) n c) (he:es[i]? =some e):
 ∃ev:Value,ev.cells.size=sz/\D.aD B w e.cells ev.cells.toList/\Flat ev.cells.toList/\(∀j u,ev.cells.toList[j]? =some u->w.cell? ((⟨b,i*sz,none⟩:Addr).add j)=some u):=by
 obtain⟨h0,xs,⟨hl,cV⟩,evs,rfl,h2,h3⟩:=aW
 obtain⟨ev,dh,hd⟩:=D.dp _ _ _ _ h3 he
 have TR:=D.fi _ _ hd
 refine⟨ev,h2 ev (List.mem_of_getElem? dh),TR.1,TR.2,fun j u hj=> ?_⟩
 subst hv
 rcases cV with⟨h4,_⟩|⟨g,cap,cur,h4,_,h5,h6,h7,h8,h9⟩
 ·simp at h4
 ·simp at h4;obtain⟨rfl,_,rfl⟩:=h4
  have:=m9 sz evs i j ev u h2 dh mP
  rw[<- h9,List.getElem?_take]at this
  split at this
  ·have QV:=qn h5 (i*sz+j) u (by simpa using this)
   rw[add_plain]at QV|-
   simpa using QV
  ·cases this
theorem Kc(hH:az M φ H w){t:TypeId}{x:V}{xv:Value}(hx:V.den (aq M φ H) φ H w x xv)
 (h:BG P H.o t x fun v rd=>K v [] rd):cN M φ H w fr ((do let y <- Instr.loadAt t xv;pure (Next.value y):Sem Next).run P w) K:=by
 have fin:∀ (v:V) rd,K v [] rd->(∃val,(Instr.loadAt t xv).run P w= .ok val w/\V.den (aq M φ H) φ H w v val)->cN M φ H w fr ((do let y <- Instr.loadAt t xv;pure (Next.value y):Sem Next).run P w) K:=by
  rintro v rd hK ⟨val,h1,h2⟩
  exact cN.same hH val hK (by simp[h1]) h2
 unfold BG at h
 split at h
 ·rename_i id off
  split at h
  ·rename_i cs ho
   obtain⟨v,h1,hK⟩:=h
   obtain⟨_,hu,hp⟩:=hx
   obtain⟨b,eQ,rfl⟩:=hp eF
   have aW:=hH.ok id
   simp only[aR,ho]at aW
   obtain⟨b',dV,ty,g1,g2,g3,g4⟩:=aW
   rw[eQ]at g1;simp at g1;subst g1
   refine fin v _ hK ?_
   have:=qm (P:=P) h1 ⟨b,0,none⟩ dV.toList g3 g4 (fun j u hj=>qn g2 j u mP) rfl
   rwa [add_plain,Nat.zero_add]at this
  ·exact h.elim
 ·rename_i cs off
  obtain⟨v,h1,hK⟩:=h
  obtain⟨a,ev,ha,rfl,hd,hf,hc⟩:=hx
  exact fin v _ hK (qm h1 a ev ((V.cH _ _).2 hd) hf (fun j u hj=>(hc j u mP).1) ha)
 ·rename_i id ep i sz off
  split at h
  ·rename_i fW ty rH es ho
   obtain⟨rfl,rfl,e,he,v,h1,hK⟩:=h
   obtain⟨_,hu,hp⟩:=hx
   obtain⟨b,n,c,eQ,rfl⟩:=(hp ep eF).2 rfl
   have aW:=hH.ok id
   simp only[aR,ho]at aW
   obtain⟨ev,g1,g2,g3,g4⟩:=Ka aW eQ he
   refine fin v _ hK ?_
   have:=qm (P:=P) h1 ⟨b,i*sz,none⟩ ev.cells.toList ((V.cH _ _).2 g2) g3 g4 rfl
   rwa [add_plain]at this
  ·exact h.elim
 ·exact h.elim
end
end
section
section
variable {P:Program}{M:Nat->Prop}{φ:Place}{H:Hp}{w:World}{fr:Nat}{K:V->List (Nat×ab)->List Nat->Prop}
theorem cN.plain (hH:az M φ H w){s:Sem Value}{v:V}{rd:List Nat}(val:Value)(hK:K v [] rd)(hr:s.run P w= .ok val w)(hd:V.den (aq M φ H) φ H w v val):
 cN M φ H w fr ((do let y <- s;pure (Next.value y):Sem Next).run P w) K:=cN.same hH val hK (by simp[hr]) hd
theorem BP{t:TypeId}{f q:Nat}(h:cg P t f=some q):∃fs fd,P.underlying t=some (.struct fs)/\fs[f]? =some fd/\P.cellsOf fd.type≠0/\fd.offset=q:=by
 unfold cg at h
 cases hd:P.underlying t with
 |none=>simp[hd]at h
 |some d=>
  cases d<;>simp only[hd]at h<;>try (cases h;done)
  rename_i fs
  cases hf:fs[f]? with
  |none=>simp[hf]at h
  |some fd=>
   simp only[hf]at h
   split at h
   ·cases h
   ·injection h with h
    exact⟨fs,fd,rfl,hf,by assumption,h⟩
theorem BQ{t:TypeId}{f q:Nat}(h:cg P t f=some q)(a:Addr):(Instr.fieldAt t (.pointer (some a)) f).run P w= .ok (.pointer (some (a.add q))) w:=by
 obtain⟨fs,fd,h1,h2,h3,rfl⟩:=BP h
 have:∃i,P.info? fd.type=some i:=by
  cases hi:P.info? fd.type with
  |none=>simp[Program.cellsOf,hi]at h3
  |some i=>exact⟨i,rfl⟩
 obtain⟨i,hi⟩:=this
 simp[Instr.fieldAt,run_underlying h1,h2,Instr.sureAddr,fieldPlace,dN hi,h3]
def V.step (x:V)(q:Nat):Option V:=
 match x with
 | .ptr id off=>some (.ptr id (off+q))
 | .pp cs off=>some (.pp cs (off+q))
 | .pe id ep j sz off=>some (.pe id ep j sz (off+q))
 |_=>none
def V.place (o:Nat->ab):V->Prop
 | .ptr id _=>(o id).cu=true
 | .pe id ep _ _ _=>(o id).ct=some ep
 |_=>True
theorem BR{x y:V}{q:Nat}(h:x.step q=some y){xv:Value}(hx:V.den (aq M φ H) φ H w x xv)
 (hr:x.place H.o):
 ∃a,xv= .pointer (some a)/\V.den (aq M φ H) φ H w y (.pointer (some (a.add q))):=by
 cases x with
 |ptr id off=>
  simp only[V.step,Option.some.injEq]at h;subst h
  obtain⟨h1,h2,h3⟩:=hx
  obtain⟨b,h4,rfl⟩:=h3 hr
  exact⟨_,rfl,rfl,h2,fun _=>⟨b,h4,by rw[add_plain]⟩⟩
 |pp cs off=>
  simp only[V.step,Option.some.injEq]at h;subst h
  obtain⟨a,ev,ha,rfl,hd⟩:=hx
  exact⟨_,rfl,a,ev,ha,by rw[add_add a ha],hd⟩
 |pe id ep j sz off=>
  simp only[V.step,Option.some.injEq]at h;subst h
  obtain⟨h1,h2,h3⟩:=hx
  obtain⟨b,n,c,h4,rfl⟩:=(h3 ep hr).2 rfl
  refine⟨_,rfl,rfl,h2,fun e he=>⟨(h3 e he).1,fun heq=>⟨b,n,c,h4,by rw[add_plain,Nat.add_assoc]⟩⟩⟩
 |_=>simp[V.step]at h
theorem xA(hH:az M φ H w){t:TypeId}{f:Nat}{x:V}{xv:Value}(hx:V.den (aq M φ H) φ H w x xv)(h:jG P H.o t x f fun v=>K v [] []):
 cN M φ H w fr ((do let y <- Instr.fieldAt t xv f;pure (Next.value y):Sem Next).run P w) K:=by
 have fin:∀ (y:V) q,cg P t f=some q->x.step q=some y->x.place H.o->K y [] []->
  cN M φ H w fr ((do let y <- Instr.fieldAt t xv f;pure (Next.value y):Sem Next).run P w) K:=by
  intro y q hq hs hr hK
  obtain⟨a,rfl,hd⟩:=BR hs hx hr
  exact cN.plain hH _ hK (BQ hq a) hd
 unfold jG at h
 split at h
 ·rename_i q hq
  split at h
  ·exact fin _ q hq rfl h.1 h.2
  ·exact fin _ q hq rfl trivial h
  ·exact fin _ q hq rfl h.1 h.2
  ·exact h.elim
 ·exact h.elim
theorem Ed{B:Nat->Prop}{es:List D}{xv:Value}(hx:D.den B w (.sl es) xv){i:Nat}{y:D}(hy:es[i]? =some y):
 ∃a len cap ev,xv= .slice (some a) len cap/\i<len/\a.spot=none/\D.aD B w y.cells ev/\Flat ev/\gL B w (a.add (i*y.cells.length)) ev.toArray/\len=es.length:=by
 obtain⟨base,len,cap,rfl,rfl,h2,h3,sz,h4⟩:=hx
 have ck:i<es.length:=(List.getElem?_eq_some_iff.1 hy).1
 cases base with
 |none=>have:=h3 rfl;omega
 |some a=>
  obtain⟨h5,h6⟩:=h4 a rfl
  obtain⟨ev,h7,h8,h9⟩:=D.x5 es 0 i y h6 hy
  have QV:=D.fi _ _ h9
  have h11:y.cells.length=sz:=by rw[<- h7, <- D.aB _ _ QV.1];simp
  refine⟨a,es.length,cap,ev.cells.toList,rfl,ck,h5 af,QV.1,QV.2, ?_,rfl⟩
  rw[h11]
  simpa using h8
theorem o8{t e:TypeId}(ht:b8 P t=some e)(a:Addr)(len cap:Nat)(k:IntKind)(i:Int)(h0:0<=i)(h1:i.toNat<len)(hc:0<P.cellsOf e):
 (Instr.indexAt t (.slice (some a) len cap) (.int k i)).run P w= .ok (.pointer (some (a.add (i.toNat*P.cellsOf e)))) w:=by
 have hu:=bu ht
 have:∃ie,P.info? e=some ie:=by
  cases hi:P.info? e with
  |none=>simp[Program.cellsOf,hi]at hc
  |some i=>exact⟨i,rfl⟩
 obtain⟨ie,hi⟩:=this
 have h2:0<=i/\i<(len:Int):=⟨h0,af⟩
 simp[Instr.indexAt,run_underlying hu,asIntOf,h2,dN hi]
theorem xB{t e:TypeId}{n:Nat}(ht:zJ P t=some (n,e))(a:Addr)(k:IntKind)(i:Int)(h0:0<=i)(h1:i<n)(hi:∃ie,P.info? e=some ie):
 (Instr.indexAt t (.pointer (some a)) (.int k i)).run P w= .ok (.pointer (some (a.add (i.toNat*P.cellsOf e)))) w:=by
 have hu:=yc ht
 obtain⟨ie,hi⟩:=hi
 have h2:0<=i/\i<(n:Int):=⟨h0,h1⟩
 simp[Instr.indexAt,run_underlying hu,asIntOf,Instr.sureAddr,h2,dN hi]
theorem xC(hH:az M φ H w){t:TypeId}{x ix:V}{xv iv:Value}(hx:V.den (aq M φ H) φ H w x xv)(hi:V.den (aq M φ H) φ H w ix iv)
 (h:jF P H.o t x ix fun v rd=>K v [] rd):cN M φ H w fr ((do let y <- Instr.indexAt t xv iv;pure (Next.value y):Sem Next).run P w) K:=by
 unfold jF at h
 split at h
 ·rename_i k i
  simp only[V.den,D.den]at hi;subst hi
  have zN:∀ {e:TypeId} {es:List D} {rd},b8 P t=some e->D.den (aq M φ H) w (.sl es) xv->(0<=i/\∃y,es[i.toNat]? =some y/\y.cells.length=P.cellsOf e/\0<P.cellsOf e/\K (.pp y.cells 0) [] rd)->
   cN M φ H w fr ((do let y <- Instr.indexAt t xv (.int k i);pure (Next.value y):Sem Next).run P w) K:=by
   rintro e es rd ht hd ⟨h0,y,hy,hc,fD,hK⟩
   obtain⟨a,len,cap,ev,rfl,h1,h2,h3,h4,h5,_⟩:=Ed hd hy
   refine cN.plain hH _ hK (o8 ht a len cap k i h0 h1 fD) ⟨a.add (i.toNat*P.cellsOf e),ev,BO a h2 _,by rw[add_zero],h3,h4, ?_⟩
   rw[<- hc];exact h5
  split at h
  ·rename_i e ht
   split at h
   ·exact zN ht hx h
   ·exact zN ht hx.1 h
   ·rename_i id ep
    split at h
    ·rename_i fW ty sz es ho
     obtain⟨rfl,h0,h1,rfl,fD,hK⟩:=h
     obtain⟨HG,dU,ve⟩:=hx
     have hv:=(ve ep eF).2 rfl
     have aW:=hH.ok id
     simp only[aR,ho]at aW
     obtain⟨h3,xs,⟨_,cV⟩,_⟩:=aW
     rcases cV with⟨_,h5⟩|⟨g,cap,cur,h4,_⟩
     ·omega
     ·subst hv
      rw[h4]
      refine cN.plain hH _ hK (o8 ht _ _ cap k i h0 h1 fD) ⟨rfl,dU,fun e' p9=>⟨(ve e' p9).1,fun heq=>⟨g,es.length,cap,h4,by rw[add_plain];simp⟩⟩⟩
    ·rename_i fW es ho
     obtain⟨rfl,h⟩:=h
     obtain⟨HG,dU,ve⟩:=hx
     have hv:=(ve ep eF).2 rfl
     have aW:=hH.ok id
     simp only[aR,ho]at aW
     exact zN ht (hv ▸ aW) h
    ·exact h.elim
   ·exact h.elim
  ·split at h
   ·rename_i n e ht
    obtain⟨h0,h1,adR,h⟩:=h
    have fin:∀ (y:V),x.step (i.toNat*P.cellsOf e)=some y->x.place H.o->K y [] []->
     cN M φ H w fr ((do let y <- Instr.indexAt t xv (.int k i);pure (Next.value y):Sem Next).run P w) K:=by
     intro y hs hr hK
     obtain⟨a,rfl,hd⟩:=BR hs hx hr
     refine cN.plain hH _ hK (xB ht a k i h0 h1 (Option.isSome_iff_exists.1 adR)) hd
    split at h
    ·exact fin _ rfl h.1 h.2
    ·exact fin _ rfl trivial h
    ·exact fin _ rfl h.1 h.2
    ·exact h.elim
   ·exact h.elim
 ·exact h.elim
theorem TS(hH:az M φ H w){op:UnOp}{x:V}{xv:Value}(hx:V.den (aq M φ H) φ H w x xv)(h:ZK op x fun v=>K v [] []):
 cN M φ H w fr ((do let y <- Op.unary op xv;pure (Next.value y):Sem Next).run P w) K:=by
 unfold ZK at h
 split at h
 ·simp only[V.den,D.den]at hx;subst hx
  exact cN.plain hH _ h (by simp[Op.unary,Op.intArith]) rfl
 ·simp only[V.den,D.den]at hx;subst hx
  exact cN.plain hH _ h (by simp[Op.unary]) rfl
 ·exact h.elim
theorem Bz{op:BinOp}{k:IntKind}{a b r:Int}(h:uX op k a b=some r):(Op.intBits op k a b).run P w= .ok (.int k r) w:=by
 unfold uX at h
 cases op<;>simp at h<;>subst h<;>simp[Op.intBits]
theorem tg{t:TypeId}(hu:P.underlying t=some .bool)(a b:Bool)(d:Nat):(Op.equalIn (d+1) t (.bool a) (.bool b)).run P w= .ok (a==b) w:=by
 simp[Op.equalIn,run_underlying hu]
theorem NK(hH:az M φ H w){op:BinOp}{t:TypeId}{p q:Operand}{x y:V}{xv yv:Value}(hx:V.den (aq M φ H) φ H w x xv)(hy:V.den (aq M φ H) φ H w y yv)
 (h:J7 P op t x y fun v=>K v [] []):
 cN M φ H w fr ((do let y <- (do eqGuard op t p q xv yv;binOp op t xv yv);pure (Next.value y):Sem Next).run P w) K:=by
 unfold J7 at h
 split at h
 ·rename_i k a k' b
  obtain⟨rfl,h⟩:=h
  simp only[V.den,D.den]at hx hy;subst hx;subst hy
  have hg:(eqGuard op t p q (.int k a) (.int k b)).run P w= .ok () w:=by
   exact JX
  have fin:∀ (v:V) (val:Value),K v [] []->(binOp op t (.int k a) (.int k b)).run P w= .ok val w->V.den (aq M φ H) φ H w v val->
   cN M φ H w fr ((do let y <- (do eqGuard op t p q (.int k a) (.int k b);binOp op t (.int k a) (.int k b));pure (Next.value y):Sem Next).run P w) K:=by
   intro v val hK hr hd
   exact cN.plain hH val hK (by simp[hg,hr]) hd
  cases op<;>simp only[NB]at h
  case add=>exact fin _ _ h (by simp[binOp,Op.intArith]) rfl
  case sub=>exact fin _ _ h (by simp[binOp,Op.intArith]) rfl
  case mul=>exact fin _ _ h (by simp[binOp,Op.intArith]) rfl
  case quo=>exact fin _ _ h.2 (by simp[binOp,Op.intDiv,h.1]) rfl
  case rem=>exact fin _ _ h.2 (by simp[binOp,Op.intDiv,h.1]) rfl
  case and=>obtain⟨r,hr,hK⟩:=h;exact fin _ _ hK FJ rfl
  case or=>obtain⟨r,hr,hK⟩:=h;exact fin _ _ hK FJ rfl
  case xor=>obtain⟨r,hr,hK⟩:=h;exact fin _ _ hK FJ rfl
  case andNot=>obtain⟨r,hr,hK⟩:=h;exact fin _ _ hK FJ rfl
  all_goals
   obtain⟨r,hr,hK⟩:=h
   simp only[ZJ,Option.some.injEq]at hr
   subst hr
   exact fin _ _ hK (by simp[binOp,Op.intCmp];rfl) (by simp[V.den,D.den])
 ·rename_i a b
  simp only[V.den,D.den]at hx hy;subst hx;subst hy
  have hg:(eqGuard op t p q (.bool a) (.bool b)).run P w= .ok () w:=by
   exact JX
  split at h
  ·obtain⟨hu,hK⟩:=h
   have h1:(Op.equal t (.bool a) (.bool b)).run P w= .ok (a==b) w:=tg hu a b 9999
   exact cN.plain hH (.bool (a==b)) hK (by simp[hg,binOp,h1]) rfl
  ·obtain⟨hu,hK⟩:=h
   have h1:(Op.equal t (.bool a) (.bool b)).run P w= .ok (a==b) w:=tg hu a b 9999
   exact cN.plain hH (.bool (a !=b)) hK (by simp[hg,binOp,h1,bne]) rfl
  ·exact h.elim
 ·rename_i a b
  obtain⟨u,rfl,rfl⟩:=hx
  obtain⟨v,rfl,rfl⟩:=hy
  have hg:(eqGuard op t p q (.string u) (.string v)).run P w= .ok () w:=by
   exact JX
  split at h
  ·exact cN.plain hH (.bool (u.data.toList==v.data.toList)) h (by simp[hg,binOp,Op.stringOp,ByteArray.toList_eq]) rfl
  ·exact cN.plain hH (.bool (u.data.toList !=v.data.toList)) h (by simp[hg,binOp,Op.stringOp,ByteArray.toList_eq,bne]) rfl
  ·exact h.elim
 ·rename_i a b
  obtain⟨a',rfl,hx⟩:=hx
  obtain⟨b',rfl,hy⟩:=hy
  split at h
  ·obtain⟨r,hr,hK⟩:=h
   obtain⟨h1,h2⟩:=hr (aq M φ H) w (.agg a') (.agg b') ⟨a',rfl,hx⟩ ⟨b',rfl,hy⟩
   exact cN.plain hH (.bool r) hK (by simp[h2,binOp,h1]) rfl
  ·obtain⟨r,hr,hK⟩:=h
   obtain⟨h1,h2⟩:=hr (aq M φ H) w (.agg a') (.agg b') ⟨a',rfl,hx⟩ ⟨b',rfl,hy⟩
   exact cN.plain hH (.bool !r) hK (by simp[h2,binOp,h1]) rfl
  ·exact h.elim
 ·exact h.elim
theorem Kd(hH:az M φ H w){c a b:V}{cv av bv:Value}(hc:V.den (aq M φ H) φ H w c cv)(ha:V.den (aq M φ H) φ H w a av)(hb:V.den (aq M φ H) φ H w b bv)
 (h:BF c a b fun v=>K v [] []):cN M φ H w fr ((do pure (.value (if <- asBool cv then av else bv)):Sem Next).run P w) K:=by
 unfold BF at h
 split at h
 ·rename_i t
  simp only[V.den,D.den]at hc;subst hc
  have hr:((do pure (.value (if <- asBool (.bool t)then av else bv)):Sem Next).run P w)= .ok (.value (if t then av else bv)) w:=by simp[asBool]
  have fin:∀v,K v [] []->V.den (aq M φ H) φ H w v (if t then av else bv)->cN M φ H w fr ((do pure (.value (if <- asBool (.bool t)then av else bv)):Sem Next).run P w) K:=
   fun v hK hd=>cN.same hH _ hK hr hd
  cases t
  ·exact fin _ (h.2 rfl) (by simpa using hb)
  ·exact fin _ (h.1 rfl) (by simpa using ha)
 ·exact h.elim
theorem uq{t:TypeId}{e:TypeId}(hu:P.underlying t=some (.slice e))(base:Option Addr)(n c:Nat)(ty:TypeId):(Builtin.len_ #[t] ty #[.slice base n c]).run P w= .ok (goInt n) w:=by
 simp[Builtin.len_,run_underlying hu]
theorem NL(hH:az M φ H w){t ty:TypeId}{x:V}{xv:Value}(hx:V.den (aq M φ H) φ H w x xv)(h:J8 P t H.o x fun v rd=>K v [] rd):
 cN M φ H w fr ((do let y <- Builtin.len_ #[t] ty #[xv];pure (Next.value y):Sem Next).run P w) K:=by
 unfold J8 at h
 split at h
 ·rename_i e hu
  have fin:∀ {es:List D} {rd},D.den (aq M φ H) w (.sl es) xv->K (.d (.int .i64 es.length)) [] rd->cN M φ H w fr ((do let y <- Builtin.len_ #[t] ty #[xv];pure (Next.value y):Sem Next).run P w) K:=by
   rintro es rd ⟨base,len,cap,rfl,rfl,_⟩ hK
   exact cN.plain hH _ hK (uq hu _ _ _ _) rfl
  split at h
  ·exact fin hx h
  ·simp only[V.den]at hx;subst hx
   exact cN.plain hH _ h (uq hu _ _ _ _) rfl
  ·exact fin hx.1 h
  ·rename_i id ep
   split at h
   ·rename_i fW ty sz es ho
    obtain⟨rfl,hK⟩:=h
    obtain⟨HG,dU,ve⟩:=hx
    have hv:=(ve ep eF).2 rfl
    have aW:=hH.ok id
    simp only[aR,ho]at aW
    obtain⟨h3,xs,⟨_,cV⟩,_⟩:=aW
    subst hv
    rcases cV with⟨h4,h5⟩|⟨g,cap,cur,h4,_⟩
    ·rw[h4];rw[h5]at hK;exact cN.plain hH _ hK (uq hu _ _ _ _) rfl
    ·rw[h4];exact cN.plain hH _ hK (uq hu _ _ _ _) rfl
   ·rename_i fW es ho
    obtain⟨rfl,hK⟩:=h
    obtain⟨HG,dU,ve⟩:=hx
    have hv:=(ve ep eF).2 rfl
    have aW:=hH.ok id
    simp only[aR,ho]at aW
    exact fin (hv ▸ aW) hK
   ·exact h.elim
  ·exact h.elim
 ·rename_i hu
  split at h
  ·obtain⟨u,rfl,rfl⟩:=hx
   exact cN.plain hH (goInt u.size) h (by simp[Builtin.len_,run_underlying hu]) (by simp[V.den,D.den,goInt])
  ·exact h.elim
 ·rename_i n e hu
  exact cN.plain hH _ h (by simp[Builtin.len_,run_underlying hu];rfl) rfl
 ·exact h.elim
end
end
end Go.Proofs.YtlhemmpklhhgoaaGreat
