/-
  A PART OF THE PROOF. Conditions: none.
-/
import Derived.Great.BuildSlice
import Derived.Great.FillDense
import Derived.Test.YtlhemmpklhhgoaaGreatQn1
set_option linter.unusedSimpArgs false
set_option linter.unusedVariables false
namespace Go.Proofs.YtlhemmpklhhgoaaGreat
def ay{α:Type}(f:Nat->α)(i:Nat)(x:α):Nat->α:=fun j=>if j=i then x else f j
@[simp] theorem aN {α:Type} (f:Nat->α) (i:Nat) (x:α) (j:Nat):ay f i x j=if j=i then x else f j:=rfl
structure S where
 env:Nat->V
 o:Nat->ab
 nx:Nat
def S.H (s:S):Hp:=⟨s.o,fun id=>id<s.nx⟩
def V.dA:Value->V
 | .int k n=> .d (.int k n)| .bool b=> .d (.bool b)| .string s=> .d (.str s.data.toList)
 | .nilIface=> .d .fg| .pointer none=> .d .lP| .nilFunc=> .d .cF| .map none=> .d .dL
 | .slice none 0 0=> .aw
 |_=> .ad
def EV:List V->Option (List D)
 |[]=>some []
 | .d x::vs=>(EV vs).map (x::·)
 |_::_=>none
def mX(cs:List V):V:=match EV cs with|some ds=> .d (.agg ds)|none=> .agg cs
def V.ofConst:Value->V
 | .agg a=>if a.toList.all Value.oneCell' then mX (a.toList.map V.dA)else .ad
 |v=>V.dA v
def S.ev (s:S):Operand->V
 | .tmp t=>s.env t
 | .const v=>V.ofConst v
 | .func f=> .func (.func f) [] []
 | .global _=> .ad
def D.cells:D->List D
 | .agg cs=>cs
 |x=>[x]
def V.cells:V->Option (List V)
 | .d x=>some (x.cells.map .d)
 | .agg cs=>some cs
 | .bW _| .ad=>none
 |v=>some [v]
mutual
def dM(o:Nat->ab):V->Option D
 | .d x=>some x
 | .aw=>some (.sl [])
 | .pF es=>some (.sl es)
 | .osl id ep=>match o id with
   | .arr gr _ _ es| .uO gr es=>if ep=gr then some (.sl es)else none
   |_=>none
 | .mp id=>match o id with
   | .map _ _ l=>some (.mp (l.map (·.1)) (l.map (·.2)))
   | .cj l=>some (.mp (l.map (·.1)) (l.map (·.2)))
   |_=>none
 | .agg cs=>(cn o cs).map .agg
 | .iface t x=>(dM o x).map (.iface t)
 |_=>none
def cn(o:Nat->ab):List V->Option (List D)
 |[]=>some []
 |v::vs=>(dM o v).bind fun x=>(cn o vs).map (x::·)
end
mutual
def V.ids:V->List Nat
 | .osl id _=>[id]
 | .mp id=>[id]
 | .agg cs=>V.bg cs
 | .iface _ x=>x.ids
 |_=>[]
def V.bg:List V->List Nat
 |[]=>[]
 |v::vs=>v.ids++V.bg vs
end
def bG(o:Nat->ab)(ids:List Nat):List (Nat×ab):=
 ids.map fun id=>(id,match o id with| .arr ep _ _ es=> .uO ep es| .map _ _ l=> .cj l|o=>o)
def sF(o:Nat->ab)(ids:List Nat):List (Nat×ab):=
 ids.filterMap fun id=>match o id with| .arr ep _ _ es=>some (id, .uO ep es)|_=>none
def put(o:Nat->ab)(Δ:List (Nat×ab)):Nat->ab:=Δ.foldl (fun f x=>ay f x.1 x.2) o
def Hp.put (H:Hp)(Δ:List (Nat×ab)):Hp:={o:=YtlhemmpklhhgoaaGreat.put H.o Δ,us:=fun id=>H.us id\/id∈Δ.map (·.1)}
def cG(P:Program)(t:TypeId):Option (List V):=
 match P.info? t with
 |some i=>match i.zero with
  |some z=>if z.cells.size=i.size/\z.cells.toList.all Value.oneCell'=true then some (z.cells.toList.map V.dA)else none
  |none=>none
 |none=>none
def dm(P:Program)(t:TypeId):Option Bool:=
 match P.underlying t with
 |some (.struct _)|some (.array _ _)=>some true
 |some _=>some false
 |none=>none
def b7(P:Program)(t:TypeId)(f:Nat):Option Nat:=
 match P.underlying t with
 |some (.struct fs)=>match fs[f]? with
  |some fd=>if P.cellsOf fd.type=0 then none else some fd.offset
  |none=>none
 |_=>none
def b8(P:Program)(t:TypeId):Option TypeId:=
 match P.underlying t with
 |some (.slice e)=>some e
 |_=>none
def Ao(P:Program)(t:TypeId):Option (Nat×TypeId):=
 match P.underlying t with
 |some (.array n e)=>some (n,e)
 |_=>none
def cR(P:Program)(t:TypeId):Option (List (Nat×Nat)):=
 match P.underlying t with
 |some (.struct fs)=>if fs.toList.all (fun f=>(P.info? f.type).isSome)=true then some (fs.toList.map fun f=>(f.offset,P.cellsOf f.type))else none
 |some (.array n e)=>if(P.info? e).isSome=true then some ((List.range n).map fun i=>(i*P.cellsOf e,P.cellsOf e))else none
 |_=>none
def pq(P:Program)(t:TypeId):Option IntKind:=
 match P.underlying t with
 |some (.int k)=>some k
 |_=>none
def fh(P:Program)(t:TypeId)(cs:List V)(off:Nat):Option V:=
 match dm P t with
 |some true=>if off+P.cellsOf t<=cs.length then some (mX ((cs.drop off).take (P.cellsOf t)))else none
 |some false=>cs[off]?
 |none=>none
def Ap(P:Program)(t:TypeId)(cs:List V)(off:Nat)(v:V):Option (List V):=
 match v.cells with
 |some us=>if us.length=P.cellsOf t/\(0<us.length\/(P.info? t).isSome=true)/\off+us.length<=cs.length then some (cs.take off++us++cs.drop (off+us.length))else none
 |none=>none
def tI(places:List (Nat×Nat))(cs:List V):List (Nat×V)->Option (List V)
 |[]=>some cs
 |(i,v)::rest=>match places[i]?,v.cells with
  |some (off,size),some us=>if us.length=size/\off+us.length<=cs.length then tI places (cs.take off++us++cs.drop (off+us.length)) rest else none
  |_,_=>none
def D.put (e:D)(off:Nat)(us:List D):Option D:=
 match e with
 | .agg cs=>if off+us.length<=cs.length then some (.agg (cs.take off++us++cs.drop (off+us.length)))else none
 |_=>match off,us with
  |0,[u]=>some u
  |_,_=>none
def abM(op:BinOp)(a b:Int):Option Bool:=
 match op with
 | .eql=>some (a==b)| .neq=>some (a !=b)| .lss=>some (decide (a<b))| .leq=>some (decide (a<=b))
 | .gtr=>some (decide (a>b))| .geq=>some (decide (a≥b))
 |_=>none
def vy(op:BinOp)(k:IntKind)(x y:Int):Option Int:=
 let a:=BitVec.ofInt k.bits x
 let b:=BitVec.ofInt k.bits y
 match op with
 | .and=>some (k.wrap (a&&&b).toNat)
 | .or=>some (k.wrap (a|||b).toNat)
 | .xor=>some (k.wrap (a ^^^ b).toNat)
 | .andNot=>some (k.wrap (a&&& ~~~b).toNat)
 |_=>none
def PC(op:BinOp)(k:IntKind)(a b:Int)(K:V->Prop):Prop:=
 match op with
 | .add=>K (.d (.int k (k.wrap (a+b))))
 | .sub=>K (.d (.int k (k.wrap (a - b))))
 | .mul=>K (.d (.int k (k.wrap (a*b))))
 | .quo=>b≠0/\K (.d (.int k (k.wrap (a.tdiv b))))
 | .rem=>b≠0/\K (.d (.int k (a.tmod b)))
 | .and| .or| .xor| .andNot=>∃r,vy op k a b=some r/\K (.d (.int k r))
 | .shl| .shr=>False
 |op=>∃r,abM op a b=some r/\K (.d (.bool r))
def LS(P:Program)(t:TypeId)(x y:D)(r:Bool):Prop:=
 ∀ (B:Nat->Prop) (w:World) (u v:Value),D.den B w x u->D.den B w y v->(Op.equal t u v).run P w= .ok r w/\∀ (op:BinOp) (a b:Operand),(eqGuard op t a b u v).run P w= .ok () w
def LU(P:Program)(op:BinOp)(t:TypeId)(x y:V)(K:V->Prop):Prop:=
 match x,y with
 | .d (.int k a), .d (.int k' b)=>k=k'/\PC op k a b K
 | .d (.bool a), .d (.bool b)=>match op with
   | .eql=>P.underlying t=some .bool/\K (.d (.bool (a==b)))
   | .neq=>P.underlying t=some .bool/\K (.d (.bool (a !=b)))
   |_=>False
 | .d (.str a), .d (.str b)=>match op with
   | .eql=>K (.d (.bool (a==b)))
   | .neq=>K (.d (.bool (a !=b)))
   |_=>False
 | .d (.agg a), .d (.agg b)=>match op with
   | .eql=>∃r,LS P t (.agg a) (.agg b) r/\K (.d (.bool r))
   | .neq=>∃r,LS P t (.agg a) (.agg b) r/\K (.d (.bool !r))
   |_=>False
 |_,_=>False
def unV(op:UnOp)(x:V)(K:V->Prop):Prop:=
 match op,x with
 | .neg, .d (.int k n)=>K (.d (.int k (k.wrap (0 - n))))
 | .not, .d (.bool b)=>K (.d (.bool !b))
 |_,_=>False
def Ca(c a b:V)(K:V->Prop):Prop:=
 match c with
 | .d (.bool t)=>(t=true->K a)/\(t=false->K b)
 |_=>False
def LV(P:Program)(t:TypeId)(o:Nat->ab)(x:V)(K:V->List Nat->Prop):Prop:=
 match P.underlying t with
 |some (.slice _)=>match x with
  | .d (.sl es)=>K (.d (.int .i64 es.length)) []
  | .aw=>K (.d (.int .i64 0)) []
  | .pF es=>K (.d (.int .i64 es.length)) []
  | .osl id ep=>match o id with
    | .arr gr _ _ es| .uO gr es=>ep=gr/\K (.d (.int .i64 es.length)) [id]
    |_=>False
  |_=>False
 |some .string=>match x with
  | .d (.str s)=>K (.d (.int .i64 s.length)) []
  |_=>False
 |some (.array n _)=>K (.d (.int .i64 n)) []
 |_=>False
def jW(P:Program)(o:Nat->ab)(t:TypeId)(x ix:V)(K:V->List Nat->Prop):Prop:=
 match ix with
 | .d (.int _ i)=>match b8 P t with
   |some e=>match x with
    | .d (.sl es)=>0<=i/\∃y,es[i.toNat]? =some y/\y.cells.length=P.cellsOf e/\0<P.cellsOf e/\K (.pp y.cells 0) []
    | .pF es=>0<=i/\∃y,es[i.toNat]? =some y/\y.cells.length=P.cellsOf e/\0<P.cellsOf e/\K (.pp y.cells 0) []
    | .osl id ep=>match o id with
      | .arr gr _ sz es=>ep=gr/\0<=i/\i.toNat<es.length/\sz=P.cellsOf e/\0<P.cellsOf e/\K (.pe id ep i.toNat sz 0) [id]
      | .uO gr es=>ep=gr/\0<=i/\∃y,es[i.toNat]? =some y/\y.cells.length=P.cellsOf e/\0<P.cellsOf e/\K (.pp y.cells 0) [id]
      |_=>False
    |_=>False
   |none=>match Ao P t with
    |some (n,e)=>0<=i/\i<n/\(P.info? e).isSome=true/\(match x with
     | .ptr id off=>(o id).cA=true/\K (.ptr id (off+i.toNat*P.cellsOf e)) []
     | .pp cs off=>K (.pp cs (off+i.toNat*P.cellsOf e)) []
     | .pe id ep j sz off=>(o id).cz=some ep/\K (.pe id ep j sz (off+i.toNat*P.cellsOf e)) []
     |_=>False)
    |none=>False
 |_=>False
def jX(P:Program)(o:Nat->ab)(t:TypeId)(x:V)(f:Nat)(K:V->Prop):Prop:=
 match b7 P t f with
 |some q=>match x with
  | .ptr id off=>(o id).cA=true/\K (.ptr id (off+q))
  | .pp cs off=>K (.pp cs (off+q))
  | .pe id ep j sz off=>(o id).cz=some ep/\K (.pe id ep j sz (off+q))
  |_=>False
 |none=>False
def Cb(P:Program)(o:Nat->ab)(t:TypeId)(x:V)(K:V->List Nat->Prop):Prop:=
 match x with
 | .ptr id off=>match o id with
   | .row cs=>∃v,fh P t cs off=some v/\K v [id]
   |_=>False
 | .pp cs off=>∃v,fh P t (cs.map .d) off=some v/\K v []
 | .pe id ep i sz off=>match o id with
   | .arr gr _ sq es=>ep=gr/\sz=sq/\∃e,es[i]? =some e/\∃v,fh P t (e.cells.map .d) off=some v/\K v [id]
   |_=>False
 |_=>False
def vz(P:Program)(o:Nat->ab)(t:TypeId)(x v:V)(K:List (Nat×ab)->List Nat->Prop):Prop:=
 match x with
 | .ptr id off=>match o id with
   | .row cs=>∃cs',Ap P t cs off v=some cs'/\K [(id, .row cs')] [id]
   |_=>False
 | .pe id ep i sq off=>match o id with
   | .arr gr ty sz es=>ep=gr/\sq=sz/\∃e,es[i]? =some e/\∃y,dM o v=some y/\y.cells.length=P.cellsOf t/\0<y.cells.length/\v.ids.all (· !=id)=true/\
    ∃e',e.put off y.cells=some e'/\K (bG o v.ids++[(id, .arr ep ty sz (es.set i e'))]) (id::v.ids)
   |_=>False
 |_=>False
def jc(P:Program)(o:Nat->ab)(fr:Nat)(t:TypeId)(len:Nat)(parts:List (Nat×V))(K:V->List (Nat×ab)->List Nat->Prop):Prop:=
 match b8 P t with
 |some e=>(len=0/\parts=[]/\0<P.cellsOf e/\K (.osl fr 0) [(fr, .arr 0 e (P.cellsOf e) [])] [])\/(parts.map (·.1)=List.range len)/\(cG P e).isSome=true/\0<len/\0<P.cellsOf e/\len*P.cellsOf e<=2^24/\
  ∃ds,cn o (parts.map (·.2))=some ds/\(∀x∈ds,x.cells.length=P.cellsOf e)/\
   K (.osl fr 0) (bG o (V.bg (parts.map (·.2)))++[(fr, .arr 0 e (P.cellsOf e) ds)]) (V.bg (parts.map (·.2)))
 |none=>False
def Cc(P:Program)(e:TypeId):Option D:=
 match cG P e with
 |some z=>match cn (fun _=> .no) z,dm P e with
  |some ds,some true=>some (.agg ds)
  |some [x],some false=>some x
  |_,_=>none
 |none=>none
def jY(P:Program)(fr:Nat)(t:TypeId)(l c:V)(K:V->List (Nat×ab)->Prop):Prop:=
 match b8 P t,l,c with
 |some e, .d (.int _ n), .d (.int _ m)=>n=m/\0<=n/\0<P.cellsOf e/\P.bytesOf e*n.toNat<=2^47/\n.toNat<=2^47/\
  ∃x,Cc P e=some x/\K (.osl fr 0) [(fr, .arr 0 e (P.cellsOf e) (List.replicate n.toNat x))]
 |_,_,_=>False
def fi(o:Nat->ab)(x:V):Option (List D):=
 match dM o x with
 |some (.sl es)=>some es
 |_=>none
def qN(P:Program)(o:Nat->ab)(fr:Nat)(ts:Array TypeId)(x y:V)(K:V->List (Nat×ab)->List Nat->Prop):Prop:=
 match ts.toList with
 |[t,t']=>t=t'/\(match b8 P t with
  |some e=>∃new,fi o y=some new/\0<P.cellsOf e/\(cG P e).isSome=true/\(∀z∈new,z.cells.length=P.cellsOf e)/\(match x with
   | .aw=>new.length<=2^47/\new.length*P.bytesOf e<=2^47/\K (.osl fr 0) [(fr, .arr 0 e (P.cellsOf e) new)] y.ids
   | .pF es=>(∀z∈es,z.cells.length=P.cellsOf e)/\(if new=[]then K (.pF es) [] y.ids else es.length+new.length<=2^40/\(es.length+new.length)*P.bytesOf e<=2^40/\K (.osl fr 0) [(fr, .arr 0 e (P.cellsOf e) (es++new))] y.ids)
   | .osl id ep=>match o id with
     | .arr gr ty sz es=>ep=gr/\ty=e/\sz=P.cellsOf e/\es.length+new.length<=2^47/\(es.length+new.length)*P.bytesOf e<=2^47/\
      K (.osl id (ep+1)) [(id, .arr (ep+1) ty sz (es++new))] (id::y.ids)
     |_=>False
   |_=>False)
  |none=>False)
 |_=>False
def oI(isMax:Bool)(args:List V)(K:V->Prop):Prop:=
 match args with
 |[.d (.int k a), .d (.int k' b)]=>k=k'/\K (.d (.int k (if isMax then(if b>a then b else a)else(if b<a then b else a))))
 |_=>False
def lS(o:Nat->ab)(x:V)(K:V->Prop):Prop:=
 match x with
 | .ptr id off=>(o id).cA=true/\K (.ptr id off)
 | .pp cs off=>K (.pp cs off)
 | .func (.func f) first cap=>K (.func (.func f) first cap)
 |_=>False
def jd(P:Program)(t:TypeId)(xs:List D)(off:Nat):Option D:=
 match dm P t with
 |some true=>if off+P.cellsOf t<=xs.length then some (.agg ((xs.drop off).take (P.cellsOf t)))else none
 |some false=>xs[off]?
 |none=>none
inductive afI where
 |int|bool|str|struct (fs:List (TypeId×Nat))|arr (n:Nat) (e:TypeId)
def bP(P:Program)(t:TypeId):Option afI:=
 match P.underlying t with
 |some (.int _)=>some .int
 |some .bool=>some .bool
 |some .string=>some .str
 |some (.struct fs)=>if(!P.stoodInHeld t&&fs.toList.all (fun f=>f.name != "_"))=true then some (.struct (fs.toList.map fun f=>(f.type,f.offset)))else none
 |some (.array n e)=>if(P.info? e).isSome=true then some (.arr n e)else none
 |_=>none
def EW(a b:Option Bool):Option Bool:=
 match a,b with
 |some a,some b=>some (a&&b)
 |_,_=>none
def yC(f:TypeId->Nat->Option Bool):List (TypeId×Nat)->Option Bool
 |[]=>some true
 |x::l=>EW (f x.1 x.2) (yC f l)
def Cd(f:Nat->Option Bool):Nat->Nat->Option Bool
 |0,_=>some true
 |n+1,i=>EW (f i) (Cd f n (i+1))
def PD(f:D->D->Option Bool)(x y:Option D):Option Bool:=
 match x,y with
 |some x,some y=>f x y
 |_,_=>none
def pH(P:Program):Nat->TypeId->D->D->Option Bool
 |0,_,_,_=>none
 |d+1,t,x,y=>match bP P t with
  |some .int=>match x,y with| .int k a, .int k' b=>if k=k' then some (a==b)else none|_,_=>none
  |some .bool=>match x,y with| .bool a, .bool b=>some (a==b)|_,_=>none
  |some .str=>match x,y with| .str a, .str b=>some (a==b)|_,_=>none
  |some (.struct fs)=>match x,y with
   | .agg xs, .agg ys=>yC (fun u off=>PD (pH P d u) (jd P u xs off) (jd P u ys off)) fs
   |_,_=>none
  |some (.arr n e)=>match x,y with
   | .agg xs, .agg ys=>Cd (fun i=>PD (pH P d e) (jd P e xs (i*P.cellsOf e)) (jd P e ys (i*P.cellsOf e))) n 0
   |_,_=>none
  |none=>none
abbrev gz:=V×List (Nat×ab)×List Nat
def dn(x:Option gz)(K:V->List (Nat×ab)->List Nat->Prop):Prop:=
 match x with
 |some (v,Δ,rd)=>K v Δ rd
 |none=>False
def Ji(x:Option V)(afJ:Nat):Option Nat:=
 match x with
 |none=>some afJ
 |some (.d (.int _ i))=>if 0<=i then some i.toNat else none
 |_=>none
def p9(o:Nat->ab)(x:V):Option (Nat×Nat):=
 match x with
 | .ptr id off=>if(o id).cA=true then some (id,off)else none
 |_=>none
def qa(o:Nat->ab)(x:V):Option (Nat×Nat×Nat×List V):=
 match x with
 | .yA id off n=>match o id with
   | .row cs=>some (id,off,n,cs)
   |_=>none
 |_=>none
def EX(P:Program)(o:Nat->ab)(t:TypeId)(x:V)(lo hi mx:Option V):Option gz:=
 match x with
 | .aw=>match lo,hi,mx with
   |none,some (.d (.int _ k)),none=>match b8 P t with
    |some e=>if k=0/\(P.info? e).isSome=true then some (.aw,[],[])else none
    |none=>none
   |_,_,_=>none
 | .osl id ep=>match lo,hi,mx with
   |none,some (.d (.int _ k)),none=>match b8 P t,o id with
    |some e, .arr gr ty sz es=>if k=0/\ep=gr/\(P.info? e).isSome=true then some (.osl id (ep+1),[(id, .arr (ep+1) ty sz [])],[id])
     else if 0<k/\k.toNat<=es.length/\ep=gr/\(P.info? e).isSome=true then some (.osl id (ep+1),[(id, .arr (ep+1) ty sz (es.take k.toNat))],[id])else none
    |_,_=>none
   |_,_,_=>none
 |_=>none
def qO(P:Program)(o:Nat->ab)(t:TypeId)(x:V)(lo hi mx:Option V):Option gz:=
 match b8 P t with
 |some e=>match fi o x,Ji lo 0 with
  |some es,some l=>match Ji hi es.length with
   |some h=>if l<=h/\h<=es.length/\(P.info? e).isSome=true/\(l=0\/es.all (fun y=>y.cells.length==P.cellsOf e)=true)then match mx with
    |none=>some (.d (.sl ((es.take h).drop l)),bG o x.ids,x.ids)
    |some m=>match hi,Ji (some m) 0 with
     |some _,some m=>if h<=m/\m<=es.length then some (if h=m then .pF ((es.take h).drop l)else .d (.sl ((es.take h).drop l)),bG o x.ids,x.ids)else none
     |_,_=>none
    else none
   |none=>none
  |_,_=>none
 |none=>match Ao P t,lo,hi,mx with
  |some (n,e),none,none,none=>match p9 o x with
   |some (id,off)=>if(P.info? e).isSome=true then some (.yA id off n,[],[id])else none
   |none=>none
  |_,_,_,_=>none
def sG(P:Program)(o:Nat->ab)(t:TypeId)(x:V)(lo hi mx:Option V):Option gz:=
 match EX P o t x lo hi mx with
 |some r=>some r
 |none=>qO P o t x lo hi mx
def yD(P:Program)(o:Nat->ab)(ts:Array TypeId)(x y:V):Option gz:=
 match ts.toList with
 |[t,_]=>match b8 P t with
  |some e=>match qa o x,fi o y with
   |some (id,off,n,cs),some es=>if P.cellsOf e=1/\off+n<=cs.length/\es.all (fun z=>z.cells.length==1)=true/\y.ids.all (· !=id)=true then
    some (.d (.int .i64 ((min es.length n:Nat):Int)),bG o y.ids++[(id, .row (cs.take off++((es.take n).flatMap D.cells).map .d++cs.drop (off+(es.take n).length)))],id::y.ids)else none
   |_,_=>none
  |none=>none
 |_=>none
def Aq(P:Program)(t:TypeId)(f:Nat):Option (Nat×TypeId):=
 match P.underlying t with
 |some (.struct fs)=>match fs[f]? with
  |some fd=>some (fd.offset,fd.type)
  |none=>none
 |_=>none
def vA(P:Program)(t:TypeId)(x:V)(f:Nat):Option V:=
 match Aq P t f with
 |some (off,u)=>match x with
  | .d (.agg cs)=>(jd P u cs off).map .d
  | .agg cs=>fh P u cs off
  |_=>none
 |none=>none
def vB(P:Program)(t:TypeId)(x i:V):Option V:=
 match i with
 | .d (.int _ i)=>if 0<=i then match P.underlying t with
  |some .string=>match x with
   | .d (.str s)=>match s[i.toNat]? with
     |some b=>some (.d (.int .u8 b.toNat))
     |none=>none
   |_=>none
  |some (.array n e)=>if i<n/\(P.info? e).isSome=true then match x with
   | .d (.agg cs)=>(jd P e cs (i.toNat*P.cellsOf e)).map .d
   | .agg cs=>fh P e cs (i.toNat*P.cellsOf e)
   |_=>none
   else none
  |_=>none
   else none
 |_=>none
def vC(P:Program)(t:TypeId):Bool:=
 match P.underlying t with
 |some (.interface _)=>false
 |some _=>true
 |none=>false
def zeroV(P:Program)(t:TypeId):Option V:=
 match P.info? t with
 |some i=>match i.zero with
  |some (.agg a)=>if a.toList.all Value.oneCell'=true then some (mX (a.toList.map V.dA))else none
  |some v=>if v.oneCell'=true then some (V.dA v)else none
  |none=>none
 |none=>none
def qP(P:Program)(t:TypeId)(ok:Bool)(x:V):Option V:=
 if vC P t=true then match x with
  | .d (.iface u y)=>if u=t then some (if ok=true then .bW [.d y, .d (.bool true)]else .d y)
   else if ok=true then(zeroV P t).map fun z=> .bW [z, .d (.bool false)]else none
  | .d .fg=>if ok=true then(zeroV P t).map fun z=> .bW [z, .d (.bool false)]else none
  |_=>none
 else none
def Ce(o:Nat->ab)(x:V):Option V:=
 match x with
 | .aw=>some (.d (.bool true))
 |x=>match fi o x with
  |some es=>some (if es=[]then .fF else .d (.bool false))
  |none=>none
def isConst:Operand->Bool
 | .const _=>true
 |_=>false
def PE:V->Option V
 | .d (.bool b)=>some (.d (.bool !b))
 | .fF=>some .fF
 |_=>none
def sH(o:Nat->ab)(x:V):Option V:=
 match x with
 | .d .dL=>some (.d (.bool true))
 | .d (.mp _ _)=>some (.d (.bool false))
 | .mp id=>match o id with| .map _ _ _=>some (.d (.bool false))| .cj _=>some (.d (.bool false))|_=>none
 |_=>none
def sI(o:Nat->ab)(x:V):Option V:=
 match x with
 | .d .lP=>some (.d (.bool true))
 | .ptr id _=>if(o id).cA=true then some (.d (.bool false))else none
 | .pp _ _=>some (.d (.bool false))
 |_=>none
def eqI(P:Program)(a b:TypeId)(x y:D):Option Bool:=
 if a=b then(match P.info? a,P.underlying a with
  |some i,some (.int _)=>if i.comparable=true then(match x,y with
   | .int k m, .int k' n=>if k=k' then some (m==n)else none
   |_,_=>none)else none
  |_,_=>none)
 else some false
def pn(P:Program)(o:Nat->ab)(t:TypeId)(nu:Bool)(x y:V):Option V:=
 match P.underlying t with
 |some (.interface _)=>match x,y with
  | .d .fg, .d .fg=>if nu=true then some (.d (.bool true))else none
  | .d (.iface _ _), .d .fg| .iface _ _, .d .fg| .d .fg, .d (.iface _ _)| .d .fg, .iface _ _=>some (.d (.bool false))
  | .d (.iface a x), .d (.iface b y)=>(eqI P a b x y).map fun r=> .d (.bool r)
  |_,_=>none
 |some (.func _ _ _)=>match x,y with
  | .d .cF, .d .cF=>some (.d (.bool true))
  | .func _ _ _, .d .cF=>some (.d (.bool false))
  |_,_=>none
 |some (.map _ _)=>match y with
  | .d .dL=>sH o x
  |_=>none
 |some (.pointer _)=>match y with
  | .d .lP=>sI o x
  |_=>none
 |some (.slice _)=>match y with
  | .aw=>Ce o x
  |_=>none
 |some (.struct _)|some (.array _ _)=>match x,y with
  | .d (.agg ct), .d (.agg bs)=>if P.eqGuardType P.depth t=false then(pH P 100 t (.agg ct) (.agg bs)).map fun r=> .d (.bool r)else none
  |_,_=>none
 |_=>none
def sJ(P:Program)(o:Nat->ab)(op:BinOp)(t:TypeId)(nu:Bool)(x y:V):Option gz:=
 match op with
 | .eql=>(pn P o t nu x y).map fun v=>(v,[],[])
 | .neq=>((pn P o t nu x y).bind PE).map fun v=>(v,[],[])
 |_=>none
mutual
def D.same:D->D->Bool
 | .int k a, .int j b=>k==j&&a==b
 | .bool a, .bool b=>a==b
 | .str a, .str b=>a==b
 | .fg, .fg| .lP, .lP| .cF, .cF| .dL, .dL=>true
 | .agg ct, .agg bs=>D.gD ct bs
 | .sl ct, .sl bs=>D.gD ct bs
 | .iface t a, .iface u b=>t==u&&a.same b
 | .mp ks vs, .mp cE vs'=>D.gD ks cE&&D.gD vs vs'
 |_,_=>false
def D.gD:List D->List D->Bool
 |[],[]=>true
 |a::ct,b::bs=>a.same b&&D.gD ct bs
 |_,_=>false
end
def sK(P:Program)(t:TypeId):Option (TypeId×TypeId):=
 match P.underlying t with
 |some (.map k v)=>some (k,v)
 |_=>none
def pt(P:Program):Nat->TypeId->D->Bool
 |0,_,_=>false
 |d+1,t,x=>match bP P t with
  |some .int|some .bool|some .str=>true
  |some (.struct fs)=>match x with
   | .agg xs=>fs.all fun f=>match jd P f.1 xs f.2 with|some y=>pt P d f.1 y|none=>false
   |_=>false
  |some (.arr n e)=>match x with
   | .agg xs=>(List.range n).all fun i=>match jd P e xs (i*P.cellsOf e)with|some y=>pt P d e y|none=>false
   |_=>false
  |none=>false
def findD(P:Program)(kt:TypeId)(k:D):List (D×D)->Nat->Option (Option (Nat×D×D))
 |[],_=>some none
 |(k',x)::l,i=>match pH P 100 kt k k' with
  |some true=>some (some (i,k',x))
  |some false=>findD P kt k l (i+1)
  |none=>none
def pI:D->Bool
 | .int _ _| .bool _| .str _=>true
 |_=>false
def lz:D->Bool
 | .agg cs=>cs.all pI
 |x=>pI x
def pJ(o:Nat->ab)(m:V):Option (Option (Nat×TypeId×TypeId)×List (D×D)):=
 match m with
 | .mp id=>match o id with
   | .map kt vt l=>some (some (id,kt,vt),l)
   |_=>none
 | .d .dL=>some (none,[])
 |_=>none
def qQ(o:Nat->ab)(m:V):Option (List Nat×List (D×D)):=
 match m with
 | .mp id=>match o id with
   | .map _ _ l=>some ([id],l)
   | .cj l=>some ([id],l)
   |_=>none
 | .d .dL=>some ([],[])
 | .d (.mp ks vs)=>some ([],ks.zip vs)
 |_=>none
def afK(r:Option (Nat×TypeId×TypeId)):List Nat:=match r with|some p=>[p.1]|none=>[]
def jE(P:Program)(o:Nat->ab)(t:TypeId)(m k:V)(ok:Bool):Option gz:=
 match sK P t,dM o k,qQ o m with
 |some (kt,vt),some kd,some (rd,l)=>if k.ids=[]/\pt P 100 kt kd=true then match findD P kt kd l 0 with
  |some (some (_,_,x))=>some (if ok=true then .bW [.d x, .d (.bool true)]else .d x,[],rd)
  |some none=>match zeroV P vt with
   |some z=>some (if ok=true then .bW [z, .d (.bool false)]else z,[],rd)
   |none=>none
  |none=>none
  else none
 |_,_,_=>none
def gu(P:Program)(o:Nat->ab)(t:TypeId)(m k v:V):Option gz:=
 match sK P t,dM o k,dM o v,pJ o m with
 |some (kt,_),some kd,some vd,some (some (id,G1,G2),l)=>if k.ids=[]/\pt P 100 kt kd=true/\lz kd=true/\v.ids.all (· !=id)=true then match findD P kt kd l 0 with
  |some (some (i,k',_))=>if k'.same kd=true then some (.bW [],bG o v.ids++[(id, .map G1 G2 (l.set i (kd,vd)))],id::v.ids)else none
  |some none=>some (.bW [],bG o v.ids++[(id, .map G1 G2 (l++[(kd,vd)]))],id::v.ids)
  |none=>none
  else none
 |_,_,_,_=>none
def nv(P:Program)(fr:Nat)(t:TypeId):Option gz:=
 match sK P t with
 |some (kt,vt)=>some (.mp fr,[(fr, .map kt vt [])],[])
 |none=>none
def ny(P:Program)(o:Nat->ab)(fr:Nat)(t:TypeId)(x:V):Option gz:=
 match P.underlying t with
 |some .string=>match x with
  | .d (.str s)=>some (.ptr fr 0,[(fr, .Am s 0)],[])
  |_=>none
 |some (.map _ _)=>match x with
  | .d .dL=>some (.ptr fr 0,[(fr, .sn [] none)],[])
  | .d (.mp ks vs)=>some (.ptr fr 0,[(fr, .sn (ks.zip vs) none)],[])
  | .mp id=>match o id with
    | .map _ _ l=>some (.ptr fr 0,[(id, .cj l),(fr, .sn l none)],[id])
    | .cj l=>some (.ptr fr 0,[(fr, .sn l none)],[id])
    |_=>none
  |_=>none
 |_=>none
def pK(o:Nat->ab)(x:V)(str:Bool):Option gz:=
 match x with
 | .ptr id 0=>match o id with
   | .Am s pos=>if str=true then
    (if pos<s.length then some (.bW [.d (.bool true), .d (.int .i64 pos), .d (.int .i32 (Utf8.decode ⟨⟨s⟩⟩ pos).1)],[(id, .Am s (pos+(Utf8.decode ⟨⟨s⟩⟩ pos).2))],[id])else some (.bW [.d (.bool false)],[],[id]))
     else none
   |_=>none
 |_=>none
def pL(o:Nat->ab)(x:V):Option (Nat×List (D×D)):=
 match x with
 | .ptr id 0=>match o id with
   | .sn l _=>some (id,l)
   |_=>none
 |_=>none
def G3(id:Nat)(l:List (D×D))(K:V->List (Nat×ab)->List Nat->Prop):Prop:=
 (l=[]->K (.bW [.d (.bool false)]) [] [id])/\∀i k x,l[i]? =some (k,x)->K (.bW [.d (.bool true), .d k, .d x]) [(id, .sn (l.eraseIdx i) (some (k,x)))] [id]
def nz(o:Nat->ab)(x:V):Option gz:=
 match x with
 | .ptr id 0=>match o id with
   | .sn _ (some (k,x))=>some (.bW [.d k, .d x],[],[id])
   |_=>none
 |_=>none
def oJ(P:Program)(o:Nat->ab)(t:TypeId)(m k:V):Option gz:=
 match sK P t,dM o k,pJ o m with
 |some (kt,_),some kd,some (some (id,G1,G2),l)=>if k.ids=[]/\pt P 100 kt kd=true then match findD P kt kd l 0 with
  |some (some (i,_,_))=>some (.bW [],[(id, .map G1 G2 (l.eraseIdx i))],[id])
  |some none=>some (.bW [],[],[id])
  |none=>none
  else none
 |_,_,_=>none
def LW(x y z:V):Option V:=
 match x,y,z with
 | .d (.int k a), .d (.int k' b), .d (.int k'' c)=>if k=k'/\k=k'' then some (.d (.int k (if c>(if b>a then b else a)then c else(if b>a then b else a))))else none
 |_,_,_=>none
def PF(P:Program)(ts:Array TypeId)(x:V):Option gz:=
 match ts.toList with
 |[t]=>match b8 P t with
  |some _=>match x with
   | .aw=>some (.d (.int .i64 0),[],[])
   |_=>none
  |none=>none
 |_=>none
def yE(P:Program)(fr:Nat)(ts:Array TypeId)(x y:V):Option gz:=
 match ts.toList with
 |[t,t']=>if t=t' then none else match b8 P t with
  |some e=>match pq P t',x,y with
   |some _, .aw, .d (.int _ n)=>if 0<n/\0<P.cellsOf e/\n.toNat*P.bytesOf e<=2^40/\n.toNat<=2^40 then match Cc P e with
    |some z=>some (.osl fr 0,[(fr, .arr 0 e (P.cellsOf e) (List.replicate n.toNat z))],[])
    |none=>none
    else none
   |_,_,_=>none
  |none=>none
 |_=>none
def vE(P:Program)(s:S)(fr:Nat)(b:Builtin)(args:List Operand)(ts:Array TypeId)(K:V->List (Nat×ab)->List Nat->Prop):Prop:=
 match b,args with
 | .len,[x]=>∃t,ts.toList=[t]/\LV P t s.o (s.ev x) fun v rd=>K v [] rd
 | .append,[x,y]=>dn (yE P fr ts (s.ev x) (s.ev y)) K\/qN P s.o fr ts (s.ev x) (s.ev y) K
 | .max,[x,y]=>oI true [s.ev x,s.ev y] fun v=>K v [] []
 | .min,[x,y]=>oI false [s.ev x,s.ev y] fun v=>K v [] []
 | .max,[x,y,z]=>dn ((LW (s.ev x) (s.ev y) (s.ev z)).map fun v=>(v,[],[])) K
 | .copy,[x,y]=>dn (yD P s.o ts (s.ev x) (s.ev y)) K
 | .delete,[x,y]=>∃t,ts.toList.head?=some t/\dn (oJ P s.o t (s.ev x) (s.ev y)) K
 | .cap,[x]=>dn (PF P ts (s.ev x)) K
 |_,_=>False
def Te(P:Program)(s:S)(fr:Nat)(op:Op)(K:V->List (Nat×ab)->List Nat->Prop):Prop:=
 match op with
 | .move x| .assign x=>K (s.ev x) [] []
 | .pick c a b=>Ca (s.ev c) (s.ev a) (s.ev b) fun v=>K v [] []
 | .alloc t=>∃cs,cG P t=some cs/\K (.ptr fr 0) [(fr, .row cs)] []
 | .box _ x=>∃cs,(s.ev x).cells=some cs/\K (.ptr fr 0) [(fr, .row cs)] []
 | .build t parts=>∃z pl cs,cG P t=some z/\cR P t=some pl/\tI pl z (parts.toList.map fun p=>(p.1,s.ev p.2))=some cs/\K (mX cs) [] []
 | .buildSlice t len parts=>jc P s.o fr t len (parts.toList.map fun p=>(p.1,s.ev p.2)) K
 | .load t x=>Cb P s.o t (s.ev x) fun v rd=>K v [] rd
 | .store t x v=>vz P s.o t (s.ev x) (s.ev v) fun Δ rd=>K (.bW []) Δ rd
 | .nilCheck x=>lS s.o (s.ev x) fun v=>K v [] []
 | .binOp op t x y _=>LU P op t (s.ev x) (s.ev y) (fun v=>K v [] [])\/dn (sJ P s.o op t (isConst x||isConst y) (s.ev x) (s.ev y)) K
 | .unOp op _ x=>unV op (s.ev x) (fun v=>K v [] [])\/(op= .not/\s.ev x= .fF/\K .fF [] [])
 | .convert u t x=>(P.underlying u).isSome=true/\(match pq P t,s.ev x with
   |some k, .d (.int _ n)=>K (.d (.int k (k.wrap n))) [] []
   |_,_=>False)
 | .makeInterface t x=>(∃d,P.underlying t=some d/\(match d with| .interface _=>false|_=>true)=true)/\(match s.ev x with
   | .d y=>K (.d (.iface t y)) [] []
   |v=>K (.iface t v) [] [])
 | .makeFunc fn first cap=>K (.func fn (first.toList.map s.ev) (cap.toList.map s.ev)) [] []
 | .makeSlice t l c=>jY P fr t (s.ev l) (s.ev c) fun v Δ=>K v Δ []
 | .fieldAddr t x f=>jX P s.o t (s.ev x) f fun v=>K v [] []
 | .indexAddr t x i=>jW P s.o t (s.ev x) (s.ev i) fun v rd=>K v [] rd
 | .extract x i=>match s.ev x with
   | .bW vs=>∃v,vs[i]? =some v/\K v [] []
   |_=>False
 | .slice t x lo hi mx=>dn (sG P s.o t (s.ev x) (lo.map s.ev) (hi.map s.ev) (mx.map s.ev)) K
 | .field t x f=>dn ((vA P t (s.ev x) f).map fun v=>(v,[],[])) K
 | .index t x i=>dn ((vB P t (s.ev x) (s.ev i)).map fun v=>(v,[],[])) K
 | .makeMap t none=>dn (nv P fr t) K
 | .lookup t m k ok=>dn (jE P s.o t (s.ev m) (s.ev k) ok) K
 | .mapUpdate t m k v=>dn (gu P s.o t (s.ev m) (s.ev k) (s.ev v)) K
 | .insert t m k v=>dn (gu P s.o t (s.ev m) (s.ev k) (s.ev v)) K
 | .range t x=>dn (ny P s.o fr t (s.ev x)) K
 | .next x str=>dn (pK s.o (s.ev x) str) K\/(str=false/\∃id l,pL s.o (s.ev x)=some (id,l)/\G3 id l K)
 | .entry x=>dn (nz s.o (s.ev x)) K
 | .typeAssert x _ t ok=>dn ((qP P t ok (s.ev x)).map fun v=>(v,[],[])) K
 | .call c=>match c.callee with
   | .builtin b=>vE P s fr b c.args.toList c.argTypes K
   |_=>False
 |_=>False
section
section
variable {B:Nat->Prop}{φ:Place}{H:Hp}{w:World}
theorem V.aC:∀ (cs:List V) (vs:List Value),V.aF B φ H w cs vs->vs.length=cs.length
 |[],_,h=>by simp[V.aF]at h;simp[h]
 |c::cs,_,h=>by obtain⟨u,us,rfl,_,h2⟩:=h;simp[V.aC cs us h2]
theorem V.dz:∀ (cs:List V) (vs:List Value) (i:Nat) (c:V),V.aF B φ H w cs vs->cs[i]? =some c->∃v,vs[i]? =some v/\V.den B φ H w c v
 |[],_,_,_,_,hd=>by simp at hd
 |c::cs,_,0,x,h,hd=>by
  exact S8
 |c::cs,_,i+1,x,h,hd=>by
  obtain⟨u,us,rfl,_,h2⟩:=h
  simpa using V.dz cs us i x h2 (by simpa using hd)
theorem V.bE:∀ (cs ds:List V) (us vs:List Value),V.aF B φ H w cs us->V.aF B φ H w ds vs->V.aF B φ H w (cs++ds) (us++vs)
 |[],ds,us,vs,h,k=>by simp[V.aF]at h;subst h;simpa using k
 |c::cs,ds,_,vs,h,k=>by
  obtain⟨u,us,rfl,h1,h2⟩:=h
  exact⟨u,us++vs,aE,h1,V.bE cs ds us vs h2 k⟩
theorem V.cX:∀ (n:Nat) (cs:List V) (vs:List Value),V.aF B φ H w cs vs->V.aF B φ H w (cs.take n) (vs.take n)
 |0,_,_,_=>by simp[V.aF]
 |n+1,[],_,h=>by simp[V.aF]at h;subst h;simp[V.aF]
 |n+1,c::cs,_,h=>by
  obtain⟨u,us,rfl,h1,h2⟩:=h
  exact⟨u,us.take n,aE,h1,V.cX n cs us h2⟩
theorem V.eG:∀ (n:Nat) (cs:List V) (vs:List Value),V.aF B φ H w cs vs->V.aF B φ H w (cs.drop n) (vs.drop n)
 |0,_,_,h=>by simpa using h
 |n+1,[],_,h=>by simp[V.aF]at h;subst h;simp[V.aF]
 |n+1,c::cs,_,h=>by
  obtain⟨u,us,rfl,h1,h2⟩:=h
  simpa using V.eG n cs us h2
theorem V.cO:∀ (ds:List D) (vs:List Value),V.aF B φ H w (ds.map .d) vs↔D.aF B w ds vs
 |[],vs=>by simp[V.aF,D.aF]
 |x::ds,vs=>by simp only[List.map_cons,V.aF,D.aF,V.den,V.cO ds]
theorem D.bE:∀ (cs ds:List D) (us vs:List Value),D.aF B w cs us->D.aF B w ds vs->D.aF B w (cs++ds) (us++vs)
 |[],ds,us,vs,h,k=>by simp[D.aF]at h;subst h;simpa using k
 |c::cs,ds,_,vs,h,k=>by
  obtain⟨u,us,rfl,h1,h2⟩:=h
  exact⟨u,us++vs,aE,h1,D.bE cs ds us vs h2 k⟩
theorem D.cX:∀ (n:Nat) (cs:List D) (vs:List Value),D.aF B w cs vs->D.aF B w (cs.take n) (vs.take n)
 |0,_,_,_=>by simp[D.aF]
 |n+1,[],_,h=>by simp[D.aF]at h;subst h;simp[D.aF]
 |n+1,c::cs,_,h=>by
  obtain⟨u,us,rfl,h1,h2⟩:=h
  exact⟨u,us.take n,aE,h1,D.cX n cs us h2⟩
theorem D.eG:∀ (n:Nat) (cs:List D) (vs:List Value),D.aF B w cs vs->D.aF B w (cs.drop n) (vs.drop n)
 |0,_,_,h=>by simpa using h
 |n+1,[],_,h=>by simp[D.aF]at h;subst h;simp[D.aF]
 |n+1,c::cs,_,h=>by
  obtain⟨u,us,rfl,h1,h2⟩:=h
  simpa using D.eG n cs us h2
theorem D.Cf:∀ (i:Nat) (ds:List D) (vs:List Value) (x:D) (v:Value),D.aF B w ds vs->D.den B w x v->D.aF B w (ds.set i x) (vs.set i v)
 |_,[],_,_,_,h,_=>by simp[D.aF]at h;subst h;simp[D.aF]
 |0,c::cs,_,x,v,h,k=>by
  obtain⟨u,us,rfl,h1,h2⟩:=h
  exact⟨v,us,aE,k,h2⟩
 |i+1,c::cs,_,x,v,h,k=>by
  obtain⟨u,us,rfl,h1,h2⟩:=h
  exact⟨u,us.set i v,aE,h1,D.Cf i cs us x v h2 k⟩
theorem yF:∀ (cs:List V) (ds:List D),EV cs=some ds->cs=ds.map .d
 |[],ds,h=>by simp[EV]at h;subst h;rfl
 | .d x::cs,ds,h=>by
   simp only[EV,Option.map_eq_some_iff]at h
   obtain⟨a,h1,rfl⟩:=h
   simp[yF cs a h1]
 | .aw::_,_,h| .agg _::_,_,h| .bW _::_,_,h| .ptr _ _::_,_,h| .osl _ _::_,_,h| .pe _ _ _ _ _::_,_,h| .pp _ _::_,_,h
 | .func _ _ _::_,_,h| .iface _ _::_,_,h| .ad::_,_,h| .pF _::_,_,h| .yA _ _ _::_,_,h| .mp _::_,_,h| .fF::_,_,h=>by simp[EV]at h
theorem lT(cs:List V)(a:Array Value)(h:V.aF B φ H w cs a.toList)(hf:Flat a.toList):V.den B φ H w (mX cs) (.agg a):=by
 unfold mX
 split
 ·rename_i ds hd
  have:=yF cs ds hd
  subst this
  exact⟨a,rfl,(V.cO ds _).1 h,hf⟩
 ·exact⟨a,rfl,h,hf⟩
theorem D.oK:∀ (x:D) (v:Value),D.den B w x v->(∃cs a,x= .agg cs/\v= .agg a)\/v.oneCell'=true/\x.cells=[x]/\v.cells=#[v]
 | .int _ _,_,h| .bool _,_,h| .fg,_,h| .lP,_,h| .cF,_,h| .dL,_,h=>by
   simp only[D.den]at h;subst h;exact .inr ⟨rfl,rfl,rfl⟩
 | .str l,_,h=>by obtain⟨s,rfl,_⟩:=h;exact .inr ⟨rfl,rfl,rfl⟩
 | .agg cs,_,h=>by obtain⟨a,rfl,_,_⟩:=h;exact .inl ⟨cs,a,rfl,rfl⟩
 | .sl es,_,h=>by obtain⟨b,l,c,rfl,_⟩:=h;exact .inr ⟨rfl,rfl,rfl⟩
 | .iface t x,_,h=>by obtain⟨u,rfl,_⟩:=h;exact .inr ⟨rfl,rfl,rfl⟩
 | .mp ks vs,_,h=>by obtain⟨m,es,c,p,rfl,_⟩:=h;exact .inr ⟨rfl,rfl,rfl⟩
theorem D.fH (x:D)(v:Value)(h:D.den B w x v):D.aF B w x.cells v.cells.toList/\Flat v.cells.toList:=by
 rcases D.oK x v h with⟨cs,a,rfl,rfl⟩|⟨h1,h2,h3⟩
 ·obtain⟨a',h1,h2,h3⟩:=h
  injection h1 with h1;subst h1
  exact⟨h2,h3⟩
 ·rw[h2,h3]
  exact⟨⟨v,[],rfl,h,rfl⟩,by intro u hu;simp at hu;subst hu;exact h1⟩
theorem V.oK (x:V)(v:Value)(us:List V)(hx:x.cells=some us)(h:V.den B φ H w x v):V.aF B φ H w us v.cells.toList/\Flat v.cells.toList:=by
 have one:∀ (y:V),v.oneCell'=true->V.den B φ H w y v->V.aF B φ H w [y] v.cells.toList/\Flat v.cells.toList:=by
  intro y h1 h2
  have h3:v.cells=#[v]:=by cases v<;>simp_all[Value.oneCell',Value.cells]
  rw[h3]
  exact⟨⟨v,[],rfl,h2,rfl⟩,by intro u hu;simp at hu;subst hu;exact h1⟩
 cases x with
 |d x=>
  simp only[V.cells,Option.some.injEq]at hx;subst hx
  have:=D.fH x v h
  exact⟨(V.cO _ _).2 this.1,this.2⟩
 |aw=>simp only[V.cells,Option.some.injEq]at hx;subst hx;exact one _ (by cases h;rfl) h
 |agg cs=>
  simp only[V.cells,Option.some.injEq]at hx;subst hx
  obtain⟨a,rfl,h1,h2⟩:=h
  exact⟨h1,h2⟩
 |bW vs=>simp[V.cells]at hx
 |ad=>simp[V.cells]at hx
 |ptr id off=>simp only[V.cells,Option.some.injEq]at hx;subst hx;exact one _ h.1 h
 |osl id ep=>simp only[V.cells,Option.some.injEq]at hx;subst hx;exact one _ h.1 h
 |pe id ep i sz off=>simp only[V.cells,Option.some.injEq]at hx;subst hx;exact one _ h.1 h
 |pp cs off=>simp only[V.cells,Option.some.injEq]at hx;subst hx;exact one _ (by obtain⟨a,ev,_,rfl,_⟩:=h;rfl) h
 |func fn f c=>simp only[V.cells,Option.some.injEq]at hx;subst hx;exact one _ (by obtain⟨a,ev,rfl,_⟩:=h;rfl) h
 |iface t y=>simp only[V.cells,Option.some.injEq]at hx;subst hx;exact one _ (by obtain⟨a,rfl,_⟩:=h;rfl) h
 |pF es=>simp only[V.cells,Option.some.injEq]at hx;subst hx;exact one _ (by obtain⟨_,b,n,rfl⟩:=h;rfl) h
 |yA id off n=>simp only[V.cells,Option.some.injEq]at hx;subst hx;exact one _ h.1 h
 |mp id=>simp only[V.cells,Option.some.injEq]at hx;subst hx;exact one _ h.1 h
 |kM id=>simp only[V.cells,Option.some.injEq]at hx;subst hx;exact one _ h.1 h
 |fF=>simp only[V.cells,Option.some.injEq]at hx;subst hx;exact one _ (by obtain⟨a,rfl⟩:=h;rfl) h
theorem mq(v:Value)(h:v.oneCell'=true):V.den B φ H w (V.dA v) v:=by
 cases v<;>simp_all only[Value.oneCell',V.dA,V.den,D.den]<;>try trivial
 all_goals (try (split<;>simp_all[V.den,D.den]))
 all_goals (try first|(simp_all[D.den];done)|simp_all)
theorem dN:∀ (vs:List Value),Flat vs->V.aF B φ H w (vs.map V.dA) vs
 |[],_=>rfl
 |v::vs,h=>⟨v,vs,rfl,mq v (h v aE),dN vs fun u hu=>h u (by simp[hu])⟩
end
end
section
theorem oL(H:Hp):H.put []=H:=by
 obtain⟨o,us⟩:=H
 simp[Hp.put,put]
theorem ed(H:Hp)(A C:List (Nat×ab)):H.put (A++C)=(H.put A).put C:=by
 obtain⟨o,us⟩:=H
 simp only[Hp.put,put,List.foldl_append,Hp.mk.injEq,true_and]
 funext id
 simp only[List.map_append,List.mem_append,eq_iff_iff]
 exact⟨fun h=>by rcases h with h|h|h<;>simp[h],fun h=>by rcases h with(h|h)|h<;>simp[h]⟩
@[simp] theorem bL (H:Hp) (i:Nat) (x:ab):(H.put [(i,x)]).o=ay H.o i x:=rfl
@[simp] theorem ef (H:Hp) (i j:Nat) (x:ab):(H.put [(i,x)]).us j↔(H.us j\/j=i):=by simp[Hp.put]
section
variable {M:Nat->Prop}{φ aJ:Place}{H H':Hp}{w w':World}
theorem aR.Cg (ss:∀b,dg w b-> ¬aq M φ H b->w'.heap[b]? =w.heap[b]? /\ ¬aq M aJ H' b)(hrl:ec φ H aJ H'){id:Nat}(ho:H'.o id=H.o id)(eY:aJ id=φ id)
 (hb:(H.o id).live=true->∀b,eA (φ id)=some b->w'.heap[b]? =w.heap[b]?) (h:aR M φ H w id):aR M aJ H' w' id:=by
 unfold aR at*
 rw[ho]
 cases hx:H.o id with
 |no=>trivial
 |row cs=>
  simp only[hx]at h|-
  obtain⟨b,dZ,ty,h1,h2,h3,h4⟩:=h
  exact⟨b,dZ,ty,eY.trans h1,(hb tG b yw).trans h2,V.gy ss hrl cs _ h3,h4⟩
 |arr ep ty sz es=>
  simp only[hx]at h|-
  obtain⟨h0,xs,h1,evs,h2,h3,h4⟩:=h
  refine⟨h0,xs, ?_,evs,h2,h3,D.aW ss es evs h4⟩
  rw[eY]
  obtain⟨g1,g2⟩:=h1
  refine⟨g1, ?_⟩
  rcases g2 with g2|⟨g,cap,cur,k1,k2,k3,k4⟩
  ·exact .inl g2
  ·exact .inr ⟨g,cap,cur,k1,k2,(hb tG g (by rw[k1];rfl)).trans k3,k4⟩
 |uO ep es=>
  simp only[hx]at h|-
  rw[eY]
  exact D.aT ss (.sl es) _ h
 |map kt vt l=>
  simp only[hx]at h|-
  obtain⟨b,es,clock,h1,h2,h4,h3⟩:=h
  exact⟨b,es,clock,eY.trans h1,(hb tG b yw).trans h2,h4,aK.mono ss l _ h3⟩
 |cj l=>
  simp only[hx]at h|-
  rw[eY]
  exact ly.mono ss h
 |sn l last=>
  simp only[hx]at h|-
  obtain⟨b,h1,h2⟩:=h
  exact⟨b,eY.trans h1,h2.mono ss (hb tG b yw)⟩
 |Am s pos=>
  simp only[hx]at h|-
  obtain⟨b,h1,h2⟩:=h
  exact⟨b,eY.trans h1,(hb tG b yw).trans h2⟩
 |loop nf n env ps jV fG st Jh=>
  simp only[hx]at h|-
  obtain⟨b,r,h1,h2,h0,h3,h4,h5,h6,h7,h8,h9⟩:=h
  exact⟨b,r,eY.trans h1,(hb tG b yw).trans h2,h0,h3,h4,h5,h6,h7,h8,fun i=>V.lR ss hrl _ _ (h9 i)⟩
theorem aR.mono (ht:Trans φ H w aJ H' w'){id:Nat}(ho:H'.o id=H.o id)(eY:aJ id=φ id)
 (hb:(H.o id).live=true->∀b,eA (φ id)=some b->w'.heap[b]? =w.heap[b]?) (h:aR M φ H w id):aR M aJ H' w' id:=aR.Cg ht.blocks ht.rel ho eY hb h
theorem az.of (hH:az M φ H w)(ht:Trans φ H w aJ H' w')(T:Nat->Prop)(hT:∀id,T id->aR M aJ H' w' id)
 (hn:∀id, ¬T id->H'.o id=H.o id/\aJ id=φ id/\((H.o id).live=true->∀b,eA (φ id)=some b->w'.heap[b]? =w.heap[b]?))
 (jZ:∀id, ¬H'.us id->H'.o id= .no)
 (hap:∀i j b,(H'.o i).live=true->(H'.o j).live=true->eA (aJ i)=some b->eA (aJ j)=some b->i=j)
 (abN:∀b,cL aJ H' b->b<w'.heap.size):az M aJ H' w' where
 ok id:=by
  by_cases hc:T id
  ·exact hT id hc
  ·obtain⟨h1,h2,h3⟩:=hn id hc
   exact(hH.ok id).mono ht h1 h2 h3
 fresh:=jZ
 apart:=hap
 ours b hb:=by
  refine⟨fun hM=> ?_,abN b hb⟩
  rcases ht.grow b hb with h1|h1
  ·exact(hH.ours b h1).1 hM
  ·have:=hH.BM b hM;omega
 BM b hM:=Nat.lt_of_lt_of_le (hH.BM b hM) ht.cN.size
theorem dO(hk:eC (fun _=>False) w w'){fr:Nat}(c9: ¬H.us fr)(obj:ab)(val:Value)(e9:∀b,eA val=some b->w.heap.size<=b):
 Trans φ H w (ay φ fr val) (H.put [(fr,obj)]) w' where
 cN:=⟨hk.os,hk.tape,hk.output,hk.size,fun k h _=>hk.block k h (fun h=>h)⟩
 grow b:=by
  rintro⟨id,h1,h2⟩
  by_cases ax:id=fr
  ·subst ax;simp at h2;exact .inr (e9 b h2)
  ·simp[ax]at h1 h2;exact .inl ⟨id,h1,h2⟩
 rel:={
  us:=fun id h=>by simp[h]
  row:=fun id hu hr=>by
   have ax:id≠fr:=fun h=>c9 (h ▸ hu)
   simp[ax]at hr|-;exact hr
  ep:=fun id e' hu he=>by
   have ax:id≠fr:=fun h=>c9 (h ▸ hu)
   simp[ax]at he|-;exact⟨e',he,Nat.le_refl _⟩}
theorem ja(hH:az M φ H w)(hk:eC (fun _=>False) w w'){fr:Nat}(c9: ¬H.us fr)(obj:ab)(val:Value)(e9:∀b,eA val=some b->w.heap.size<=b/\b<w'.heap.size)
 (vF:aR M (ay φ fr val) (H.put [(fr,obj)]) w' fr):az M (ay φ fr val) (H.put [(fr,obj)]) w':=by
 have ht:Trans φ H w (ay φ fr val) (H.put [(fr,obj)]) w':=dO hk c9 obj val fun b hb=>(e9 b hb).1
 refine hH.of ht (· =fr) (fun id h=>h ▸ vF) (fun id h=> ?_) (fun id h=> ?_) (fun i j b hi hj bi bj=> ?_) (fun b=> ?_)
 ·refine⟨by simp[h],by simp[h],fun hl b hb=>hk.block b ?_ (fun h=>h)⟩
  exact(hH.ours b ⟨id,hl,hb⟩).2
 ·rw[ef]at h
  have h1:id≠fr:=fun e=>h (.inr e)
  simp only[bL,aN,h1,if_false]
  exact hH.fresh id fun hu=>h (.inl hu)
 ·by_cases e1:i=fr<;>by_cases e2:j=fr
  ·exact e1.trans e2.symm
  ·simp[e1,e2]at hi hj bi bj
   have:=(hH.ours b ⟨j,hj,bj⟩).2;have:=(e9 b bi).1;omega
  ·simp[e1,e2]at hi hj bi bj
   have:=(hH.ours b ⟨i,hi,bi⟩).2;have:=(e9 b bj).1;omega
  ·simp[e1,e2]at hi hj bi bj
   exact hH.apart i j b hi hj bi bj
 ·rintro⟨id,h1,h2⟩
  by_cases ax:id=fr
  ·subst ax;simp at h2;exact(e9 b h2).2
  ·simp[ax]at h1 h2
   exact Nat.lt_of_lt_of_le (hH.ours b ⟨id,h1,h2⟩).2 hk.size
theorem cy(w:World)(o:Obj):eC (fun _=>False) w (w.alloc o):=
 ⟨rfl,rfl,rfl,aE,fun k hk _=>RowKit.Below.heap_alloc w o k hk⟩
theorem mu{w w':World}(h:w.grownBy w' none):eC (fun _=>False) w w':=
 ⟨h.os,h.tape,h.output,h.size,fun k hk _=>h.block k hk aE⟩
theorem PG(hH:az M φ H w){fr:Nat}(c9: ¬H.us fr)(cs:List V)(dZ:Array Value)(ty:TypeId)(hd:V.aF (aq M φ H) φ H w cs dZ.toList)(hf:Flat dZ.toList):
 let aJ:=ay φ fr (.pointer (some ⟨w.heap.size,0,none⟩));let H':=H.put [(fr, .row cs)];let w':=w.alloc (.cells dZ ty)
 az M aJ H' w'/\Trans φ H w aJ H' w'/\V.den (aq M aJ H') aJ H' w' (.ptr fr 0) (.pointer (some ⟨w.heap.size,0,none⟩)):=by
 intro aJ H' w'
 have hv:∀b,eA (.pointer (some ⟨w.heap.size,0,none⟩))=some b->w.heap.size<=b/\b<w'.heap.size:=by
  intro b hb;simp[eA]at hb;subst hb;simp[w']
 have ht:Trans φ H w aJ H' w':=dO (cy w _) c9 _ _ fun b hb=>(hv b hb).1
 refine⟨ja hH (cy w _) c9 _ _ hv ?_,ht,rfl,by simp[H'],fun _=>⟨w.heap.size,by simp[aJ],rfl⟩⟩
 unfold aR
 simp only[bL,aN,if_true]
 exact⟨w.heap.size,dZ,ty,rfl,heap_alloc_new w _,V.aW ht cs _ hd,hf⟩
theorem fj{id:Nat}(dY:H.us id){b:Nat}(cY:(H.o id).live=true)(hb:eA (φ id)=some b)(hk:eC (· =b) w w')(obj:ab)(da:obj.cA=(H.o id).cA)(vG:obj.cz=(H.o id).cz):
 Trans φ H w φ (H.put [(id,obj)]) w' where
 cN:=⟨hk.os,hk.tape,hk.output,hk.size,fun k h hl=>hk.block k h (fun e=>hl ⟨id,cY,e ▸ hb⟩)⟩
 grow b':=by
  rintro⟨j,h1,h2⟩
  by_cases hj:j=id
  ·subst hj;exact .inl ⟨j,cY,h2⟩
  ·simp[hj]at h1;exact .inl ⟨j,h1,h2⟩
 rel:={
  us:=fun j h=>by simp[h]
  row:=fun j hu hr=>by
   by_cases hj:j=id
   ·subst hj;simp at hr;exact⟨da ▸ hr,rfl⟩
   ·exact LJ
  ep:=fun j e' hu he=>by
   by_cases hj:j=id
   ·subst hj;simp at he;exact⟨e',vG ▸ he,Nat.le_refl _,fun _=>rfl⟩
   ·simp[hj]at he;exact⟨e',he,Nat.le_refl _,fun _=>rfl⟩}
theorem iJ(hH:az M φ H w){id:Nat}(dY:H.us id){b:Nat}(cY:(H.o id).live=true)(hb:eA (φ id)=some b)(hk:eC (· =b) w w')(obj:ab)(da:obj.cA=(H.o id).cA)
 (vG:obj.cz=(H.o id).cz) (vF:aR M φ (H.put [(id,obj)]) w' id):az M φ (H.put [(id,obj)]) w':=by
 refine hH.of (fj dY cY hb hk obj da vG) (· =id) (fun j h=>h ▸ vF) (fun j h=> ?_) (fun j h=> ?_) (fun i j b' hi hj bi bj=> ?_) (fun b'=> ?_)
 ·refine⟨by simp[h],rfl,fun hl b' EY=>hk.block b' (hH.ours b' ⟨j,hl,EY⟩).2 fun e=>h ?_⟩
  exact hH.apart j id b hl cY (e ▸ EY) hb
 ·rw[ef]at h
  have h1:j≠id:=fun e=>h (.inr e)
  exact V3
 ·refine hH.apart i j b' ?_ ?_ bi bj
  ·by_cases e:i=id
   ·subst e;exact cY
   ·simpa[e]using hi
  ·by_cases e:j=id
   ·subst e;exact cY
   ·simpa[e]using hj
 ·rintro⟨j,h1,h2⟩
  refine Nat.lt_of_lt_of_le (hH.ours b' ⟨j, ?_,h2⟩).2 hk.size
  by_cases e:j=id
  ·subst e;exact cY
  ·simpa[e]using h1
theorem kN(w:World)(b:Nat)(cs:Array Value):eC (· =b) w (w.setRow b cs):=
 ⟨rfl,rfl,rfl,aE,fun k _ hk=>by
  unfold World.setRow
  simp only[Array.getElem?_modify]
  rw[if_neg (fun e=>hk e.symm)]⟩
theorem Ch(hH:az M φ H w){id b:Nat}(dY:H.us id){cs cs':List V}(ho:H.o id= .row cs)(eY:φ id= .pointer (some ⟨b,0,none⟩)){dZ:Array Value}{ty:TypeId}
 (hb:w.heap[b]? =some (.cells dZ ty (0,0))) (qR:Array Value) (hd:V.aF (aq M φ H) φ H w cs' qR.toList) (hf:Flat qR.toList):
 az M φ (H.put [(id, .row cs')]) (w.setRow b qR)/\Trans φ H w φ (H.put [(id, .row cs')]) (w.setRow b qR):=by
 have hl:(H.o id).live=true:=by rw[ho];rfl
 have ss:eA (φ id)=some b:=by rw[eY];rfl
 have ht:Trans φ H w φ (H.put [(id, .row cs')]) (w.setRow b qR):=fj dY hl ss (kN w b qR) _ eK eK
 refine⟨iJ hH dY hl ss (kN w b qR) _ eK eK ?_,ht⟩
 unfold aR
 simp only[bL,aN,if_true]
 exact⟨b,qR,ty,eY,setRow_heap w b dZ qR ty (0,0) hb,V.aW ht cs' _ hd,hf⟩
theorem qS{B:Nat->Prop}{sz g:Nat}(cur:Array Value)(ty:TypeId)(fz:Nat×Nat)(hg:w.heap[g]? =some (.cells cur ty fz))(hB: ¬B g):
 ∀ (es:List D) (evs:List Value) (i:Nat),D.aF B w es evs->(∀ev∈evs,ev.cells.size=sz)->(∀j u,(evs.flatMap (·.cells.toList))[j]? =some u->cur[i*sz+j]? =some u)->D.elems B w sz ⟨g,0,none⟩ i es
 |[],_,_,_,_,_=>trivial
 |e::es,_,i,h,hs,hc=>by
  obtain⟨ev,evs,rfl,h1,h2⟩:=h
  have eB:ev.cells.size=sz:=hs ev aE
  refine⟨⟨ev,eB,fun j u hj=> ?_,h1⟩,qS cur ty fz hg hB es evs (i+1) h2 (fun x hx=>hs x kI) fun j u hj=> ?_⟩
  ·have cu:j<ev.cells.size:=(Array.getElem?_eq_some_iff.1 hj).1
   have:cur[i*sz+j]? =some u:=hc j u (by
    rw[List.flatMap_cons,List.getElem?_append_left (by simpa using cu)];simpa using hj)
   refine⟨?_,by simpa using hB⟩
   unfold Addr.add World.cell?
   by_cases e1:i*sz=0<;>by_cases e2:j=0<;>simp_all
  ·have:=hc (sz+j) u (by
    rw[List.flatMap_cons,List.getElem?_append_right (by simp[eB])]
    simpa[eB]using hj)
   rw[show(i+1)*sz+j=i*sz+(sz+j) by rw[Nat.add_mul];omega]
   exact this
theorem PH(hH:az M φ H w){id ep sz:Nat}{ty:TypeId}{es:List D}(dY:H.us id)(ho:H.o id= .arr ep ty sz es):
 az M φ (H.put [(id, .uO ep es)]) w/\Trans φ H w φ (H.put [(id, .uO ep es)]) w:=by
 have nk:∀b,cL φ (H.put [(id, .uO ep es)]) b->cL φ H b:=by
  rintro b ⟨j,h1,h2⟩
  by_cases hj:j=id
  ·subst hj;simp[ab.live]at h1
  ·simp[hj]at h1;exact⟨j,h1,h2⟩
 have ht:Trans φ H w φ (H.put [(id, .uO ep es)]) w:={
  cN:=eC.refl _ _
  grow:=fun b hb=> .inl (nk b hb)
  rel:={
   us:=fun j h=>by simp[h]
   row:=fun j hu hr=>by
    by_cases hj:j=id
    ·subst hj;simp[ab.cA]at hr
    ·exact LJ
   ep:=fun j e' hu he=>by
    by_cases hj:j=id
    ·subst hj;simp[ab.cz]at he;subst he;exact⟨ep,by rw[ho];rfl,Nat.le_refl _,fun _=>rfl⟩
    ·simp[hj]at he;exact⟨e',he,Nat.le_refl _,fun _=>rfl⟩}}
 refine⟨hH.of ht (· =id) (fun j h=> ?_) (fun j h=>⟨by simp[h],rfl,fun _ _ _=>rfl⟩) (fun j h=> ?_) (fun i j b hi hj bi bj=> ?_) (fun b hb=>(hH.ours b (nk b hb)).2),ht⟩
 ·subst h
  have aY:=hH.ok j
  unfold aR at aY|-
  simp only[ho,bL,aN,if_true]at aY|-
  obtain⟨h0,xs,⟨hl,da⟩,evs,rfl,h2,h3⟩:=aY
  have hlen:=D.aC _ _ h3
  rcases da with⟨h4,h5⟩|⟨g,cap,cur,h4,_,h5,h6,h7,h8,h9⟩
  ·rw[h4]
   have:es=[]:=by simpa using h5
   subst this
   exact R7
  ·rw[h4]
   refine⟨some ⟨g,0,none⟩,es.length,cap,rfl,rfl,h6,(fun h=>by cases h),sz,fun a ha=> ?_⟩
   injection ha with ha;subst ha
   refine⟨fun _=>rfl,qS cur ty (0,0) h5 ?_ es evs 0 (D.aW (ht.blocks (M:=M)) es evs h3) h2 fun j' u KK=> ?_⟩
   ·rintro(hM|⟨i,PI,hi2⟩)
    ·exact(hH.ours g ⟨j,by rw[ho];rfl,by rw[h4];rfl⟩).1 hM
    ·by_cases e:i=j
     ·subst e;simp[ab.live]at PI
     ·simp[e]at PI
      exact e (hH.apart i j g PI eK hi2 (by rw[h4];rfl))
   ·rw[<- h9]at KK
    simp only[Nat.zero_mul,Nat.zero_add]
    rw[List.getElem?_take]at KK
    split at KK
    ·simpa using KK
    ·cases KK
 ·rw[ef]at h
  have h1:j≠id:=fun e=>h (.inr e)
  exact V3
 ·by_cases e1:i=id
  ·subst e1;simp[ab.live]at hi
  ·by_cases e2:j=id
   ·subst e2;simp[ab.live]at hj
   ·simp[e1,e2]at hi hj;exact hH.apart i j b hi hj bi bj
theorem Ar(hH:az M φ H w){id:Nat}{kt vt:TypeId}{l:List (D×D)}(dY:H.us id)(ho:H.o id= .map kt vt l):
 az M φ (H.put [(id, .cj l)]) w/\Trans φ H w φ (H.put [(id, .cj l)]) w:=by
 have nk:∀b,cL φ (H.put [(id, .cj l)]) b->cL φ H b:=by
  rintro b ⟨j,h1,h2⟩
  by_cases hj:j=id
  ·subst hj;simp[ab.live]at h1
  ·simp[hj]at h1;exact⟨j,h1,h2⟩
 have ht:Trans φ H w φ (H.put [(id, .cj l)]) w:={
  cN:=eC.refl _ _
  grow:=fun b hb=> .inl (nk b hb)
  rel:={
   us:=fun j h=>by simp[h]
   row:=fun j hu hr=>by
    by_cases hj:j=id
    ·subst hj;exact⟨by rw[ho];rfl,rfl⟩
    ·exact LJ
   ep:=fun j e' hu he=>by
    by_cases hj:j=id
    ·subst hj;simp[ab.cz]at he
    ·simp[hj]at he;exact⟨e',he,Nat.le_refl _,fun _=>rfl⟩}}
 refine⟨hH.of ht (· =id) (fun j h=> ?_) (fun j h=>⟨by simp[h],rfl,fun _ _ _=>rfl⟩) (fun j h=> ?_) (fun i j b hi hj bi bj=> ?_) (fun b hb=>(hH.ours b (nk b hb)).2),ht⟩
 ·subst h
  have aY:=hH.ok j
  unfold aR at aY|-
  simp only[ho,bL,aN,if_true]at aY|-
  obtain⟨b,es,clock,h1,h2,h3,h4⟩:=aY
  refine⟨b,es,clock,h1,h2, ?_,h3,aK.mono (ht.blocks (M:=M)) _ _ h4⟩
  rintro(hM|⟨i,PI,hi2⟩)
  ·exact(hH.ours b ⟨j,by rw[ho];rfl,by rw[h1];rfl⟩).1 hM
  ·by_cases e:i=j
   ·subst e;simp[ab.live]at PI
   ·simp[e]at PI
    exact e (hH.apart i j b PI eK hi2 yw)
 ·rw[ef]at h
  have h1:j≠id:=fun e=>h (.inr e)
  exact V3
 ·by_cases e1:i=id
  ·subst e1;simp[ab.live]at hi
  ·by_cases e2:j=id
   ·subst e2;simp[ab.live]at hj
   ·simp[e1,e2]at hi hj;exact hH.apart i j b hi hj bi bj
end
end
section
def cU(M:Nat->Prop)(φ:Place)(H:Hp)(w:World)(fr:Nat)(r:Result Next)(K:V->List (Nat×ab)->List Nat->Prop):Prop:=
 ∃nx val w' aJ v Δ rd,K v Δ rd/\r= .ok nx w'/\(nx= .value val\/nx= .skip/\val=undef)/\az M aJ (H.put Δ) w'/\Trans φ H w aJ (H.put Δ) w'/\
  V.den (aq M aJ (H.put Δ)) aJ (H.put Δ) w' v val/\(∀id∈Δ.map (·.1),H.us id\/id=fr)
section
variable {P:Program}{M:Nat->Prop}{φ:Place}{H:Hp}{w:World}{fr:Nat}{K:V->List (Nat×ab)->List Nat->Prop}
theorem cU.same (hH:az M φ H w){r:Result Next}{v:V}{rd:List Nat}(val:Value)(hK:K v [] rd)(hr:r= .ok (.value val) w)(hd:V.den (aq M φ H) φ H w v val):cU M φ H w fr r K:=
 ⟨_,val,w,φ,v,[],rd,hK,hr, .inl rfl,by rw[oL];exact hH,by rw[oL];exact Trans.refl _ _ _,by rw[oL];exact hd,aE⟩
theorem cU.mono {r:Result Next}{K':V->List (Nat×ab)->List Nat->Prop}(h:cU M φ H w fr r K)(hk:∀v Δ rd,K v Δ rd->K' v Δ rd):cU M φ H w fr r K':=by
 obtain⟨nx,val,w',aJ,v,Δ,rd,h1,h2⟩:=h
 exact⟨nx,val,w',aJ,v,Δ,rd,hk _ _ _ h1,h2⟩
theorem info_of_underlying{t:TypeId}{d:TypeDesc}(h:P.underlying t=some d):∃i,P.info? t=some i:=by
 unfold Program.underlying at h
 cases hi:P.info? t with
 |none=>simp[hi]at h
 |some i=>exact⟨i,rfl⟩
theorem bV{t:TypeId}{i:TypeInfo}(h:P.info? t=some i):P.cellsOf t=i.size:=by simp[Program.cellsOf,h]
theorem mw{t:TypeId}{i:TypeInfo}(h:P.info? t=some i):P.bytesOf t=i.bytes:=by simp[Program.bytesOf,h]
theorem j5{t:TypeId}{z:List V}(h:cG P t=some z):∃i v,P.info? t=some i/\i.zero=some v/\v.cells.size=i.size/\Flat v.cells.toList/\z=v.cells.toList.map V.dA:=by
 unfold cG at h
 cases hi:P.info? t with
 |none=>simp[hi]at h
 |some i=>
  simp only[hi]at h
  cases hz:i.zero with
  |none=>simp[hz]at h
  |some v=>
   simp only[hz]at h
   split at h
   ·rename_i hc
    injection h with h
    exact⟨i,v,rfl,hz,hc.1,fun u hu=>List.all_eq_true.1 hc.2 u hu,h.symm⟩
   ·cases h
theorem sL{t:TypeId}(h:dm P t=some true)(w:World):(isAgg t).run P w= .ok true w:=by
 unfold dm at h
 unfold isAgg
 cases hd:P.underlying t with
 |none=>simp[hd]at h
 |some d=>cases d<;>simp_all[run_underlying hd]
theorem qb{t:TypeId}(h:dm P t=some false)(w:World):(isAgg t).run P w= .ok false w:=by
 unfold dm at h
 unfold isAgg
 cases hd:P.underlying t with
 |none=>simp[hd]at h
 |some d=>cases d<;>simp_all[run_underlying hd]
theorem dP{t:TypeId}{i:TypeInfo}(h:P.info? t=some i)(w:World):(sizeOf t).run P w= .ok (P.cellsOf t) w:=by
 simp[sizeOf,typeInfo,h,bV h]
theorem sM{t:TypeId}{b:Bool}(h:dm P t=some b):∃i,P.info? t=some i:=by
 unfold dm at h
 cases hd:P.underlying t with
 |none=>simp[hd]at h
 |some d=>exact info_of_underlying hd
theorem bp{t e:TypeId}(h:b8 P t=some e):P.underlying t=some (.slice e):=by
 unfold b8 at h
 cases hd:P.underlying t with
 |none=>simp[hd]at h
 |some d=>cases d<;>simp_all
theorem yG{t e:TypeId}{n:Nat}(h:Ao P t=some (n,e)):P.underlying t=some (.array n e):=by
 unfold Ao at h
 cases hd:P.underlying t with
 |none=>simp[hd]at h
 |some d=>cases d<;>simp_all
theorem add_zero(a:Addr):a.add 0=a:=by simp[Addr.add]
theorem add_plain(b o j:Nat):(⟨b,o,none⟩:Addr).add j=⟨b,o+j,none⟩:=by
 unfold Addr.add;split
 ·rename_i h;subst h;rfl
 ·rfl
theorem add_add(a:Addr)(h:a.spot=none)(m n:Nat):(a.add m).add n=a.add (m+n):=by
 obtain⟨b,o,s⟩:=a
 simp only at h;subst h
 simp only[add_plain,Nat.add_assoc]
theorem Ci(a:Addr)(h:a.spot=none)(m:Nat):(a.add m).spot=none:=by
 unfold Addr.add;split<;>first|exact h|rfl
theorem nA(s:S)(a:Act)(eD:∀i,V.den (aq M φ H) φ H w (s.env i) (a.tmps.getD i undef))(x:Operand):V.den (aq M φ H) φ H w (s.ev x) (a.eval x):=by
 cases x with
 |tmp t=>exact eD t
 |func f=>exact⟨#[],#[],rfl,rfl,rfl⟩
 |global g=>trivial
 |const v=>
  cases v with
  |agg c=>
   simp only[S.ev,V.ofConst,Act.eval]
   split
   ·rename_i hc
    have hf:Flat c.toList:=fun u hu=>List.all_eq_true.1 hc u hu
    exact lT _ _ (dN _ hf) hf
   ·trivial
  |tuple _=>trivial
  |_=>simp only[S.ev,V.ofConst,Act.eval];exact mq _ (by rfl)
theorem kO(s:S)(a:Act)(eD:∀i,V.den (aq M φ H) φ H w (s.env i) (a.tmps.getD i undef)):∀ (xs:List Operand),V.aF (aq M φ H) φ H w (xs.map s.ev) (xs.map a.eval)
 |[]=>rfl
 |x::xs=>⟨a.eval x,xs.map a.eval,rfl,nA s a eD x,kO s a eD xs⟩
theorem nB{t:TypeId}(a:Addr)(us:List Value)(hc:∀j u,us[j]? =some u->w.cell? (a.add j)=some u):
 (dm P t=some true->us.length=P.cellsOf t->(Instr.loadAt t (.pointer (some a))).run P w= .ok (.agg us.toArray) w)/\
 (dm P t=some false->∀u,us[0]? =some u->(Instr.loadAt t (.pointer (some a))).run P w= .ok u w):=by
 constructor
 ·intro h hl
  obtain⟨i,hi⟩:=sM h
  have h1:=run_loadCells_list (P:=P) w a us hc
  rw[hl]at h1
  simp[Instr.loadAt,Instr.sureAddr,loadVar,sL h,dP hi,h1]
 ·intro h u hu
  have h1:=hc 0 u hu
  rw[add_zero]at h1
  simp[Instr.loadAt,Instr.sureAddr,loadVar,qb h,h1]
theorem qT{t:TypeId}{cs:List V}{off:Nat}{v:V}(hg:fh P t cs off=some v)(a:Addr)(vs:List Value)(hd:V.aF (aq M φ H) φ H w cs vs)(hf:Flat vs)
 (hc:∀j u,vs[j]? =some u->w.cell? (a.add j)=some u) (ha:a.spot=none):∃val,(Instr.loadAt t (.pointer (some (a.add off)))).run P w= .ok val w/\V.den (aq M φ H) φ H w v val:=by
 have hlen:=V.aC _ _ hd
 unfold fh at hg
 cases EZ:dm P t with
 |none=>simp[EZ]at hg
 |some b=>
  cases b with
  |true=>
   simp only[EZ]at hg
   split at hg
   ·rename_i hle
    injection hg with hg;subst hg
    refine⟨.agg ((vs.drop off).take (P.cellsOf t)).toArray,(nB (P:=P) (t:=t) (a.add off) ((vs.drop off).take (P.cellsOf t)) ?_).1 EZ gP, ?_⟩
    ·intro j u hj
     rw[add_add a ha]
     rw[List.getElem?_take]at hj
     split at hj
     ·exact hc _ _ nq
     ·cases hj
    ·refine lT _ _ ?_ ?_
     ·exact V.cX _ _ _ (V.eG _ _ _ hd)
     ·intro u hu
      exact hf u (List.mem_of_mem_drop (List.mem_of_mem_take (by simpa using hu)))
   ·cases hg
  |false=>
   simp only[EZ]at hg
   obtain⟨u,hu,PJ⟩:=V.dz _ _ _ _ hd hg
   refine⟨u,(nB (P:=P) (t:=t) (a.add off) (vs.drop off) ?_).2 EZ u (by simpa using hu),PJ⟩
   intro j x hj
   rw[add_add a ha]
   exact hc _ _ nq
theorem nC(sz:Nat):∀ (evs:List Value) (i j:Nat) (ev:Value) (u:Value),(∀x∈evs,x.cells.size=sz)->evs[i]? =some ev->ev.cells[j]? =some u->
 (evs.flatMap (·.cells.toList))[i*sz+j]? =some u
 |[],_,_,_,_,_,h,_=>by simp at h
 |e::evs,0,j,ev,u,hs,h,hu=>by
  simp at h;subst h
  have:j<e.cells.size:=(Array.getElem?_eq_some_iff.1 hu).1
  rw[List.flatMap_cons,List.getElem?_append_left (by simp;omega)]
  simpa using hu
 |e::evs,i+1,j,ev,u,hs,h,hu=>by
  have ih:=nC sz evs i j ev u (fun x hx=>hs x kI) (by simpa using h) hu
  rw[List.flatMap_cons,List.getElem?_append_right (by simp[hs e (by simp),Nat.add_mul];omega)]
  simp only[Array.length_toList,hs e (by simp)]
  rw[show(i+1)*sz+j - sz=i*sz+j by rw[Nat.add_mul];omega]
  exact ih
theorem qU{g:Nat}{dZ:Array Value}{ty:TypeId}{fz:Nat×Nat}(h:w.heap[g]? =some (.cells dZ ty fz))(j:Nat)(u:Value)(hu:dZ[j]? =some u):w.cell? ((⟨g,0,none⟩:Addr).add j)=some u:=by
 rw[add_plain,Nat.zero_add,cell_of_row w g j dZ ty fz h];exact hu
theorem LX{B:Nat->Prop}{ty:TypeId}{sz:Nat}{es:List D}{v:Value}{b n c i:Nat}{e:D}
 (aY:0<sz/\∃xs,w.ownsRow 0 ty sz v es.length xs/\eM B w sz es xs) (hv:v= .slice (some ⟨b,0,none⟩) n c) (he:es[i]? =some e):
 ∃ev:Value,ev.cells.size=sz/\D.aF B w e.cells ev.cells.toList/\Flat ev.cells.toList/\(∀j u,ev.cells.toList[j]? =some u->w.cell? ((⟨b,i*sz,none⟩:Addr).add j)=some u):=by
 obtain⟨h0,xs,⟨hl,da⟩,evs,rfl,h2,h3⟩:=aY
 obtain⟨ev,dw,hd⟩:=D.dz _ _ _ _ h3 he
 have V7:=D.fH _ _ hd
 refine⟨ev,h2 ev (List.mem_of_getElem? dw),V7.1,V7.2,fun j u hj=> ?_⟩
 subst hv
 rcases da with⟨h4,_⟩|⟨g,cap,cur,h4,_,h5,h6,h7,h8,h9⟩
 ·simp at h4
 ·simp at h4;obtain⟨rfl,_,rfl⟩:=h4
  have:=nC sz evs i j ev u h2 dw nq
  rw[<- h9,List.getElem?_take]at this
  split at this
  ·have Tf:=qU h5 (i*sz+j) u (by simpa using this)
   rw[add_plain]at Tf|-
   simpa using Tf
  ·cases this
theorem LY(hH:az M φ H w){t:TypeId}{x:V}{xv:Value}(hx:V.den (aq M φ H) φ H w x xv)
 (h:Cb P H.o t x fun v rd=>K v [] rd):cU M φ H w fr ((do let y <- Instr.loadAt t xv;pure (Next.value y):Sem Next).run P w) K:=by
 have fin:∀ (v:V) rd,K v [] rd->(∃val,(Instr.loadAt t xv).run P w= .ok val w/\V.den (aq M φ H) φ H w v val)->cU M φ H w fr ((do let y <- Instr.loadAt t xv;pure (Next.value y):Sem Next).run P w) K:=by
  rintro v rd hK ⟨val,h1,h2⟩
  exact cU.same hH val hK (by simp[h1]) h2
 unfold Cb at h
 split at h
 ·rename_i id off
  split at h
  ·rename_i cs ho
   obtain⟨v,h1,hK⟩:=h
   obtain⟨_,hu,hp⟩:=hx
   obtain⟨b,eY,rfl⟩:=hp eK
   have aY:=hH.ok id
   simp only[aR,ho]at aY
   obtain⟨b',dZ,ty,g1,g2,g3,g4⟩:=aY
   rw[eY]at g1;simp at g1;subst g1
   refine fin v _ hK ?_
   have:=qT (P:=P) h1 ⟨b,0,none⟩ dZ.toList g3 g4 (fun j u hj=>qU g2 j u nq) rfl
   rwa [add_plain,Nat.zero_add]at this
  ·exact h.elim
 ·rename_i cs off
  obtain⟨v,h1,hK⟩:=h
  obtain⟨a,ev,ha,rfl,hd,hf,hc⟩:=hx
  exact fin v _ hK (qT h1 a ev ((V.cO _ _).2 hd) hf (fun j u hj=>(hc j u nq).1) ha)
 ·rename_i id ep i sz off
  split at h
  ·rename_i gr ty sq es ho
   obtain⟨rfl,rfl,e,he,v,h1,hK⟩:=h
   obtain⟨_,hu,hp⟩:=hx
   obtain⟨b,n,c,eY,rfl⟩:=(hp ep eK).2 rfl
   have aY:=hH.ok id
   simp only[aR,ho]at aY
   obtain⟨ev,g1,g2,g3,g4⟩:=LX aY eY he
   refine fin v _ hK ?_
   have:=qT (P:=P) h1 ⟨b,i*sz,none⟩ ev.cells.toList ((V.cO _ _).2 g2) g3 g4 rfl
   rwa [add_plain]at this
  ·exact h.elim
 ·exact h.elim
end
end
section
section
variable {P:Program}{M:Nat->Prop}{φ:Place}{H:Hp}{w:World}{fr:Nat}{K:V->List (Nat×ab)->List Nat->Prop}
theorem cU.plain (hH:az M φ H w){s:Sem Value}{v:V}{rd:List Nat}(val:Value)(hK:K v [] rd)(hr:s.run P w= .ok val w)(hd:V.den (aq M φ H) φ H w v val):
 cU M φ H w fr ((do let y <- s;pure (Next.value y):Sem Next).run P w) K:=cU.same hH val hK (by simp[hr]) hd
theorem Cj{t:TypeId}{f q:Nat}(h:b7 P t f=some q):∃fs fd,P.underlying t=some (.struct fs)/\fs[f]? =some fd/\P.cellsOf fd.type≠0/\fd.offset=q:=by
 unfold b7 at h
 cases hd:P.underlying t with
 |none=>simp[hd]at h
 |some d=>
  cases d<;>simp only[hd]at h<;>try (cases h;done)
  rename_i fs
  cases hf:fs[f]? with
  |none=>simp[hf]at h
  |some fd=>
   simp only[hf]at h
   split at h
   ·cases h
   ·injection h with h
    exact⟨fs,fd,rfl,hf,by assumption,h⟩
theorem Ck{t:TypeId}{f q:Nat}(h:b7 P t f=some q)(a:Addr):(Instr.fieldAt t (.pointer (some a)) f).run P w= .ok (.pointer (some (a.add q))) w:=by
 obtain⟨fs,fd,h1,h2,h3,rfl⟩:=Cj h
 have:∃i,P.info? fd.type=some i:=by
  cases hi:P.info? fd.type with
  |none=>simp[Program.cellsOf,hi]at h3
  |some i=>exact⟨i,rfl⟩
 obtain⟨i,hi⟩:=this
 simp[Instr.fieldAt,run_underlying h1,h2,Instr.sureAddr,fieldPlace,dP hi,h3]
def V.step (x:V)(q:Nat):Option V:=
 match x with
 | .ptr id off=>some (.ptr id (off+q))
 | .pp cs off=>some (.pp cs (off+q))
 | .pe id ep j sz off=>some (.pe id ep j sz (off+q))
 |_=>none
def V.place (o:Nat->ab):V->Prop
 | .ptr id _=>(o id).cA=true
 | .pe id ep _ _ _=>(o id).cz=some ep
 |_=>True
theorem Cl{x y:V}{q:Nat}(h:x.step q=some y){xv:Value}(hx:V.den (aq M φ H) φ H w x xv)
 (hr:x.place H.o):
 ∃a,xv= .pointer (some a)/\V.den (aq M φ H) φ H w y (.pointer (some (a.add q))):=by
 cases x with
 |ptr id off=>
  simp only[V.step,Option.some.injEq]at h;subst h
  obtain⟨h1,h2,h3⟩:=hx
  obtain⟨b,h4,rfl⟩:=h3 hr
  exact⟨_,rfl,rfl,h2,fun _=>⟨b,h4,by rw[add_plain]⟩⟩
 |pp cs off=>
  simp only[V.step,Option.some.injEq]at h;subst h
  obtain⟨a,ev,ha,rfl,hd⟩:=hx
  exact⟨_,rfl,a,ev,ha,by rw[add_add a ha],hd⟩
 |pe id ep j sz off=>
  simp only[V.step,Option.some.injEq]at h;subst h
  obtain⟨h1,h2,h3⟩:=hx
  obtain⟨b,n,c,h4,rfl⟩:=(h3 ep hr).2 rfl
  refine⟨_,rfl,rfl,h2,fun e he=>⟨(h3 e he).1,fun heq=>⟨b,n,c,h4,by rw[add_plain,Nat.add_assoc]⟩⟩⟩
 |_=>simp[V.step]at h
theorem xO(hH:az M φ H w){t:TypeId}{f:Nat}{x:V}{xv:Value}(hx:V.den (aq M φ H) φ H w x xv)(h:jX P H.o t x f fun v=>K v [] []):
 cU M φ H w fr ((do let y <- Instr.fieldAt t xv f;pure (Next.value y):Sem Next).run P w) K:=by
 have fin:∀ (y:V) q,b7 P t f=some q->x.step q=some y->x.place H.o->K y [] []->
  cU M φ H w fr ((do let y <- Instr.fieldAt t xv f;pure (Next.value y):Sem Next).run P w) K:=by
  intro y q hq hs hr hK
  obtain⟨a,rfl,hd⟩:=Cl hs hx hr
  exact cU.plain hH _ hK (Ck hq a) hd
 unfold jX at h
 split at h
 ·rename_i q hq
  split at h
  ·exact fin _ q hq rfl h.1 h.2
  ·exact fin _ q hq rfl trivial h
  ·exact fin _ q hq rfl h.1 h.2
  ·exact h.elim
 ·exact h.elim
theorem E0{B:Nat->Prop}{es:List D}{xv:Value}(hx:D.den B w (.sl es) xv){i:Nat}{y:D}(hy:es[i]? =some y):
 ∃a len cap ev,xv= .slice (some a) len cap/\i<len/\a.spot=none/\D.aF B w y.cells ev/\Flat ev/\gW B w (a.add (i*y.cells.length)) ev.toArray/\len=es.length:=by
 obtain⟨base,len,cap,rfl,rfl,h2,h3,sz,h4⟩:=hx
 have cu:i<es.length:=(List.getElem?_eq_some_iff.1 hy).1
 cases base with
 |none=>have:=h3 rfl;omega
 |some a=>
  obtain⟨h5,h6⟩:=h4 a rfl
  obtain⟨ev,h7,h8,h9⟩:=D.yB es 0 i y h6 hy
  have Tf:=D.fH _ _ h9
  have h11:y.cells.length=sz:=by rw[<- h7, <- D.aC _ _ Tf.1];simp
  refine⟨a,es.length,cap,ev.cells.toList,rfl,cu,h5 af,Tf.1,Tf.2, ?_,rfl⟩
  rw[h11]
  simpa using h8
theorem pM{t e:TypeId}(ht:b8 P t=some e)(a:Addr)(len cap:Nat)(k:IntKind)(i:Int)(h0:0<=i)(h1:i.toNat<len)(hc:0<P.cellsOf e):
 (Instr.indexAt t (.slice (some a) len cap) (.int k i)).run P w= .ok (.pointer (some (a.add (i.toNat*P.cellsOf e)))) w:=by
 have hu:=bp ht
 have:∃ie,P.info? e=some ie:=by
  cases hi:P.info? e with
  |none=>simp[Program.cellsOf,hi]at hc
  |some i=>exact⟨i,rfl⟩
 obtain⟨ie,hi⟩:=this
 have h2:0<=i/\i<(len:Int):=⟨h0,af⟩
 simp[Instr.indexAt,run_underlying hu,asIntOf,h2,dP hi]
theorem xP{t e:TypeId}{n:Nat}(ht:Ao P t=some (n,e))(a:Addr)(k:IntKind)(i:Int)(h0:0<=i)(h1:i<n)(hi:∃ie,P.info? e=some ie):
 (Instr.indexAt t (.pointer (some a)) (.int k i)).run P w= .ok (.pointer (some (a.add (i.toNat*P.cellsOf e)))) w:=by
 have hu:=yG ht
 obtain⟨ie,hi⟩:=hi
 have h2:0<=i/\i<(n:Int):=⟨h0,h1⟩
 simp[Instr.indexAt,run_underlying hu,asIntOf,Instr.sureAddr,h2,dP hi]
theorem xQ(hH:az M φ H w){t:TypeId}{x ix:V}{xv iv:Value}(hx:V.den (aq M φ H) φ H w x xv)(hi:V.den (aq M φ H) φ H w ix iv)
 (h:jW P H.o t x ix fun v rd=>K v [] rd):cU M φ H w fr ((do let y <- Instr.indexAt t xv iv;pure (Next.value y):Sem Next).run P w) K:=by
 unfold jW at h
 split at h
 ·rename_i k i
  simp only[V.den,D.den]at hi;subst hi
  have As:∀ {e:TypeId} {es:List D} {rd},b8 P t=some e->D.den (aq M φ H) w (.sl es) xv->(0<=i/\∃y,es[i.toNat]? =some y/\y.cells.length=P.cellsOf e/\0<P.cellsOf e/\K (.pp y.cells 0) [] rd)->
   cU M φ H w fr ((do let y <- Instr.indexAt t xv (.int k i);pure (Next.value y):Sem Next).run P w) K:=by
   rintro e es rd ht hd ⟨h0,y,hy,hc,fR,hK⟩
   obtain⟨a,len,cap,ev,rfl,h1,h2,h3,h4,h5,_⟩:=E0 hd hy
   refine cU.plain hH _ hK (pM ht a len cap k i h0 h1 fR) ⟨a.add (i.toNat*P.cellsOf e),ev,Ci a h2 _,by rw[add_zero],h3,h4, ?_⟩
   rw[<- hc];exact h5
  split at h
  ·rename_i e ht
   split at h
   ·exact As ht hx h
   ·exact As ht hx.1 h
   ·rename_i id ep
    split at h
    ·rename_i gr ty sz es ho
     obtain⟨rfl,h0,h1,rfl,fR,hK⟩:=h
     obtain⟨Jj,dY,vG⟩:=hx
     have hv:=(vG ep eK).2 rfl
     have aY:=hH.ok id
     simp only[aR,ho]at aY
     obtain⟨h3,xs,⟨_,da⟩,_⟩:=aY
     rcases da with⟨_,h5⟩|⟨g,cap,cur,h4,_⟩
     ·omega
     ·subst hv
      rw[h4]
      refine cU.plain hH _ hK (pM ht _ _ cap k i h0 h1 fR) ⟨rfl,dY,fun e' qF=>⟨(vG e' qF).1,fun heq=>⟨g,es.length,cap,h4,by rw[add_plain];simp⟩⟩⟩
    ·rename_i gr es ho
     obtain⟨rfl,h⟩:=h
     obtain⟨Jj,dY,vG⟩:=hx
     have hv:=(vG ep eK).2 rfl
     have aY:=hH.ok id
     simp only[aR,ho]at aY
     exact As ht (hv ▸ aY) h
    ·exact h.elim
   ·exact h.elim
  ·split at h
   ·rename_i n e ht
    obtain⟨h0,h1,afL,h⟩:=h
    have fin:∀ (y:V),x.step (i.toNat*P.cellsOf e)=some y->x.place H.o->K y [] []->
     cU M φ H w fr ((do let y <- Instr.indexAt t xv (.int k i);pure (Next.value y):Sem Next).run P w) K:=by
     intro y hs hr hK
     obtain⟨a,rfl,hd⟩:=Cl hs hx hr
     refine cU.plain hH _ hK (xP ht a k i h0 h1 (Option.isSome_iff_exists.1 afL)) hd
    split at h
    ·exact fin _ rfl h.1 h.2
    ·exact fin _ rfl trivial h
    ·exact fin _ rfl h.1 h.2
    ·exact h.elim
   ·exact h.elim
 ·exact h.elim
theorem V8(hH:az M φ H w){op:UnOp}{x:V}{xv:Value}(hx:V.den (aq M φ H) φ H w x xv)(h:unV op x fun v=>K v [] []):
 cU M φ H w fr ((do let y <- Op.unary op xv;pure (Next.value y):Sem Next).run P w) K:=by
 unfold unV at h
 split at h
 ·simp only[V.den,D.den]at hx;subst hx
  exact cU.plain hH _ h (by simp[Op.unary,Op.intArith]) rfl
 ·simp only[V.den,D.den]at hx;subst hx
  exact cU.plain hH _ h (by simp[Op.unary]) rfl
 ·exact h.elim
theorem B3{op:BinOp}{k:IntKind}{a b r:Int}(h:vy op k a b=some r):(Op.intBits op k a b).run P w= .ok (.int k r) w:=by
 unfold vy at h
 cases op<;>simp at h<;>subst h<;>simp[Op.intBits]
theorem tJ{t:TypeId}(hu:P.underlying t=some .bool)(a b:Bool)(d:Nat):(Op.equalIn (d+1) t (.bool a) (.bool b)).run P w= .ok (a==b) w:=by
 simp[Op.equalIn,run_underlying hu]
theorem PK(hH:az M φ H w){op:BinOp}{t:TypeId}{p q:Operand}{x y:V}{xv yv:Value}(hx:V.den (aq M φ H) φ H w x xv)(hy:V.den (aq M φ H) φ H w y yv)
 (h:LU P op t x y fun v=>K v [] []):
 cU M φ H w fr ((do let y <- (do eqGuard op t p q xv yv;binOp op t xv yv);pure (Next.value y):Sem Next).run P w) K:=by
 unfold LU at h
 split at h
 ·rename_i k a k' b
  obtain⟨rfl,h⟩:=h
  simp only[V.den,D.den]at hx hy;subst hx;subst hy
  have hg:(eqGuard op t p q (.int k a) (.int k b)).run P w= .ok () w:=by
   exact LI
  have fin:∀ (v:V) (val:Value),K v [] []->(binOp op t (.int k a) (.int k b)).run P w= .ok val w->V.den (aq M φ H) φ H w v val->
   cU M φ H w fr ((do let y <- (do eqGuard op t p q (.int k a) (.int k b);binOp op t (.int k a) (.int k b));pure (Next.value y):Sem Next).run P w) K:=by
   intro v val hK hr hd
   exact cU.plain hH val hK (by simp[hg,hr]) hd
  cases op<;>simp only[PC]at h
  case add=>exact fin _ _ h (by simp[binOp,Op.intArith]) rfl
  case sub=>exact fin _ _ h (by simp[binOp,Op.intArith]) rfl
  case mul=>exact fin _ _ h (by simp[binOp,Op.intArith]) rfl
  case quo=>exact fin _ _ h.2 (by simp[binOp,Op.intDiv,h.1]) rfl
  case rem=>exact fin _ _ h.2 (by simp[binOp,Op.intDiv,h.1]) rfl
  case and=>obtain⟨r,hr,hK⟩:=h;exact fin _ _ hK GN rfl
  case or=>obtain⟨r,hr,hK⟩:=h;exact fin _ _ hK GN rfl
  case xor=>obtain⟨r,hr,hK⟩:=h;exact fin _ _ hK GN rfl
  case andNot=>obtain⟨r,hr,hK⟩:=h;exact fin _ _ hK GN rfl
  all_goals
   obtain⟨r,hr,hK⟩:=h
   simp only[abM,Option.some.injEq]at hr
   subst hr
   exact fin _ _ hK (by simp[binOp,Op.intCmp];rfl) (by simp[V.den,D.den])
 ·rename_i a b
  simp only[V.den,D.den]at hx hy;subst hx;subst hy
  have hg:(eqGuard op t p q (.bool a) (.bool b)).run P w= .ok () w:=by
   exact LI
  split at h
  ·obtain⟨hu,hK⟩:=h
   have h1:(Op.equal t (.bool a) (.bool b)).run P w= .ok (a==b) w:=tJ hu a b 9999
   exact cU.plain hH (.bool (a==b)) hK (by simp[hg,binOp,h1]) rfl
  ·obtain⟨hu,hK⟩:=h
   have h1:(Op.equal t (.bool a) (.bool b)).run P w= .ok (a==b) w:=tJ hu a b 9999
   exact cU.plain hH (.bool (a !=b)) hK (by simp[hg,binOp,h1,bne]) rfl
  ·exact h.elim
 ·rename_i a b
  obtain⟨u,rfl,rfl⟩:=hx
  obtain⟨v,rfl,rfl⟩:=hy
  have hg:(eqGuard op t p q (.string u) (.string v)).run P w= .ok () w:=by
   exact LI
  split at h
  ·exact cU.plain hH (.bool (u.data.toList==v.data.toList)) h (by simp[hg,binOp,Op.stringOp,ByteArray.toList_eq]) rfl
  ·exact cU.plain hH (.bool (u.data.toList !=v.data.toList)) h (by simp[hg,binOp,Op.stringOp,ByteArray.toList_eq,bne]) rfl
  ·exact h.elim
 ·rename_i a b
  obtain⟨a',rfl,hx⟩:=hx
  obtain⟨b',rfl,hy⟩:=hy
  split at h
  ·obtain⟨r,hr,hK⟩:=h
   obtain⟨h1,h2⟩:=hr (aq M φ H) w (.agg a') (.agg b') ⟨a',rfl,hx⟩ ⟨b',rfl,hy⟩
   exact cU.plain hH (.bool r) hK (by simp[h2,binOp,h1]) rfl
  ·obtain⟨r,hr,hK⟩:=h
   obtain⟨h1,h2⟩:=hr (aq M φ H) w (.agg a') (.agg b') ⟨a',rfl,hx⟩ ⟨b',rfl,hy⟩
   exact cU.plain hH (.bool !r) hK (by simp[h2,binOp,h1]) rfl
  ·exact h.elim
 ·exact h.elim
theorem LZ(hH:az M φ H w){c a b:V}{cv av bv:Value}(hc:V.den (aq M φ H) φ H w c cv)(ha:V.den (aq M φ H) φ H w a av)(hb:V.den (aq M φ H) φ H w b bv)
 (h:Ca c a b fun v=>K v [] []):cU M φ H w fr ((do pure (.value (if <- asBool cv then av else bv)):Sem Next).run P w) K:=by
 unfold Ca at h
 split at h
 ·rename_i t
  simp only[V.den,D.den]at hc;subst hc
  have hr:((do pure (.value (if <- asBool (.bool t)then av else bv)):Sem Next).run P w)= .ok (.value (if t then av else bv)) w:=by simp[asBool]
  have fin:∀v,K v [] []->V.den (aq M φ H) φ H w v (if t then av else bv)->cU M φ H w fr ((do pure (.value (if <- asBool (.bool t)then av else bv)):Sem Next).run P w) K:=
   fun v hK hd=>cU.same hH _ hK hr hd
  cases t
  ·exact fin _ (h.2 rfl) (by simpa using hb)
  ·exact fin _ (h.1 rfl) (by simpa using ha)
 ·exact h.elim
theorem uQ{t:TypeId}{e:TypeId}(hu:P.underlying t=some (.slice e))(base:Option Addr)(n c:Nat)(ty:TypeId):(Builtin.len_ #[t] ty #[.slice base n c]).run P w= .ok (goInt n) w:=by
 simp[Builtin.len_,run_underlying hu]
theorem PL(hH:az M φ H w){t ty:TypeId}{x:V}{xv:Value}(hx:V.den (aq M φ H) φ H w x xv)(h:LV P t H.o x fun v rd=>K v [] rd):
 cU M φ H w fr ((do let y <- Builtin.len_ #[t] ty #[xv];pure (Next.value y):Sem Next).run P w) K:=by
 unfold LV at h
 split at h
 ·rename_i e hu
  have fin:∀ {es:List D} {rd},D.den (aq M φ H) w (.sl es) xv->K (.d (.int .i64 es.length)) [] rd->cU M φ H w fr ((do let y <- Builtin.len_ #[t] ty #[xv];pure (Next.value y):Sem Next).run P w) K:=by
   rintro es rd ⟨base,len,cap,rfl,rfl,_⟩ hK
   exact cU.plain hH _ hK (uQ hu _ _ _ _) rfl
  split at h
  ·exact fin hx h
  ·simp only[V.den]at hx;subst hx
   exact cU.plain hH _ h (uQ hu _ _ _ _) rfl
  ·exact fin hx.1 h
  ·rename_i id ep
   split at h
   ·rename_i gr ty sz es ho
    obtain⟨rfl,hK⟩:=h
    obtain⟨Jj,dY,vG⟩:=hx
    have hv:=(vG ep eK).2 rfl
    have aY:=hH.ok id
    simp only[aR,ho]at aY
    obtain⟨h3,xs,⟨_,da⟩,_⟩:=aY
    subst hv
    rcases da with⟨h4,h5⟩|⟨g,cap,cur,h4,_⟩
    ·rw[h4];rw[h5]at hK;exact cU.plain hH _ hK (uQ hu _ _ _ _) rfl
    ·rw[h4];exact cU.plain hH _ hK (uQ hu _ _ _ _) rfl
   ·rename_i gr es ho
    obtain⟨rfl,hK⟩:=h
    obtain⟨Jj,dY,vG⟩:=hx
    have hv:=(vG ep eK).2 rfl
    have aY:=hH.ok id
    simp only[aR,ho]at aY
    exact fin (hv ▸ aY) hK
   ·exact h.elim
  ·exact h.elim
 ·rename_i hu
  split at h
  ·obtain⟨u,rfl,rfl⟩:=hx
   exact cU.plain hH (goInt u.size) h (by simp[Builtin.len_,run_underlying hu]) (by simp[V.den,D.den,goInt])
  ·exact h.elim
 ·rename_i n e hu
  exact cU.plain hH _ h (by simp[Builtin.len_,run_underlying hu];rfl) rfl
 ·exact h.elim
end
end
end Go.Proofs.YtlhemmpklhhgoaaGreat
