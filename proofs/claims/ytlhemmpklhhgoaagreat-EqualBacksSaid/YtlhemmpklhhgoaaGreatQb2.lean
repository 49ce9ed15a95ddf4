/-
  A PART OF THE PROOF. Conditions: none.
-/
import Derived.Great.BuildSlice
import Derived.Great.FillDense
import Derived.Test.YtlhemmpklhhgoaaGreatQb1
set_option linter.unusedSimpArgs false
set_option linter.unusedVariables false
namespace Go.Proofs.YtlhemmpklhhgoaaGreat
def aI{α:Type}(f:Nat->α)(i:Nat)(x:α):Nat->α:=fun j=>if j=i then x else f j
@[simp] theorem aC {α:Type} (f:Nat->α) (i:Nat) (x:α) (j:Nat):aI f i x j=if j=i then x else f j:=rfl
structure S where
 env:Nat->V
 o:Nat->ab
 nx:Nat
def S.H (s:S):Hp:=⟨s.o,fun id=>id<s.nx⟩
def V.cO:Value->V
 | .int k n=> .d (.int k n)| .bool b=> .d (.bool b)| .string s=> .d (.str s.data.toList)
 | .nilIface=> .d .fi| .pointer none=> .d .kz| .nilFunc=> .d .bO| .map none=> .d .eQ
 | .slice none 0 0=> .aE
 |_=> .aa
def Ai:List V->Option (List D)
 |[]=>some []
 | .d x::vs=>(Ai vs).map (x::·)
 |_::_=>none
def mo(cs:List V):V:=match Ai cs with|some ds=> .d (.agg ds)|none=> .agg cs
def V.ofConst:Value->V
 | .agg a=>if a.toList.all Value.oneCell' then mo (a.toList.map V.cO)else .aa
 |v=>V.cO v
def S.ev (s:S):Operand->V
 | .tmp t=>s.env t
 | .const v=>V.ofConst v
 | .func f=> .func (.func f) [] []
 | .global _=> .aa
def D.cells:D->List D
 | .agg cs=>cs
 |x=>[x]
def V.cells:V->Option (List V)
 | .d x=>some (x.cells.map .d)
 | .agg cs=>some cs
 | .bH _| .aa=>none
 |v=>some [v]
mutual
def dv(o:Nat->ab):V->Option D
 | .d x=>some x
 | .aE=>some (.sl [])
 | .oO es=>some (.sl es)
 | .osl id ep=>match o id with
   | .arr fU _ _ es| .qN fU es=>if ep=fU then some (.sl es)else none
   |_=>none
 | .mp id=>match o id with
   | .map _ _ l=>some (.mp (l.map (·.1)) (l.map (·.2)))
   | .cM l=>some (.mp (l.map (·.1)) (l.map (·.2)))
   |_=>none
 | .agg cs=>(bI o cs).map .agg
 | .iface t x=>(dv o x).map (.iface t)
 |_=>none
def bI(o:Nat->ab):List V->Option (List D)
 |[]=>some []
 |v::vs=>(dv o v).bind fun x=>(bI o vs).map (x::·)
end
mutual
def V.ids:V->List Nat
 | .osl id _=>[id]
 | .mp id=>[id]
 | .agg cs=>V.aZ cs
 | .iface _ x=>x.ids
 |_=>[]
def V.aZ:List V->List Nat
 |[]=>[]
 |v::vs=>v.ids++V.aZ vs
end
def bP(o:Nat->ab)(ids:List Nat):List (Nat×ab):=
 ids.map fun id=>(id,match o id with| .arr ep _ _ es=> .qN ep es| .map _ _ l=> .cM l|o=>o)
def oY(o:Nat->ab)(ids:List Nat):List (Nat×ab):=
 ids.filterMap fun id=>match o id with| .arr ep _ _ es=>some (id, .qN ep es)|_=>none
def put(o:Nat->ab)(Δ:List (Nat×ab)):Nat->ab:=Δ.foldl (fun f x=>aI f x.1 x.2) o
def Hp.put (H:Hp)(Δ:List (Nat×ab)):Hp:={o:=YtlhemmpklhhgoaaGreat.put H.o Δ,us:=fun id=>H.us id\/id∈Δ.map (·.1)}
def cJ(P:Program)(t:TypeId):Option (List V):=
 match P.info? t with
 |some i=>match i.zero with
  |some z=>if z.cells.size=i.size/\z.cells.toList.all Value.oneCell'=true then some (z.cells.toList.map V.cO)else none
  |none=>none
 |none=>none
def c7(P:Program)(t:TypeId):Option Bool:=
 match P.underlying t with
 |some (.struct _)|some (.array _ _)=>some true
 |some _=>some false
 |none=>none
def bV(P:Program)(t:TypeId)(f:Nat):Option Nat:=
 match P.underlying t with
 |some (.struct fs)=>match fs[f]? with
  |some fd=>if P.cellsOf fd.type=0 then none else some fd.offset
  |none=>none
 |_=>none
def bN(P:Program)(t:TypeId):Option TypeId:=
 match P.underlying t with
 |some (.slice e)=>some e
 |_=>none
def xD(P:Program)(t:TypeId):Option (Nat×TypeId):=
 match P.underlying t with
 |some (.array n e)=>some (n,e)
 |_=>none
def dh(P:Program)(t:TypeId):Option (List (Nat×Nat)):=
 match P.underlying t with
 |some (.struct fs)=>if fs.toList.all (fun f=>(P.info? f.type).isSome)=true then some (fs.toList.map fun f=>(f.offset,P.cellsOf f.type))else none
 |some (.array n e)=>if(P.info? e).isSome=true then some ((List.range n).map fun i=>(i*P.cellsOf e,P.cellsOf e))else none
 |_=>none
def oZ(P:Program)(t:TypeId):Option IntKind:=
 match P.underlying t with
 |some (.int k)=>some k
 |_=>none
def dM(P:Program)(t:TypeId)(cs:List V)(off:Nat):Option V:=
 match c7 P t with
 |some true=>if off+P.cellsOf t<=cs.length then some (mo ((cs.drop off).take (P.cellsOf t)))else none
 |some false=>cs[off]?
 |none=>none
def vA(P:Program)(t:TypeId)(cs:List V)(off:Nat)(v:V):Option (List V):=
 match v.cells with
 |some us=>if us.length=P.cellsOf t/\(0<us.length\/(P.info? t).isSome=true)/\off+us.length<=cs.length then some (cs.take off++us++cs.drop (off+us.length))else none
 |none=>none
def pT(places:List (Nat×Nat))(cs:List V):List (Nat×V)->Option (List V)
 |[]=>some cs
 |(i,v)::rest=>match places[i]?,v.cells with
  |some (off,size),some us=>if us.length=size/\off+us.length<=cs.length then pT places (cs.take off++us++cs.drop (off+us.length)) rest else none
  |_,_=>none
def D.put (e:D)(off:Nat)(us:List D):Option D:=
 match e with
 | .agg cs=>if off+us.length<=cs.length then some (.agg (cs.take off++us++cs.drop (off+us.length)))else none
 |_=>match off,us with
  |0,[u]=>some u
  |_,_=>none
def Tk(op:BinOp)(a b:Int):Option Bool:=
 match op with
 | .eql=>some (a==b)| .neq=>some (a !=b)| .lss=>some (decide (a<b))| .leq=>some (decide (a<=b))
 | .gtr=>some (decide (a>b))| .geq=>some (decide (a≥b))
 |_=>none
def rn(op:BinOp)(k:IntKind)(x y:Int):Option Int:=
 let a:=BitVec.ofInt k.bits x
 let b:=BitVec.ofInt k.bits y
 match op with
 | .and=>some (k.wrap (a&&&b).toNat)
 | .or=>some (k.wrap (a|||b).toNat)
 | .xor=>some (k.wrap (a ^^^ b).toNat)
 | .andNot=>some (k.wrap (a&&& ~~~b).toNat)
 |_=>none
def Im(op:BinOp)(k:IntKind)(a b:Int)(K:V->Prop):Prop:=
 match op with
 | .add=>K (.d (.int k (k.wrap (a+b))))
 | .sub=>K (.d (.int k (k.wrap (a - b))))
 | .mul=>K (.d (.int k (k.wrap (a*b))))
 | .quo=>b≠0/\K (.d (.int k (k.wrap (a.tdiv b))))
 | .rem=>b≠0/\K (.d (.int k (a.tmod b)))
 | .and| .or| .xor| .andNot=>∃r,rn op k a b=some r/\K (.d (.int k r))
 | .shl| .shr=>False
 |op=>∃r,Tk op a b=some r/\K (.d (.bool r))
def Fl(P:Program)(t:TypeId)(x y:D)(r:Bool):Prop:=
 ∀ (B:Nat->Prop) (w:World) (u v:Value),D.den B w x u->D.den B w y v->(Op.equal t u v).run P w= .ok r w/\∀ (op:BinOp) (a b:Operand),(eqGuard op t a b u v).run P w= .ok () w
def Fm(P:Program)(op:BinOp)(t:TypeId)(x y:V)(K:V->Prop):Prop:=
 match x,y with
 | .d (.int k a), .d (.int k' b)=>k=k'/\Im op k a b K
 | .d (.bool a), .d (.bool b)=>match op with
   | .eql=>P.underlying t=some .bool/\K (.d (.bool (a==b)))
   | .neq=>P.underlying t=some .bool/\K (.d (.bool (a !=b)))
   |_=>False
 | .d (.str a), .d (.str b)=>match op with
   | .eql=>K (.d (.bool (a==b)))
   | .neq=>K (.d (.bool (a !=b)))
   |_=>False
 | .d (.agg a), .d (.agg b)=>match op with
   | .eql=>∃r,Fl P t (.agg a) (.agg b) r/\K (.d (.bool r))
   | .neq=>∃r,Fl P t (.agg a) (.agg b) r/\K (.d (.bool !r))
   |_=>False
 |_,_=>False
def Tl(op:UnOp)(x:V)(K:V->Prop):Prop:=
 match op,x with
 | .neg, .d (.int k n)=>K (.d (.int k (k.wrap (0 - n))))
 | .not, .d (.bool b)=>K (.d (.bool !b))
 |_,_=>False
def xE(c a b:V)(K:V->Prop):Prop:=
 match c with
 | .d (.bool t)=>(t=true->K a)/\(t=false->K b)
 |_=>False
def Fo(P:Program)(t:TypeId)(o:Nat->ab)(x:V)(K:V->List Nat->Prop):Prop:=
 match P.underlying t with
 |some (.slice _)=>match x with
  | .d (.sl es)=>K (.d (.int .i64 es.length)) []
  | .aE=>K (.d (.int .i64 0)) []
  | .oO es=>K (.d (.int .i64 es.length)) []
  | .osl id ep=>match o id with
    | .arr fU _ _ es| .qN fU es=>ep=fU/\K (.d (.int .i64 es.length)) [id]
    |_=>False
  |_=>False
 |some .string=>match x with
  | .d (.str s)=>K (.d (.int .i64 s.length)) []
  |_=>False
 |some (.array n _)=>K (.d (.int .i64 n)) []
 |_=>False
def hY(P:Program)(o:Nat->ab)(t:TypeId)(x ix:V)(K:V->List Nat->Prop):Prop:=
 match ix with
 | .d (.int _ i)=>match bN P t with
   |some e=>match x with
    | .d (.sl es)=>0<=i/\∃y,es[i.toNat]? =some y/\y.cells.length=P.cellsOf e/\0<P.cellsOf e/\K (.pp y.cells 0) []
    | .oO es=>0<=i/\∃y,es[i.toNat]? =some y/\y.cells.length=P.cellsOf e/\0<P.cellsOf e/\K (.pp y.cells 0) []
    | .osl id ep=>match o id with
      | .arr fU _ sz es=>ep=fU/\0<=i/\i.toNat<es.length/\sz=P.cellsOf e/\0<P.cellsOf e/\K (.pe id ep i.toNat sz 0) [id]
      | .qN fU es=>ep=fU/\0<=i/\∃y,es[i.toNat]? =some y/\y.cells.length=P.cellsOf e/\0<P.cellsOf e/\K (.pp y.cells 0) [id]
      |_=>False
    |_=>False
   |none=>match xD P t with
    |some (n,e)=>0<=i/\i<n/\(P.info? e).isSome=true/\(match x with
     | .ptr id off=>(o id).bM=true/\K (.ptr id (off+i.toNat*P.cellsOf e)) []
     | .pp cs off=>K (.pp cs (off+i.toNat*P.cellsOf e)) []
     | .pe id ep j sz off=>(o id).bQ=some ep/\K (.pe id ep j sz (off+i.toNat*P.cellsOf e)) []
     |_=>False)
    |none=>False
 |_=>False
def hZ(P:Program)(o:Nat->ab)(t:TypeId)(x:V)(f:Nat)(K:V->Prop):Prop:=
 match bV P t f with
 |some q=>match x with
  | .ptr id off=>(o id).bM=true/\K (.ptr id (off+q))
  | .pp cs off=>K (.pp cs (off+q))
  | .pe id ep j sz off=>(o id).bQ=some ep/\K (.pe id ep j sz (off+q))
  |_=>False
 |none=>False
def xF(P:Program)(o:Nat->ab)(t:TypeId)(x:V)(K:V->List Nat->Prop):Prop:=
 match x with
 | .ptr id off=>match o id with
   | .row cs=>∃v,dM P t cs off=some v/\K v [id]
   |_=>False
 | .pp cs off=>∃v,dM P t (cs.map .d) off=some v/\K v []
 | .pe id ep i sz off=>match o id with
   | .arr fU _ oP es=>ep=fU/\sz=oP/\∃e,es[i]? =some e/\∃v,dM P t (e.cells.map .d) off=some v/\K v [id]
   |_=>False
 |_=>False
def rp(P:Program)(o:Nat->ab)(t:TypeId)(x v:V)(K:List (Nat×ab)->List Nat->Prop):Prop:=
 match x with
 | .ptr id off=>match o id with
   | .row cs=>∃cs',vA P t cs off v=some cs'/\K [(id, .row cs')] [id]
   |_=>False
 | .pe id ep i oP off=>match o id with
   | .arr fU ty sz es=>ep=fU/\oP=sz/\∃e,es[i]? =some e/\∃y,dv o v=some y/\y.cells.length=P.cellsOf t/\0<y.cells.length/\v.ids.all (· !=id)=true/\
    ∃e',e.put off y.cells=some e'/\K (bP o v.ids++[(id, .arr ep ty sz (es.set i e'))]) (id::v.ids)
   |_=>False
 |_=>False
def fY(P:Program)(o:Nat->ab)(fr:Nat)(t:TypeId)(len:Nat)(parts:List (Nat×V))(K:V->List (Nat×ab)->List Nat->Prop):Prop:=
 match bN P t with
 |some e=>(len=0/\parts=[]/\0<P.cellsOf e/\K (.osl fr 0) [(fr, .arr 0 e (P.cellsOf e) [])] [])\/(parts.map (·.1)=List.range len)/\(cJ P e).isSome=true/\0<len/\0<P.cellsOf e/\len*P.cellsOf e<=2^24/\
  ∃ds,bI o (parts.map (·.2))=some ds/\(∀x∈ds,x.cells.length=P.cellsOf e)/\
   K (.osl fr 0) (bP o (V.aZ (parts.map (·.2)))++[(fr, .arr 0 e (P.cellsOf e) ds)]) (V.aZ (parts.map (·.2)))
 |none=>False
def xG(P:Program)(e:TypeId):Option D:=
 match cJ P e with
 |some z=>match bI (fun _=> .no) z,c7 P e with
  |some ds,some true=>some (.agg ds)
  |some [x],some false=>some x
  |_,_=>none
 |none=>none
def ig(P:Program)(fr:Nat)(t:TypeId)(l c:V)(K:V->List (Nat×ab)->Prop):Prop:=
 match bN P t,l,c with
 |some e, .d (.int _ n), .d (.int _ m)=>n=m/\0<=n/\0<P.cellsOf e/\P.bytesOf e*n.toNat<=2^47/\n.toNat<=2^47/\
  ∃x,xG P e=some x/\K (.osl fr 0) [(fr, .arr 0 e (P.cellsOf e) (List.replicate n.toNat x))]
 |_,_,_=>False
def dN(o:Nat->ab)(x:V):Option (List D):=
 match dv o x with
 |some (.sl es)=>some es
 |_=>none
def ny(P:Program)(o:Nat->ab)(fr:Nat)(ts:Array TypeId)(x y:V)(K:V->List (Nat×ab)->List Nat->Prop):Prop:=
 match ts.toList with
 |[t,t']=>t=t'/\(match bN P t with
  |some e=>∃new,dN o y=some new/\0<P.cellsOf e/\(cJ P e).isSome=true/\(∀z∈new,z.cells.length=P.cellsOf e)/\(match x with
   | .aE=>new.length<=2^47/\new.length*P.bytesOf e<=2^47/\K (.osl fr 0) [(fr, .arr 0 e (P.cellsOf e) new)] y.ids
   | .oO es=>(∀z∈es,z.cells.length=P.cellsOf e)/\(if new=[]then K (.oO es) [] y.ids else es.length+new.length<=2^40/\(es.length+new.length)*P.bytesOf e<=2^40/\K (.osl fr 0) [(fr, .arr 0 e (P.cellsOf e) (es++new))] y.ids)
   | .osl id ep=>match o id with
     | .arr fU ty sz es=>ep=fU/\ty=e/\sz=P.cellsOf e/\es.length+new.length<=2^47/\(es.length+new.length)*P.bytesOf e<=2^47/\
      K (.osl id (ep+1)) [(id, .arr (ep+1) ty sz (es++new))] (id::y.ids)
     |_=>False
   |_=>False)
  |none=>False)
 |_=>False
def lM(isMax:Bool)(args:List V)(K:V->Prop):Prop:=
 match args with
 |[.d (.int k a), .d (.int k' b)]=>k=k'/\K (.d (.int k (if isMax then(if b>a then b else a)else(if b<a then b else a))))
 |_=>False
def jx(o:Nat->ab)(x:V)(K:V->Prop):Prop:=
 match x with
 | .ptr id off=>(o id).bM=true/\K (.ptr id off)
 | .pp cs off=>K (.pp cs off)
 | .func (.func f) first cap=>K (.func (.func f) first cap)
 |_=>False
def gG(P:Program)(t:TypeId)(xs:List D)(off:Nat):Option D:=
 match c7 P t with
 |some true=>if off+P.cellsOf t<=xs.length then some (.agg ((xs.drop off).take (P.cellsOf t)))else none
 |some false=>xs[off]?
 |none=>none
inductive Yw where
 |int|bool|str|struct (fs:List (TypeId×Nat))|arr (n:Nat) (e:TypeId)
def bw(P:Program)(t:TypeId):Option Yw:=
 match P.underlying t with
 |some (.int _)=>some .int
 |some .bool=>some .bool
 |some .string=>some .str
 |some (.struct fs)=>if(!P.stoodInHeld t&&fs.toList.all (fun f=>f.name != "_"))=true then some (.struct (fs.toList.map fun f=>(f.type,f.offset)))else none
 |some (.array n e)=>if(P.info? e).isSome=true then some (.arr n e)else none
 |_=>none
def Dk(a b:Option Bool):Option Bool:=
 match a,b with
 |some a,some b=>some (a&&b)
 |_,_=>none
def ue(f:TypeId->Nat->Option Bool):List (TypeId×Nat)->Option Bool
 |[]=>some true
 |x::l=>Dk (f x.1 x.2) (ue f l)
def BV(f:Nat->Option Bool):Nat->Nat->Option Bool
 |0,_=>some true
 |n+1,i=>Dk (f i) (BV f n (i+1))
def KO(f:D->D->Option Bool)(x y:Option D):Option Bool:=
 match x,y with
 |some x,some y=>f x y
 |_,_=>none
def nk(P:Program):Nat->TypeId->D->D->Option Bool
 |0,_,_,_=>none
 |d+1,t,x,y=>match bw P t with
  |some .int=>match x,y with| .int k a, .int k' b=>if k=k' then some (a==b)else none|_,_=>none
  |some .bool=>match x,y with| .bool a, .bool b=>some (a==b)|_,_=>none
  |some .str=>match x,y with| .str a, .str b=>some (a==b)|_,_=>none
  |some (.struct fs)=>match x,y with
   | .agg xs, .agg ys=>ue (fun u off=>KO (nk P d u) (gG P u xs off) (gG P u ys off)) fs
   |_,_=>none
  |some (.arr n e)=>match x,y with
   | .agg xs, .agg ys=>BV (fun i=>KO (nk P d e) (gG P e xs (i*P.cellsOf e)) (gG P e ys (i*P.cellsOf e))) n 0
   |_,_=>none
  |none=>none
abbrev eD:=V×List (Nat×ab)×List Nat
def cB(x:Option eD)(K:V->List (Nat×ab)->List Nat->Prop):Prop:=
 match x with
 |some (v,Δ,rd)=>K v Δ rd
 |none=>False
def Dl(x:Option V)(Yx:Nat):Option Nat:=
 match x with
 |none=>some Yx
 |some (.d (.int _ i))=>if 0<=i then some i.toNat else none
 |_=>none
def mI(o:Nat->ab)(x:V):Option (Nat×Nat):=
 match x with
 | .ptr id off=>if(o id).bM=true then some (id,off)else none
 |_=>none
def mJ(o:Nat->ab)(x:V):Option (Nat×Nat×Nat×List V):=
 match x with
 | .uc id off n=>match o id with
   | .row cs=>some (id,off,n,cs)
   |_=>none
 |_=>none
def Aj(P:Program)(o:Nat->ab)(t:TypeId)(x:V)(lo hi mx:Option V):Option eD:=
 match x with
 | .aE=>match lo,hi,mx with
   |none,some (.d (.int _ k)),none=>match bN P t with
    |some e=>if k=0/\(P.info? e).isSome=true then some (.aE,[],[])else none
    |none=>none
   |_,_,_=>none
 | .osl id ep=>match lo,hi,mx with
   |none,some (.d (.int _ k)),none=>match bN P t,o id with
    |some e, .arr fU ty sz es=>if k=0/\ep=fU/\(P.info? e).isSome=true then some (.osl id (ep+1),[(id, .arr (ep+1) ty sz [])],[id])
     else if 0<k/\k.toNat<=es.length/\ep=fU/\(P.info? e).isSome=true then some (.osl id (ep+1),[(id, .arr (ep+1) ty sz (es.take k.toNat))],[id])else none
    |_,_=>none
   |_,_,_=>none
 |_=>none
def nz(P:Program)(o:Nat->ab)(t:TypeId)(x:V)(lo hi mx:Option V):Option eD:=
 match bN P t with
 |some e=>match dN o x,Dl lo 0 with
  |some es,some l=>match Dl hi es.length with
   |some h=>if l<=h/\h<=es.length/\(P.info? e).isSome=true/\(l=0\/es.all (fun y=>y.cells.length==P.cellsOf e)=true)then match mx with
    |none=>some (.d (.sl ((es.take h).drop l)),bP o x.ids,x.ids)
    |some m=>match hi,Dl (some m) 0 with
     |some _,some m=>if h<=m/\m<=es.length then some (if h=m then .oO ((es.take h).drop l)else .d (.sl ((es.take h).drop l)),bP o x.ids,x.ids)else none
     |_,_=>none
    else none
   |none=>none
  |_,_=>none
 |none=>match xD P t,lo,hi,mx with
  |some (n,e),none,none,none=>match mI o x with
   |some (id,off)=>if(P.info? e).isSome=true then some (.uc id off n,[],[id])else none
   |none=>none
  |_,_,_,_=>none
def o6(P:Program)(o:Nat->ab)(t:TypeId)(x:V)(lo hi mx:Option V):Option eD:=
 match Aj P o t x lo hi mx with
 |some r=>some r
 |none=>nz P o t x lo hi mx
def uf(P:Program)(o:Nat->ab)(ts:Array TypeId)(x y:V):Option eD:=
 match ts.toList with
 |[t,_]=>match bN P t with
  |some e=>match mJ o x,dN o y with
   |some (id,off,n,cs),some es=>if P.cellsOf e=1/\off+n<=cs.length/\es.all (fun z=>z.cells.length==1)=true/\y.ids.all (· !=id)=true then
    some (.d (.int .i64 ((min es.length n:Nat):Int)),bP o y.ids++[(id, .row (cs.take off++((es.take n).flatMap D.cells).map .d++cs.drop (off+(es.take n).length)))],id::y.ids)else none
   |_,_=>none
  |none=>none
 |_=>none
def vB(P:Program)(t:TypeId)(f:Nat):Option (Nat×TypeId):=
 match P.underlying t with
 |some (.struct fs)=>match fs[f]? with
  |some fd=>some (fd.offset,fd.type)
  |none=>none
 |_=>none
def rq(P:Program)(t:TypeId)(x:V)(f:Nat):Option V:=
 match vB P t f with
 |some (off,u)=>match x with
  | .d (.agg cs)=>(gG P u cs off).map .d
  | .agg cs=>dM P u cs off
  |_=>none
 |none=>none
def rr(P:Program)(t:TypeId)(x i:V):Option V:=
 match i with
 | .d (.int _ i)=>if 0<=i then match P.underlying t with
  |some .string=>match x with
   | .d (.str s)=>match s[i.toNat]? with
     |some b=>some (.d (.int .u8 b.toNat))
     |none=>none
   |_=>none
  |some (.array n e)=>if i<n/\(P.info? e).isSome=true then match x with
   | .d (.agg cs)=>(gG P e cs (i.toNat*P.cellsOf e)).map .d
   | .agg cs=>dM P e cs (i.toNat*P.cellsOf e)
   |_=>none
   else none
  |_=>none
   else none
 |_=>none
def Ak(P:Program)(t:TypeId):Bool:=
 match P.underlying t with
 |some (.interface _)=>false
 |some _=>true
 |none=>false
def zeroV(P:Program)(t:TypeId):Option V:=
 match P.info? t with
 |some i=>match i.zero with
  |some (.agg a)=>if a.toList.all Value.oneCell'=true then some (mo (a.toList.map V.cO))else none
  |some v=>if v.oneCell'=true then some (V.cO v)else none
  |none=>none
 |none=>none
def nA(P:Program)(t:TypeId)(ok:Bool)(x:V):Option V:=
 if Ak P t=true then match x with
  | .d (.iface u y)=>if u=t then some (if ok=true then .bH [.d y, .d (.bool true)]else .d y)
   else if ok=true then(zeroV P t).map fun z=> .bH [z, .d (.bool false)]else none
  | .d .fi=>if ok=true then(zeroV P t).map fun z=> .bH [z, .d (.bool false)]else none
  |_=>none
 else none
def xH(o:Nat->ab)(x:V):Option V:=
 match x with
 | .aE=>some (.d (.bool true))
 |x=>match dN o x with
  |some es=>some (if es=[]then .eg else .d (.bool false))
  |none=>none
def isConst:Operand->Bool
 | .const _=>true
 |_=>false
def Io:V->Option V
 | .d (.bool b)=>some (.d (.bool !b))
 | .eg=>some .eg
 |_=>none
def o7(o:Nat->ab)(x:V):Option V:=
 match x with
 | .d .eQ=>some (.d (.bool true))
 | .d (.mp _ _)=>some (.d (.bool false))
 | .mp id=>match o id with| .map _ _ _=>some (.d (.bool false))| .cM _=>some (.d (.bool false))|_=>none
 |_=>none
def o8(o:Nat->ab)(x:V):Option V:=
 match x with
 | .d .kz=>some (.d (.bool true))
 | .ptr id _=>if(o id).bM=true then some (.d (.bool false))else none
 | .pp _ _=>some (.d (.bool false))
 |_=>none
def Yy(P:Program)(a b:TypeId)(x y:D):Option Bool:=
 if a=b then(match P.info? a,P.underlying a with
  |some i,some (.int _)=>if i.comparable=true then(match x,y with
   | .int k m, .int k' n=>if k=k' then some (m==n)else none
   |_,_=>none)else none
  |_,_=>none)
 else some false
def th(P:Program)(o:Nat->ab)(t:TypeId)(l7:Bool)(x y:V):Option V:=
 match P.underlying t with
 |some (.interface _)=>match x,y with
  | .d .fi, .d .fi=>if l7=true then some (.d (.bool true))else none
  | .d (.iface _ _), .d .fi| .iface _ _, .d .fi| .d .fi, .d (.iface _ _)| .d .fi, .iface _ _=>some (.d (.bool false))
  | .d (.iface a x), .d (.iface b y)=>(Yy P a b x y).map fun r=> .d (.bool r)
  |_,_=>none
 |some (.func _ _ _)=>match x,y with
  | .d .bO, .d .bO=>some (.d (.bool true))
  | .func _ _ _, .d .bO=>some (.d (.bool false))
  |_,_=>none
 |some (.map _ _)=>match y with
  | .d .eQ=>o7 o x
  |_=>none
 |some (.pointer _)=>match y with
  | .d .kz=>o8 o x
  |_=>none
 |some (.slice _)=>match y with
  | .aE=>xH o x
  |_=>none
 |some (.struct _)|some (.array _ _)=>match x,y with
  | .d (.agg bK), .d (.agg bs)=>if P.eqGuardType P.depth t=false then(nk P 100 t (.agg bK) (.agg bs)).map fun r=> .d (.bool r)else none
  |_,_=>none
 |_=>none
def o9(P:Program)(o:Nat->ab)(op:BinOp)(t:TypeId)(l7:Bool)(x y:V):Option eD:=
 match op with
 | .eql=>(th P o t l7 x y).map fun v=>(v,[],[])
 | .neq=>((th P o t l7 x y).bind Io).map fun v=>(v,[],[])
 |_=>none
mutual
def D.same:D->D->Bool
 | .int k a, .int j b=>k==j&&a==b
 | .bool a, .bool b=>a==b
 | .str a, .str b=>a==b
 | .fi, .fi| .kz, .kz| .bO, .bO| .eQ, .eQ=>true
 | .agg bK, .agg bs=>D.eI bK bs
 | .sl bK, .sl bs=>D.eI bK bs
 | .iface t a, .iface u b=>t==u&&a.same b
 | .mp ks vs, .mp ks' Xo=>D.eI ks ks'&&D.eI vs Xo
 |_,_=>false
def D.eI:List D->List D->Bool
 |[],[]=>true
 |a::bK,b::bs=>a.same b&&D.eI bK bs
 |_,_=>false
end
def pa(P:Program)(t:TypeId):Option (TypeId×TypeId):=
 match P.underlying t with
 |some (.map k v)=>some (k,v)
 |_=>none
def l8(P:Program):Nat->TypeId->D->Bool
 |0,_,_=>false
 |d+1,t,x=>match bw P t with
  |some .int|some .bool|some .str=>true
  |some (.struct fs)=>match x with
   | .agg xs=>fs.all fun f=>match gG P f.1 xs f.2 with|some y=>l8 P d f.1 y|none=>false
   |_=>false
  |some (.arr n e)=>match x with
   | .agg xs=>(List.range n).all fun i=>match gG P e xs (i*P.cellsOf e)with|some y=>l8 P d e y|none=>false
   |_=>false
  |none=>false
def findD(P:Program)(kt:TypeId)(k:D):List (D×D)->Nat->Option (Option (Nat×D×D))
 |[],_=>some none
 |(k',x)::l,i=>match nk P 100 kt k k' with
  |some true=>some (some (i,k',x))
  |some false=>findD P kt k l (i+1)
  |none=>none
def mq:D->Bool
 | .int _ _| .bool _| .str _=>true
 |_=>false
def jh:D->Bool
 | .agg cs=>cs.all mq
 |x=>mq x
def mu(o:Nat->ab)(m:V):Option (Option (Nat×TypeId×TypeId)×List (D×D)):=
 match m with
 | .mp id=>match o id with
   | .map kt vt l=>some (some (id,kt,vt),l)
   |_=>none
 | .d .eQ=>some (none,[])
 |_=>none
def nB(o:Nat->ab)(m:V):Option (List Nat×List (D×D)):=
 match m with
 | .mp id=>match o id with
   | .map _ _ l=>some ([id],l)
   | .cM l=>some ([id],l)
   |_=>none
 | .d .eQ=>some ([],[])
 | .d (.mp ks vs)=>some ([],ks.zip vs)
 |_=>none
def Yz(r:Option (Nat×TypeId×TypeId)):List Nat:=match r with|some p=>[p.1]|none=>[]
def gK(P:Program)(o:Nat->ab)(t:TypeId)(m k:V)(ok:Bool):Option eD:=
 match pa P t,dv o k,nB o m with
 |some (kt,vt),some kd,some (rd,l)=>if k.ids=[]/\l8 P 100 kt kd=true then match findD P kt kd l 0 with
  |some (some (_,_,x))=>some (if ok=true then .bH [.d x, .d (.bool true)]else .d x,[],rd)
  |some none=>match zeroV P vt with
   |some z=>some (if ok=true then .bH [z, .d (.bool false)]else z,[],rd)
   |none=>none
  |none=>none
  else none
 |_,_,_=>none
def ew(P:Program)(o:Nat->ab)(t:TypeId)(m k v:V):Option eD:=
 match pa P t,dv o k,dv o v,mu o m with
 |some (kt,_),some kd,some vd,some (some (id,BW,BX),l)=>if k.ids=[]/\l8 P 100 kt kd=true/\jh kd=true/\v.ids.all (· !=id)=true then match findD P kt kd l 0 with
  |some (some (i,k',_))=>if k'.same kd=true then some (.bH [],bP o v.ids++[(id, .map BW BX (l.set i (kd,vd)))],id::v.ids)else none
  |some none=>some (.bH [],bP o v.ids++[(id, .map BW BX (l++[(kd,vd)]))],id::v.ids)
  |none=>none
  else none
 |_,_,_,_=>none
def kH(P:Program)(fr:Nat)(t:TypeId):Option eD:=
 match pa P t with
 |some (kt,vt)=>some (.mp fr,[(fr, .map kt vt [])],[])
 |none=>none
def kI(P:Program)(o:Nat->ab)(fr:Nat)(t:TypeId)(x:V):Option eD:=
 match P.underlying t with
 |some .string=>match x with
  | .d (.str s)=>some (.ptr fr 0,[(fr, .vy s 0)],[])
  |_=>none
 |some (.map _ _)=>match x with
  | .d .eQ=>some (.ptr fr 0,[(fr, .oX [] none)],[])
  | .d (.mp ks vs)=>some (.ptr fr 0,[(fr, .oX (ks.zip vs) none)],[])
  | .mp id=>match o id with
    | .map _ _ l=>some (.ptr fr 0,[(id, .cM l),(fr, .oX l none)],[id])
    | .cM l=>some (.ptr fr 0,[(fr, .oX l none)],[id])
    |_=>none
  |_=>none
 |_=>none
def mw(o:Nat->ab)(x:V)(str:Bool):Option eD:=
 match x with
 | .ptr id 0=>match o id with
   | .vy s pos=>if str=true then
    (if pos<s.length then some (.bH [.d (.bool true), .d (.int .i64 pos), .d (.int .i32 (Utf8.decode ⟨⟨s⟩⟩ pos).1)],[(id, .vy s (pos+(Utf8.decode ⟨⟨s⟩⟩ pos).2))],[id])else some (.bH [.d (.bool false)],[],[id]))
     else none
   |_=>none
 |_=>none
def my(o:Nat->ab)(x:V):Option (Nat×List (D×D)):=
 match x with
 | .ptr id 0=>match o id with
   | .oX l _=>some (id,l)
   |_=>none
 |_=>none
def BZ(id:Nat)(l:List (D×D))(K:V->List (Nat×ab)->List Nat->Prop):Prop:=
 (l=[]->K (.bH [.d (.bool false)]) [] [id])/\∀i k x,l[i]? =some (k,x)->K (.bH [.d (.bool true), .d k, .d x]) [(id, .oX (l.eraseIdx i) (some (k,x)))] [id]
def kJ(o:Nat->ab)(x:V):Option eD:=
 match x with
 | .ptr id 0=>match o id with
   | .oX _ (some (k,x))=>some (.bH [.d k, .d x],[],[id])
   |_=>none
 |_=>none
def lN(P:Program)(o:Nat->ab)(t:TypeId)(m k:V):Option eD:=
 match pa P t,dv o k,mu o m with
 |some (kt,_),some kd,some (some (id,BW,BX),l)=>if k.ids=[]/\l8 P 100 kt kd=true then match findD P kt kd l 0 with
  |some (some (i,_,_))=>some (.bH [],[(id, .map BW BX (l.eraseIdx i))],[id])
  |some none=>some (.bH [],[],[id])
  |none=>none
  else none
 |_,_,_=>none
def Fq(x y z:V):Option V:=
 match x,y,z with
 | .d (.int k a), .d (.int k' b), .d (.int k'' c)=>if k=k'/\k=k'' then some (.d (.int k (if c>(if b>a then b else a)then c else(if b>a then b else a))))else none
 |_,_,_=>none
def Ip(P:Program)(ts:Array TypeId)(x:V):Option eD:=
 match ts.toList with
 |[t]=>match bN P t with
  |some _=>match x with
   | .aE=>some (.d (.int .i64 0),[],[])
   |_=>none
  |none=>none
 |_=>none
def ug(P:Program)(fr:Nat)(ts:Array TypeId)(x y:V):Option eD:=
 match ts.toList with
 |[t,t']=>if t=t' then none else match bN P t with
  |some e=>match oZ P t',x,y with
   |some _, .aE, .d (.int _ n)=>if 0<n/\0<P.cellsOf e/\n.toNat*P.bytesOf e<=2^40/\n.toNat<=2^40 then match xG P e with
    |some z=>some (.osl fr 0,[(fr, .arr 0 e (P.cellsOf e) (List.replicate n.toNat z))],[])
    |none=>none
    else none
   |_,_,_=>none
  |none=>none
 |_=>none
def ru(P:Program)(s:S)(fr:Nat)(b:Builtin)(args:List Operand)(ts:Array TypeId)(K:V->List (Nat×ab)->List Nat->Prop):Prop:=
 match b,args with
 | .len,[x]=>∃t,ts.toList=[t]/\Fo P t s.o (s.ev x) fun v rd=>K v [] rd
 | .append,[x,y]=>cB (ug P fr ts (s.ev x) (s.ev y)) K\/ny P s.o fr ts (s.ev x) (s.ev y) K
 | .max,[x,y]=>lM true [s.ev x,s.ev y] fun v=>K v [] []
 | .min,[x,y]=>lM false [s.ev x,s.ev y] fun v=>K v [] []
 | .max,[x,y,z]=>cB ((Fq (s.ev x) (s.ev y) (s.ev z)).map fun v=>(v,[],[])) K
 | .copy,[x,y]=>cB (uf P s.o ts (s.ev x) (s.ev y)) K
 | .delete,[x,y]=>∃t,ts.toList.head?=some t/\cB (lN P s.o t (s.ev x) (s.ev y)) K
 | .cap,[x]=>cB (Ip P ts (s.ev x)) K
 |_,_=>False
def KQ(P:Program)(s:S)(fr:Nat)(op:Op)(K:V->List (Nat×ab)->List Nat->Prop):Prop:=
 match op with
 | .move x| .assign x=>K (s.ev x) [] []
 | .pick c a b=>xE (s.ev c) (s.ev a) (s.ev b) fun v=>K v [] []
 | .alloc t=>∃cs,cJ P t=some cs/\K (.ptr fr 0) [(fr, .row cs)] []
 | .box _ x=>∃cs,(s.ev x).cells=some cs/\K (.ptr fr 0) [(fr, .row cs)] []
 | .build t parts=>∃z pl cs,cJ P t=some z/\dh P t=some pl/\pT pl z (parts.toList.map fun p=>(p.1,s.ev p.2))=some cs/\K (mo cs) [] []
 | .buildSlice t len parts=>fY P s.o fr t len (parts.toList.map fun p=>(p.1,s.ev p.2)) K
 | .load t x=>xF P s.o t (s.ev x) fun v rd=>K v [] rd
 | .store t x v=>rp P s.o t (s.ev x) (s.ev v) fun Δ rd=>K (.bH []) Δ rd
 | .nilCheck x=>jx s.o (s.ev x) fun v=>K v [] []
 | .binOp op t x y _=>Fm P op t (s.ev x) (s.ev y) (fun v=>K v [] [])\/cB (o9 P s.o op t (isConst x||isConst y) (s.ev x) (s.ev y)) K
 | .unOp op _ x=>Tl op (s.ev x) (fun v=>K v [] [])\/(op= .not/\s.ev x= .eg/\K .eg [] [])
 | .convert u t x=>(P.underlying u).isSome=true/\(match oZ P t,s.ev x with
   |some k, .d (.int _ n)=>K (.d (.int k (k.wrap n))) [] []
   |_,_=>False)
 | .makeInterface t x=>(∃d,P.underlying t=some d/\(match d with| .interface _=>false|_=>true)=true)/\(match s.ev x with
   | .d y=>K (.d (.iface t y)) [] []
   |v=>K (.iface t v) [] [])
 | .makeFunc fn first cap=>K (.func fn (first.toList.map s.ev) (cap.toList.map s.ev)) [] []
 | .makeSlice t l c=>ig P fr t (s.ev l) (s.ev c) fun v Δ=>K v Δ []
 | .fieldAddr t x f=>hZ P s.o t (s.ev x) f fun v=>K v [] []
 | .indexAddr t x i=>hY P s.o t (s.ev x) (s.ev i) fun v rd=>K v [] rd
 | .extract x i=>match s.ev x with
   | .bH vs=>∃v,vs[i]? =some v/\K v [] []
   |_=>False
 | .slice t x lo hi mx=>cB (o6 P s.o t (s.ev x) (lo.map s.ev) (hi.map s.ev) (mx.map s.ev)) K
 | .field t x f=>cB ((rq P t (s.ev x) f).map fun v=>(v,[],[])) K
 | .index t x i=>cB ((rr P t (s.ev x) (s.ev i)).map fun v=>(v,[],[])) K
 | .makeMap t none=>cB (kH P fr t) K
 | .lookup t m k ok=>cB (gK P s.o t (s.ev m) (s.ev k) ok) K
 | .mapUpdate t m k v=>cB (ew P s.o t (s.ev m) (s.ev k) (s.ev v)) K
 | .insert t m k v=>cB (ew P s.o t (s.ev m) (s.ev k) (s.ev v)) K
 | .range t x=>cB (kI P s.o fr t (s.ev x)) K
 | .next x str=>cB (mw s.o (s.ev x) str) K\/(str=false/\∃id l,my s.o (s.ev x)=some (id,l)/\BZ id l K)
 | .entry x=>cB (kJ s.o (s.ev x)) K
 | .typeAssert x _ t ok=>cB ((nA P t ok (s.ev x)).map fun v=>(v,[],[])) K
 | .call c=>match c.callee with
   | .builtin b=>ru P s fr b c.args.toList c.argTypes K
   |_=>False
 |_=>False
section
section
variable {B:Nat->Prop}{φ:Place}{H:Hp}{w:World}
theorem V.ax:∀ (cs:List V) (vs:List Value),V.az B φ H w cs vs->vs.length=cs.length
 |[],_,h=>by simp[V.az]at h;simp[h]
 |c::cs,_,h=>by obtain⟨u,us,rfl,_,h2⟩:=h;simp[V.ax cs us h2]
theorem V.cN:∀ (cs:List V) (vs:List Value) (i:Nat) (c:V),V.az B φ H w cs vs->cs[i]? =some c->∃v,vs[i]? =some v/\V.den B φ H w c v
 |[],_,_,_,_,hd=>by simp at hd
 |c::cs,_,0,x,h,hd=>by
  exact KH
 |c::cs,_,i+1,x,h,hd=>by
  obtain⟨u,us,rfl,_,h2⟩:=h
  simpa using V.cN cs us i x h2 (by simpa using hd)
theorem V.a7:∀ (cs ds:List V) (us vs:List Value),V.az B φ H w cs us->V.az B φ H w ds vs->V.az B φ H w (cs++ds) (us++vs)
 |[],ds,us,vs,h,k=>by simp[V.az]at h;subst h;simpa using k
 |c::cs,ds,_,vs,h,k=>by
  obtain⟨u,us,rfl,h1,h2⟩:=h
  exact⟨u,us++vs,aK,h1,V.a7 cs ds us vs h2 k⟩
theorem V.cg:∀ (n:Nat) (cs:List V) (vs:List Value),V.az B φ H w cs vs->V.az B φ H w (cs.take n) (vs.take n)
 |0,_,_,_=>by simp[V.az]
 |n+1,[],_,h=>by simp[V.az]at h;subst h;simp[V.az]
 |n+1,c::cs,_,h=>by
  obtain⟨u,us,rfl,h1,h2⟩:=h
  exact⟨u,us.take n,aK,h1,V.cg n cs us h2⟩
theorem V.dz:∀ (n:Nat) (cs:List V) (vs:List Value),V.az B φ H w cs vs->V.az B φ H w (cs.drop n) (vs.drop n)
 |0,_,_,h=>by simpa using h
 |n+1,[],_,h=>by simp[V.az]at h;subst h;simp[V.az]
 |n+1,c::cs,_,h=>by
  obtain⟨u,us,rfl,h1,h2⟩:=h
  simpa using V.dz n cs us h2
theorem V.bW:∀ (ds:List D) (vs:List Value),V.az B φ H w (ds.map .d) vs↔D.az B w ds vs
 |[],vs=>by simp[V.az,D.az]
 |x::ds,vs=>by simp only[List.map_cons,V.az,D.az,V.den,V.bW ds]
theorem D.a7:∀ (cs ds:List D) (us vs:List Value),D.az B w cs us->D.az B w ds vs->D.az B w (cs++ds) (us++vs)
 |[],ds,us,vs,h,k=>by simp[D.az]at h;subst h;simpa using k
 |c::cs,ds,_,vs,h,k=>by
  obtain⟨u,us,rfl,h1,h2⟩:=h
  exact⟨u,us++vs,aK,h1,D.a7 cs ds us vs h2 k⟩
theorem D.cg:∀ (n:Nat) (cs:List D) (vs:List Value),D.az B w cs vs->D.az B w (cs.take n) (vs.take n)
 |0,_,_,_=>by simp[D.az]
 |n+1,[],_,h=>by simp[D.az]at h;subst h;simp[D.az]
 |n+1,c::cs,_,h=>by
  obtain⟨u,us,rfl,h1,h2⟩:=h
  exact⟨u,us.take n,aK,h1,D.cg n cs us h2⟩
theorem D.dz:∀ (n:Nat) (cs:List D) (vs:List Value),D.az B w cs vs->D.az B w (cs.drop n) (vs.drop n)
 |0,_,_,h=>by simpa using h
 |n+1,[],_,h=>by simp[D.az]at h;subst h;simp[D.az]
 |n+1,c::cs,_,h=>by
  obtain⟨u,us,rfl,h1,h2⟩:=h
  simpa using D.dz n cs us h2
theorem D.xI:∀ (i:Nat) (ds:List D) (vs:List Value) (x:D) (v:Value),D.az B w ds vs->D.den B w x v->D.az B w (ds.set i x) (vs.set i v)
 |_,[],_,_,_,h,_=>by simp[D.az]at h;subst h;simp[D.az]
 |0,c::cs,_,x,v,h,k=>by
  obtain⟨u,us,rfl,h1,h2⟩:=h
  exact⟨v,us,aK,k,h2⟩
 |i+1,c::cs,_,x,v,h,k=>by
  obtain⟨u,us,rfl,h1,h2⟩:=h
  exact⟨u,us.set i v,aK,h1,D.xI i cs us x v h2 k⟩
theorem uh:∀ (cs:List V) (ds:List D),Ai cs=some ds->cs=ds.map .d
 |[],ds,h=>by simp[Ai]at h;subst h;rfl
 | .d x::cs,ds,h=>by
   simp only[Ai,Option.map_eq_some_iff]at h
   obtain⟨a,h1,rfl⟩:=h
   simp[uh cs a h1]
 | .aE::_,_,h| .agg _::_,_,h| .bH _::_,_,h| .ptr _ _::_,_,h| .osl _ _::_,_,h| .pe _ _ _ _ _::_,_,h| .pp _ _::_,_,h
 | .func _ _ _::_,_,h| .iface _ _::_,_,h| .aa::_,_,h| .oO _::_,_,h| .uc _ _ _::_,_,h| .mp _::_,_,h| .eg::_,_,h=>by simp[Ai]at h
theorem jA(cs:List V)(a:Array Value)(h:V.az B φ H w cs a.toList)(hf:Flat a.toList):V.den B φ H w (mo cs) (.agg a):=by
 unfold mo
 split
 ·rename_i ds hd
  have:=uh cs ds hd
  subst this
  exact⟨a,rfl,(V.bW ds _).1 h,hf⟩
 ·exact⟨a,rfl,h,hf⟩
theorem D.lO:∀ (x:D) (v:Value),D.den B w x v->(∃cs a,x= .agg cs/\v= .agg a)\/v.oneCell'=true/\x.cells=[x]/\v.cells=#[v]
 | .int _ _,_,h| .bool _,_,h| .fi,_,h| .kz,_,h| .bO,_,h| .eQ,_,h=>by
   simp only[D.den]at h;subst h;exact .inr ⟨rfl,rfl,rfl⟩
 | .str l,_,h=>by obtain⟨s,rfl,_⟩:=h;exact .inr ⟨rfl,rfl,rfl⟩
 | .agg cs,_,h=>by obtain⟨a,rfl,_,_⟩:=h;exact .inl ⟨cs,a,rfl,rfl⟩
 | .sl es,_,h=>by obtain⟨b,l,c,rfl,_⟩:=h;exact .inr ⟨rfl,rfl,rfl⟩
 | .iface t x,_,h=>by obtain⟨u,rfl,_⟩:=h;exact .inr ⟨rfl,rfl,rfl⟩
 | .mp ks vs,_,h=>by obtain⟨m,es,c,p,rfl,_⟩:=h;exact .inr ⟨rfl,rfl,rfl⟩
theorem D.dV (x:D)(v:Value)(h:D.den B w x v):D.az B w x.cells v.cells.toList/\Flat v.cells.toList:=by
 rcases D.lO x v h with⟨cs,a,rfl,rfl⟩|⟨h1,h2,h3⟩
 ·obtain⟨a',h1,h2,h3⟩:=h
  injection h1 with h1;subst h1
  exact⟨h2,h3⟩
 ·rw[h2,h3]
  exact⟨⟨v,[],rfl,h,rfl⟩,by intro u hu;simp at hu;subst hu;exact h1⟩
theorem V.lO (x:V)(v:Value)(us:List V)(hx:x.cells=some us)(h:V.den B φ H w x v):V.az B φ H w us v.cells.toList/\Flat v.cells.toList:=by
 have one:∀ (y:V),v.oneCell'=true->V.den B φ H w y v->V.az B φ H w [y] v.cells.toList/\Flat v.cells.toList:=by
  intro y h1 h2
  have h3:v.cells=#[v]:=by cases v<;>simp_all[Value.oneCell',Value.cells]
  rw[h3]
  exact⟨⟨v,[],rfl,h2,rfl⟩,by intro u hu;simp at hu;subst hu;exact h1⟩
 cases x with
 |d x=>
  simp only[V.cells,Option.some.injEq]at hx;subst hx
  have:=D.dV x v h
  exact⟨(V.bW _ _).2 this.1,this.2⟩
 |aE=>simp only[V.cells,Option.some.injEq]at hx;subst hx;exact one _ (by cases h;rfl) h
 |agg cs=>
  simp only[V.cells,Option.some.injEq]at hx;subst hx
  obtain⟨a,rfl,h1,h2⟩:=h
  exact⟨h1,h2⟩
 |bH vs=>simp[V.cells]at hx
 |aa=>simp[V.cells]at hx
 |ptr id off=>simp only[V.cells,Option.some.injEq]at hx;subst hx;exact one _ h.1 h
 |osl id ep=>simp only[V.cells,Option.some.injEq]at hx;subst hx;exact one _ h.1 h
 |pe id ep i sz off=>simp only[V.cells,Option.some.injEq]at hx;subst hx;exact one _ h.1 h
 |pp cs off=>simp only[V.cells,Option.some.injEq]at hx;subst hx;exact one _ (by obtain⟨a,ev,_,rfl,_⟩:=h;rfl) h
 |func fn f c=>simp only[V.cells,Option.some.injEq]at hx;subst hx;exact one _ (by obtain⟨a,ev,rfl,_⟩:=h;rfl) h
 |iface t y=>simp only[V.cells,Option.some.injEq]at hx;subst hx;exact one _ (by obtain⟨a,rfl,_⟩:=h;rfl) h
 |oO es=>simp only[V.cells,Option.some.injEq]at hx;subst hx;exact one _ (by obtain⟨_,b,n,rfl⟩:=h;rfl) h
 |uc id off n=>simp only[V.cells,Option.some.injEq]at hx;subst hx;exact one _ h.1 h
 |mp id=>simp only[V.cells,Option.some.injEq]at hx;subst hx;exact one _ h.1 h
 |js id=>simp only[V.cells,Option.some.injEq]at hx;subst hx;exact one _ h.1 h
 |eg=>simp only[V.cells,Option.some.injEq]at hx;subst hx;exact one _ (by obtain⟨a,rfl⟩:=h;rfl) h
theorem jM(v:Value)(h:v.oneCell'=true):V.den B φ H w (V.cO v) v:=by
 cases v<;>simp_all only[Value.oneCell',V.cO,V.den,D.den]<;>try trivial
 all_goals (try (split<;>simp_all[V.den,D.den]))
 all_goals (try first|(simp_all[D.den];done)|simp_all)
theorem cY:∀ (vs:List Value),Flat vs->V.az B φ H w (vs.map V.cO) vs
 |[],_=>rfl
 |v::vs,h=>⟨v,vs,rfl,jM v (h v aK),cY vs fun u hu=>h u (by simp[hu])⟩
end
end
section
theorem lP(H:Hp):H.put []=H:=by
 obtain⟨o,us⟩:=H
 simp[Hp.put,put]
theorem dk(H:Hp)(A C:List (Nat×ab)):H.put (A++C)=(H.put A).put C:=by
 obtain⟨o,us⟩:=H
 simp only[Hp.put,put,List.foldl_append,Hp.mk.injEq,true_and]
 funext id
 simp only[List.map_append,List.mem_append,eq_iff_iff]
 exact⟨fun h=>by rcases h with h|h|h<;>simp[h],fun h=>by rcases h with(h|h)|h<;>simp[h]⟩
@[simp] theorem bn (H:Hp) (i:Nat) (x:ab):(H.put [(i,x)]).o=aI H.o i x:=rfl
@[simp] theorem dm (H:Hp) (i j:Nat) (x:ab):(H.put [(i,x)]).us j↔(H.us j\/j=i):=by simp[Hp.put]
section
variable {M:Nat->Prop}{φ aA:Place}{H H':Hp}{w w':World}
theorem aJ.xJ (rv:∀b,ct w b-> ¬ai M φ H b->w'.heap[b]? =w.heap[b]? /\ ¬ai M aA H' b)(hrl:dg φ H aA H'){id:Nat}(ho:H'.o id=H.o id)(ef:aA id=φ id)
 (hb:(H.o id).live=true->∀b,dR (φ id)=some b->w'.heap[b]? =w.heap[b]?) (h:aJ M φ H w id):aJ M aA H' w' id:=by
 unfold aJ at*
 rw[ho]
 cases hx:H.o id with
 |no=>trivial
 |row cs=>
  simp only[hx]at h|-
  obtain⟨b,df,ty,h1,h2,h3,h4⟩:=h
  exact⟨b,df,ty,ef.trans h1,(hb pQ b tX).trans h2,V.eC rv hrl cs _ h3,h4⟩
 |arr ep ty sz es=>
  simp only[hx]at h|-
  obtain⟨h0,xs,h1,evs,h2,h3,h4⟩:=h
  refine⟨h0,xs, ?_,evs,h2,h3,D.aO rv es evs h4⟩
  rw[ef]
  obtain⟨g1,g2⟩:=h1
  refine⟨g1, ?_⟩
  rcases g2 with g2|⟨g,cap,cur,k1,k2,k3,k4⟩
  ·exact .inl g2
  ·exact .inr ⟨g,cap,cur,k1,k2,(hb pQ g (by rw[k1];rfl)).trans k3,k4⟩
 |qN ep es=>
  simp only[hx]at h|-
  rw[ef]
  exact D.aL rv (.sl es) _ h
 |map kt vt l=>
  simp only[hx]at h|-
  obtain⟨b,es,clock,h1,h2,h4,h3⟩:=h
  exact⟨b,es,clock,ef.trans h1,(hb pQ b tX).trans h2,h4,aB.mono rv l _ h3⟩
 |cM l=>
  simp only[hx]at h|-
  rw[ef]
  exact jf.mono rv h
 |oX l last=>
  simp only[hx]at h|-
  obtain⟨b,h1,h2⟩:=h
  exact⟨b,ef.trans h1,h2.mono rv (hb pQ b tX)⟩
 |vy s pos=>
  simp only[hx]at h|-
  obtain⟨b,h1,h2⟩:=h
  exact⟨b,ef.trans h1,(hb pQ b tX).trans h2⟩
 |loop nf n env ps jg eS st Dj=>
  simp only[hx]at h|-
  obtain⟨b,r,h1,h2,h0,h3,h4,h5,h6,h7,h8,h9⟩:=h
  exact⟨b,r,ef.trans h1,(hb pQ b tX).trans h2,h0,h3,h4,h5,h6,h7,h8,fun i=>V.jw rv hrl _ _ (h9 i)⟩
theorem aJ.mono (ht:Trans φ H w aA H' w'){id:Nat}(ho:H'.o id=H.o id)(ef:aA id=φ id)
 (hb:(H.o id).live=true->∀b,dR (φ id)=some b->w'.heap[b]? =w.heap[b]?) (h:aJ M φ H w id):aJ M aA H' w' id:=aJ.xJ ht.blocks ht.rel ho ef hb h
theorem aq.of (hH:aq M φ H w)(ht:Trans φ H w aA H' w')(T:Nat->Prop)(hT:∀id,T id->aJ M aA H' w' id)
 (hn:∀id, ¬T id->H'.o id=H.o id/\aA id=φ id/\((H.o id).live=true->∀b,dR (φ id)=some b->w'.heap[b]? =w.heap[b]?))
 (ij:∀id, ¬H'.us id->H'.o id= .no)
 (hap:∀i j b,(H'.o i).live=true->(H'.o j).live=true->dR (aA i)=some b->dR (aA j)=some b->i=j)
 (Tn:∀b,cn aA H' b->b<w'.heap.size):aq M aA H' w' where
 ok id:=by
  by_cases hc:T id
  ·exact hT id hc
  ·obtain⟨h1,h2,h3⟩:=hn id hc
   exact(hH.ok id).mono ht h1 h2 h3
 fresh:=ij
 apart:=hap
 ours b hb:=by
  refine⟨fun hM=> ?_,Tn b hb⟩
  rcases ht.grow b hb with h1|h1
  ·exact(hH.ours b h1).1 hM
  ·have:=hH.xg b hM;omega
 xg b hM:=Nat.lt_of_lt_of_le (hH.xg b hM) ht.keep.size
theorem cZ(hk:dD (fun _=>False) w w'){fr:Nat}(cI: ¬H.us fr)(obj:ab)(val:Value)(eP:∀b,dR val=some b->w.heap.size<=b):
 Trans φ H w (aI φ fr val) (H.put [(fr,obj)]) w' where
 keep:=⟨hk.os,hk.tape,hk.output,hk.size,fun k h _=>hk.block k h (fun h=>h)⟩
 grow b:=by
  rintro⟨id,h1,h2⟩
  by_cases au:id=fr
  ·subst au;simp at h2;exact .inr (eP b h2)
  ·simp[au]at h1 h2;exact .inl ⟨id,h1,h2⟩
 rel:={
  us:=fun id h=>by simp[h]
  row:=fun id hu hr=>by
   have au:id≠fr:=fun h=>cI (h ▸ hu)
   simp[au]at hr|-;exact hr
  ep:=fun id e' hu he=>by
   have au:id≠fr:=fun h=>cI (h ▸ hu)
   simp[au]at he|-;exact⟨e',he,Nat.le_refl _⟩}
theorem fW(hH:aq M φ H w)(hk:dD (fun _=>False) w w'){fr:Nat}(cI: ¬H.us fr)(obj:ab)(val:Value)(eP:∀b,dR val=some b->w.heap.size<=b/\b<w'.heap.size)
 (vC:aJ M (aI φ fr val) (H.put [(fr,obj)]) w' fr):aq M (aI φ fr val) (H.put [(fr,obj)]) w':=by
 have ht:Trans φ H w (aI φ fr val) (H.put [(fr,obj)]) w':=cZ hk cI obj val fun b hb=>(eP b hb).1
 refine hH.of ht (· =fr) (fun id h=>h ▸ vC) (fun id h=> ?_) (fun id h=> ?_) (fun i j b hi hj bi bj=> ?_) (fun b=> ?_)
 ·refine⟨by simp[h],by simp[h],fun hl b hb=>hk.block b ?_ (fun h=>h)⟩
  exact(hH.ours b ⟨id,hl,hb⟩).2
 ·rw[dm]at h
  have h1:id≠fr:=fun e=>h (.inr e)
  simp only[bn,aC,h1,if_false]
  exact hH.fresh id fun hu=>h (.inl hu)
 ·by_cases e1:i=fr<;>by_cases e2:j=fr
  ·exact e1.trans e2.symm
  ·simp[e1,e2]at hi hj bi bj
   have:=(hH.ours b ⟨j,hj,bj⟩).2;have:=(eP b bi).1;omega
  ·simp[e1,e2]at hi hj bi bj
   have:=(hH.ours b ⟨i,hi,bi⟩).2;have:=(eP b bj).1;omega
  ·simp[e1,e2]at hi hj bi bj
   exact hH.apart i j b hi hj bi bj
 ·rintro⟨id,h1,h2⟩
  by_cases au:id=fr
  ·subst au;simp at h2;exact(eP b h2).2
  ·simp[au]at h1 h2
   exact Nat.lt_of_lt_of_le (hH.ours b ⟨id,h1,h2⟩).2 hk.size
theorem bL(w:World)(o:Obj):dD (fun _=>False) w (w.alloc o):=
 ⟨rfl,rfl,rfl,aK,fun k hk _=>RowKit.Below.heap_alloc w o k hk⟩
theorem jN{w w':World}(h:w.grownBy w' none):dD (fun _=>False) w w':=
 ⟨h.os,h.tape,h.output,h.size,fun k hk _=>h.block k hk aK⟩
theorem Iq(hH:aq M φ H w){fr:Nat}(cI: ¬H.us fr)(cs:List V)(df:Array Value)(ty:TypeId)(hd:V.az (ai M φ H) φ H w cs df.toList)(hf:Flat df.toList):
 let aA:=aI φ fr (.pointer (some ⟨w.heap.size,0,none⟩));let H':=H.put [(fr, .row cs)];let w':=w.alloc (.cells df ty)
 aq M aA H' w'/\Trans φ H w aA H' w'/\V.den (ai M aA H') aA H' w' (.ptr fr 0) (.pointer (some ⟨w.heap.size,0,none⟩)):=by
 intro aA H' w'
 have hv:∀b,dR (.pointer (some ⟨w.heap.size,0,none⟩))=some b->w.heap.size<=b/\b<w'.heap.size:=by
  intro b hb;simp[dR]at hb;subst hb;simp[w']
 have ht:Trans φ H w aA H' w':=cZ (bL w _) cI _ _ fun b hb=>(hv b hb).1
 refine⟨fW hH (bL w _) cI _ _ hv ?_,ht,rfl,by simp[H'],fun _=>⟨w.heap.size,by simp[aA],rfl⟩⟩
 unfold aJ
 simp only[bn,aC,if_true]
 exact⟨w.heap.size,df,ty,rfl,heap_alloc_new w _,V.aO ht cs _ hd,hf⟩
theorem eE{id:Nat}(ee:H.us id){b:Nat}(cC:(H.o id).live=true)(hb:dR (φ id)=some b)(hk:dD (· =b) w w')(obj:ab)(cy:obj.bM=(H.o id).bM)(ry:obj.bQ=(H.o id).bQ):
 Trans φ H w φ (H.put [(id,obj)]) w' where
 keep:=⟨hk.os,hk.tape,hk.output,hk.size,fun k h hl=>hk.block k h (fun e=>hl ⟨id,cC,e ▸ hb⟩)⟩
 grow b':=by
  rintro⟨j,h1,h2⟩
  by_cases hj:j=id
  ·subst hj;exact .inl ⟨j,cC,h2⟩
  ·simp[hj]at h1;exact .inl ⟨j,h1,h2⟩
 rel:={
  us:=fun j h=>by simp[h]
  row:=fun j hu hr=>by
   by_cases hj:j=id
   ·subst hj;simp at hr;exact⟨cy ▸ hr,rfl⟩
   ·exact Fg
  ep:=fun j e' hu he=>by
   by_cases hj:j=id
   ·subst hj;simp at he;exact⟨e',ry ▸ he,Nat.le_refl _,fun _=>rfl⟩
   ·simp[hj]at he;exact⟨e',he,Nat.le_refl _,fun _=>rfl⟩}
theorem gR(hH:aq M φ H w){id:Nat}(ee:H.us id){b:Nat}(cC:(H.o id).live=true)(hb:dR (φ id)=some b)(hk:dD (· =b) w w')(obj:ab)(cy:obj.bM=(H.o id).bM)
 (ry:obj.bQ=(H.o id).bQ) (vC:aJ M φ (H.put [(id,obj)]) w' id):aq M φ (H.put [(id,obj)]) w':=by
 refine hH.of (eE ee cC hb hk obj cy ry) (· =id) (fun j h=>h ▸ vC) (fun j h=> ?_) (fun j h=> ?_) (fun i j b' hi hj bi bj=> ?_) (fun b'=> ?_)
 ·refine⟨by simp[h],rfl,fun hl b' Fs=>hk.block b' (hH.ours b' ⟨j,hl,Fs⟩).2 fun e=>h ?_⟩
  exact hH.apart j id b hl cC (e ▸ Fs) hb
 ·rw[dm]at h
  have h1:j≠id:=fun e=>h (.inr e)
  exact Nr
 ·refine hH.apart i j b' ?_ ?_ bi bj
  ·by_cases e:i=id
   ·subst e;exact cC
   ·simpa[e]using hi
  ·by_cases e:j=id
   ·subst e;exact cC
   ·simpa[e]using hj
 ·rintro⟨j,h1,h2⟩
  refine Nat.lt_of_lt_of_le (hH.ours b' ⟨j, ?_,h2⟩).2 hk.size
  by_cases e:j=id
  ·subst e;exact cC
  ·simpa[e]using h1
theorem iN(w:World)(b:Nat)(cs:Array Value):dD (· =b) w (w.setRow b cs):=
 ⟨rfl,rfl,rfl,aK,fun k _ hk=>by
  unfold World.setRow
  simp only[Array.getElem?_modify]
  rw[if_neg (fun e=>hk e.symm)]⟩
theorem xK(hH:aq M φ H w){id b:Nat}(ee:H.us id){cs cs':List V}(ho:H.o id= .row cs)(ef:φ id= .pointer (some ⟨b,0,none⟩)){df:Array Value}{ty:TypeId}
 (hb:w.heap[b]? =some (.cells df ty (0,0))) (nC:Array Value) (hd:V.az (ai M φ H) φ H w cs' nC.toList) (hf:Flat nC.toList):
 aq M φ (H.put [(id, .row cs')]) (w.setRow b nC)/\Trans φ H w φ (H.put [(id, .row cs')]) (w.setRow b nC):=by
 have hl:(H.o id).live=true:=by rw[ho];rfl
 have rv:dR (φ id)=some b:=by rw[ef];rfl
 have ht:Trans φ H w φ (H.put [(id, .row cs')]) (w.setRow b nC):=eE ee hl rv (iN w b nC) _ dB dB
 refine⟨gR hH ee hl rv (iN w b nC) _ dB dB ?_,ht⟩
 unfold aJ
 simp only[bn,aC,if_true]
 exact⟨b,nC,ty,ef,setRow_heap w b df nC ty (0,0) hb,V.aO ht cs' _ hd,hf⟩
theorem nD{B:Nat->Prop}{sz g:Nat}(cur:Array Value)(ty:TypeId)(fz:Nat×Nat)(hg:w.heap[g]? =some (.cells cur ty fz))(hB: ¬B g):
 ∀ (es:List D) (evs:List Value) (i:Nat),D.az B w es evs->(∀ev∈evs,ev.cells.size=sz)->(∀j u,(evs.flatMap (·.cells.toList))[j]? =some u->cur[i*sz+j]? =some u)->D.elems B w sz ⟨g,0,none⟩ i es
 |[],_,_,_,_,_=>trivial
 |e::es,_,i,h,hs,hc=>by
  obtain⟨ev,evs,rfl,h1,h2⟩:=h
  have du:ev.cells.size=sz:=hs ev aK
  refine⟨⟨ev,du,fun j u hj=> ?_,h1⟩,nD cur ty fz hg hB es evs (i+1) h2 (fun x hx=>hs x pR) fun j u hj=> ?_⟩
  ·have bR:j<ev.cells.size:=(Array.getElem?_eq_some_iff.1 hj).1
   have:cur[i*sz+j]? =some u:=hc j u (by
    rw[List.flatMap_cons,List.getElem?_append_left (by simpa using bR)];simpa using hj)
   refine⟨?_,by simpa using hB⟩
   unfold Addr.add World.cell?
   by_cases e1:i*sz=0<;>by_cases e2:j=0<;>simp_all
  ·have:=hc (sz+j) u (by
    rw[List.flatMap_cons,List.getElem?_append_right (by simp[du])]
    simpa[du]using hj)
   rw[show(i+1)*sz+j=i*sz+(sz+j) by rw[Nat.add_mul];omega]
   exact this
theorem Ir(hH:aq M φ H w){id ep sz:Nat}{ty:TypeId}{es:List D}(ee:H.us id)(ho:H.o id= .arr ep ty sz es):
 aq M φ (H.put [(id, .qN ep es)]) w/\Trans φ H w φ (H.put [(id, .qN ep es)]) w:=by
 have Dm:∀b,cn φ (H.put [(id, .qN ep es)]) b->cn φ H b:=by
  rintro b ⟨j,h1,h2⟩
  by_cases hj:j=id
  ·subst hj;simp[ab.live]at h1
  ·simp[hj]at h1;exact⟨j,h1,h2⟩
 have ht:Trans φ H w φ (H.put [(id, .qN ep es)]) w:={
  keep:=dD.refl _ _
  grow:=fun b hb=> .inl (Dm b hb)
  rel:={
   us:=fun j h=>by simp[h]
   row:=fun j hu hr=>by
    by_cases hj:j=id
    ·subst hj;simp[ab.bM]at hr
    ·exact Fg
   ep:=fun j e' hu he=>by
    by_cases hj:j=id
    ·subst hj;simp[ab.bQ]at he;subst he;exact⟨ep,by rw[ho];rfl,Nat.le_refl _,fun _=>rfl⟩
    ·simp[hj]at he;exact⟨e',he,Nat.le_refl _,fun _=>rfl⟩}}
 refine⟨hH.of ht (· =id) (fun j h=> ?_) (fun j h=>⟨by simp[h],rfl,fun _ _ _=>rfl⟩) (fun j h=> ?_) (fun i j b hi hj bi bj=> ?_) (fun b hb=>(hH.ours b (Dm b hb)).2),ht⟩
 ·subst h
  have aQ:=hH.ok j
  unfold aJ at aQ|-
  simp only[ho,bn,aC,if_true]at aQ|-
  obtain⟨h0,xs,⟨hl,cy⟩,evs,rfl,h2,h3⟩:=aQ
  have hlen:=D.ax _ _ h3
  rcases cy with⟨h4,h5⟩|⟨g,cap,cur,h4,_,h5,h6,h7,h8,h9⟩
  ·rw[h4]
   have:es=[]:=by simpa using h5
   subst this
   exact Sm
  ·rw[h4]
   refine⟨some ⟨g,0,none⟩,es.length,cap,rfl,rfl,h6,(fun h=>by cases h),sz,fun a ha=> ?_⟩
   injection ha with ha;subst ha
   refine⟨fun _=>rfl,nD cur ty (0,0) h5 ?_ es evs 0 (D.aO (ht.blocks (M:=M)) es evs h3) h2 fun j' u EK=> ?_⟩
   ·rintro(hM|⟨i,Is,To⟩)
    ·exact(hH.ours g ⟨j,by rw[ho];rfl,by rw[h4];rfl⟩).1 hM
    ·by_cases e:i=j
     ·subst e;simp[ab.live]at Is
     ·simp[e]at Is
      exact e (hH.apart i j g Is dB To (by rw[h4];rfl))
   ·rw[<- h9]at EK
    simp only[Nat.zero_mul,Nat.zero_add]
    rw[List.getElem?_take]at EK
    split at EK
    ·simpa using EK
    ·cases EK
 ·rw[dm]at h
  have h1:j≠id:=fun e=>h (.inr e)
  exact Nr
 ·by_cases e1:i=id
  ·subst e1;simp[ab.live]at hi
  ·by_cases e2:j=id
   ·subst e2;simp[ab.live]at hj
   ·simp[e1,e2]at hi hj;exact hH.apart i j b hi hj bi bj
theorem B0(hH:aq M φ H w){id:Nat}{kt vt:TypeId}{l:List (D×D)}(ee:H.us id)(ho:H.o id= .map kt vt l):
 aq M φ (H.put [(id, .cM l)]) w/\Trans φ H w φ (H.put [(id, .cM l)]) w:=by
 have Dm:∀b,cn φ (H.put [(id, .cM l)]) b->cn φ H b:=by
  rintro b ⟨j,h1,h2⟩
  by_cases hj:j=id
  ·subst hj;simp[ab.live]at h1
  ·simp[hj]at h1;exact⟨j,h1,h2⟩
 have ht:Trans φ H w φ (H.put [(id, .cM l)]) w:={
  keep:=dD.refl _ _
  grow:=fun b hb=> .inl (Dm b hb)
  rel:={
   us:=fun j h=>by simp[h]
   row:=fun j hu hr=>by
    by_cases hj:j=id
    ·subst hj;exact⟨by rw[ho];rfl,rfl⟩
    ·exact Fg
   ep:=fun j e' hu he=>by
    by_cases hj:j=id
    ·subst hj;simp[ab.bQ]at he
    ·simp[hj]at he;exact⟨e',he,Nat.le_refl _,fun _=>rfl⟩}}
 refine⟨hH.of ht (· =id) (fun j h=> ?_) (fun j h=>⟨by simp[h],rfl,fun _ _ _=>rfl⟩) (fun j h=> ?_) (fun i j b hi hj bi bj=> ?_) (fun b hb=>(hH.ours b (Dm b hb)).2),ht⟩
 ·subst h
  have aQ:=hH.ok j
  unfold aJ at aQ|-
  simp only[ho,bn,aC,if_true]at aQ|-
  obtain⟨b,es,clock,h1,h2,h3,h4⟩:=aQ
  refine⟨b,es,clock,h1,h2, ?_,h3,aB.mono (ht.blocks (M:=M)) _ _ h4⟩
  rintro(hM|⟨i,Is,To⟩)
  ·exact(hH.ours b ⟨j,by rw[ho];rfl,by rw[h1];rfl⟩).1 hM
  ·by_cases e:i=j
   ·subst e;simp[ab.live]at Is
   ·simp[e]at Is
    exact e (hH.apart i j b Is dB To tX)
 ·rw[dm]at h
  have h1:j≠id:=fun e=>h (.inr e)
  exact Nr
 ·by_cases e1:i=id
  ·subst e1;simp[ab.live]at hi
  ·by_cases e2:j=id
   ·subst e2;simp[ab.live]at hj
   ·simp[e1,e2]at hi hj;exact hH.apart i j b hi hj bi bj
end
end
section
def b9(M:Nat->Prop)(φ:Place)(H:Hp)(w:World)(fr:Nat)(r:Result Next)(K:V->List (Nat×ab)->List Nat->Prop):Prop:=
 ∃nx val w' aA v Δ rd,K v Δ rd/\r= .ok nx w'/\(nx= .value val\/nx= .skip/\val=undef)/\aq M aA (H.put Δ) w'/\Trans φ H w aA (H.put Δ) w'/\
  V.den (ai M aA (H.put Δ)) aA (H.put Δ) w' v val/\(∀id∈Δ.map (·.1),H.us id\/id=fr)
section
variable {P:Program}{M:Nat->Prop}{φ:Place}{H:Hp}{w:World}{fr:Nat}{K:V->List (Nat×ab)->List Nat->Prop}
theorem b9.same (hH:aq M φ H w){r:Result Next}{v:V}{rd:List Nat}(val:Value)(hK:K v [] rd)(hr:r= .ok (.value val) w)(hd:V.den (ai M φ H) φ H w v val):b9 M φ H w fr r K:=
 ⟨_,val,w,φ,v,[],rd,hK,hr, .inl rfl,by rw[lP];exact hH,by rw[lP];exact Trans.refl _ _ _,by rw[lP];exact hd,aK⟩
theorem b9.mono {r:Result Next}{K':V->List (Nat×ab)->List Nat->Prop}(h:b9 M φ H w fr r K)(hk:∀v Δ rd,K v Δ rd->K' v Δ rd):b9 M φ H w fr r K':=by
 obtain⟨nx,val,w',aA,v,Δ,rd,h1,h2⟩:=h
 exact⟨nx,val,w',aA,v,Δ,rd,hk _ _ _ h1,h2⟩
theorem info_of_underlying{t:TypeId}{d:TypeDesc}(h:P.underlying t=some d):∃i,P.info? t=some i:=by
 unfold Program.underlying at h
 cases hi:P.info? t with
 |none=>simp[hi]at h
 |some i=>exact⟨i,rfl⟩
theorem bz{t:TypeId}{i:TypeInfo}(h:P.info? t=some i):P.cellsOf t=i.size:=by simp[Program.cellsOf,h]
theorem jO{t:TypeId}{i:TypeInfo}(h:P.info? t=some i):P.bytesOf t=i.bytes:=by simp[Program.bytesOf,h]
theorem ik{t:TypeId}{z:List V}(h:cJ P t=some z):∃i v,P.info? t=some i/\i.zero=some v/\v.cells.size=i.size/\Flat v.cells.toList/\z=v.cells.toList.map V.cO:=by
 unfold cJ at h
 cases hi:P.info? t with
 |none=>simp[hi]at h
 |some i=>
  simp only[hi]at h
  cases hz:i.zero with
  |none=>simp[hz]at h
  |some v=>
   simp only[hz]at h
   split at h
   ·rename_i hc
    injection h with h
    exact⟨i,v,rfl,hz,hc.1,fun u hu=>List.all_eq_true.1 hc.2 u hu,h.symm⟩
   ·cases h
theorem pb{t:TypeId}(h:c7 P t=some true)(w:World):(isAgg t).run P w= .ok true w:=by
 unfold c7 at h
 unfold isAgg
 cases hd:P.underlying t with
 |none=>simp[hd]at h
 |some d=>cases d<;>simp_all[run_underlying hd]
theorem mK{t:TypeId}(h:c7 P t=some false)(w:World):(isAgg t).run P w= .ok false w:=by
 unfold c7 at h
 unfold isAgg
 cases hd:P.underlying t with
 |none=>simp[hd]at h
 |some d=>cases d<;>simp_all[run_underlying hd]
theorem c0{t:TypeId}{i:TypeInfo}(h:P.info? t=some i)(w:World):(sizeOf t).run P w= .ok (P.cellsOf t) w:=by
 simp[sizeOf,typeInfo,h,bz h]
theorem pc{t:TypeId}{b:Bool}(h:c7 P t=some b):∃i,P.info? t=some i:=by
 unfold c7 at h
 cases hd:P.underlying t with
 |none=>simp[hd]at h
 |some d=>exact info_of_underlying hd
theorem aW{t e:TypeId}(h:bN P t=some e):P.underlying t=some (.slice e):=by
 unfold bN at h
 cases hd:P.underlying t with
 |none=>simp[hd]at h
 |some d=>cases d<;>simp_all
theorem ui{t e:TypeId}{n:Nat}(h:xD P t=some (n,e)):P.underlying t=some (.array n e):=by
 unfold xD at h
 cases hd:P.underlying t with
 |none=>simp[hd]at h
 |some d=>cases d<;>simp_all
theorem add_zero(a:Addr):a.add 0=a:=by simp[Addr.add]
theorem add_plain(b o j:Nat):(⟨b,o,none⟩:Addr).add j=⟨b,o+j,none⟩:=by
 unfold Addr.add;split
 ·rename_i h;subst h;rfl
 ·rfl
theorem add_add(a:Addr)(h:a.spot=none)(m n:Nat):(a.add m).add n=a.add (m+n):=by
 obtain⟨b,o,s⟩:=a
 simp only at h;subst h
 simp only[add_plain,Nat.add_assoc]
theorem xL(a:Addr)(h:a.spot=none)(m:Nat):(a.add m).spot=none:=by
 unfold Addr.add;split<;>first|exact h|rfl
theorem kK(s:S)(a:Act)(dw:∀i,V.den (ai M φ H) φ H w (s.env i) (a.tmps.getD i undef))(x:Operand):V.den (ai M φ H) φ H w (s.ev x) (a.eval x):=by
 cases x with
 |tmp t=>exact dw t
 |func f=>exact⟨#[],#[],rfl,rfl,rfl⟩
 |global g=>trivial
 |const v=>
  cases v with
  |agg c=>
   simp only[S.ev,V.ofConst,Act.eval]
   split
   ·rename_i hc
    have hf:Flat c.toList:=fun u hu=>List.all_eq_true.1 hc u hu
    exact jA _ _ (cY _ hf) hf
   ·trivial
  |tuple _=>trivial
  |_=>simp only[S.ev,V.ofConst,Act.eval];exact jM _ (by rfl)
theorem iO(s:S)(a:Act)(dw:∀i,V.den (ai M φ H) φ H w (s.env i) (a.tmps.getD i undef)):∀ (xs:List Operand),V.az (ai M φ H) φ H w (xs.map s.ev) (xs.map a.eval)
 |[]=>rfl
 |x::xs=>⟨a.eval x,xs.map a.eval,rfl,kK s a dw x,iO s a dw xs⟩
theorem kL{t:TypeId}(a:Addr)(us:List Value)(hc:∀j u,us[j]? =some u->w.cell? (a.add j)=some u):
 (c7 P t=some true->us.length=P.cellsOf t->(Instr.loadAt t (.pointer (some a))).run P w= .ok (.agg us.toArray) w)/\
 (c7 P t=some false->∀u,us[0]? =some u->(Instr.loadAt t (.pointer (some a))).run P w= .ok u w):=by
 constructor
 ·intro h hl
  obtain⟨i,hi⟩:=pc h
  have h1:=run_loadCells_list (P:=P) w a us hc
  rw[hl]at h1
  simp[Instr.loadAt,Instr.sureAddr,loadVar,pb h,c0 hi,h1]
 ·intro h u hu
  have h1:=hc 0 u hu
  rw[add_zero]at h1
  simp[Instr.loadAt,Instr.sureAddr,loadVar,mK h,h1]
theorem nE{t:TypeId}{cs:List V}{off:Nat}{v:V}(hg:dM P t cs off=some v)(a:Addr)(vs:List Value)(hd:V.az (ai M φ H) φ H w cs vs)(hf:Flat vs)
 (hc:∀j u,vs[j]? =some u->w.cell? (a.add j)=some u) (ha:a.spot=none):∃val,(Instr.loadAt t (.pointer (some (a.add off)))).run P w= .ok val w/\V.den (ai M φ H) φ H w v val:=by
 have hlen:=V.ax _ _ hd
 unfold dM at hg
 cases Am:c7 P t with
 |none=>simp[Am]at hg
 |some b=>
  cases b with
  |true=>
   simp only[Am]at hg
   split at hg
   ·rename_i hle
    injection hg with hg;subst hg
    refine⟨.agg ((vs.drop off).take (P.cellsOf t)).toArray,(kL (P:=P) (t:=t) (a.add off) ((vs.drop off).take (P.cellsOf t)) ?_).1 Am tZ, ?_⟩
    ·intro j u hj
     rw[add_add a ha]
     rw[List.getElem?_take]at hj
     split at hj
     ·exact hc _ _ kF
     ·cases hj
    ·refine jA _ _ ?_ ?_
     ·exact V.cg _ _ _ (V.dz _ _ _ hd)
     ·intro u hu
      exact hf u (List.mem_of_mem_drop (List.mem_of_mem_take (by simpa using hu)))
   ·cases hg
  |false=>
   simp only[Am]at hg
   obtain⟨u,hu,It⟩:=V.cN _ _ _ _ hd hg
   refine⟨u,(kL (P:=P) (t:=t) (a.add off) (vs.drop off) ?_).2 Am u (by simpa using hu),It⟩
   intro j x hj
   rw[add_add a ha]
   exact hc _ _ kF
theorem kM(sz:Nat):∀ (evs:List Value) (i j:Nat) (ev:Value) (u:Value),(∀x∈evs,x.cells.size=sz)->evs[i]? =some ev->ev.cells[j]? =some u->
 (evs.flatMap (·.cells.toList))[i*sz+j]? =some u
 |[],_,_,_,_,_,h,_=>by simp at h
 |e::evs,0,j,ev,u,hs,h,hu=>by
  simp at h;subst h
  have:j<e.cells.size:=(Array.getElem?_eq_some_iff.1 hu).1
  rw[List.flatMap_cons,List.getElem?_append_left (by simp;omega)]
  simpa using hu
 |e::evs,i+1,j,ev,u,hs,h,hu=>by
  have ih:=kM sz evs i j ev u (fun x hx=>hs x pR) (by simpa using h) hu
  rw[List.flatMap_cons,List.getElem?_append_right (by simp[hs e (by simp),Nat.add_mul];omega)]
  simp only[Array.length_toList,hs e (by simp)]
  rw[show(i+1)*sz+j - sz=i*sz+j by rw[Nat.add_mul];omega]
  exact ih
theorem nF{g:Nat}{df:Array Value}{ty:TypeId}{fz:Nat×Nat}(h:w.heap[g]? =some (.cells df ty fz))(j:Nat)(u:Value)(hu:df[j]? =some u):w.cell? ((⟨g,0,none⟩:Addr).add j)=some u:=by
 rw[add_plain,Nat.zero_add,cell_of_row w g j df ty fz h];exact hu
theorem Ft{B:Nat->Prop}{ty:TypeId}{sz:Nat}{es:List D}{v:Value}{b n c i:Nat}{e:D}
 (aQ:0<sz/\∃xs,w.ownsRow 0 ty sz v es.length xs/\dL B w sz es xs) (hv:v= .slice (some ⟨b,0,none⟩) n c) (he:es[i]? =some e):
 ∃ev:Value,ev.cells.size=sz/\D.az B w e.cells ev.cells.toList/\Flat ev.cells.toList/\(∀j u,ev.cells.toList[j]? =some u->w.cell? ((⟨b,i*sz,none⟩:Addr).add j)=some u):=by
 obtain⟨h0,xs,⟨hl,cy⟩,evs,rfl,h2,h3⟩:=aQ
 obtain⟨ev,cP,hd⟩:=D.cN _ _ _ _ h3 he
 have Nw:=D.dV _ _ hd
 refine⟨ev,h2 ev (List.mem_of_getElem? cP),Nw.1,Nw.2,fun j u hj=> ?_⟩
 subst hv
 rcases cy with⟨h4,_⟩|⟨g,cap,cur,h4,_,h5,h6,h7,h8,h9⟩
 ·simp at h4
 ·simp at h4;obtain⟨rfl,_,rfl⟩:=h4
  have:=kM sz evs i j ev u h2 cP kF
  rw[<- h9,List.getElem?_take]at this
  split at this
  ·have KR:=nF h5 (i*sz+j) u (by simpa using this)
   rw[add_plain]at KR|-
   simpa using KR
  ·cases this
theorem Fu(hH:aq M φ H w){t:TypeId}{x:V}{xv:Value}(hx:V.den (ai M φ H) φ H w x xv)
 (h:xF P H.o t x fun v rd=>K v [] rd):b9 M φ H w fr ((do let y <- Instr.loadAt t xv;pure (Next.value y):Sem Next).run P w) K:=by
 have fin:∀ (v:V) rd,K v [] rd->(∃val,(Instr.loadAt t xv).run P w= .ok val w/\V.den (ai M φ H) φ H w v val)->b9 M φ H w fr ((do let y <- Instr.loadAt t xv;pure (Next.value y):Sem Next).run P w) K:=by
  rintro v rd hK ⟨val,h1,h2⟩
  exact b9.same hH val hK (by simp[h1]) h2
 unfold xF at h
 split at h
 ·rename_i id off
  split at h
  ·rename_i cs ho
   obtain⟨v,h1,hK⟩:=h
   obtain⟨_,hu,hp⟩:=hx
   obtain⟨b,ef,rfl⟩:=hp dB
   have aQ:=hH.ok id
   simp only[aJ,ho]at aQ
   obtain⟨b',df,ty,g1,g2,g3,g4⟩:=aQ
   rw[ef]at g1;simp at g1;subst g1
   refine fin v _ hK ?_
   have:=nE (P:=P) h1 ⟨b,0,none⟩ df.toList g3 g4 (fun j u hj=>nF g2 j u kF) rfl
   rwa [add_plain,Nat.zero_add]at this
  ·exact h.elim
 ·rename_i cs off
  obtain⟨v,h1,hK⟩:=h
  obtain⟨a,ev,ha,rfl,hd,hf,hc⟩:=hx
  exact fin v _ hK (nE h1 a ev ((V.bW _ _).2 hd) hf (fun j u hj=>(hc j u kF).1) ha)
 ·rename_i id ep i sz off
  split at h
  ·rename_i fU ty oP es ho
   obtain⟨rfl,rfl,e,he,v,h1,hK⟩:=h
   obtain⟨_,hu,hp⟩:=hx
   obtain⟨b,n,c,ef,rfl⟩:=(hp ep dB).2 rfl
   have aQ:=hH.ok id
   simp only[aJ,ho]at aQ
   obtain⟨ev,g1,g2,g3,g4⟩:=Ft aQ ef he
   refine fin v _ hK ?_
   have:=nE (P:=P) h1 ⟨b,i*sz,none⟩ ev.cells.toList ((V.bW _ _).2 g2) g3 g4 rfl
   rwa [add_plain]at this
  ·exact h.elim
 ·exact h.elim
end
end
section
section
variable {P:Program}{M:Nat->Prop}{φ:Place}{H:Hp}{w:World}{fr:Nat}{K:V->List (Nat×ab)->List Nat->Prop}
theorem b9.plain (hH:aq M φ H w){s:Sem Value}{v:V}{rd:List Nat}(val:Value)(hK:K v [] rd)(hr:s.run P w= .ok val w)(hd:V.den (ai M φ H) φ H w v val):
 b9 M φ H w fr ((do let y <- s;pure (Next.value y):Sem Next).run P w) K:=b9.same hH val hK (by simp[hr]) hd
theorem xM{t:TypeId}{f q:Nat}(h:bV P t f=some q):∃fs fd,P.underlying t=some (.struct fs)/\fs[f]? =some fd/\P.cellsOf fd.type≠0/\fd.offset=q:=by
 unfold bV at h
 cases hd:P.underlying t with
 |none=>simp[hd]at h
 |some d=>
  cases d<;>simp only[hd]at h<;>try (cases h;done)
  rename_i fs
  cases hf:fs[f]? with
  |none=>simp[hf]at h
  |some fd=>
   simp only[hf]at h
   split at h
   ·cases h
   ·injection h with h
    exact⟨fs,fd,rfl,hf,by assumption,h⟩
theorem xN{t:TypeId}{f q:Nat}(h:bV P t f=some q)(a:Addr):(Instr.fieldAt t (.pointer (some a)) f).run P w= .ok (.pointer (some (a.add q))) w:=by
 obtain⟨fs,fd,h1,h2,h3,rfl⟩:=xM h
 have:∃i,P.info? fd.type=some i:=by
  cases hi:P.info? fd.type with
  |none=>simp[Program.cellsOf,hi]at h3
  |some i=>exact⟨i,rfl⟩
 obtain⟨i,hi⟩:=this
 simp[Instr.fieldAt,run_underlying h1,h2,Instr.sureAddr,fieldPlace,c0 hi,h3]
def V.step (x:V)(q:Nat):Option V:=
 match x with
 | .ptr id off=>some (.ptr id (off+q))
 | .pp cs off=>some (.pp cs (off+q))
 | .pe id ep j sz off=>some (.pe id ep j sz (off+q))
 |_=>none
def V.place (o:Nat->ab):V->Prop
 | .ptr id _=>(o id).bM=true
 | .pe id ep _ _ _=>(o id).bQ=some ep
 |_=>True
theorem xO{x y:V}{q:Nat}(h:x.step q=some y){xv:Value}(hx:V.den (ai M φ H) φ H w x xv)
 (hr:x.place H.o):
 ∃a,xv= .pointer (some a)/\V.den (ai M φ H) φ H w y (.pointer (some (a.add q))):=by
 cases x with
 |ptr id off=>
  simp only[V.step,Option.some.injEq]at h;subst h
  obtain⟨h1,h2,h3⟩:=hx
  obtain⟨b,h4,rfl⟩:=h3 hr
  exact⟨_,rfl,rfl,h2,fun _=>⟨b,h4,by rw[add_plain]⟩⟩
 |pp cs off=>
  simp only[V.step,Option.some.injEq]at h;subst h
  obtain⟨a,ev,ha,rfl,hd⟩:=hx
  exact⟨_,rfl,a,ev,ha,by rw[add_add a ha],hd⟩
 |pe id ep j sz off=>
  simp only[V.step,Option.some.injEq]at h;subst h
  obtain⟨h1,h2,h3⟩:=hx
  obtain⟨b,n,c,h4,rfl⟩:=(h3 ep hr).2 rfl
  refine⟨_,rfl,rfl,h2,fun e he=>⟨(h3 e he).1,fun heq=>⟨b,n,c,h4,by rw[add_plain,Nat.add_assoc]⟩⟩⟩
 |_=>simp[V.step]at h
theorem tD(hH:aq M φ H w){t:TypeId}{f:Nat}{x:V}{xv:Value}(hx:V.den (ai M φ H) φ H w x xv)(h:hZ P H.o t x f fun v=>K v [] []):
 b9 M φ H w fr ((do let y <- Instr.fieldAt t xv f;pure (Next.value y):Sem Next).run P w) K:=by
 have fin:∀ (y:V) q,bV P t f=some q->x.step q=some y->x.place H.o->K y [] []->
  b9 M φ H w fr ((do let y <- Instr.fieldAt t xv f;pure (Next.value y):Sem Next).run P w) K:=by
  intro y q hq hs hr hK
  obtain⟨a,rfl,hd⟩:=xO hs hx hr
  exact b9.plain hH _ hK (xN hq a) hd
 unfold hZ at h
 split at h
 ·rename_i q hq
  split at h
  ·exact fin _ q hq rfl h.1 h.2
  ·exact fin _ q hq rfl trivial h
  ·exact fin _ q hq rfl h.1 h.2
  ·exact h.elim
 ·exact h.elim
theorem An{B:Nat->Prop}{es:List D}{xv:Value}(hx:D.den B w (.sl es) xv){i:Nat}{y:D}(hy:es[i]? =some y):
 ∃a len cap ev,xv= .slice (some a) len cap/\i<len/\a.spot=none/\D.az B w y.cells ev/\Flat ev/\eW B w (a.add (i*y.cells.length)) ev.toArray/\len=es.length:=by
 obtain⟨base,len,cap,rfl,rfl,h2,h3,sz,h4⟩:=hx
 have bR:i<es.length:=(List.getElem?_eq_some_iff.1 hy).1
 cases base with
 |none=>have:=h3 rfl;omega
 |some a=>
  obtain⟨h5,h6⟩:=h4 a rfl
  obtain⟨ev,h7,h8,h9⟩:=D.ud es 0 i y h6 hy
  have KR:=D.dV _ _ h9
  have h11:y.cells.length=sz:=by rw[<- h7, <- D.ax _ _ KR.1];simp
  refine⟨a,es.length,cap,ev.cells.toList,rfl,bR,h5 af,KR.1,KR.2, ?_,rfl⟩
  rw[h11]
  simpa using h8
theorem mz{t e:TypeId}(ht:bN P t=some e)(a:Addr)(len cap:Nat)(k:IntKind)(i:Int)(h0:0<=i)(h1:i.toNat<len)(hc:0<P.cellsOf e):
 (Instr.indexAt t (.slice (some a) len cap) (.int k i)).run P w= .ok (.pointer (some (a.add (i.toNat*P.cellsOf e)))) w:=by
 have hu:=aW ht
 have:∃ie,P.info? e=some ie:=by
  cases hi:P.info? e with
  |none=>simp[Program.cellsOf,hi]at hc
  |some i=>exact⟨i,rfl⟩
 obtain⟨ie,hi⟩:=this
 have h2:0<=i/\i<(len:Int):=⟨h0,af⟩
 simp[Instr.indexAt,run_underlying hu,asIntOf,h2,c0 hi]
theorem tE{t e:TypeId}{n:Nat}(ht:xD P t=some (n,e))(a:Addr)(k:IntKind)(i:Int)(h0:0<=i)(h1:i<n)(hi:∃ie,P.info? e=some ie):
 (Instr.indexAt t (.pointer (some a)) (.int k i)).run P w= .ok (.pointer (some (a.add (i.toNat*P.cellsOf e)))) w:=by
 have hu:=ui ht
 obtain⟨ie,hi⟩:=hi
 have h2:0<=i/\i<(n:Int):=⟨h0,h1⟩
 simp[Instr.indexAt,run_underlying hu,asIntOf,Instr.sureAddr,h2,c0 hi]
theorem tF(hH:aq M φ H w){t:TypeId}{x ix:V}{xv iv:Value}(hx:V.den (ai M φ H) φ H w x xv)(hi:V.den (ai M φ H) φ H w ix iv)
 (h:hY P H.o t x ix fun v rd=>K v [] rd):b9 M φ H w fr ((do let y <- Instr.indexAt t xv iv;pure (Next.value y):Sem Next).run P w) K:=by
 unfold hY at h
 split at h
 ·rename_i k i
  simp only[V.den,D.den]at hi;subst hi
  have vE:∀ {e:TypeId} {es:List D} {rd},bN P t=some e->D.den (ai M φ H) w (.sl es) xv->(0<=i/\∃y,es[i.toNat]? =some y/\y.cells.length=P.cellsOf e/\0<P.cellsOf e/\K (.pp y.cells 0) [] rd)->
   b9 M φ H w fr ((do let y <- Instr.indexAt t xv (.int k i);pure (Next.value y):Sem Next).run P w) K:=by
   rintro e es rd ht hd ⟨h0,y,hy,hc,eF,hK⟩
   obtain⟨a,len,cap,ev,rfl,h1,h2,h3,h4,h5,_⟩:=An hd hy
   refine b9.plain hH _ hK (mz ht a len cap k i h0 h1 eF) ⟨a.add (i.toNat*P.cellsOf e),ev,xL a h2 _,by rw[add_zero],h3,h4, ?_⟩
   rw[<- hc];exact h5
  split at h
  ·rename_i e ht
   split at h
   ·exact vE ht hx h
   ·exact vE ht hx.1 h
   ·rename_i id ep
    split at h
    ·rename_i fU ty sz es ho
     obtain⟨rfl,h0,h1,rfl,eF,hK⟩:=h
     obtain⟨Iu,ee,ry⟩:=hx
     have hv:=(ry ep dB).2 rfl
     have aQ:=hH.ok id
     simp only[aJ,ho]at aQ
     obtain⟨h3,xs,⟨_,cy⟩,_⟩:=aQ
     rcases cy with⟨_,h5⟩|⟨g,cap,cur,h4,_⟩
     ·omega
     ·subst hv
      rw[h4]
      refine b9.plain hH _ hK (mz ht _ _ cap k i h0 h1 eF) ⟨rfl,ee,fun e' ni=>⟨(ry e' ni).1,fun heq=>⟨g,es.length,cap,h4,by rw[add_plain];simp⟩⟩⟩
    ·rename_i fU es ho
     obtain⟨rfl,h⟩:=h
     obtain⟨Iu,ee,ry⟩:=hx
     have hv:=(ry ep dB).2 rfl
     have aQ:=hH.ok id
     simp only[aJ,ho]at aQ
     exact vE ht (hv ▸ aQ) h
    ·exact h.elim
   ·exact h.elim
  ·split at h
   ·rename_i n e ht
    obtain⟨h0,h1,YA,h⟩:=h
    have fin:∀ (y:V),x.step (i.toNat*P.cellsOf e)=some y->x.place H.o->K y [] []->
     b9 M φ H w fr ((do let y <- Instr.indexAt t xv (.int k i);pure (Next.value y):Sem Next).run P w) K:=by
     intro y hs hr hK
     obtain⟨a,rfl,hd⟩:=xO hs hx hr
     refine b9.plain hH _ hK (tE ht a k i h0 h1 (Option.isSome_iff_exists.1 YA)) hd
    split at h
    ·exact fin _ rfl h.1 h.2
    ·exact fin _ rfl trivial h
    ·exact fin _ rfl h.1 h.2
    ·exact h.elim
   ·exact h.elim
 ·exact h.elim
theorem Nx(hH:aq M φ H w){op:UnOp}{x:V}{xv:Value}(hx:V.den (ai M φ H) φ H w x xv)(h:Tl op x fun v=>K v [] []):
 b9 M φ H w fr ((do let y <- Op.unary op xv;pure (Next.value y):Sem Next).run P w) K:=by
 unfold Tl at h
 split at h
 ·simp only[V.den,D.den]at hx;subst hx
  exact b9.plain hH _ h (by simp[Op.unary,Op.intArith]) rfl
 ·simp only[V.den,D.den]at hx;subst hx
  exact b9.plain hH _ h (by simp[Op.unary]) rfl
 ·exact h.elim
theorem xy{op:BinOp}{k:IntKind}{a b r:Int}(h:rn op k a b=some r):(Op.intBits op k a b).run P w= .ok (.int k r) w:=by
 unfold rn at h
 cases op<;>simp at h<;>subst h<;>simp[Op.intBits]
theorem pU{t:TypeId}(hu:P.underlying t=some .bool)(a b:Bool)(d:Nat):(Op.equalIn (d+1) t (.bool a) (.bool b)).run P w= .ok (a==b) w:=by
 simp[Op.equalIn,run_underlying hu]
theorem Iv(hH:aq M φ H w){op:BinOp}{t:TypeId}{p q:Operand}{x y:V}{xv yv:Value}(hx:V.den (ai M φ H) φ H w x xv)(hy:V.den (ai M φ H) φ H w y yv)
 (h:Fm P op t x y fun v=>K v [] []):
 b9 M φ H w fr ((do let y <- (do eqGuard op t p q xv yv;binOp op t xv yv);pure (Next.value y):Sem Next).run P w) K:=by
 unfold Fm at h
 split at h
 ·rename_i k a k' b
  obtain⟨rfl,h⟩:=h
  simp only[V.den,D.den]at hx hy;subst hx;subst hy
  have hg:(eqGuard op t p q (.int k a) (.int k b)).run P w= .ok () w:=by
   exact Ff
  have fin:∀ (v:V) (val:Value),K v [] []->(binOp op t (.int k a) (.int k b)).run P w= .ok val w->V.den (ai M φ H) φ H w v val->
   b9 M φ H w fr ((do let y <- (do eqGuard op t p q (.int k a) (.int k b);binOp op t (.int k a) (.int k b));pure (Next.value y):Sem Next).run P w) K:=by
   intro v val hK hr hd
   exact b9.plain hH val hK (by simp[hg,hr]) hd
  cases op<;>simp only[Im]at h
  case add=>exact fin _ _ h (by simp[binOp,Op.intArith]) rfl
  case sub=>exact fin _ _ h (by simp[binOp,Op.intArith]) rfl
  case mul=>exact fin _ _ h (by simp[binOp,Op.intArith]) rfl
  case quo=>exact fin _ _ h.2 (by simp[binOp,Op.intDiv,h.1]) rfl
  case rem=>exact fin _ _ h.2 (by simp[binOp,Op.intDiv,h.1]) rfl
  case and=>obtain⟨r,hr,hK⟩:=h;exact fin _ _ hK BN rfl
  case or=>obtain⟨r,hr,hK⟩:=h;exact fin _ _ hK BN rfl
  case xor=>obtain⟨r,hr,hK⟩:=h;exact fin _ _ hK BN rfl
  case andNot=>obtain⟨r,hr,hK⟩:=h;exact fin _ _ hK BN rfl
  all_goals
   obtain⟨r,hr,hK⟩:=h
   simp only[Tk,Option.some.injEq]at hr
   subst hr
   exact fin _ _ hK (by simp[binOp,Op.intCmp];rfl) (by simp[V.den,D.den])
 ·rename_i a b
  simp only[V.den,D.den]at hx hy;subst hx;subst hy
  have hg:(eqGuard op t p q (.bool a) (.bool b)).run P w= .ok () w:=by
   exact Ff
  split at h
  ·obtain⟨hu,hK⟩:=h
   have h1:(Op.equal t (.bool a) (.bool b)).run P w= .ok (a==b) w:=pU hu a b 9999
   exact b9.plain hH (.bool (a==b)) hK (by simp[hg,binOp,h1]) rfl
  ·obtain⟨hu,hK⟩:=h
   have h1:(Op.equal t (.bool a) (.bool b)).run P w= .ok (a==b) w:=pU hu a b 9999
   exact b9.plain hH (.bool (a !=b)) hK (by simp[hg,binOp,h1,bne]) rfl
  ·exact h.elim
 ·rename_i a b
  obtain⟨u,rfl,rfl⟩:=hx
  obtain⟨v,rfl,rfl⟩:=hy
  have hg:(eqGuard op t p q (.string u) (.string v)).run P w= .ok () w:=by
   exact Ff
  split at h
  ·exact b9.plain hH (.bool (u.data.toList==v.data.toList)) h (by simp[hg,binOp,Op.stringOp,ByteArray.toList_eq]) rfl
  ·exact b9.plain hH (.bool (u.data.toList !=v.data.toList)) h (by simp[hg,binOp,Op.stringOp,ByteArray.toList_eq,bne]) rfl
  ·exact h.elim
 ·rename_i a b
  obtain⟨a',rfl,hx⟩:=hx
  obtain⟨b',rfl,hy⟩:=hy
  split at h
  ·obtain⟨r,hr,hK⟩:=h
   obtain⟨h1,h2⟩:=hr (ai M φ H) w (.agg a') (.agg b') ⟨a',rfl,hx⟩ ⟨b',rfl,hy⟩
   exact b9.plain hH (.bool r) hK (by simp[h2,binOp,h1]) rfl
  ·obtain⟨r,hr,hK⟩:=h
   obtain⟨h1,h2⟩:=hr (ai M φ H) w (.agg a') (.agg b') ⟨a',rfl,hx⟩ ⟨b',rfl,hy⟩
   exact b9.plain hH (.bool !r) hK (by simp[h2,binOp,h1]) rfl
  ·exact h.elim
 ·exact h.elim
theorem Fv(hH:aq M φ H w){c a b:V}{cv av bv:Value}(hc:V.den (ai M φ H) φ H w c cv)(ha:V.den (ai M φ H) φ H w a av)(hb:V.den (ai M φ H) φ H w b bv)
 (h:xE c a b fun v=>K v [] []):b9 M φ H w fr ((do pure (.value (if <- asBool cv then av else bv)):Sem Next).run P w) K:=by
 unfold xE at h
 split at h
 ·rename_i t
  simp only[V.den,D.den]at hc;subst hc
  have hr:((do pure (.value (if <- asBool (.bool t)then av else bv)):Sem Next).run P w)= .ok (.value (if t then av else bv)) w:=by simp[asBool]
  have fin:∀v,K v [] []->V.den (ai M φ H) φ H w v (if t then av else bv)->b9 M φ H w fr ((do pure (.value (if <- asBool (.bool t)then av else bv)):Sem Next).run P w) K:=
   fun v hK hd=>b9.same hH _ hK hr hd
  cases t
  ·exact fin _ (h.2 rfl) (by simpa using hb)
  ·exact fin _ (h.1 rfl) (by simpa using ha)
 ·exact h.elim
theorem qO{t:TypeId}{e:TypeId}(hu:P.underlying t=some (.slice e))(base:Option Addr)(n c:Nat)(ty:TypeId):(Builtin.len_ #[t] ty #[.slice base n c]).run P w= .ok (goInt n) w:=by
 simp[Builtin.len_,run_underlying hu]
theorem Iw(hH:aq M φ H w){t ty:TypeId}{x:V}{xv:Value}(hx:V.den (ai M φ H) φ H w x xv)(h:Fo P t H.o x fun v rd=>K v [] rd):
 b9 M φ H w fr ((do let y <- Builtin.len_ #[t] ty #[xv];pure (Next.value y):Sem Next).run P w) K:=by
 unfold Fo at h
 split at h
 ·rename_i e hu
  have fin:∀ {es:List D} {rd},D.den (ai M φ H) w (.sl es) xv->K (.d (.int .i64 es.length)) [] rd->b9 M φ H w fr ((do let y <- Builtin.len_ #[t] ty #[xv];pure (Next.value y):Sem Next).run P w) K:=by
   rintro es rd ⟨base,len,cap,rfl,rfl,_⟩ hK
   exact b9.plain hH _ hK (qO hu _ _ _ _) rfl
  split at h
  ·exact fin hx h
  ·simp only[V.den]at hx;subst hx
   exact b9.plain hH _ h (qO hu _ _ _ _) rfl
  ·exact fin hx.1 h
  ·rename_i id ep
   split at h
   ·rename_i fU ty sz es ho
    obtain⟨rfl,hK⟩:=h
    obtain⟨Iu,ee,ry⟩:=hx
    have hv:=(ry ep dB).2 rfl
    have aQ:=hH.ok id
    simp only[aJ,ho]at aQ
    obtain⟨h3,xs,⟨_,cy⟩,_⟩:=aQ
    subst hv
    rcases cy with⟨h4,h5⟩|⟨g,cap,cur,h4,_⟩
    ·rw[h4];rw[h5]at hK;exact b9.plain hH _ hK (qO hu _ _ _ _) rfl
    ·rw[h4];exact b9.plain hH _ hK (qO hu _ _ _ _) rfl
   ·rename_i fU es ho
    obtain⟨rfl,hK⟩:=h
    obtain⟨Iu,ee,ry⟩:=hx
    have hv:=(ry ep dB).2 rfl
    have aQ:=hH.ok id
    simp only[aJ,ho]at aQ
    exact fin (hv ▸ aQ) hK
   ·exact h.elim
  ·exact h.elim
 ·rename_i hu
  split at h
  ·obtain⟨u,rfl,rfl⟩:=hx
   exact b9.plain hH (goInt u.size) h (by simp[Builtin.len_,run_underlying hu]) (by simp[V.den,D.den,goInt])
  ·exact h.elim
 ·rename_i n e hu
  exact b9.plain hH _ h (by simp[Builtin.len_,run_underlying hu];rfl) rfl
 ·exact h.elim
end
end
end Go.Proofs.YtlhemmpklhhgoaaGreat
