/-
  A PART OF THE PROOF. Conditions: none.
-/
import Derived.Great.BuildSlice
import Derived.Great.FillDense
import Derived.Test.YtnkamdiiakdkgaaGreatEl1
set_option linter.unusedSimpArgs false
set_option linter.unusedVariables false
namespace Go.Proofs.YtnkamdiiakdkgaaGreat
def ax{α:Type}(f:Nat->α)(i:Nat)(x:α):Nat->α:=fun j=>if j=i then x else f j
@[simp] theorem aK {α:Type} (f:Nat->α) (i:Nat) (x:α) (j:Nat):ax f i x j=if j=i then x else f j:=rfl
structure S where
 env:Nat->V
 o:Nat->ab
 nx:Nat
def S.H (s:S):Hp:=⟨s.o,fun id=>id<s.nx⟩
def V.dn:Value->V
 | .int k n=> .d (.int k n)| .bool b=> .d (.bool b)| .string s=> .d (.str s.data.toList)
 | .nilIface=> .d .fe| .pointer none=> .d .mU| .nilFunc=> .d .cf| .map none=> .d .hY
 | .slice none 0 0=> .aZ
 |_=> .aa
def pf:List V->Option (List D)
 |[]=>some []
 | .d x::vs=>(pf vs).map (x::·)
 |_::_=>none
def oP(cs:List V):V:=match pf cs with|some ds=> .d (.agg ds)|none=> .agg cs
def V.ofConst:Value->V
 | .agg a=>if a.toList.all Value.oneCell' then oP (a.toList.map V.dn)else .aa
 |v=>V.dn v
def S.ev (s:S):Operand->V
 | .tmp t=>s.env t
 | .const v=>V.ofConst v
 | .func f=> .func (.func f) [] []
 | .global _=> .aa
def D.cells:D->List D
 | .agg cs=>cs
 |x=>[x]
def V.cells:V->Option (List V)
 | .d x=>some (x.cells.map .d)
 | .agg cs=>some cs
 | .bW _| .aa=>none
 |v=>some [v]
mutual
def dB(o:Nat->ab):V->Option D
 | .d x=>some x
 | .aZ=>some (.sl [])
 | .rK es=>some (.sl es)
 | .osl id ep=>match o id with
   | .arr fF _ _ es| .rV fF es=>if ep=fF then some (.sl es)else none
   |_=>none
 | .mp id=>match o id with
   | .map _ _ l=>some (.mp (l.map (·.1)) (l.map (·.2)))
   | .hZ l=>some (.mp (l.map (·.1)) (l.map (·.2)))
   |_=>none
 | .agg cs=>(b7 o cs).map .agg
 | .iface t x=>(dB o x).map (.iface t)
 |_=>none
def b7(o:Nat->ab):List V->Option (List D)
 |[]=>some []
 |v::vs=>(dB o v).bind fun x=>(b7 o vs).map (x::·)
end
mutual
def V.ids:V->List Nat
 | .osl id _=>[id]
 | .mp id=>[id]
 | .agg cs=>V.bg cs
 | .iface _ x=>x.ids
 |_=>[]
def V.bg:List V->List Nat
 |[]=>[]
 |v::vs=>v.ids++V.bg vs
end
def bT(o:Nat->ab)(ids:List Nat):List (Nat×ab):=
 ids.map fun id=>(id,match o id with| .arr ep _ _ es=> .rV ep es| .map _ _ l=> .hZ l|o=>o)
def rW(o:Nat->ab)(ids:List Nat):List (Nat×ab):=
 ids.filterMap fun id=>match o id with| .arr ep _ _ es=>some (id, .rV ep es)|_=>none
def put(o:Nat->ab)(Δ:List (Nat×ab)):Nat->ab:=Δ.foldl (fun f x=>ax f x.1 x.2) o
def Hp.put (H:Hp)(Δ:List (Nat×ab)):Hp:={o:=YtnkamdiiakdkgaaGreat.put H.o Δ,us:=fun id=>H.us id\/id∈Δ.map (·.1)}
def cl(P:Program)(t:TypeId):Option (List V):=
 match P.info? t with
 |some i=>match i.zero with
  |some z=>if z.cells.size=i.size/\z.cells.toList.all Value.oneCell'=true then some (z.cells.toList.map V.dn)else none
  |none=>none
 |none=>none
def ct(P:Program)(t:TypeId):Option Bool:=
 match P.underlying t with
 |some (.struct _)|some (.array _ _)=>some true
 |some _=>some false
 |none=>none
def bB(P:Program)(t:TypeId)(f:Nat):Option Nat:=
 match P.underlying t with
 |some (.struct fs)=>match fs[f]? with
  |some fd=>if P.cellsOf fd.type=0 then none else some fd.offset
  |none=>none
 |_=>none
def bV(P:Program)(t:TypeId):Option TypeId:=
 match P.underlying t with
 |some (.slice e)=>some e
 |_=>none
def xp(P:Program)(t:TypeId):Option (Nat×TypeId):=
 match P.underlying t with
 |some (.array n e)=>some (n,e)
 |_=>none
def dc(P:Program)(t:TypeId):Option (List (Nat×Nat)):=
 match P.underlying t with
 |some (.struct fs)=>if fs.toList.all (fun f=>(P.info? f.type).isSome)=true then some (fs.toList.map fun f=>(f.offset,P.cellsOf f.type))else none
 |some (.array n e)=>if(P.info? e).isSome=true then some ((List.range n).map fun i=>(i*P.cellsOf e,P.cellsOf e))else none
 |_=>none
def qf(P:Program)(t:TypeId):Option IntKind:=
 match P.underlying t with
 |some (.int k)=>some k
 |_=>none
def eK(P:Program)(t:TypeId)(cs:List V)(off:Nat):Option V:=
 match ct P t with
 |some true=>if off+P.cellsOf t<=cs.length then some (oP ((cs.drop off).take (P.cellsOf t)))else none
 |some false=>cs[off]?
 |none=>none
def zS(P:Program)(t:TypeId)(cs:List V)(off:Nat)(v:V):Option (List V):=
 match v.cells with
 |some us=>if us.length=P.cellsOf t/\(0<us.length\/(P.info? t).isSome=true)/\off+us.length<=cs.length then some (cs.take off++us++cs.drop (off+us.length))else none
 |none=>none
def ta(places:List (Nat×Nat))(cs:List V):List (Nat×V)->Option (List V)
 |[]=>some cs
 |(i,v)::rest=>match places[i]?,v.cells with
  |some (off,size),some us=>if us.length=size/\off+us.length<=cs.length then ta places (cs.take off++us++cs.drop (off+us.length)) rest else none
  |_,_=>none
def D.put (e:D)(off:Nat)(us:List D):Option D:=
 match e with
 | .agg cs=>if off+us.length<=cs.length then some (.agg (cs.take off++us++cs.drop (off+us.length)))else none
 |_=>match off,us with
  |0,[u]=>some u
  |_,_=>none
def abn(op:BinOp)(a b:Int):Option Bool:=
 match op with
 | .eql=>some (a==b)| .neq=>some (a !=b)| .lss=>some (decide (a<b))| .leq=>some (decide (a<=b))
 | .gtr=>some (decide (a>b))| .geq=>some (decide (a≥b))
 |_=>none
def vc(op:BinOp)(k:IntKind)(x y:Int):Option Int:=
 let a:=BitVec.ofInt k.bits x
 let b:=BitVec.ofInt k.bits y
 match op with
 | .and=>some (k.wrap (a&&&b).toNat)
 | .or=>some (k.wrap (a|||b).toNat)
 | .xor=>some (k.wrap (a ^^^ b).toNat)
 | .andNot=>some (k.wrap (a&&& ~~~b).toNat)
 |_=>none
def OY(op:BinOp)(k:IntKind)(a b:Int)(K:V->Prop):Prop:=
 match op with
 | .add=>K (.d (.int k (k.wrap (a+b))))
 | .sub=>K (.d (.int k (k.wrap (a - b))))
 | .mul=>K (.d (.int k (k.wrap (a*b))))
 | .quo=>b≠0/\K (.d (.int k (k.wrap (a.tdiv b))))
 | .rem=>b≠0/\K (.d (.int k (a.tmod b)))
 | .and| .or| .xor| .andNot=>∃r,vc op k a b=some r/\K (.d (.int k r))
 | .shl| .shr=>False
 |op=>∃r,abn op a b=some r/\K (.d (.bool r))
def Ly(P:Program)(t:TypeId)(x y:D)(r:Bool):Prop:=
 ∀ (B:Nat->Prop) (w:World) (u v:Value),D.den B w x u->D.den B w y v->(Op.equal t u v).run P w= .ok r w/\∀ (op:BinOp) (a b:Operand),(eqGuard op t a b u v).run P w= .ok () w
def Lz(P:Program)(op:BinOp)(t:TypeId)(x y:V)(K:V->Prop):Prop:=
 match x,y with
 | .d (.int k a), .d (.int k' b)=>k=k'/\OY op k a b K
 | .d (.bool a), .d (.bool b)=>match op with
   | .eql=>P.underlying t=some .bool/\K (.d (.bool (a==b)))
   | .neq=>P.underlying t=some .bool/\K (.d (.bool (a !=b)))
   |_=>False
 | .d (.str a), .d (.str b)=>match op with
   | .eql=>K (.d (.bool (a==b)))
   | .neq=>K (.d (.bool (a !=b)))
   |_=>False
 | .d (.agg a), .d (.agg b)=>match op with
   | .eql=>∃r,Ly P t (.agg a) (.agg b) r/\K (.d (.bool r))
   | .neq=>∃r,Ly P t (.agg a) (.agg b) r/\K (.d (.bool !r))
   |_=>False
 |_,_=>False
def unV(op:UnOp)(x:V)(K:V->Prop):Prop:=
 match op,x with
 | .neg, .d (.int k n)=>K (.d (.int k (k.wrap (0 - n))))
 | .not, .d (.bool b)=>K (.d (.bool !b))
 |_,_=>False
def BX(c a b:V)(K:V->Prop):Prop:=
 match c with
 | .d (.bool t)=>(t=true->K a)/\(t=false->K b)
 |_=>False
def LA(P:Program)(t:TypeId)(o:Nat->ab)(x:V)(K:V->List Nat->Prop):Prop:=
 match P.underlying t with
 |some (.slice _)=>match x with
  | .d (.sl es)=>K (.d (.int .i64 es.length)) []
  | .aZ=>K (.d (.int .i64 0)) []
  | .rK es=>K (.d (.int .i64 es.length)) []
  | .osl id ep=>match o id with
    | .arr fF _ _ es| .rV fF es=>ep=fF/\K (.d (.int .i64 es.length)) [id]
    |_=>False
  |_=>False
 |some .string=>match x with
  | .d (.str s)=>K (.d (.int .i64 s.length)) []
  |_=>False
 |some (.array n _)=>K (.d (.int .i64 n)) []
 |_=>False
def jL(P:Program)(o:Nat->ab)(t:TypeId)(x ix:V)(K:V->List Nat->Prop):Prop:=
 match ix with
 | .d (.int _ i)=>match bV P t with
   |some e=>match x with
    | .d (.sl es)=>0<=i/\∃y,es[i.toNat]? =some y/\y.cells.length=P.cellsOf e/\0<P.cellsOf e/\K (.pp y.cells 0) []
    | .rK es=>0<=i/\∃y,es[i.toNat]? =some y/\y.cells.length=P.cellsOf e/\0<P.cellsOf e/\K (.pp y.cells 0) []
    | .osl id ep=>match o id with
      | .arr fF _ sz es=>ep=fF/\0<=i/\i.toNat<es.length/\sz=P.cellsOf e/\0<P.cellsOf e/\K (.pe id ep i.toNat sz 0) [id]
      | .rV fF es=>ep=fF/\0<=i/\∃y,es[i.toNat]? =some y/\y.cells.length=P.cellsOf e/\0<P.cellsOf e/\K (.pp y.cells 0) [id]
      |_=>False
    |_=>False
   |none=>match xp P t with
    |some (n,e)=>0<=i/\i<n/\(P.info? e).isSome=true/\(match x with
     | .ptr id off=>(o id).cj=true/\K (.ptr id (off+i.toNat*P.cellsOf e)) []
     | .pp cs off=>K (.pp cs (off+i.toNat*P.cellsOf e)) []
     | .pe id ep j sz off=>(o id).b9=some ep/\K (.pe id ep j sz (off+i.toNat*P.cellsOf e)) []
     |_=>False)
    |none=>False
 |_=>False
def jM(P:Program)(o:Nat->ab)(t:TypeId)(x:V)(f:Nat)(K:V->Prop):Prop:=
 match bB P t f with
 |some q=>match x with
  | .ptr id off=>(o id).cj=true/\K (.ptr id (off+q))
  | .pp cs off=>K (.pp cs (off+q))
  | .pe id ep j sz off=>(o id).b9=some ep/\K (.pe id ep j sz (off+q))
  |_=>False
 |none=>False
def BZ(P:Program)(o:Nat->ab)(t:TypeId)(x:V)(K:V->List Nat->Prop):Prop:=
 match x with
 | .ptr id off=>match o id with
   | .row cs=>∃v,eK P t cs off=some v/\K v [id]
   |_=>False
 | .pp cs off=>∃v,eK P t (cs.map .d) off=some v/\K v []
 | .pe id ep i sz off=>match o id with
   | .arr fF _ rL es=>ep=fF/\sz=rL/\∃e,es[i]? =some e/\∃v,eK P t (e.cells.map .d) off=some v/\K v [id]
   |_=>False
 |_=>False
def ve(P:Program)(o:Nat->ab)(t:TypeId)(x v:V)(K:List (Nat×ab)->List Nat->Prop):Prop:=
 match x with
 | .ptr id off=>match o id with
   | .row cs=>∃cs',zS P t cs off v=some cs'/\K [(id, .row cs')] [id]
   |_=>False
 | .pe id ep i rL off=>match o id with
   | .arr fF ty sz es=>ep=fF/\rL=sz/\∃e,es[i]? =some e/\∃y,dB o v=some y/\y.cells.length=P.cellsOf t/\0<y.cells.length/\v.ids.all (· !=id)=true/\
    ∃e',e.put off y.cells=some e'/\K (bT o v.ids++[(id, .arr ep ty sz (es.set i e'))]) (id::v.ids)
   |_=>False
 |_=>False
def iH(P:Program)(o:Nat->ab)(fr:Nat)(t:TypeId)(len:Nat)(parts:List (Nat×V))(K:V->List (Nat×ab)->List Nat->Prop):Prop:=
 match bV P t with
 |some e=>(len=0/\parts=[]/\0<P.cellsOf e/\K (.osl fr 0) [(fr, .arr 0 e (P.cellsOf e) [])] [])\/(parts.map (·.1)=List.range len)/\(cl P e).isSome=true/\0<len/\0<P.cellsOf e/\len*P.cellsOf e<=2^24/\
  ∃ds,b7 o (parts.map (·.2))=some ds/\(∀x∈ds,x.cells.length=P.cellsOf e)/\
   K (.osl fr 0) (bT o (V.bg (parts.map (·.2)))++[(fr, .arr 0 e (P.cellsOf e) ds)]) (V.bg (parts.map (·.2)))
 |none=>False
def yc(P:Program)(e:TypeId):Option D:=
 match cl P e with
 |some z=>match b7 (fun _=> .no) z,ct P e with
  |some ds,some true=>some (.agg ds)
  |some [x],some false=>some x
  |_,_=>none
 |none=>none
def jN(P:Program)(fr:Nat)(t:TypeId)(l c:V)(K:V->List (Nat×ab)->Prop):Prop:=
 match bV P t,l,c with
 |some e, .d (.int _ n), .d (.int _ m)=>n=m/\0<=n/\0<P.cellsOf e/\P.bytesOf e*n.toNat<=2^47/\n.toNat<=2^47/\
  ∃x,yc P e=some x/\K (.osl fr 0) [(fr, .arr 0 e (P.cellsOf e) (List.replicate n.toNat x))]
 |_,_,_=>False
def eL(o:Nat->ab)(x:V):Option (List D):=
 match dB o x with
 |some (.sl es)=>some es
 |_=>none
def qg(P:Program)(o:Nat->ab)(fr:Nat)(ts:Array TypeId)(x y:V)(K:V->List (Nat×ab)->List Nat->Prop):Prop:=
 match ts.toList with
 |[t,t']=>t=t'/\(match bV P t with
  |some e=>∃new,eL o y=some new/\0<P.cellsOf e/\(cl P e).isSome=true/\(∀z∈new,z.cells.length=P.cellsOf e)/\(match x with
   | .aZ=>new.length<=2^47/\new.length*P.bytesOf e<=2^47/\K (.osl fr 0) [(fr, .arr 0 e (P.cellsOf e) new)] y.ids
   | .rK es=>(∀z∈es,z.cells.length=P.cellsOf e)/\(if new=[]then K (.rK es) [] y.ids else es.length+new.length<=2^40/\(es.length+new.length)*P.bytesOf e<=2^40/\K (.osl fr 0) [(fr, .arr 0 e (P.cellsOf e) (es++new))] y.ids)
   | .osl id ep=>match o id with
     | .arr fF ty sz es=>ep=fF/\ty=e/\sz=P.cellsOf e/\es.length+new.length<=2^47/\(es.length+new.length)*P.bytesOf e<=2^47/\
      K (.osl id (ep+1)) [(id, .arr (ep+1) ty sz (es++new))] (id::y.ids)
     |_=>False
   |_=>False)
  |none=>False)
 |_=>False
def n8(isMax:Bool)(args:List V)(K:V->Prop):Prop:=
 match args with
 |[.d (.int k a), .d (.int k' b)]=>k=k'/\K (.d (.int k (if isMax then(if b>a then b else a)else(if b<a then b else a))))
 |_=>False
def lD(o:Nat->ab)(x:V)(K:V->Prop):Prop:=
 match x with
 | .ptr id off=>(o id).cj=true/\K (.ptr id off)
 | .pp cs off=>K (.pp cs off)
 | .func (.func f) first cap=>K (.func (.func f) first cap)
 |_=>False
def cw(P:Program)(t:TypeId)(xs:List D)(off:Nat):Option D:=
 match ct P t with
 |some true=>if off+P.cellsOf t<=xs.length then some (.agg ((xs.drop off).take (P.cellsOf t)))else none
 |some false=>xs[off]?
 |none=>none
inductive ae1 where
 |int|bool|str|struct (fs:List (TypeId×Nat))|arr (n:Nat) (e:TypeId)
def bp(P:Program)(t:TypeId):Option ae1:=
 match P.underlying t with
 |some (.int _)=>some .int
 |some .bool=>some .bool
 |some .string=>some .str
 |some (.struct fs)=>if(!P.stoodInHeld t&&fs.toList.all (fun f=>f.name != "_"))=true then some (.struct (fs.toList.map fun f=>(f.type,f.offset)))else none
 |some (.array n e)=>if(P.info? e).isSome=true then some (.arr n e)else none
 |_=>none
def B0(a b:Option Bool):Option Bool:=
 match a,b with
 |some a,some b=>some (a&&b)
 |_,_=>none
def yd(f:TypeId->Nat->Option Bool):List (TypeId×Nat)->Option Bool
 |[]=>some true
 |x::l=>B0 (f x.1 x.2) (yd f l)
def ye(f:Nat->Option Bool):Nat->Nat->Option Bool
 |0,_=>some true
 |n+1,i=>B0 (f i) (ye f n (i+1))
def Ov(f:D->D->Option Bool)(x y:Option D):Option Bool:=
 match x,y with
 |some x,some y=>f x y
 |_,_=>none
def mH(P:Program):Nat->TypeId->D->D->Option Bool
 |0,_,_,_=>none
 |d+1,t,x,y=>match bp P t with
  |some .int=>match x,y with| .int k a, .int k' b=>if k=k' then some (a==b)else none|_,_=>none
  |some .bool=>match x,y with| .bool a, .bool b=>some (a==b)|_,_=>none
  |some .str=>match x,y with| .str a, .str b=>some (a==b)|_,_=>none
  |some (.struct fs)=>match x,y with
   | .agg xs, .agg ys=>yd (fun u off=>Ov (mH P d u) (cw P u xs off) (cw P u ys off)) fs
   |_,_=>none
  |some (.arr n e)=>match x,y with
   | .agg xs, .agg ys=>ye (fun i=>Ov (mH P d e) (cw P e xs (i*P.cellsOf e)) (cw P e ys (i*P.cellsOf e))) n 0
   |_,_=>none
  |none=>none
abbrev fS:=V×List (Nat×ab)×List Nat
def cX(x:Option fS)(K:V->List (Nat×ab)->List Nat->Prop):Prop:=
 match x with
 |some (v,Δ,rd)=>K v Δ rd
 |none=>False
def IL(x:Option V)(ae2:Nat):Option Nat:=
 match x with
 |none=>some ae2
 |some (.d (.int _ i))=>if 0<=i then some i.toNat else none
 |_=>none
def pg(o:Nat->ab)(x:V):Option (Nat×Nat):=
 match x with
 | .ptr id off=>if(o id).cj=true then some (id,off)else none
 |_=>none
def ph(o:Nat->ab)(x:V):Option (Nat×Nat×Nat×List V):=
 match x with
 | .x9 id off n=>match o id with
   | .row cs=>some (id,off,n,cs)
   |_=>none
 |_=>none
def ET(P:Program)(o:Nat->ab)(t:TypeId)(x:V)(lo hi mx:Option V):Option fS:=
 match x with
 | .aZ=>match lo,hi,mx with
   |none,some (.d (.int _ k)),none=>match bV P t with
    |some e=>if k=0/\(P.info? e).isSome=true then some (.aZ,[],[])else none
    |none=>none
   |_,_,_=>none
 | .osl id ep=>match lo,hi,mx with
   |none,some (.d (.int _ k)),none=>match bV P t,o id with
    |some e, .arr fF ty sz _=>if k=0/\ep=fF/\(P.info? e).isSome=true then some (.osl id (ep+1),[(id, .arr (ep+1) ty sz [])],[id])else none
    |_,_=>none
   |_,_,_=>none
 |_=>none
def qh(P:Program)(o:Nat->ab)(t:TypeId)(x:V)(lo hi mx:Option V):Option fS:=
 match bV P t with
 |some e=>match eL o x,IL lo 0 with
  |some es,some l=>match IL hi es.length with
   |some h=>if l<=h/\h<=es.length/\(P.info? e).isSome=true/\(l=0\/es.all (fun y=>y.cells.length==P.cellsOf e)=true)then match mx with
    |none=>some (.d (.sl ((es.take h).drop l)),bT o x.ids,x.ids)
    |some m=>match hi,IL (some m) 0 with
     |some _,some m=>if h<=m/\m<=es.length then some (if h=m then .rK ((es.take h).drop l)else .d (.sl ((es.take h).drop l)),bT o x.ids,x.ids)else none
     |_,_=>none
    else none
   |none=>none
  |_,_=>none
 |none=>match xp P t,lo,hi,mx with
  |some (n,e),none,none,none=>match pg o x with
   |some (id,off)=>if(P.info? e).isSome=true then some (.x9 id off n,[],[id])else none
   |none=>none
  |_,_,_,_=>none
def rX(P:Program)(o:Nat->ab)(t:TypeId)(x:V)(lo hi mx:Option V):Option fS:=
 match ET P o t x lo hi mx with
 |some r=>some r
 |none=>qh P o t x lo hi mx
def yf(P:Program)(o:Nat->ab)(ts:Array TypeId)(x y:V):Option fS:=
 match ts.toList with
 |[t,_]=>match bV P t with
  |some e=>match ph o x,eL o y with
   |some (id,off,n,cs),some es=>if P.cellsOf e=1/\off+n<=cs.length/\es.all (fun z=>z.cells.length==1)=true/\y.ids.all (· !=id)=true then
    some (.d (.int .i64 ((min es.length n:Nat):Int)),bT o y.ids++[(id, .row (cs.take off++((es.take n).flatMap D.cells).map .d++cs.drop (off+(es.take n).length)))],id::y.ids)else none
   |_,_=>none
  |none=>none
 |_=>none
def zT(P:Program)(t:TypeId)(f:Nat):Option (Nat×TypeId):=
 match P.underlying t with
 |some (.struct fs)=>match fs[f]? with
  |some fd=>some (fd.offset,fd.type)
  |none=>none
 |_=>none
def vf(P:Program)(t:TypeId)(x:V)(f:Nat):Option V:=
 match zT P t f with
 |some (off,u)=>match x with
  | .d (.agg cs)=>(cw P u cs off).map .d
  | .agg cs=>eK P u cs off
  |_=>none
 |none=>none
def vg(P:Program)(t:TypeId)(x i:V):Option V:=
 match i with
 | .d (.int _ i)=>if 0<=i then match P.underlying t with
  |some .string=>match x with
   | .d (.str s)=>match s[i.toNat]? with
     |some b=>some (.d (.int .u8 b.toNat))
     |none=>none
   |_=>none
  |some (.array n e)=>if i<n/\(P.info? e).isSome=true then match x with
   | .d (.agg cs)=>(cw P e cs (i.toNat*P.cellsOf e)).map .d
   | .agg cs=>eK P e cs (i.toNat*P.cellsOf e)
   |_=>none
   else none
  |_=>none
   else none
 |_=>none
def zU(P:Program)(t:TypeId):Bool:=
 match P.underlying t with
 |some (.interface _)=>false
 |some _=>true
 |none=>false
def zeroV(P:Program)(t:TypeId):Option V:=
 match P.info? t with
 |some i=>match i.zero with
  |some (.agg a)=>if a.toList.all Value.oneCell'=true then some (oP (a.toList.map V.dn))else none
  |some v=>if v.oneCell'=true then some (V.dn v)else none
  |none=>none
 |none=>none
def qi(P:Program)(t:TypeId)(ok:Bool)(x:V):Option V:=
 if zU P t=true then match x with
  | .d (.iface u y)=>if u=t then some (if ok=true then .bW [.d y, .d (.bool true)]else .d y)
   else if ok=true then(zeroV P t).map fun z=> .bW [z, .d (.bool false)]else none
  | .d .fe=>if ok=true then(zeroV P t).map fun z=> .bW [z, .d (.bool false)]else none
  |_=>none
 else none
def B1(o:Nat->ab)(x:V):Option V:=
 match x with
 | .aZ=>some (.d (.bool true))
 |x=>match eL o x with
  |some es=>some (if es=[]then .ft else .d (.bool false))
  |none=>none
def isConst:Operand->Bool
 | .const _=>true
 |_=>false
def OZ:V->Option V
 | .d (.bool b)=>some (.d (.bool !b))
 | .ft=>some .ft
 |_=>none
def rY(o:Nat->ab)(x:V):Option V:=
 match x with
 | .d .hY=>some (.d (.bool true))
 | .d (.mp _ _)=>some (.d (.bool false))
 | .mp id=>match o id with| .map _ _ _=>some (.d (.bool false))| .hZ _=>some (.d (.bool false))|_=>none
 |_=>none
def rZ(o:Nat->ab)(x:V):Option V:=
 match x with
 | .d .mU=>some (.d (.bool true))
 | .ptr id _=>if(o id).cj=true then some (.d (.bool false))else none
 | .pp _ _=>some (.d (.bool false))
 |_=>none
def eqI(P:Program)(a b:TypeId)(x y:D):Option Bool:=
 if a=b then(match P.info? a,P.underlying a with
  |some i,some (.int _)=>if i.comparable=true then(match x,y with
   | .int k m, .int k' n=>if k=k' then some (m==n)else none
   |_,_=>none)else none
  |_,_=>none)
 else some false
def uA(P:Program)(o:Nat->ab)(t:TypeId)(oF:Bool)(x y:V):Option V:=
 match P.underlying t with
 |some (.interface _)=>match x,y with
  | .d .fe, .d .fe=>if oF=true then some (.d (.bool true))else none
  | .d (.iface _ _), .d .fe| .iface _ _, .d .fe| .d .fe, .d (.iface _ _)| .d .fe, .iface _ _=>some (.d (.bool false))
  | .d (.iface a x), .d (.iface b y)=>(eqI P a b x y).map fun r=> .d (.bool r)
  |_,_=>none
 |some (.func _ _ _)=>match x,y with
  | .d .cf, .d .cf=>some (.d (.bool true))
  | .func _ _ _, .d .cf=>some (.d (.bool false))
  |_,_=>none
 |some (.map _ _)=>match y with
  | .d .hY=>rY o x
  |_=>none
 |some (.pointer _)=>match y with
  | .d .mU=>rZ o x
  |_=>none
 |some (.slice _)=>match y with
  | .aZ=>B1 o x
  |_=>none
 |some (.struct _)|some (.array _ _)=>match x,y with
  | .d (.agg cc), .d (.agg bs)=>if P.eqGuardType P.depth t=false then(mH P 100 t (.agg cc) (.agg bs)).map fun r=> .d (.bool r)else none
  |_,_=>none
 |_=>none
def r8(P:Program)(o:Nat->ab)(op:BinOp)(t:TypeId)(oF:Bool)(x y:V):Option fS:=
 match op with
 | .eql=>(uA P o t oF x y).map fun v=>(v,[],[])
 | .neq=>((uA P o t oF x y).bind OZ).map fun v=>(v,[],[])
 |_=>none
mutual
def D.same:D->D->Bool
 | .int k a, .int j b=>k==j&&a==b
 | .bool a, .bool b=>a==b
 | .str a, .str b=>a==b
 | .fe, .fe| .mU, .mU| .cf, .cf| .hY, .hY=>true
 | .agg cc, .agg bs=>D.gh cc bs
 | .sl cc, .sl bs=>D.gh cc bs
 | .iface t a, .iface u b=>t==u&&a.same b
 | .mp ks vs, .mp ks' vs'=>D.gh ks ks'&&D.gh vs vs'
 |_,_=>false
def D.gh:List D->List D->Bool
 |[],[]=>true
 |a::cc,b::bs=>a.same b&&D.gh cc bs
 |_,_=>false
end
def qj(P:Program)(t:TypeId):Option (TypeId×TypeId):=
 match P.underlying t with
 |some (.map k v)=>some (k,v)
 |_=>none
def iI(P:Program):Nat->TypeId->D->Bool
 |0,_,_=>false
 |d+1,t,x=>match bp P t with
  |some .int|some .bool|some .str=>true
  |some (.struct fs)=>match x with
   | .agg xs=>fs.all fun f=>match cw P f.1 xs f.2 with|some y=>iI P d f.1 y|none=>false
   |_=>false
  |some (.arr n e)=>match x with
   | .agg xs=>(List.range n).all fun i=>match cw P e xs (i*P.cellsOf e)with|some y=>iI P d e y|none=>false
   |_=>false
  |none=>false
def findD(P:Program)(kt:TypeId)(k:D):List (D×D)->Nat->Option (Option (Nat×D×D))
 |[],_=>some none
 |(k',x)::l,i=>match mH P 100 kt k k' with
  |some true=>some (some (i,k',x))
  |some false=>findD P kt k l (i+1)
  |none=>none
def mI:D->Bool
 | .int _ _| .bool _| .str _=>true
 |_=>false
def ja:D->Bool
 | .agg cs=>cs.all mI
 |x=>mI x
def oQ(o:Nat->ab)(m:V):Option (Option (Nat×TypeId×TypeId)×List (D×D)):=
 match m with
 | .mp id=>match o id with
   | .map kt vt l=>some (some (id,kt,vt),l)
   |_=>none
 | .d .hY=>some (none,[])
 |_=>none
def qk(o:Nat->ab)(m:V):Option (List Nat×List (D×D)):=
 match m with
 | .mp id=>match o id with
   | .map _ _ l=>some ([id],l)
   | .hZ l=>some ([id],l)
   |_=>none
 | .d .hY=>some ([],[])
 | .d (.mp ks vs)=>some ([],ks.zip vs)
 |_=>none
def ae3(r:Option (Nat×TypeId×TypeId)):List Nat:=match r with|some p=>[p.1]|none=>[]
def iE(P:Program)(o:Nat->ab)(t:TypeId)(m k:V)(ok:Bool):Option fS:=
 match qj P t,dB o k,qk o m with
 |some (kt,vt),some kd,some (rd,l)=>if k.ids=[]/\iI P 100 kt kd=true then match findD P kt kd l 0 with
  |some (some (_,_,x))=>some (if ok=true then .bW [.d x, .d (.bool true)]else .d x,[],rd)
  |some none=>match zeroV P vt with
   |some z=>some (if ok=true then .bW [z, .d (.bool false)]else z,[],rd)
   |none=>none
  |none=>none
  else none
 |_,_,_=>none
def fO(P:Program)(o:Nat->ab)(t:TypeId)(m k v:V):Option fS:=
 match qj P t,dB o k,dB o v,oQ o m with
 |some (kt,_),some kd,some vd,some (some (id,GG,GH),l)=>if k.ids=[]/\iI P 100 kt kd=true/\ja kd=true/\v.ids.all (· !=id)=true then match findD P kt kd l 0 with
  |some (some (i,k',_))=>if k'.same kd=true then some (.bW [],bT o v.ids++[(id, .map GG GH (l.set i (kd,vd)))],id::v.ids)else none
  |some none=>some (.bW [],bT o v.ids++[(id, .map GG GH (l++[(kd,vd)]))],id::v.ids)
  |none=>none
  else none
 |_,_,_,_=>none
def m9(P:Program)(fr:Nat)(t:TypeId):Option fS:=
 match qj P t with
 |some (kt,vt)=>some (.mp fr,[(fr, .map kt vt [])],[])
 |none=>none
def na(P:Program)(o:Nat->ab)(fr:Nat)(t:TypeId)(x:V):Option fS:=
 match P.underlying t with
 |some .string=>match x with
  | .d (.str s)=>some (.ptr fr 0,[(fr, .zQ s 0)],[])
  |_=>none
 |some (.map _ _)=>match x with
  | .d .hY=>some (.ptr fr 0,[(fr, .pb [] none)],[])
  | .d (.mp ks vs)=>some (.ptr fr 0,[(fr, .pb (ks.zip vs) none)],[])
  | .mp id=>match o id with
    | .map _ _ l=>some (.ptr fr 0,[(id, .hZ l),(fr, .pb l none)],[id])
    | .hZ l=>some (.ptr fr 0,[(fr, .pb l none)],[id])
    |_=>none
  |_=>none
 |_=>none
def oR(o:Nat->ab)(x:V)(str:Bool):Option fS:=
 match x with
 | .ptr id 0=>match o id with
   | .zQ s pos=>if str=true then
    (if pos<s.length then some (.bW [.d (.bool true), .d (.int .i64 pos), .d (.int .i32 (Utf8.decode ⟨⟨s⟩⟩ pos).1)],[(id, .zQ s (pos+(Utf8.decode ⟨⟨s⟩⟩ pos).2))],[id])else some (.bW [.d (.bool false)],[],[id]))
     else none
   |_=>none
 |_=>none
def oS(o:Nat->ab)(x:V):Option (Nat×List (D×D)):=
 match x with
 | .ptr id 0=>match o id with
   | .pb l _=>some (id,l)
   |_=>none
 |_=>none
def GI(id:Nat)(l:List (D×D))(K:V->List (Nat×ab)->List Nat->Prop):Prop:=
 (l=[]->K (.bW [.d (.bool false)]) [] [id])/\∀i k x,l[i]? =some (k,x)->K (.bW [.d (.bool true), .d k, .d x]) [(id, .pb (l.eraseIdx i) (some (k,x)))] [id]
def nb(o:Nat->ab)(x:V):Option fS:=
 match x with
 | .ptr id 0=>match o id with
   | .pb _ (some (k,x))=>some (.bW [.d k, .d x],[],[id])
   |_=>none
 |_=>none
def n9(P:Program)(o:Nat->ab)(t:TypeId)(m k:V):Option fS:=
 match qj P t,dB o k,oQ o m with
 |some (kt,_),some kd,some (some (id,GG,GH),l)=>if k.ids=[]/\iI P 100 kt kd=true then match findD P kt kd l 0 with
  |some (some (i,_,_))=>some (.bW [],[(id, .map GG GH (l.eraseIdx i))],[id])
  |some none=>some (.bW [],[],[id])
  |none=>none
  else none
 |_,_,_=>none
def GJ(x y z:V):Option V:=
 match x,y,z with
 | .d (.int k a), .d (.int k' b), .d (.int k'' c)=>if k=k'/\k=k'' then some (.d (.int k (if c>(if b>a then b else a)then c else(if b>a then b else a))))else none
 |_,_,_=>none
def O0(P:Program)(ts:Array TypeId)(x:V):Option fS:=
 match ts.toList with
 |[t]=>match bV P t with
  |some _=>match x with
   | .aZ=>some (.d (.int .i64 0),[],[])
   |_=>none
  |none=>none
 |_=>none
def yg(P:Program)(fr:Nat)(ts:Array TypeId)(x y:V):Option fS:=
 match ts.toList with
 |[t,t']=>if t=t' then none else match bV P t with
  |some e=>match qf P t',x,y with
   |some _, .aZ, .d (.int _ n)=>if 0<n/\0<P.cellsOf e/\n.toNat*P.bytesOf e<=2^40/\n.toNat<=2^40 then match yc P e with
    |some z=>some (.osl fr 0,[(fr, .arr 0 e (P.cellsOf e) (List.replicate n.toNat z))],[])
    |none=>none
    else none
   |_,_,_=>none
  |none=>none
 |_=>none
def vh(P:Program)(s:S)(fr:Nat)(b:Builtin)(args:List Operand)(ts:Array TypeId)(K:V->List (Nat×ab)->List Nat->Prop):Prop:=
 match b,args with
 | .len,[x]=>∃t,ts.toList=[t]/\LA P t s.o (s.ev x) fun v rd=>K v [] rd
 | .append,[x,y]=>cX (yg P fr ts (s.ev x) (s.ev y)) K\/qg P s.o fr ts (s.ev x) (s.ev y) K
 | .max,[x,y]=>n8 true [s.ev x,s.ev y] fun v=>K v [] []
 | .min,[x,y]=>n8 false [s.ev x,s.ev y] fun v=>K v [] []
 | .max,[x,y,z]=>cX ((GJ (s.ev x) (s.ev y) (s.ev z)).map fun v=>(v,[],[])) K
 | .copy,[x,y]=>cX (yf P s.o ts (s.ev x) (s.ev y)) K
 | .delete,[x,y]=>∃t,ts.toList.head?=some t/\cX (n9 P s.o t (s.ev x) (s.ev y)) K
 | .cap,[x]=>cX (O0 P ts (s.ev x)) K
 |_,_=>False
def Sf(P:Program)(s:S)(fr:Nat)(op:Op)(K:V->List (Nat×ab)->List Nat->Prop):Prop:=
 match op with
 | .move x| .assign x=>K (s.ev x) [] []
 | .pick c a b=>BX (s.ev c) (s.ev a) (s.ev b) fun v=>K v [] []
 | .alloc t=>∃cs,cl P t=some cs/\K (.ptr fr 0) [(fr, .row cs)] []
 | .box _ x=>∃cs,(s.ev x).cells=some cs/\K (.ptr fr 0) [(fr, .row cs)] []
 | .build t parts=>∃z pl cs,cl P t=some z/\dc P t=some pl/\ta pl z (parts.toList.map fun p=>(p.1,s.ev p.2))=some cs/\K (oP cs) [] []
 | .buildSlice t len parts=>iH P s.o fr t len (parts.toList.map fun p=>(p.1,s.ev p.2)) K
 | .load t x=>BZ P s.o t (s.ev x) fun v rd=>K v [] rd
 | .store t x v=>ve P s.o t (s.ev x) (s.ev v) fun Δ rd=>K (.bW []) Δ rd
 | .nilCheck x=>lD s.o (s.ev x) fun v=>K v [] []
 | .binOp op t x y _=>Lz P op t (s.ev x) (s.ev y) (fun v=>K v [] [])\/cX (r8 P s.o op t (isConst x||isConst y) (s.ev x) (s.ev y)) K
 | .unOp op _ x=>unV op (s.ev x) (fun v=>K v [] [])\/(op= .not/\s.ev x= .ft/\K .ft [] [])
 | .convert u t x=>(P.underlying u).isSome=true/\(match qf P t,s.ev x with
   |some k, .d (.int _ n)=>K (.d (.int k (k.wrap n))) [] []
   |_,_=>False)
 | .makeInterface t x=>(∃d,P.underlying t=some d/\(match d with| .interface _=>false|_=>true)=true)/\(match s.ev x with
   | .d y=>K (.d (.iface t y)) [] []
   |v=>K (.iface t v) [] [])
 | .makeFunc fn first cap=>K (.func fn (first.toList.map s.ev) (cap.toList.map s.ev)) [] []
 | .makeSlice t l c=>jN P fr t (s.ev l) (s.ev c) fun v Δ=>K v Δ []
 | .fieldAddr t x f=>jM P s.o t (s.ev x) f fun v=>K v [] []
 | .indexAddr t x i=>jL P s.o t (s.ev x) (s.ev i) fun v rd=>K v [] rd
 | .extract x i=>match s.ev x with
   | .bW vs=>∃v,vs[i]? =some v/\K v [] []
   |_=>False
 | .slice t x lo hi mx=>cX (rX P s.o t (s.ev x) (lo.map s.ev) (hi.map s.ev) (mx.map s.ev)) K
 | .field t x f=>cX ((vf P t (s.ev x) f).map fun v=>(v,[],[])) K
 | .index t x i=>cX ((vg P t (s.ev x) (s.ev i)).map fun v=>(v,[],[])) K
 | .makeMap t none=>cX (m9 P fr t) K
 | .lookup t m k ok=>cX (iE P s.o t (s.ev m) (s.ev k) ok) K
 | .mapUpdate t m k v=>cX (fO P s.o t (s.ev m) (s.ev k) (s.ev v)) K
 | .insert t m k v=>cX (fO P s.o t (s.ev m) (s.ev k) (s.ev v)) K
 | .range t x=>cX (na P s.o fr t (s.ev x)) K
 | .next x str=>cX (oR s.o (s.ev x) str) K\/(str=false/\∃id l,oS s.o (s.ev x)=some (id,l)/\GI id l K)
 | .entry x=>cX (nb s.o (s.ev x)) K
 | .typeAssert x _ t ok=>cX ((qi P t ok (s.ev x)).map fun v=>(v,[],[])) K
 | .call c=>match c.callee with
   | .builtin b=>vh P s fr b c.args.toList c.argTypes K
   |_=>False
 |_=>False
section
section
variable {B:Nat->Prop}{φ:Place}{H:Hp}{w:World}
theorem V.aA:∀ (cs:List V) (vs:List Value),V.aB B φ H w cs vs->vs.length=cs.length
 |[],_,h=>by simp[V.aB]at h;simp[h]
 |c::cs,_,h=>by obtain⟨u,us,rfl,_,h2⟩:=h;simp[V.aA cs us h2]
theorem V.dE:∀ (cs:List V) (vs:List Value) (i:Nat) (c:V),V.aB B φ H w cs vs->cs[i]? =some c->∃v,vs[i]? =some v/\V.den B φ H w c v
 |[],_,_,_,_,hd=>by simp at hd
 |c::cs,_,0,x,h,hd=>by
  exact Sd
 |c::cs,_,i+1,x,h,hd=>by
  obtain⟨u,us,rfl,_,h2⟩:=h
  simpa using V.dE cs us i x h2 (by simpa using hd)
theorem V.br:∀ (cs ds:List V) (us vs:List Value),V.aB B φ H w cs us->V.aB B φ H w ds vs->V.aB B φ H w (cs++ds) (us++vs)
 |[],ds,us,vs,h,k=>by simp[V.aB]at h;subst h;simpa using k
 |c::cs,ds,_,vs,h,k=>by
  obtain⟨u,us,rfl,h1,h2⟩:=h
  exact⟨u,us++vs,aI,h1,V.br cs ds us vs h2 k⟩
theorem V.dF:∀ (n:Nat) (cs:List V) (vs:List Value),V.aB B φ H w cs vs->V.aB B φ H w (cs.take n) (vs.take n)
 |0,_,_,_=>by simp[V.aB]
 |n+1,[],_,h=>by simp[V.aB]at h;subst h;simp[V.aB]
 |n+1,c::cs,_,h=>by
  obtain⟨u,us,rfl,h1,h2⟩:=h
  exact⟨u,us.take n,aI,h1,V.dF n cs us h2⟩
theorem V.et:∀ (n:Nat) (cs:List V) (vs:List Value),V.aB B φ H w cs vs->V.aB B φ H w (cs.drop n) (vs.drop n)
 |0,_,_,h=>by simpa using h
 |n+1,[],_,h=>by simp[V.aB]at h;subst h;simp[V.aB]
 |n+1,c::cs,_,h=>by
  obtain⟨u,us,rfl,h1,h2⟩:=h
  simpa using V.et n cs us h2
theorem V.cn:∀ (ds:List D) (vs:List Value),V.aB B φ H w (ds.map .d) vs↔D.aB B w ds vs
 |[],vs=>by simp[V.aB,D.aB]
 |x::ds,vs=>by simp only[List.map_cons,V.aB,D.aB,V.den,V.cn ds]
theorem D.br:∀ (cs ds:List D) (us vs:List Value),D.aB B w cs us->D.aB B w ds vs->D.aB B w (cs++ds) (us++vs)
 |[],ds,us,vs,h,k=>by simp[D.aB]at h;subst h;simpa using k
 |c::cs,ds,_,vs,h,k=>by
  obtain⟨u,us,rfl,h1,h2⟩:=h
  exact⟨u,us++vs,aI,h1,D.br cs ds us vs h2 k⟩
theorem D.dF:∀ (n:Nat) (cs:List D) (vs:List Value),D.aB B w cs vs->D.aB B w (cs.take n) (vs.take n)
 |0,_,_,_=>by simp[D.aB]
 |n+1,[],_,h=>by simp[D.aB]at h;subst h;simp[D.aB]
 |n+1,c::cs,_,h=>by
  obtain⟨u,us,rfl,h1,h2⟩:=h
  exact⟨u,us.take n,aI,h1,D.dF n cs us h2⟩
theorem D.et:∀ (n:Nat) (cs:List D) (vs:List Value),D.aB B w cs vs->D.aB B w (cs.drop n) (vs.drop n)
 |0,_,_,h=>by simpa using h
 |n+1,[],_,h=>by simp[D.aB]at h;subst h;simp[D.aB]
 |n+1,c::cs,_,h=>by
  obtain⟨u,us,rfl,h1,h2⟩:=h
  simpa using D.et n cs us h2
theorem D.B3:∀ (i:Nat) (ds:List D) (vs:List Value) (x:D) (v:Value),D.aB B w ds vs->D.den B w x v->D.aB B w (ds.set i x) (vs.set i v)
 |_,[],_,_,_,h,_=>by simp[D.aB]at h;subst h;simp[D.aB]
 |0,c::cs,_,x,v,h,k=>by
  obtain⟨u,us,rfl,h1,h2⟩:=h
  exact⟨v,us,aI,k,h2⟩
 |i+1,c::cs,_,x,v,h,k=>by
  obtain⟨u,us,rfl,h1,h2⟩:=h
  exact⟨u,us.set i v,aI,h1,D.B3 i cs us x v h2 k⟩
theorem yh:∀ (cs:List V) (ds:List D),pf cs=some ds->cs=ds.map .d
 |[],ds,h=>by simp[pf]at h;subst h;rfl
 | .d x::cs,ds,h=>by
   simp only[pf,Option.map_eq_some_iff]at h
   obtain⟨a,h1,rfl⟩:=h
   simp[yh cs a h1]
 | .aZ::_,_,h| .agg _::_,_,h| .bW _::_,_,h| .ptr _ _::_,_,h| .osl _ _::_,_,h| .pe _ _ _ _ _::_,_,h| .pp _ _::_,_,h
 | .func _ _ _::_,_,h| .iface _ _::_,_,h| .aa::_,_,h| .rK _::_,_,h| .x9 _ _ _::_,_,h| .mp _::_,_,h| .ft::_,_,h=>by simp[pf]at h
theorem lE(cs:List V)(a:Array Value)(h:V.aB B φ H w cs a.toList)(hf:Flat a.toList):V.den B φ H w (oP cs) (.agg a):=by
 unfold oP
 split
 ·rename_i ds hd
  have:=yh cs ds hd
  subst this
  exact⟨a,rfl,(V.cn ds _).1 h,hf⟩
 ·exact⟨a,rfl,h,hf⟩
theorem D.od:∀ (x:D) (v:Value),D.den B w x v->(∃cs a,x= .agg cs/\v= .agg a)\/v.oneCell'=true/\x.cells=[x]/\v.cells=#[v]
 | .int _ _,_,h| .bool _,_,h| .fe,_,h| .mU,_,h| .cf,_,h| .hY,_,h=>by
   simp only[D.den]at h;subst h;exact .inr ⟨rfl,rfl,rfl⟩
 | .str l,_,h=>by obtain⟨s,rfl,_⟩:=h;exact .inr ⟨rfl,rfl,rfl⟩
 | .agg cs,_,h=>by obtain⟨a,rfl,_,_⟩:=h;exact .inl ⟨cs,a,rfl,rfl⟩
 | .sl es,_,h=>by obtain⟨b,l,c,rfl,_⟩:=h;exact .inr ⟨rfl,rfl,rfl⟩
 | .iface t x,_,h=>by obtain⟨u,rfl,_⟩:=h;exact .inr ⟨rfl,rfl,rfl⟩
 | .mp ks vs,_,h=>by obtain⟨m,es,c,p,rfl,_⟩:=h;exact .inr ⟨rfl,rfl,rfl⟩
theorem D.ff (x:D)(v:Value)(h:D.den B w x v):D.aB B w x.cells v.cells.toList/\Flat v.cells.toList:=by
 rcases D.od x v h with⟨cs,a,rfl,rfl⟩|⟨h1,h2,h3⟩
 ·obtain⟨a',h1,h2,h3⟩:=h
  injection h1 with h1;subst h1
  exact⟨h2,h3⟩
 ·rw[h2,h3]
  exact⟨⟨v,[],rfl,h,rfl⟩,by intro u hu;simp at hu;subst hu;exact h1⟩
theorem V.od (x:V)(v:Value)(us:List V)(hx:x.cells=some us)(h:V.den B φ H w x v):V.aB B φ H w us v.cells.toList/\Flat v.cells.toList:=by
 have one:∀ (y:V),v.oneCell'=true->V.den B φ H w y v->V.aB B φ H w [y] v.cells.toList/\Flat v.cells.toList:=by
  intro y h1 h2
  have h3:v.cells=#[v]:=by cases v<;>simp_all[Value.oneCell',Value.cells]
  rw[h3]
  exact⟨⟨v,[],rfl,h2,rfl⟩,by intro u hu;simp at hu;subst hu;exact h1⟩
 cases x with
 |d x=>
  simp only[V.cells,Option.some.injEq]at hx;subst hx
  have:=D.ff x v h
  exact⟨(V.cn _ _).2 this.1,this.2⟩
 |aZ=>simp only[V.cells,Option.some.injEq]at hx;subst hx;exact one _ (by cases h;rfl) h
 |agg cs=>
  simp only[V.cells,Option.some.injEq]at hx;subst hx
  obtain⟨a,rfl,h1,h2⟩:=h
  exact⟨h1,h2⟩
 |bW vs=>simp[V.cells]at hx
 |aa=>simp[V.cells]at hx
 |ptr id off=>simp only[V.cells,Option.some.injEq]at hx;subst hx;exact one _ h.1 h
 |osl id ep=>simp only[V.cells,Option.some.injEq]at hx;subst hx;exact one _ h.1 h
 |pe id ep i sz off=>simp only[V.cells,Option.some.injEq]at hx;subst hx;exact one _ h.1 h
 |pp cs off=>simp only[V.cells,Option.some.injEq]at hx;subst hx;exact one _ (by obtain⟨a,ev,_,rfl,_⟩:=h;rfl) h
 |func fn f c=>simp only[V.cells,Option.some.injEq]at hx;subst hx;exact one _ (by obtain⟨a,ev,rfl,_⟩:=h;rfl) h
 |iface t y=>simp only[V.cells,Option.some.injEq]at hx;subst hx;exact one _ (by obtain⟨a,rfl,_⟩:=h;rfl) h
 |rK es=>simp only[V.cells,Option.some.injEq]at hx;subst hx;exact one _ (by obtain⟨_,b,n,rfl⟩:=h;rfl) h
 |x9 id off n=>simp only[V.cells,Option.some.injEq]at hx;subst hx;exact one _ h.1 h
 |mp id=>simp only[V.cells,Option.some.injEq]at hx;subst hx;exact one _ h.1 h
 |ju id=>simp only[V.cells,Option.some.injEq]at hx;subst hx;exact one _ h.1 h
 |ft=>simp only[V.cells,Option.some.injEq]at hx;subst hx;exact one _ (by obtain⟨a,rfl⟩:=h;rfl) h
theorem l5(v:Value)(h:v.oneCell'=true):V.den B φ H w (V.dn v) v:=by
 cases v<;>simp_all only[Value.oneCell',V.dn,V.den,D.den]<;>try trivial
 all_goals (try (split<;>simp_all[V.den,D.den]))
 all_goals (try first|(simp_all[D.den];done)|simp_all)
theorem dG:∀ (vs:List Value),Flat vs->V.aB B φ H w (vs.map V.dn) vs
 |[],_=>rfl
 |v::vs,h=>⟨v,vs,rfl,l5 v (h v aI),dG vs fun u hu=>h u (by simp[hu])⟩
end
end
section
theorem oe(H:Hp):H.put []=H:=by
 obtain⟨o,us⟩:=H
 simp[Hp.put,put]
theorem dV(H:Hp)(A C:List (Nat×ab)):H.put (A++C)=(H.put A).put C:=by
 obtain⟨o,us⟩:=H
 simp only[Hp.put,put,List.foldl_append,Hp.mk.injEq,true_and]
 funext id
 simp only[List.map_append,List.mem_append,eq_iff_iff]
 exact⟨fun h=>by rcases h with h|h|h<;>simp[h],fun h=>by rcases h with(h|h)|h<;>simp[h]⟩
@[simp] theorem bD (H:Hp) (i:Nat) (x:ab):(H.put [(i,x)]).o=ax H.o i x:=rfl
@[simp] theorem dW (H:Hp) (i j:Nat) (x:ab):(H.put [(i,x)]).us j↔(H.us j\/j=i):=by simp[Hp.put]
section
variable {M:Nat->Prop}{φ aG:Place}{H H':Hp}{w w':World}
theorem aP.B4 (yi:∀b,db w b-> ¬ao M φ H b->w'.heap[b]? =w.heap[b]? /\ ¬ao M aG H' b)(hrl:dU φ H aG H'){id:Nat}(ho:H'.o id=H.o id)(eu:aG id=φ id)
 (hb:(H.o id).live=true->∀b,dx (φ id)=some b->w'.heap[b]? =w.heap[b]?) (h:aP M φ H w id):aP M aG H' w' id:=by
 unfold aP at*
 rw[ho]
 cases hx:H.o id with
 |no=>trivial
 |row cs=>
  simp only[hx]at h|-
  obtain⟨b,dT,ty,h1,h2,h3,h4⟩:=h
  exact⟨b,dT,ty,eu.trans h1,(hb s7 b x8).trans h2,V.fR yi hrl cs _ h3,h4⟩
 |arr ep ty sz es=>
  simp only[hx]at h|-
  obtain⟨h0,xs,h1,evs,h2,h3,h4⟩:=h
  refine⟨h0,xs, ?_,evs,h2,h3,D.aQ yi es evs h4⟩
  rw[eu]
  obtain⟨g1,g2⟩:=h1
  refine⟨g1, ?_⟩
  rcases g2 with g2|⟨g,cap,cur,k1,k2,k3,k4⟩
  ·exact .inl g2
  ·exact .inr ⟨g,cap,cur,k1,k2,(hb s7 g (by rw[k1];rfl)).trans k3,k4⟩
 |rV ep es=>
  simp only[hx]at h|-
  rw[eu]
  exact D.aO yi (.sl es) _ h
 |map kt vt l=>
  simp only[hx]at h|-
  obtain⟨b,es,clock,h1,h2,h4,h3⟩:=h
  exact⟨b,es,clock,eu.trans h1,(hb s7 b x8).trans h2,h4,aL.mono yi l _ h3⟩
 |hZ l=>
  simp only[hx]at h|-
  rw[eu]
  exact D.aO yi (.mp _ _) _ h
 |pb l last=>
  simp only[hx]at h|-
  obtain⟨b,h1,h2⟩:=h
  exact⟨b,eu.trans h1,h2.mono yi (hb s7 b x8)⟩
 |zQ s pos=>
  simp only[hx]at h|-
  obtain⟨b,h1,h2⟩:=h
  exact⟨b,eu.trans h1,(hb s7 b x8).trans h2⟩
 |loop nf n env ps iZ eI st IK=>
  simp only[hx]at h|-
  obtain⟨b,r,h1,h2,h0,h3,h4,h5,h6,h7,h8,h9⟩:=h
  exact⟨b,r,eu.trans h1,(hb s7 b x8).trans h2,h0,h3,h4,h5,h6,h7,h8,fun i=>V.lC yi hrl _ _ (h9 i)⟩
theorem aP.mono (ht:Trans φ H w aG H' w'){id:Nat}(ho:H'.o id=H.o id)(eu:aG id=φ id)
 (hb:(H.o id).live=true->∀b,dx (φ id)=some b->w'.heap[b]? =w.heap[b]?) (h:aP M φ H w id):aP M aG H' w' id:=aP.B4 ht.blocks ht.rel ho eu hb h
theorem ay.of (hH:ay M φ H w)(ht:Trans φ H w aG H' w')(T:Nat->Prop)(hT:∀id,T id->aP M aG H' w' id)
 (hn:∀id, ¬T id->H'.o id=H.o id/\aG id=φ id/\((H.o id).live=true->∀b,dx (φ id)=some b->w'.heap[b]? =w.heap[b]?))
 (jO:∀id, ¬H'.us id->H'.o id= .no)
 (hap:∀i j b,(H'.o i).live=true->(H'.o j).live=true->dx (aG i)=some b->dx (aG j)=some b->i=j)
 (abo:∀b,cE aG H' b->b<w'.heap.size):ay M aG H' w' where
 ok id:=by
  by_cases hc:T id
  ·exact hT id hc
  ·obtain⟨h1,h2,h3⟩:=hn id hc
   exact(hH.ok id).mono ht h1 h2 h3
 fresh:=jO
 apart:=hap
 ours b hb:=by
  refine⟨fun hM=> ?_,abo b hb⟩
  rcases ht.grow b hb with h1|h1
  ·exact(hH.ours b h1).1 hM
  ·have:=hH.BB b hM;omega
 BB b hM:=Nat.lt_of_lt_of_le (hH.BB b hM) ht.keep.size
theorem ew(hk:dM (fun _=>False) w w'){fr:Nat}(cP: ¬H.us fr)(obj:ab)(val:Value)(eY:∀b,dx val=some b->w.heap.size<=b):
 Trans φ H w (ax φ fr val) (H.put [(fr,obj)]) w' where
 keep:=⟨hk.os,hk.tape,hk.output,hk.size,fun k h _=>hk.block k h (fun h=>h)⟩
 grow b:=by
  rintro⟨id,h1,h2⟩
  by_cases aq:id=fr
  ·subst aq;simp at h2;exact .inr (eY b h2)
  ·simp[aq]at h1 h2;exact .inl ⟨id,h1,h2⟩
 rel:={
  us:=fun id h=>by simp[h]
  row:=fun id hu hr=>by
   have aq:id≠fr:=fun h=>cP (h ▸ hu)
   simp[aq]at hr|-;exact hr
  ep:=fun id e' hu he=>by
   have aq:id≠fr:=fun h=>cP (h ▸ hu)
   simp[aq]at he|-;exact⟨e',he,Nat.le_refl _⟩}
theorem iJ(hH:ay M φ H w)(hk:dM (fun _=>False) w w'){fr:Nat}(cP: ¬H.us fr)(obj:ab)(val:Value)(eY:∀b,dx val=some b->w.heap.size<=b/\b<w'.heap.size)
 (vi:aP M (ax φ fr val) (H.put [(fr,obj)]) w' fr):ay M (ax φ fr val) (H.put [(fr,obj)]) w':=by
 have ht:Trans φ H w (ax φ fr val) (H.put [(fr,obj)]) w':=ew hk cP obj val fun b hb=>(eY b hb).1
 refine hH.of ht (· =fr) (fun id h=>h ▸ vi) (fun id h=> ?_) (fun id h=> ?_) (fun i j b hi hj bi bj=> ?_) (fun b=> ?_)
 ·refine⟨by simp[h],by simp[h],fun hl b hb=>hk.block b ?_ (fun h=>h)⟩
  exact(hH.ours b ⟨id,hl,hb⟩).2
 ·rw[dW]at h
  have h1:id≠fr:=fun e=>h (.inr e)
  simp only[bD,aK,h1,if_false]
  exact hH.fresh id fun hu=>h (.inl hu)
 ·by_cases e1:i=fr<;>by_cases e2:j=fr
  ·exact e1.trans e2.symm
  ·simp[e1,e2]at hi hj bi bj
   have:=(hH.ours b ⟨j,hj,bj⟩).2;have:=(eY b bi).1;omega
  ·simp[e1,e2]at hi hj bi bj
   have:=(hH.ours b ⟨i,hi,bi⟩).2;have:=(eY b bj).1;omega
  ·simp[e1,e2]at hi hj bi bj
   exact hH.apart i j b hi hj bi bj
 ·rintro⟨id,h1,h2⟩
  by_cases aq:id=fr
  ·subst aq;simp at h2;exact(eY b h2).2
  ·simp[aq]at h1 h2
   exact Nat.lt_of_lt_of_le (hH.ours b ⟨id,h1,h2⟩).2 hk.size
theorem cC(w:World)(o:Obj):dM (fun _=>False) w (w.alloc o):=
 ⟨rfl,rfl,rfl,aI,fun k hk _=>RowKit.Below.heap_alloc w o k hk⟩
theorem l6{w w':World}(h:w.grownBy w' none):dM (fun _=>False) w w':=
 ⟨h.os,h.tape,h.output,h.size,fun k hk _=>h.block k hk aI⟩
theorem O1(hH:ay M φ H w){fr:Nat}(cP: ¬H.us fr)(cs:List V)(dT:Array Value)(ty:TypeId)(hd:V.aB (ao M φ H) φ H w cs dT.toList)(hf:Flat dT.toList):
 let aG:=ax φ fr (.pointer (some ⟨w.heap.size,0,none⟩));let H':=H.put [(fr, .row cs)];let w':=w.alloc (.cells dT ty)
 ay M aG H' w'/\Trans φ H w aG H' w'/\V.den (ao M aG H') aG H' w' (.ptr fr 0) (.pointer (some ⟨w.heap.size,0,none⟩)):=by
 intro aG H' w'
 have hv:∀b,dx (.pointer (some ⟨w.heap.size,0,none⟩))=some b->w.heap.size<=b/\b<w'.heap.size:=by
  intro b hb;simp[dx]at hb;subst hb;simp[w']
 have ht:Trans φ H w aG H' w':=ew (cC w _) cP _ _ fun b hb=>(hv b hb).1
 refine⟨iJ hH (cC w _) cP _ _ hv ?_,ht,rfl,by simp[H'],fun _=>⟨w.heap.size,by simp[aG],rfl⟩⟩
 unfold aP
 simp only[bD,aK,if_true]
 exact⟨w.heap.size,dT,ty,rfl,heap_alloc_new w _,V.aQ ht cs _ hd,hf⟩
theorem eM{id:Nat}(ed:H.us id){b:Nat}(cN:(H.o id).live=true)(hb:dx (φ id)=some b)(hk:dM (· =b) w w')(obj:ab)(bG:obj.cj=(H.o id).cj)(xq:obj.b9=(H.o id).b9):
 Trans φ H w φ (H.put [(id,obj)]) w' where
 keep:=⟨hk.os,hk.tape,hk.output,hk.size,fun k h hl=>hk.block k h (fun e=>hl ⟨id,cN,e ▸ hb⟩)⟩
 grow b':=by
  rintro⟨j,h1,h2⟩
  by_cases hj:j=id
  ·subst hj;exact .inl ⟨j,cN,h2⟩
  ·simp[hj]at h1;exact .inl ⟨j,h1,h2⟩
 rel:={
  us:=fun j h=>by simp[h]
  row:=fun j hu hr=>by
   by_cases hj:j=id
   ·subst hj;simp at hr;exact⟨bG ▸ hr,rfl⟩
   ·exact Lo
  ep:=fun j e' hu he=>by
   by_cases hj:j=id
   ·subst hj;simp at he;exact⟨e',xq ▸ he,Nat.le_refl _,fun _=>rfl⟩
   ·simp[hj]at he;exact⟨e',he,Nat.le_refl _,fun _=>rfl⟩}
theorem ig(hH:ay M φ H w){id:Nat}(ed:H.us id){b:Nat}(cN:(H.o id).live=true)(hb:dx (φ id)=some b)(hk:dM (· =b) w w')(obj:ab)(bG:obj.cj=(H.o id).cj)
 (xq:obj.b9=(H.o id).b9) (vi:aP M φ (H.put [(id,obj)]) w' id):ay M φ (H.put [(id,obj)]) w':=by
 refine hH.of (eM ed cN hb hk obj bG xq) (· =id) (fun j h=>h ▸ vi) (fun j h=> ?_) (fun j h=> ?_) (fun i j b' hi hj bi bj=> ?_) (fun b'=> ?_)
 ·refine⟨by simp[h],rfl,fun hl b' Vh=>hk.block b' (hH.ours b' ⟨j,hl,Vh⟩).2 fun e=>h ?_⟩
  exact hH.apart j id b hl cN (e ▸ Vh) hb
 ·rw[dW]at h
  have h1:j≠id:=fun e=>h (.inr e)
  exact Vc
 ·refine hH.apart i j b' ?_ ?_ bi bj
  ·by_cases e:i=id
   ·subst e;exact cN
   ·simpa[e]using hi
  ·by_cases e:j=id
   ·subst e;exact cN
   ·simpa[e]using hj
 ·rintro⟨j,h1,h2⟩
  refine Nat.lt_of_lt_of_le (hH.ours b' ⟨j, ?_,h2⟩).2 hk.size
  by_cases e:j=id
  ·subst e;exact cN
  ·simpa[e]using h1
theorem kE(w:World)(b:Nat)(cs:Array Value):dM (· =b) w (w.setRow b cs):=
 ⟨rfl,rfl,rfl,aI,fun k _ hk=>by
  unfold World.setRow
  simp only[Array.getElem?_modify]
  rw[if_neg (fun e=>hk e.symm)]⟩
theorem B5(hH:ay M φ H w){id b:Nat}(ed:H.us id){cs cs':List V}(ho:H.o id= .row cs)(eu:φ id= .pointer (some ⟨b,0,none⟩)){dT:Array Value}{ty:TypeId}
 (hb:w.heap[b]? =some (.cells dT ty (0,0))) (ql:Array Value) (hd:V.aB (ao M φ H) φ H w cs' ql.toList) (hf:Flat ql.toList):
 ay M φ (H.put [(id, .row cs')]) (w.setRow b ql)/\Trans φ H w φ (H.put [(id, .row cs')]) (w.setRow b ql):=by
 have hl:(H.o id).live=true:=by rw[ho];rfl
 have yi:dx (φ id)=some b:=by rw[eu];rfl
 have ht:Trans φ H w φ (H.put [(id, .row cs')]) (w.setRow b ql):=eM ed hl yi (kE w b ql) _ eH eH
 refine⟨ig hH ed hl yi (kE w b ql) _ eH eH ?_,ht⟩
 unfold aP
 simp only[bD,aK,if_true]
 exact⟨b,ql,ty,eu,setRow_heap w b dT ql ty (0,0) hb,V.aQ ht cs' _ hd,hf⟩
theorem qn{B:Nat->Prop}{sz g:Nat}(cur:Array Value)(ty:TypeId)(fz:Nat×Nat)(hg:w.heap[g]? =some (.cells cur ty fz))(hB: ¬B g):
 ∀ (es:List D) (evs:List Value) (i:Nat),D.aB B w es evs->(∀ev∈evs,ev.cells.size=sz)->(∀j u,(evs.flatMap (·.cells.toList))[j]? =some u->cur[i*sz+j]? =some u)->D.elems B w sz ⟨g,0,none⟩ i es
 |[],_,_,_,_,_=>trivial
 |e::es,_,i,h,hs,hc=>by
  obtain⟨ev,evs,rfl,h1,h2⟩:=h
  have dO:ev.cells.size=sz:=hs ev aI
  refine⟨⟨ev,dO,fun j u hj=> ?_,h1⟩,qn cur ty fz hg hB es evs (i+1) h2 (fun x hx=>hs x o8) fun j u hj=> ?_⟩
  ·have cG:j<ev.cells.size:=(Array.getElem?_eq_some_iff.1 hj).1
   have:cur[i*sz+j]? =some u:=hc j u (by
    rw[List.flatMap_cons,List.getElem?_append_left (by simpa using cG)];simpa using hj)
   refine⟨?_,by simpa using hB⟩
   unfold Addr.add World.cell?
   by_cases e1:i*sz=0<;>by_cases e2:j=0<;>simp_all
  ·have:=hc (sz+j) u (by
    rw[List.flatMap_cons,List.getElem?_append_right (by simp[dO])]
    simpa[dO]using hj)
   rw[show(i+1)*sz+j=i*sz+(sz+j) by rw[Nat.add_mul];omega]
   exact this
theorem O2(hH:ay M φ H w){id ep sz:Nat}{ty:TypeId}{es:List D}(ed:H.us id)(ho:H.o id= .arr ep ty sz es):
 ay M φ (H.put [(id, .rV ep es)]) w/\Trans φ H w φ (H.put [(id, .rV ep es)]) w:=by
 have gY:∀b,cE φ (H.put [(id, .rV ep es)]) b->cE φ H b:=by
  rintro b ⟨j,h1,h2⟩
  by_cases hj:j=id
  ·subst hj;simp[ab.live]at h1
  ·simp[hj]at h1;exact⟨j,h1,h2⟩
 have ht:Trans φ H w φ (H.put [(id, .rV ep es)]) w:={
  keep:=dM.refl _ _
  grow:=fun b hb=> .inl (gY b hb)
  rel:={
   us:=fun j h=>by simp[h]
   row:=fun j hu hr=>by
    by_cases hj:j=id
    ·subst hj;simp[ab.cj]at hr
    ·exact Lo
   ep:=fun j e' hu he=>by
    by_cases hj:j=id
    ·subst hj;simp[ab.b9]at he;subst he;exact⟨ep,by rw[ho];rfl,Nat.le_refl _,fun _=>rfl⟩
    ·simp[hj]at he;exact⟨e',he,Nat.le_refl _,fun _=>rfl⟩}}
 refine⟨hH.of ht (· =id) (fun j h=> ?_) (fun j h=>⟨by simp[h],rfl,fun _ _ _=>rfl⟩) (fun j h=> ?_) (fun i j b hi hj bi bj=> ?_) (fun b hb=>(hH.ours b (gY b hb)).2),ht⟩
 ·subst h
  have aW:=hH.ok j
  unfold aP at aW|-
  simp only[ho,bD,aK,if_true]at aW|-
  obtain⟨h0,xs,⟨hl,bG⟩,evs,rfl,h2,h3⟩:=aW
  have hlen:=D.aA _ _ h3
  rcases bG with⟨h4,h5⟩|⟨g,cap,cur,h4,_,h5,h6,h7,h8,h9⟩
  ·rw[h4]
   have:es=[]:=by simpa using h5
   subst this
   exact aaJ
  ·rw[h4]
   refine⟨some ⟨g,0,none⟩,es.length,cap,rfl,rfl,h6,(fun h=>by cases h),sz,fun a ha=> ?_⟩
   injection ha with ha;subst ha
   refine⟨fun _=>rfl,qn cur ty (0,0) h5 ?_ es evs 0 (D.aQ (ht.blocks (M:=M)) es evs h3) h2 fun j' u GK=> ?_⟩
   ·rintro(hM|⟨i,EA,Vi⟩)
    ·exact(hH.ours g ⟨j,by rw[ho];rfl,by rw[h4];rfl⟩).1 hM
    ·by_cases e:i=j
     ·subst e;simp[ab.live]at EA
     ·simp[e]at EA
      exact e (hH.apart i j g EA eH Vi (by rw[h4];rfl))
   ·rw[<- h9]at GK
    simp only[Nat.zero_mul,Nat.zero_add]
    rw[List.getElem?_take]at GK
    split at GK
    ·simpa using GK
    ·cases GK
 ·rw[dW]at h
  have h1:j≠id:=fun e=>h (.inr e)
  exact Vc
 ·by_cases e1:i=id
  ·subst e1;simp[ab.live]at hi
  ·by_cases e2:j=id
   ·subst e2;simp[ab.live]at hj
   ·simp[e1,e2]at hi hj;exact hH.apart i j b hi hj bi bj
theorem GL(hH:ay M φ H w){id:Nat}{kt vt:TypeId}{l:List (D×D)}(ed:H.us id)(ho:H.o id= .map kt vt l):
 ay M φ (H.put [(id, .hZ l)]) w/\Trans φ H w φ (H.put [(id, .hZ l)]) w:=by
 have gY:∀b,cE φ (H.put [(id, .hZ l)]) b->cE φ H b:=by
  rintro b ⟨j,h1,h2⟩
  by_cases hj:j=id
  ·subst hj;simp[ab.live]at h1
  ·simp[hj]at h1;exact⟨j,h1,h2⟩
 have ht:Trans φ H w φ (H.put [(id, .hZ l)]) w:={
  keep:=dM.refl _ _
  grow:=fun b hb=> .inl (gY b hb)
  rel:={
   us:=fun j h=>by simp[h]
   row:=fun j hu hr=>by
    by_cases hj:j=id
    ·subst hj;exact⟨by rw[ho];rfl,rfl⟩
    ·exact Lo
   ep:=fun j e' hu he=>by
    by_cases hj:j=id
    ·subst hj;simp[ab.b9]at he
    ·simp[hj]at he;exact⟨e',he,Nat.le_refl _,fun _=>rfl⟩}}
 refine⟨hH.of ht (· =id) (fun j h=> ?_) (fun j h=>⟨by simp[h],rfl,fun _ _ _=>rfl⟩) (fun j h=> ?_) (fun i j b hi hj bi bj=> ?_) (fun b hb=>(hH.ours b (gY b hb)).2),ht⟩
 ·subst h
  have aW:=hH.ok j
  unfold aP at aW|-
  simp only[ho,bD,aK,if_true]at aW|-
  obtain⟨b,es,clock,h1,h2,h3,h4⟩:=aW
  obtain⟨h5,h6⟩:=(lB _ _).1 h4
  refine⟨b,es,clock,es.toList,h1,h2, ?_,h3, .inl rfl,D.aQ (ht.blocks (M:=M)) _ _ h5,D.aQ (ht.blocks (M:=M)) _ _ h6⟩
  rintro(hM|⟨i,EA,Vi⟩)
  ·exact(hH.ours b ⟨j,by rw[ho];rfl,by rw[h1];rfl⟩).1 hM
  ·by_cases e:i=j
   ·subst e;simp[ab.live]at EA
   ·simp[e]at EA
    exact e (hH.apart i j b EA eH Vi x8)
 ·rw[dW]at h
  have h1:j≠id:=fun e=>h (.inr e)
  exact Vc
 ·by_cases e1:i=id
  ·subst e1;simp[ab.live]at hi
  ·by_cases e2:j=id
   ·subst e2;simp[ab.live]at hj
   ·simp[e1,e2]at hi hj;exact hH.apart i j b hi hj bi bj
end
end
section
def cI(M:Nat->Prop)(φ:Place)(H:Hp)(w:World)(fr:Nat)(r:Result Next)(K:V->List (Nat×ab)->List Nat->Prop):Prop:=
 ∃nx val w' aG v Δ rd,K v Δ rd/\r= .ok nx w'/\(nx= .value val\/nx= .skip/\val=undef)/\ay M aG (H.put Δ) w'/\Trans φ H w aG (H.put Δ) w'/\
  V.den (ao M aG (H.put Δ)) aG (H.put Δ) w' v val/\(∀id∈Δ.map (·.1),H.us id\/id=fr)
section
variable {P:Program}{M:Nat->Prop}{φ:Place}{H:Hp}{w:World}{fr:Nat}{K:V->List (Nat×ab)->List Nat->Prop}
theorem cI.same (hH:ay M φ H w){r:Result Next}{v:V}{rd:List Nat}(val:Value)(hK:K v [] rd)(hr:r= .ok (.value val) w)(hd:V.den (ao M φ H) φ H w v val):cI M φ H w fr r K:=
 ⟨_,val,w,φ,v,[],rd,hK,hr, .inl rfl,by rw[oe];exact hH,by rw[oe];exact Trans.refl _ _ _,by rw[oe];exact hd,aI⟩
theorem cI.mono {r:Result Next}{K':V->List (Nat×ab)->List Nat->Prop}(h:cI M φ H w fr r K)(hk:∀v Δ rd,K v Δ rd->K' v Δ rd):cI M φ H w fr r K':=by
 obtain⟨nx,val,w',aG,v,Δ,rd,h1,h2⟩:=h
 exact⟨nx,val,w',aG,v,Δ,rd,hk _ _ _ h1,h2⟩
theorem info_of_underlying{t:TypeId}{d:TypeDesc}(h:P.underlying t=some d):∃i,P.info? t=some i:=by
 unfold Program.underlying at h
 cases hi:P.info? t with
 |none=>simp[hi]at h
 |some i=>exact⟨i,rfl⟩
theorem bL{t:TypeId}{i:TypeInfo}(h:P.info? t=some i):P.cellsOf t=i.size:=by simp[Program.cellsOf,h]
theorem l7{t:TypeId}{i:TypeInfo}(h:P.info? t=some i):P.bytesOf t=i.bytes:=by simp[Program.bytesOf,h]
theorem jP{t:TypeId}{z:List V}(h:cl P t=some z):∃i v,P.info? t=some i/\i.zero=some v/\v.cells.size=i.size/\Flat v.cells.toList/\z=v.cells.toList.map V.dn:=by
 unfold cl at h
 cases hi:P.info? t with
 |none=>simp[hi]at h
 |some i=>
  simp only[hi]at h
  cases hz:i.zero with
  |none=>simp[hz]at h
  |some v=>
   simp only[hz]at h
   split at h
   ·rename_i hc
    injection h with h
    exact⟨i,v,rfl,hz,hc.1,fun u hu=>List.all_eq_true.1 hc.2 u hu,h.symm⟩
   ·cases h
theorem r9{t:TypeId}(h:ct P t=some true)(w:World):(isAgg t).run P w= .ok true w:=by
 unfold ct at h
 unfold isAgg
 cases hd:P.underlying t with
 |none=>simp[hd]at h
 |some d=>cases d<;>simp_all[run_underlying hd]
theorem pj{t:TypeId}(h:ct P t=some false)(w:World):(isAgg t).run P w= .ok false w:=by
 unfold ct at h
 unfold isAgg
 cases hd:P.underlying t with
 |none=>simp[hd]at h
 |some d=>cases d<;>simp_all[run_underlying hd]
theorem dH{t:TypeId}{i:TypeInfo}(h:P.info? t=some i)(w:World):(sizeOf t).run P w= .ok (P.cellsOf t) w:=by
 simp[sizeOf,typeInfo,h,bL h]
theorem sb{t:TypeId}{b:Bool}(h:ct P t=some b):∃i,P.info? t=some i:=by
 unfold ct at h
 cases hd:P.underlying t with
 |none=>simp[hd]at h
 |some d=>exact info_of_underlying hd
theorem bf{t e:TypeId}(h:bV P t=some e):P.underlying t=some (.slice e):=by
 unfold bV at h
 cases hd:P.underlying t with
 |none=>simp[hd]at h
 |some d=>cases d<;>simp_all
theorem yj{t e:TypeId}{n:Nat}(h:xp P t=some (n,e)):P.underlying t=some (.array n e):=by
 unfold xp at h
 cases hd:P.underlying t with
 |none=>simp[hd]at h
 |some d=>cases d<;>simp_all
theorem add_zero(a:Addr):a.add 0=a:=by simp[Addr.add]
theorem add_plain(b o j:Nat):(⟨b,o,none⟩:Addr).add j=⟨b,o+j,none⟩:=by
 unfold Addr.add;split
 ·rename_i h;subst h;rfl
 ·rfl
theorem add_add(a:Addr)(h:a.spot=none)(m n:Nat):(a.add m).add n=a.add (m+n):=by
 obtain⟨b,o,s⟩:=a
 simp only at h;subst h
 simp only[add_plain,Nat.add_assoc]
theorem B6(a:Addr)(h:a.spot=none)(m:Nat):(a.add m).spot=none:=by
 unfold Addr.add;split<;>first|exact h|rfl
theorem ng(s:S)(a:Act)(ef:∀i,V.den (ao M φ H) φ H w (s.env i) (a.tmps.getD i undef))(x:Operand):V.den (ao M φ H) φ H w (s.ev x) (a.eval x):=by
 cases x with
 |tmp t=>exact ef t
 |func f=>exact⟨#[],#[],rfl,rfl,rfl⟩
 |global g=>trivial
 |const v=>
  cases v with
  |agg c=>
   simp only[S.ev,V.ofConst,Act.eval]
   split
   ·rename_i hc
    have hf:Flat c.toList:=fun u hu=>List.all_eq_true.1 hc u hu
    exact lE _ _ (dG _ hf) hf
   ·trivial
  |tuple _=>trivial
  |_=>simp only[S.ev,V.ofConst,Act.eval];exact l5 _ (by rfl)
theorem kF(s:S)(a:Act)(ef:∀i,V.den (ao M φ H) φ H w (s.env i) (a.tmps.getD i undef)):∀ (xs:List Operand),V.aB (ao M φ H) φ H w (xs.map s.ev) (xs.map a.eval)
 |[]=>rfl
 |x::xs=>⟨a.eval x,xs.map a.eval,rfl,ng s a ef x,kF s a ef xs⟩
theorem nh{t:TypeId}(a:Addr)(us:List Value)(hc:∀j u,us[j]? =some u->w.cell? (a.add j)=some u):
 (ct P t=some true->us.length=P.cellsOf t->(Instr.loadAt t (.pointer (some a))).run P w= .ok (.agg us.toArray) w)/\
 (ct P t=some false->∀u,us[0]? =some u->(Instr.loadAt t (.pointer (some a))).run P w= .ok u w):=by
 constructor
 ·intro h hl
  obtain⟨i,hi⟩:=sb h
  have h1:=run_loadCells_list (P:=P) w a us hc
  rw[hl]at h1
  simp[Instr.loadAt,Instr.sureAddr,loadVar,r9 h,dH hi,h1]
 ·intro h u hu
  have h1:=hc 0 u hu
  rw[add_zero]at h1
  simp[Instr.loadAt,Instr.sureAddr,loadVar,pj h,h1]
theorem qo{t:TypeId}{cs:List V}{off:Nat}{v:V}(hg:eK P t cs off=some v)(a:Addr)(vs:List Value)(hd:V.aB (ao M φ H) φ H w cs vs)(hf:Flat vs)
 (hc:∀j u,vs[j]? =some u->w.cell? (a.add j)=some u) (ha:a.spot=none):∃val,(Instr.loadAt t (.pointer (some (a.add off)))).run P w= .ok val w/\V.den (ao M φ H) φ H w v val:=by
 have hlen:=V.aA _ _ hd
 unfold eK at hg
 cases EU:ct P t with
 |none=>simp[EU]at hg
 |some b=>
  cases b with
  |true=>
   simp only[EU]at hg
   split at hg
   ·rename_i hle
    injection hg with hg;subst hg
    refine⟨.agg ((vs.drop off).take (P.cellsOf t)).toArray,(nh (P:=P) (t:=t) (a.add off) ((vs.drop off).take (P.cellsOf t)) ?_).1 EU gE, ?_⟩
    ·intro j u hj
     rw[add_add a ha]
     rw[List.getElem?_take]at hj
     split at hj
     ·exact hc _ _ m4
     ·cases hj
    ·refine lE _ _ ?_ ?_
     ·exact V.dF _ _ _ (V.et _ _ _ hd)
     ·intro u hu
      exact hf u (List.mem_of_mem_drop (List.mem_of_mem_take (by simpa using hu)))
   ·cases hg
  |false=>
   simp only[EU]at hg
   obtain⟨u,hu,O3⟩:=V.dE _ _ _ _ hd hg
   refine⟨u,(nh (P:=P) (t:=t) (a.add off) (vs.drop off) ?_).2 EU u (by simpa using hu),O3⟩
   intro j x hj
   rw[add_add a ha]
   exact hc _ _ m4
theorem ni(sz:Nat):∀ (evs:List Value) (i j:Nat) (ev:Value) (u:Value),(∀x∈evs,x.cells.size=sz)->evs[i]? =some ev->ev.cells[j]? =some u->
 (evs.flatMap (·.cells.toList))[i*sz+j]? =some u
 |[],_,_,_,_,_,h,_=>by simp at h
 |e::evs,0,j,ev,u,hs,h,hu=>by
  simp at h;subst h
  have:j<e.cells.size:=(Array.getElem?_eq_some_iff.1 hu).1
  rw[List.flatMap_cons,List.getElem?_append_left (by simp;omega)]
  simpa using hu
 |e::evs,i+1,j,ev,u,hs,h,hu=>by
  have ih:=ni sz evs i j ev u (fun x hx=>hs x o8) (by simpa using h) hu
  rw[List.flatMap_cons,List.getElem?_append_right (by simp[hs e (by simp),Nat.add_mul];omega)]
  simp only[Array.length_toList,hs e (by simp)]
  rw[show(i+1)*sz+j - sz=i*sz+j by rw[Nat.add_mul];omega]
  exact ih
theorem qp{g:Nat}{dT:Array Value}{ty:TypeId}{fz:Nat×Nat}(h:w.heap[g]? =some (.cells dT ty fz))(j:Nat)(u:Value)(hu:dT[j]? =some u):w.cell? ((⟨g,0,none⟩:Addr).add j)=some u:=by
 rw[add_plain,Nat.zero_add,cell_of_row w g j dT ty fz h];exact hu
theorem LB{B:Nat->Prop}{ty:TypeId}{sz:Nat}{es:List D}{v:Value}{b n c i:Nat}{e:D}
 (aW:0<sz/\∃xs,w.ownsRow 0 ty sz v es.length xs/\fQ B w sz es xs) (hv:v= .slice (some ⟨b,0,none⟩) n c) (he:es[i]? =some e):
 ∃ev:Value,ev.cells.size=sz/\D.aB B w e.cells ev.cells.toList/\Flat ev.cells.toList/\(∀j u,ev.cells.toList[j]? =some u->w.cell? ((⟨b,i*sz,none⟩:Addr).add j)=some u):=by
 obtain⟨h0,xs,⟨hl,bG⟩,evs,rfl,h2,h3⟩:=aW
 obtain⟨ev,du,hd⟩:=D.dE _ _ _ _ h3 he
 have Vj:=D.ff _ _ hd
 refine⟨ev,h2 ev (List.mem_of_getElem? du),Vj.1,Vj.2,fun j u hj=> ?_⟩
 subst hv
 rcases bG with⟨h4,_⟩|⟨g,cap,cur,h4,_,h5,h6,h7,h8,h9⟩
 ·simp at h4
 ·simp at h4;obtain⟨rfl,_,rfl⟩:=h4
  have:=ni sz evs i j ev u h2 du m4
  rw[<- h9,List.getElem?_take]at this
  split at this
  ·have Sg:=qp h5 (i*sz+j) u (by simpa using this)
   rw[add_plain]at Sg|-
   simpa using Sg
  ·cases this
theorem LC(hH:ay M φ H w){t:TypeId}{x:V}{xv:Value}(hx:V.den (ao M φ H) φ H w x xv)
 (h:BZ P H.o t x fun v rd=>K v [] rd):cI M φ H w fr ((do let y <- Instr.loadAt t xv;pure (Next.value y):Sem Next).run P w) K:=by
 have fin:∀ (v:V) rd,K v [] rd->(∃val,(Instr.loadAt t xv).run P w= .ok val w/\V.den (ao M φ H) φ H w v val)->cI M φ H w fr ((do let y <- Instr.loadAt t xv;pure (Next.value y):Sem Next).run P w) K:=by
  rintro v rd hK ⟨val,h1,h2⟩
  exact cI.same hH val hK (by simp[h1]) h2
 unfold BZ at h
 split at h
 ·rename_i id off
  split at h
  ·rename_i cs ho
   obtain⟨v,h1,hK⟩:=h
   obtain⟨_,hu,hp⟩:=hx
   obtain⟨b,eu,rfl⟩:=hp eH
   have aW:=hH.ok id
   simp only[aP,ho]at aW
   obtain⟨b',dT,ty,g1,g2,g3,g4⟩:=aW
   rw[eu]at g1;simp at g1;subst g1
   refine fin v _ hK ?_
   have:=qo (P:=P) h1 ⟨b,0,none⟩ dT.toList g3 g4 (fun j u hj=>qp g2 j u m4) rfl
   rwa [add_plain,Nat.zero_add]at this
  ·exact h.elim
 ·rename_i cs off
  obtain⟨v,h1,hK⟩:=h
  obtain⟨a,ev,ha,rfl,hd,hf,hc⟩:=hx
  exact fin v _ hK (qo h1 a ev ((V.cn _ _).2 hd) hf (fun j u hj=>(hc j u m4).1) ha)
 ·rename_i id ep i sz off
  split at h
  ·rename_i fF ty rL es ho
   obtain⟨rfl,rfl,e,he,v,h1,hK⟩:=h
   obtain⟨_,hu,hp⟩:=hx
   obtain⟨b,n,c,eu,rfl⟩:=(hp ep eH).2 rfl
   have aW:=hH.ok id
   simp only[aP,ho]at aW
   obtain⟨ev,g1,g2,g3,g4⟩:=LB aW eu he
   refine fin v _ hK ?_
   have:=qo (P:=P) h1 ⟨b,i*sz,none⟩ ev.cells.toList ((V.cn _ _).2 g2) g3 g4 rfl
   rwa [add_plain]at this
  ·exact h.elim
 ·exact h.elim
end
end
section
section
variable {P:Program}{M:Nat->Prop}{φ:Place}{H:Hp}{w:World}{fr:Nat}{K:V->List (Nat×ab)->List Nat->Prop}
theorem cI.plain (hH:ay M φ H w){s:Sem Value}{v:V}{rd:List Nat}(val:Value)(hK:K v [] rd)(hr:s.run P w= .ok val w)(hd:V.den (ao M φ H) φ H w v val):
 cI M φ H w fr ((do let y <- s;pure (Next.value y):Sem Next).run P w) K:=cI.same hH val hK (by simp[hr]) hd
theorem B7{t:TypeId}{f q:Nat}(h:bB P t f=some q):∃fs fd,P.underlying t=some (.struct fs)/\fs[f]? =some fd/\P.cellsOf fd.type≠0/\fd.offset=q:=by
 unfold bB at h
 cases hd:P.underlying t with
 |none=>simp[hd]at h
 |some d=>
  cases d<;>simp only[hd]at h<;>try (cases h;done)
  rename_i fs
  cases hf:fs[f]? with
  |none=>simp[hf]at h
  |some fd=>
   simp only[hf]at h
   split at h
   ·cases h
   ·injection h with h
    exact⟨fs,fd,rfl,hf,by assumption,h⟩
theorem B8{t:TypeId}{f q:Nat}(h:bB P t f=some q)(a:Addr):(Instr.fieldAt t (.pointer (some a)) f).run P w= .ok (.pointer (some (a.add q))) w:=by
 obtain⟨fs,fd,h1,h2,h3,rfl⟩:=B7 h
 have:∃i,P.info? fd.type=some i:=by
  cases hi:P.info? fd.type with
  |none=>simp[Program.cellsOf,hi]at h3
  |some i=>exact⟨i,rfl⟩
 obtain⟨i,hi⟩:=this
 simp[Instr.fieldAt,run_underlying h1,h2,Instr.sureAddr,fieldPlace,dH hi,h3]
def V.step (x:V)(q:Nat):Option V:=
 match x with
 | .ptr id off=>some (.ptr id (off+q))
 | .pp cs off=>some (.pp cs (off+q))
 | .pe id ep j sz off=>some (.pe id ep j sz (off+q))
 |_=>none
def V.place (o:Nat->ab):V->Prop
 | .ptr id _=>(o id).cj=true
 | .pe id ep _ _ _=>(o id).b9=some ep
 |_=>True
theorem B9{x y:V}{q:Nat}(h:x.step q=some y){xv:Value}(hx:V.den (ao M φ H) φ H w x xv)
 (hr:x.place H.o):
 ∃a,xv= .pointer (some a)/\V.den (ao M φ H) φ H w y (.pointer (some (a.add q))):=by
 cases x with
 |ptr id off=>
  simp only[V.step,Option.some.injEq]at h;subst h
  obtain⟨h1,h2,h3⟩:=hx
  obtain⟨b,h4,rfl⟩:=h3 hr
  exact⟨_,rfl,rfl,h2,fun _=>⟨b,h4,by rw[add_plain]⟩⟩
 |pp cs off=>
  simp only[V.step,Option.some.injEq]at h;subst h
  obtain⟨a,ev,ha,rfl,hd⟩:=hx
  exact⟨_,rfl,a,ev,ha,by rw[add_add a ha],hd⟩
 |pe id ep j sz off=>
  simp only[V.step,Option.some.injEq]at h;subst h
  obtain⟨h1,h2,h3⟩:=hx
  obtain⟨b,n,c,h4,rfl⟩:=(h3 ep hr).2 rfl
  refine⟨_,rfl,rfl,h2,fun e he=>⟨(h3 e he).1,fun heq=>⟨b,n,c,h4,by rw[add_plain,Nat.add_assoc]⟩⟩⟩
 |_=>simp[V.step]at h
theorem xr(hH:ay M φ H w){t:TypeId}{f:Nat}{x:V}{xv:Value}(hx:V.den (ao M φ H) φ H w x xv)(h:jM P H.o t x f fun v=>K v [] []):
 cI M φ H w fr ((do let y <- Instr.fieldAt t xv f;pure (Next.value y):Sem Next).run P w) K:=by
 have fin:∀ (y:V) q,bB P t f=some q->x.step q=some y->x.place H.o->K y [] []->
  cI M φ H w fr ((do let y <- Instr.fieldAt t xv f;pure (Next.value y):Sem Next).run P w) K:=by
  intro y q hq hs hr hK
  obtain⟨a,rfl,hd⟩:=B9 hs hx hr
  exact cI.plain hH _ hK (B8 hq a) hd
 unfold jM at h
 split at h
 ·rename_i q hq
  split at h
  ·exact fin _ q hq rfl h.1 h.2
  ·exact fin _ q hq rfl trivial h
  ·exact fin _ q hq rfl h.1 h.2
  ·exact h.elim
 ·exact h.elim
theorem EV{B:Nat->Prop}{es:List D}{xv:Value}(hx:D.den B w (.sl es) xv){i:Nat}{y:D}(hy:es[i]? =some y):
 ∃a len cap ev,xv= .slice (some a) len cap/\i<len/\a.spot=none/\D.aB B w y.cells ev/\Flat ev/\gI B w (a.add (i*y.cells.length)) ev.toArray/\len=es.length:=by
 obtain⟨base,len,cap,rfl,rfl,h2,h3,sz,h4⟩:=hx
 have cG:i<es.length:=(List.getElem?_eq_some_iff.1 hy).1
 cases base with
 |none=>have:=h3 rfl;omega
 |some a=>
  obtain⟨h5,h6⟩:=h4 a rfl
  obtain⟨ev,h7,h8,h9⟩:=D.ya es 0 i y h6 hy
  have Sg:=D.ff _ _ h9
  have h11:y.cells.length=sz:=by rw[<- h7, <- D.aA _ _ Sg.1];simp
  refine⟨a,es.length,cap,ev.cells.toList,rfl,cG,h5 ag,Sg.1,Sg.2, ?_,rfl⟩
  rw[h11]
  simpa using h8
theorem oT{t e:TypeId}(ht:bV P t=some e)(a:Addr)(len cap:Nat)(k:IntKind)(i:Int)(h0:0<=i)(h1:i.toNat<len)(hc:0<P.cellsOf e):
 (Instr.indexAt t (.slice (some a) len cap) (.int k i)).run P w= .ok (.pointer (some (a.add (i.toNat*P.cellsOf e)))) w:=by
 have hu:=bf ht
 have:∃ie,P.info? e=some ie:=by
  cases hi:P.info? e with
  |none=>simp[Program.cellsOf,hi]at hc
  |some i=>exact⟨i,rfl⟩
 obtain⟨ie,hi⟩:=this
 have h2:0<=i/\i<(len:Int):=⟨h0,ag⟩
 simp[Instr.indexAt,run_underlying hu,asIntOf,h2,dH hi]
theorem xu{t e:TypeId}{n:Nat}(ht:xp P t=some (n,e))(a:Addr)(k:IntKind)(i:Int)(h0:0<=i)(h1:i<n)(hi:∃ie,P.info? e=some ie):
 (Instr.indexAt t (.pointer (some a)) (.int k i)).run P w= .ok (.pointer (some (a.add (i.toNat*P.cellsOf e)))) w:=by
 have hu:=yj ht
 obtain⟨ie,hi⟩:=hi
 have h2:0<=i/\i<(n:Int):=⟨h0,h1⟩
 simp[Instr.indexAt,run_underlying hu,asIntOf,Instr.sureAddr,h2,dH hi]
theorem xw(hH:ay M φ H w){t:TypeId}{x ix:V}{xv iv:Value}(hx:V.den (ao M φ H) φ H w x xv)(hi:V.den (ao M φ H) φ H w ix iv)
 (h:jL P H.o t x ix fun v rd=>K v [] rd):cI M φ H w fr ((do let y <- Instr.indexAt t xv iv;pure (Next.value y):Sem Next).run P w) K:=by
 unfold jL at h
 split at h
 ·rename_i k i
  simp only[V.den,D.den]at hi;subst hi
  have zV:∀ {e:TypeId} {es:List D} {rd},bV P t=some e->D.den (ao M φ H) w (.sl es) xv->(0<=i/\∃y,es[i.toNat]? =some y/\y.cells.length=P.cellsOf e/\0<P.cellsOf e/\K (.pp y.cells 0) [] rd)->
   cI M φ H w fr ((do let y <- Instr.indexAt t xv (.int k i);pure (Next.value y):Sem Next).run P w) K:=by
   rintro e es rd ht hd ⟨h0,y,hy,hc,fT,hK⟩
   obtain⟨a,len,cap,ev,rfl,h1,h2,h3,h4,h5,_⟩:=EV hd hy
   refine cI.plain hH _ hK (oT ht a len cap k i h0 h1 fT) ⟨a.add (i.toNat*P.cellsOf e),ev,B6 a h2 _,by rw[add_zero],h3,h4, ?_⟩
   rw[<- hc];exact h5
  split at h
  ·rename_i e ht
   split at h
   ·exact zV ht hx h
   ·exact zV ht hx.1 h
   ·rename_i id ep
    split at h
    ·rename_i fF ty sz es ho
     obtain⟨rfl,h0,h1,rfl,fT,hK⟩:=h
     obtain⟨xy,ed,xq⟩:=hx
     have hv:=(xq ep eH).2 rfl
     have aW:=hH.ok id
     simp only[aP,ho]at aW
     obtain⟨h3,xs,⟨_,bG⟩,_⟩:=aW
     rcases bG with⟨_,h5⟩|⟨g,cap,cur,h4,_⟩
     ·omega
     ·subst hv
      rw[h4]
      refine cI.plain hH _ hK (oT ht _ _ cap k i h0 h1 fT) ⟨rfl,ed,fun e' pW=>⟨(xq e' pW).1,fun heq=>⟨g,es.length,cap,h4,by rw[add_plain];simp⟩⟩⟩
    ·rename_i fF es ho
     obtain⟨rfl,h⟩:=h
     obtain⟨xy,ed,xq⟩:=hx
     have hv:=(xq ep eH).2 rfl
     have aW:=hH.ok id
     simp only[aP,ho]at aW
     exact zV ht (hv ▸ aW) h
    ·exact h.elim
   ·exact h.elim
  ·split at h
   ·rename_i n e ht
    obtain⟨h0,h1,ae4,h⟩:=h
    have fin:∀ (y:V),x.step (i.toNat*P.cellsOf e)=some y->x.place H.o->K y [] []->
     cI M φ H w fr ((do let y <- Instr.indexAt t xv (.int k i);pure (Next.value y):Sem Next).run P w) K:=by
     intro y hs hr hK
     obtain⟨a,rfl,hd⟩:=B9 hs hx hr
     refine cI.plain hH _ hK (xu ht a k i h0 h1 (Option.isSome_iff_exists.1 ae4)) hd
    split at h
    ·exact fin _ rfl h.1 h.2
    ·exact fin _ rfl trivial h
    ·exact fin _ rfl h.1 h.2
    ·exact h.elim
   ·exact h.elim
 ·exact h.elim
theorem Vk(hH:ay M φ H w){op:UnOp}{x:V}{xv:Value}(hx:V.den (ao M φ H) φ H w x xv)(h:unV op x fun v=>K v [] []):
 cI M φ H w fr ((do let y <- Op.unary op xv;pure (Next.value y):Sem Next).run P w) K:=by
 unfold unV at h
 split at h
 ·simp only[V.den,D.den]at hx;subst hx
  exact cI.plain hH _ h (by simp[Op.unary,Op.intArith]) rfl
 ·simp only[V.den,D.den]at hx;subst hx
  exact cI.plain hH _ h (by simp[Op.unary]) rfl
 ·exact h.elim
theorem BQ{op:BinOp}{k:IntKind}{a b r:Int}(h:vc op k a b=some r):(Op.intBits op k a b).run P w= .ok (.int k r) w:=by
 unfold vc at h
 cases op<;>simp at h<;>subst h<;>simp[Op.intBits]
theorem tc{t:TypeId}(hu:P.underlying t=some .bool)(a b:Bool)(d:Nat):(Op.equalIn (d+1) t (.bool a) (.bool b)).run P w= .ok (a==b) w:=by
 simp[Op.equalIn,run_underlying hu]
theorem O4(hH:ay M φ H w){op:BinOp}{t:TypeId}{p q:Operand}{x y:V}{xv yv:Value}(hx:V.den (ao M φ H) φ H w x xv)(hy:V.den (ao M φ H) φ H w y yv)
 (h:Lz P op t x y fun v=>K v [] []):
 cI M φ H w fr ((do let y <- (do eqGuard op t p q xv yv;binOp op t xv yv);pure (Next.value y):Sem Next).run P w) K:=by
 unfold Lz at h
 split at h
 ·rename_i k a k' b
  obtain⟨rfl,h⟩:=h
  simp only[V.den,D.den]at hx hy;subst hx;subst hy
  have hg:(eqGuard op t p q (.int k a) (.int k b)).run P w= .ok () w:=by
   exact Lm
  have fin:∀ (v:V) (val:Value),K v [] []->(binOp op t (.int k a) (.int k b)).run P w= .ok val w->V.den (ao M φ H) φ H w v val->
   cI M φ H w fr ((do let y <- (do eqGuard op t p q (.int k a) (.int k b);binOp op t (.int k a) (.int k b));pure (Next.value y):Sem Next).run P w) K:=by
   intro v val hK hr hd
   exact cI.plain hH val hK (by simp[hg,hr]) hd
  cases op<;>simp only[OY]at h
  case add=>exact fin _ _ h (by simp[binOp,Op.intArith]) rfl
  case sub=>exact fin _ _ h (by simp[binOp,Op.intArith]) rfl
  case mul=>exact fin _ _ h (by simp[binOp,Op.intArith]) rfl
  case quo=>exact fin _ _ h.2 (by simp[binOp,Op.intDiv,h.1]) rfl
  case rem=>exact fin _ _ h.2 (by simp[binOp,Op.intDiv,h.1]) rfl
  case and=>obtain⟨r,hr,hK⟩:=h;exact fin _ _ hK Gt rfl
  case or=>obtain⟨r,hr,hK⟩:=h;exact fin _ _ hK Gt rfl
  case xor=>obtain⟨r,hr,hK⟩:=h;exact fin _ _ hK Gt rfl
  case andNot=>obtain⟨r,hr,hK⟩:=h;exact fin _ _ hK Gt rfl
  all_goals
   obtain⟨r,hr,hK⟩:=h
   simp only[abn,Option.some.injEq]at hr
   subst hr
   exact fin _ _ hK (by simp[binOp,Op.intCmp];rfl) (by simp[V.den,D.den])
 ·rename_i a b
  simp only[V.den,D.den]at hx hy;subst hx;subst hy
  have hg:(eqGuard op t p q (.bool a) (.bool b)).run P w= .ok () w:=by
   exact Lm
  split at h
  ·obtain⟨hu,hK⟩:=h
   have h1:(Op.equal t (.bool a) (.bool b)).run P w= .ok (a==b) w:=tc hu a b 9999
   exact cI.plain hH (.bool (a==b)) hK (by simp[hg,binOp,h1]) rfl
  ·obtain⟨hu,hK⟩:=h
   have h1:(Op.equal t (.bool a) (.bool b)).run P w= .ok (a==b) w:=tc hu a b 9999
   exact cI.plain hH (.bool (a !=b)) hK (by simp[hg,binOp,h1,bne]) rfl
  ·exact h.elim
 ·rename_i a b
  obtain⟨u,rfl,rfl⟩:=hx
  obtain⟨v,rfl,rfl⟩:=hy
  have hg:(eqGuard op t p q (.string u) (.string v)).run P w= .ok () w:=by
   exact Lm
  split at h
  ·exact cI.plain hH (.bool (u.data.toList==v.data.toList)) h (by simp[hg,binOp,Op.stringOp,ByteArray.toList_eq]) rfl
  ·exact cI.plain hH (.bool (u.data.toList !=v.data.toList)) h (by simp[hg,binOp,Op.stringOp,ByteArray.toList_eq,bne]) rfl
  ·exact h.elim
 ·rename_i a b
  obtain⟨a',rfl,hx⟩:=hx
  obtain⟨b',rfl,hy⟩:=hy
  split at h
  ·obtain⟨r,hr,hK⟩:=h
   obtain⟨h1,h2⟩:=hr (ao M φ H) w (.agg a') (.agg b') ⟨a',rfl,hx⟩ ⟨b',rfl,hy⟩
   exact cI.plain hH (.bool r) hK (by simp[h2,binOp,h1]) rfl
  ·obtain⟨r,hr,hK⟩:=h
   obtain⟨h1,h2⟩:=hr (ao M φ H) w (.agg a') (.agg b') ⟨a',rfl,hx⟩ ⟨b',rfl,hy⟩
   exact cI.plain hH (.bool !r) hK (by simp[h2,binOp,h1]) rfl
  ·exact h.elim
 ·exact h.elim
theorem LD(hH:ay M φ H w){c a b:V}{cv av bv:Value}(hc:V.den (ao M φ H) φ H w c cv)(ha:V.den (ao M φ H) φ H w a av)(hb:V.den (ao M φ H) φ H w b bv)
 (h:BX c a b fun v=>K v [] []):cI M φ H w fr ((do pure (.value (if <- asBool cv then av else bv)):Sem Next).run P w) K:=by
 unfold BX at h
 split at h
 ·rename_i t
  simp only[V.den,D.den]at hc;subst hc
  have hr:((do pure (.value (if <- asBool (.bool t)then av else bv)):Sem Next).run P w)= .ok (.value (if t then av else bv)) w:=by simp[asBool]
  have fin:∀v,K v [] []->V.den (ao M φ H) φ H w v (if t then av else bv)->cI M φ H w fr ((do pure (.value (if <- asBool (.bool t)then av else bv)):Sem Next).run P w) K:=
   fun v hK hd=>cI.same hH _ hK hr hd
  cases t
  ·exact fin _ (h.2 rfl) (by simpa using hb)
  ·exact fin _ (h.1 rfl) (by simpa using ha)
 ·exact h.elim
theorem uB{t:TypeId}{e:TypeId}(hu:P.underlying t=some (.slice e))(base:Option Addr)(n c:Nat)(ty:TypeId):(Builtin.len_ #[t] ty #[.slice base n c]).run P w= .ok (goInt n) w:=by
 simp[Builtin.len_,run_underlying hu]
theorem O5(hH:ay M φ H w){t ty:TypeId}{x:V}{xv:Value}(hx:V.den (ao M φ H) φ H w x xv)(h:LA P t H.o x fun v rd=>K v [] rd):
 cI M φ H w fr ((do let y <- Builtin.len_ #[t] ty #[xv];pure (Next.value y):Sem Next).run P w) K:=by
 unfold LA at h
 split at h
 ·rename_i e hu
  have fin:∀ {es:List D} {rd},D.den (ao M φ H) w (.sl es) xv->K (.d (.int .i64 es.length)) [] rd->cI M φ H w fr ((do let y <- Builtin.len_ #[t] ty #[xv];pure (Next.value y):Sem Next).run P w) K:=by
   rintro es rd ⟨base,len,cap,rfl,rfl,_⟩ hK
   exact cI.plain hH _ hK (uB hu _ _ _ _) rfl
  split at h
  ·exact fin hx h
  ·simp only[V.den]at hx;subst hx
   exact cI.plain hH _ h (uB hu _ _ _ _) rfl
  ·exact fin hx.1 h
  ·rename_i id ep
   split at h
   ·rename_i fF ty sz es ho
    obtain⟨rfl,hK⟩:=h
    obtain⟨xy,ed,xq⟩:=hx
    have hv:=(xq ep eH).2 rfl
    have aW:=hH.ok id
    simp only[aP,ho]at aW
    obtain⟨h3,xs,⟨_,bG⟩,_⟩:=aW
    subst hv
    rcases bG with⟨h4,h5⟩|⟨g,cap,cur,h4,_⟩
    ·rw[h4];rw[h5]at hK;exact cI.plain hH _ hK (uB hu _ _ _ _) rfl
    ·rw[h4];exact cI.plain hH _ hK (uB hu _ _ _ _) rfl
   ·rename_i fF es ho
    obtain⟨rfl,hK⟩:=h
    obtain⟨xy,ed,xq⟩:=hx
    have hv:=(xq ep eH).2 rfl
    have aW:=hH.ok id
    simp only[aP,ho]at aW
    exact fin (hv ▸ aW) hK
   ·exact h.elim
  ·exact h.elim
 ·rename_i hu
  split at h
  ·obtain⟨u,rfl,rfl⟩:=hx
   exact cI.plain hH (goInt u.size) h (by simp[Builtin.len_,run_underlying hu]) (by simp[V.den,D.den,goInt])
  ·exact h.elim
 ·rename_i n e hu
  exact cI.plain hH _ h (by simp[Builtin.len_,run_underlying hu];rfl) rfl
 ·exact h.elim
end
end
end Go.Proofs.YtnkamdiiakdkgaaGreat
