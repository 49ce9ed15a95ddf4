/-
  A PART OF THE PROOF. Conditions: none.
-/
import Derived.Test.YtealblliddhgiaaGreatGn10
set_option linter.unusedSimpArgs false
set_option linter.unusedVariables false
namespace Go.Proofs.YtealblliddhgiaaGreat
mutual
def V.same:V->V->Bool
 | .d x, .d y=>x.same y
 | .bn, .bn=>true
 | .ab, .ab=>true
 | .agg a, .agg b=>V.fT a b
 | .ptr i o, .ptr j p=>Nat.beq i j&&Nat.beq o p
 | .osl i o, .osl j p=>Nat.beq i j&&Nat.beq o p
 | .ox a, .ox b=>D.fT a b
 | .iface t x, .iface u y=>Nat.beq t u&&x.same y
 | .mp i, .mp j=>Nat.beq i j
 |_,_=>false
def V.fT:List V->List V->Bool
 |[],[]=>true
 |a::cd,b::bs=>a.same b&&V.fT cd bs
 |_,_=>false
end
mutual
theorem V.dW:∀ (x y:V),x.same y=true->x=y
 | .d x,y,h=>by cases y<;>simp only[V.same,Bool.false_eq_true]at h;rw[D.dW _ _ h]
 | .bn,y,h=>by cases y<;>simp_all[V.same]
 | .ab,y,h=>by cases y<;>simp_all[V.same]
 | .agg a,y,h=>by cases y<;>simp only[V.same,Bool.false_eq_true]at h;rw[V.du _ _ h]
 | .ptr i o,y,h=>by
   cases y<;>simp only[V.same,Bool.false_eq_true,Bool.and_eq_true]at h
   rw[Nat.eq_of_beq_eq_true h.1,Nat.eq_of_beq_eq_true h.2]
 | .osl i o,y,h=>by
   cases y<;>simp only[V.same,Bool.false_eq_true,Bool.and_eq_true]at h
   rw[Nat.eq_of_beq_eq_true h.1,Nat.eq_of_beq_eq_true h.2]
 | .ox a,y,h=>by cases y<;>simp only[V.same,Bool.false_eq_true]at h;rw[D.du _ _ h]
 | .iface t x,y,h=>by
   cases y<;>simp only[V.same,Bool.false_eq_true,Bool.and_eq_true]at h
   rw[Nat.eq_of_beq_eq_true h.1,V.dW _ _ h.2]
 | .mp i,y,h=>by
   cases y<;>simp only[V.same,Bool.false_eq_true]at h
   rw[Nat.eq_of_beq_eq_true h]
 | .bS _,y,h| .pe _ _ _ _ _,y,h| .pp _ _,y,h| .func _ _ _,y,h| .sX _ _ _,y,h| .eZ,y,h| .kV _,y,h=>by simp[V.same]at h
theorem V.du:∀ (x y:List V),V.fT x y=true->x=y
 |[],y,h=>by cases y<;>simp_all[V.fT]
 |a::cd,y,h=>by
  cases y<;>simp only[V.fT,Bool.false_eq_true,Bool.and_eq_true]at h
  rw[V.dW _ _ h.1,V.du _ _ h.2]
end
def ug:List (D×D)->List (D×D)->Bool
 |[],[]=>true
 |(a,b)::l,(c,d)::m=>a.same c&&(b.same d&&ug l m)
 |_,_=>false
theorem uh:∀ (l m:List (D×D)),ug l m=true->l=m
 |[],m,h=>by cases m<;>simp_all[ug]
 |(a,b)::l,m,h=>by
  cases m with
  |nil=>simp[ug]at h
  |cons p m=>
   obtain⟨c,d⟩:=p
   simp only[ug,Bool.and_eq_true]at h
   rw[D.dW _ _ h.1,D.dW _ _ h.2.1,uh l m h.2.2]
noncomputable def ae.same:ae->ae->Bool
 | .no, .no=>true
 | .row a, .row b=>V.fT a b
 | .arr e t s a, .arr f u r b=>Nat.beq e f&&Nat.beq t u&&Nat.beq s r&&D.fT a b
 | .ph e a, .ph f b=>Nat.beq e f&&D.fT a b
 | .map k v a, .map k' v' b=>Nat.beq k k'&&Nat.beq v v'&&ug a b
 | .fq a, .fq b=>ug a b
 | .sY a i, .sY b j=>a==b&&Nat.beq i j
 |_,_=>false
theorem ae.dW {x y:ae}(h:x.same y=true):x=y:=by
 cases x<;>cases y<;>simp only[ae.same,Bool.false_eq_true,Bool.and_eq_true]at h
 ·rfl
 ·rw[V.du _ _ h]
 ·rw[Nat.eq_of_beq_eq_true h.1.1.1,Nat.eq_of_beq_eq_true h.1.1.2,Nat.eq_of_beq_eq_true h.1.2,D.du _ _ h.2]
 ·rw[Nat.eq_of_beq_eq_true h.1,D.du _ _ h.2]
 ·rw[Nat.eq_of_beq_eq_true h.1.1,Nat.eq_of_beq_eq_true h.1.2,uh _ _ h.2]
 ·rw[uh _ _ h]
 ·rw[eq_of_beq h.1,Nat.eq_of_beq_eq_true h.2]
noncomputable def reach(o:Nat->ae):Nat->List Nat->List Nat->List Nat
 |0,_,seen=>seen
 |_+1,[],seen=>seen
 |n+1,id::todo,seen=>match seen.contains id with
  |true=>reach o n todo seen
  |false=>reach o n ((o id).refs++todo) (id::seen)
noncomputable def eK(o o1:Nat->ae):List Nat->List (Nat×ae)
 |[]=>[]
 |id::l=>match(o id).same (o1 id)with
  |true=>eK o o1 l
  |false=>(id,o1 id)::eK o o1 l
theorem iN{o o1:Nat->ae}:∀ (l:List Nat) (x:Nat×ae),x∈eK o o1 l->x.1∈l/\x.2=o1 x.1
 |[],x,h=>by simp[eK]at h
 |id::l,x,h=>by
  simp only[eK]at h
  split at h
  ·obtain⟨h1,h2⟩:=iN l x h;exact⟨List.mem_cons_of_mem _ h1,h2⟩
  ·rcases List.mem_cons.1 h with rfl|h
   ·exact⟨by simp,rfl⟩
   ·obtain⟨h1,h2⟩:=iN l x h;exact⟨List.mem_cons_of_mem _ h1,h2⟩
theorem nh{o o1:Nat->ae}:∀ (l:List Nat) (id:Nat),id∈l->id∉(eK o o1 l).map (·.1)->o1 id=o id
 |[],id,h,_=>by simp at h
 |j::l,id,h,hn=>by
  simp only[eK]at hn
  split at hn
  ·rename_i hs
   rcases List.mem_cons.1 h with rfl|h
   ·exact(ae.dW hs).symm
   ·exact nh l id h hn
  ·simp only[List.map_cons,List.mem_cons,not_or]at hn
   rcases List.mem_cons.1 h with rfl|h
   ·exact absurd rfl hn.1
   ·exact nh l id h hn.2
theorem AJ{o1:Nat->ae}:∀ (Δ:List (Nat×ae)) (o:Nat->ae),(∀x∈Δ,x.2=o1 x.1)->∀id,id∈Δ.map (·.1)\/o id=o1 id->put o Δ id=o1 id
 |[],o,_,id,h=>by rcases h with h|h;· simp at h
                  ·exact h
 |x::Δ,o,hv,id,h=>by
  simp only[put,List.foldl_cons]
  refine AJ Δ (ak o x.1 x.2) (fun y hy=>hv y (List.mem_cons_of_mem _ hy)) id ?_
  simp only[List.map_cons,List.mem_cons]at h
  simp only[aJ]
  by_cases e:id=x.1
  ·right;rw[if_pos e,hv x (by simp),e]
  ·rcases h with(h|h)|h
   ·exact absurd h e
   ·exact .inl h
   ·right;rw[if_neg e];exact h
theorem rQ{o o1:Nat->ae}{l:List Nat}{id:Nat}(h:id∈l):o1 id=put o (eK o o1 l) id:=by
 by_cases hm:id∈(eK o o1 l).map (·.1)
 ·exact(AJ _ o (fun x hx=>(iN l x hx).2) id (.inl hm)).symm
 ·rw[gh hm];exact nh l id h hm
inductive DR where
 |val (v:V) (Δ:List (Nat×ae)) (rd:List Nat)|bG (v:V) (ws rd:List Nat)
def DR.to (K:V->List (Nat×ae)->List Nat->Prop)(KX:V->List Nat->List Nat->Prop):DR->Prop
 | .val v Δ rd=>K v Δ rd
 | .bG v ws rd=>KX v ws rd
noncomputable def Ss(c:CR):Option eo:=some (.c c)
noncomputable def hX(P:Program)(b9:Nat->FD)(rec:dE)(g:Nat)(args:List V)(st:St):Option DR:=
 let rd:=reach st.o.get 2000 (V.ag args) []
 match rd.all (fun id=>Nat.blt id st.nx&&(st.o.get id).refs.all rd.contains)&&(V.ag args).all rd.contains with
 |true=>match Hr P b9 rec g args (.e (Dx rd st.o.get)) st.nx Ss with
  |some (.c (.ret v o1 _))=>match v with
   | .bS [_]=>none
   |v=>match cc o1.get (ue v)with
    |some rs=>match(eK st.o.get o1.get rd).all (fun x=>x.2.refs.all rd.contains)&&(V.bf (ue v)).all (fun id=> !rd.contains id)with
     |true=>some (.val (gS rs) (eK st.o.get o1.get rd) rd)
     |false=>none
    |none=>none
  |some (.c (.bG v o1 _))=>match dO o1.get v with
   |some x=>match(eK st.o.get o1.get rd).all (fun x=>x.2.refs.all rd.contains)&&v.ids.all (fun id=> !rd.contains id)with
    |true=>some (.bG (.d x) ((eK st.o.get o1.get rd).map (·.1)) rd)
    |false=>none
   |none=>none
  |_=>none
 |false=>none
noncomputable def VM(P:Program)(b9:Nat->FD)(md:sv P)(rec:dE)(g:Nat)(args:List V)(st:St)(rd:List Nat):Option DR:=
 match cc st.o.get args with
 |some ds=>match md.Sp g with
  |false=>match Hr P b9 rec g (ds.map .d) (.e fun _=> .no) 0 Ss with
   |some (.c (.ret v _ _))=>match v.refs with
    |[]=>some (.val v (cQ st.o.get (V.bf args)) rd)
    |_=>none
   |_=>none
  |true=>match J3 P b9 md rec g ds with
   |some (.ret rs)=>match D.jE rs with
    |true=>some (.val (gS rs) [] rd)
    |false=>some (.val (gS rs) (cQ st.o.get (V.bf args)) rd)
   |some (.bG x)=>match x.flat with
    |true=>some (.bG (.d x) [] rd)
    |false=>none
   |none=>none
 |none=>hX P b9 rec g args st
noncomputable def VN(P:Program)(st:St)(fr:Nat)(op:Op):Option DR:=
 match J2 op P st.S fr with
 |some (v,Δ,_)=>some (.val v Δ (jr st.S op))
 |none=>none
def V.Xc:V->Bool
 | .mp _=>true
 |_=>false
def OD{P:Program}(md:sv P)(g:Nat)(args:List V):Bool:= !md.Sp g&&args.any V.Xc
def wN(args:List V):Option (List D):=
 match V.bf args with
 |[]=>cc (fun _=> .no) args
 |_=>none
noncomputable def J8(P:Program)(t:TypeId)(c:CR):Option eo:=
 match c with
 | .ret v o1 _=>match v with
   | .osl j ep=>match o1.get j with
     | .arr gU ty sz es=>match Nat.beq gU ep with
       |true=>Sn (.ret [.sl es, .int .i64 (ty:Nat), .int .i64 (sz:Nat)]) fun x=>some (.r x)
       |false=>none
     |_=>none
   | .bn=>match aV P t with
     |some e=>match Nat.blt 0 (P.cellsOf e)with
      |true=>Sn (.ret [.sl [], .int .i64 (e:Nat), .int .i64 (P.cellsOf e:Nat)]) fun x=>some (.r x)
      |false=>none
     |none=>none
   |_=>none
 |_=>none
noncomputable def OE(P:Program)(b9:Nat->FD)(rec:dE)(g:Nat)(t:TypeId)(args:List V)(st:St)(fr:Nat):Option DR:=
 match wN args with
 |some ds=>match Hr P b9 rec g (ds.map .d) (.e fun _=> .no) 0 (J8 P t)with
  |some (.r (.ret [.sl es, .int .i64 (.ofNat ty), .int .i64 (.ofNat sz)]))=>some (.val (.osl fr 0) [(fr, .arr 0 ty sz es)] [])
  |_=>none
 |none=>match cc st.o.get args with
  |some ds=>match Hr P b9 rec g (ds.map .d) (.e fun _=> .no) 0 (J8 P t)with
   |some (.r (.ret [.sl es, .int .i64 (.ofNat ty), .int .i64 (.ofNat sz)]))=>match D.jE es&&(V.bf args).all (fun id=>Nat.blt id st.nx)with
    |true=>some (.val (.osl fr 0) [(fr, .arr 0 ty sz es)] (V.bf args))
    |false=>none
   |_=>none
  |none=>none
noncomputable def J9(P:Program)(b9:Nat->FD)(md:sv P)(rec:dE)(st:St)(fr:Nat)(op:Op):Option DR:=
 match op with
 | .call c=>match c.callee with
   | .value f=>match st.S.ev f with
     | .func (.func g) first cap=>match OD md g (first++c.args.toList.map st.S.ev++cap)with
       |true=>hX P b9 rec g (first++c.args.toList.map st.S.ev++cap) st
       |false=>match VM P b9 md rec g (first++c.args.toList.map st.S.ev++cap) st (jr st.S (.call c))with
        |some r=>some r
        |none=>OE P b9 rec g (c.argTypes.getD 0 0) (first++c.args.toList.map st.S.ev++cap) st fr
     |_=>none
   |_=>VN P st fr (.call c)
 |op=>VN P st fr op
noncomputable def Su(st:St):Option (Nat×Bool)->Option Bool
 |none=>some true
 |some (d,want)=>match st.env.get d with
  | .d (.bool b)=>some (b==want)
  | .bS []=>some false
  |_=>none
noncomputable def ui(P:Program)(b9:Nat->FD)(md:sv P)(rec:dE)(pr:List (List Nat)):List cg->Nat->St->Fp->List Nat->List Nat->Option (List Nat×Fp)
 |[],_,_,fp,_,ws=>some (ws,fp)
 |o::l,fr,st,fp,bad,ws=>match(pr.getD fp.length []).any (fun j=>bad.contains j)with
  |true=>ui P b9 md rec pr l (fr+1) ⟨rP st.env o.dst .ab,st.o,st.nx⟩ (fp++[([],[])]) (bad++[fp.length]) ws
  |false=>match Su st o.gd with
   |some true=>match J9 P b9 md rec st fr o.op with
    |some (.val v Δ rd)=>mb st.env o.dst v fun e=>ud st.o Δ fun ob=>ui P b9 md rec pr l (fr+1) ⟨e,ob,st.nx⟩ (fp++[(rd,Δ.map (·.1))]) bad (ws++Δ.map (·.1))
    |_=>none
   |some false=>ui P b9 md rec pr l (fr+1) ⟨rP st.env o.dst (.bS []),st.o,st.nx⟩ (fp++[([],[])]) bad ws
   |none=>none
inductive DQ where
 |fin (st:St) (fp:Fp)|bG (v:V) (wl:List Nat) (fp:Fp)
noncomputable def uj(P:Program)(b9:Nat->FD)(md:sv P)(rec:dE)(pr:List (List Nat)):List cg->Nat->St->Fp->Option DQ
 |[],_,st,fp=>some (.fin st fp)
 |o::l,fr,st,fp=>match Su st o.gd with
  |some true=>match J9 P b9 md rec st fr o.op with
   |some (.val v Δ rd)=>mb st.env o.dst v fun e=>ud st.o Δ fun ob=>Nat.fc (fr+1) fun fr=>uj P b9 md rec pr l fr ⟨e,ob,st.nx⟩ (fp++[(rd,Δ.map (·.1))])
   |some (.bG v ws rd)=>match ui P b9 md rec pr l (fr+1) ⟨rP st.env o.dst .ab,st.o,st.nx⟩ (fp++[(rd,[])]) [fp.length] (ws++fp.flatMap (·.2))with
    |some (wl,fp)=>some (.bG v wl fp)
    |none=>none
   |none=>none
  |some false=>mb st.env o.dst (.bS []) fun e=>Nat.fc (fr+1) fun fr=>uj P b9 md rec pr l fr ⟨e,st.o,st.nx⟩ (fp++[([],[])])
  |none=>none
noncomputable def quiet(fp:Fp):Bool:=fp.all fun x=>match x.2 with|[]=>true|_=>false
noncomputable def x9(m:Nat)(x:List Nat×List Nat):Nat->Fp->Bool
 |_,[]=>true
 |i,y::l=>(match y.2,x.2 with
  |[],[]=>true
  |_,_=>m.testBit i||(kD y.2 x.1&&kD y.2 x.2&&kD x.2 y.1))&&x9 m x (i+1) l
noncomputable def DV(ms:List Nat)(pre:Fp):Nat->Fp->Bool
 |_,[]=>true
 |j,x::l=>x9 (ms.getD j 0) x 0 pre&&DV ms (pre++[x]) (j+1) l
noncomputable def Sv{β:Type}:List Nat->(List Nat->β)->β
 |[],c=>c []
 |x::xs,c=>Nat.fc x fun x=>Sv xs fun xs=>c (x::xs)
theorem HD{β:Type}:∀ (x:List Nat) (c:List Nat->β),Sv x c=c x
 |[],c=>rfl
 |x::xs,c=>by simp only[Sv,Nat.cU,HD xs]
noncomputable def Ka{β:Type}:Fp->(Fp->β)->β
 |[],c=>c []
 |(a,b)::l,c=>Sv a fun a=>Sv b fun b=>Ka l fun l=>c ((a,b)::l)
theorem DW{β:Type}:∀ (x:Fp) (c:Fp->β),Ka x c=c x
 |[],c=>rfl
 |(a,b)::l,c=>by simp only[Ka,HD,DW l]
noncomputable def HE(pr:List (List Nat))(fp:Fp):Bool:=match quiet fp with|true=>true|false=>Ka fp fun fp=>DV (ee pr []) [] 0 fp
theorem wO{m:Nat}{x:List Nat×List Nat}:∀ (l:Fp) (i:Nat),x9 m x i l=true->∀k,k<l.length->(m.testBit (i+k)||(kD (l.getD k ([],[])).2 x.1&&kD (l.getD k ([],[])).2 x.2&&kD x.2 (l.getD k ([],[])).1))=true
 |[],i,_,k,hk=>by simp at hk
 |y::l,i,h,k,hk=>by
  simp only[x9,Bool.and_eq_true]at h
  cases k with
  |zero=>
   have h1:=h.1
   simp only[List.getD_cons_zero,Nat.add_zero]
   split at h1
   ·rename_i e1 e2
    rw[e1,e2];simp[kD]
   ·exact h1
  |succ k=>
   have:=wO l (i+1) h.2 k (by simpa using hk)
   rw[List.getD_cons_succ,show i+(k+1)=i+1+k by omega]
   exact this
theorem AK{ms:List Nat}:∀ (l pre:Fp),DV ms pre pre.length l=true->∀j,pre.length<=j->j<(pre++l).length->∀i,i<j->
 ((ms.getD j 0).testBit i||(kD ((pre++l).getD i ([],[])).2 ((pre++l).getD j ([],[])).1&&kD ((pre++l).getD i ([],[])).2 ((pre++l).getD j ([],[])).2&&kD ((pre++l).getD j ([],[])).2 ((pre++l).getD i ([],[])).1))=true
 |[],pre,_,j,h1,h2,i,_=>by simp at h2;omega
 |x::l,pre,h,j,h1,h2,i,hi=>by
  simp only[DV,Bool.and_eq_true]at h
  by_cases e:j=pre.length
  ·subst e
   have:=wO pre 0 h.1 i hi
   have e1:(pre++x::l).getD pre.length ([],[])=x:=by simp[List.getD_eq_getElem?_getD]
   have e2:(pre++x::l).getD i ([],[])=pre.getD i ([],[]):=by simp[List.getD_eq_getElem?_getD,List.getElem?_append_left hi]
   rw[e1,e2]
   simpa using this
  ·have h3:=h.2
   have:=AK l (pre++[x]) (by simpa using h3) j (by simp;omega) (by simpa using h2) i hi
   simpa using this
noncomputable def OG(P:Program)(b9:Nat->FD)(md:sv P)(rec:dE)(l:List cg)(pr:List (List Nat))(st:St):Option (fy×St):=
 match uj P b9 md rec pr l st.nx st []with
 |some (.fin s1 fp)=>match HE pr fp with
  |true=>Nat.fc (st.nx+l.length) fun n=>some (.normal,⟨s1.env,s1.o,n⟩)
  |false=>none
 |some (.bG v wl fp)=>match HE pr fp with
  |true=>some (.bG v,⟨.e (qJ (dstsOf l) wl l.length st.S).env, .e (qJ (dstsOf l) wl l.length st.S).o,st.nx+l.length⟩)
  |false=>none
 |none=>none
noncomputable def Sw(id:Nat)(env:Tr V)(kt:Kt)(c:CR):Option eo:=
 match c with
 | .ret _ o1 yW=>match o1.get id with
   | .loop nf m e p c d VO pd=>match VO with
     | .busy=>none
     |_=>match pd with
      |none=>kt .normal ⟨env,o1.set id (.loop nf m e p c d .exhausted pd),yW⟩
      |some .ret=>kt .ret ⟨env,o1.set id (.loop nf m e p c d .exhausted pd),yW⟩
      |some (.exit j)=>kt (.exit j) ⟨env,o1.set id (.loop nf m e p c d .exhausted pd),yW⟩
   |_=>none
 | .bG v o1 yW=>kt (.bG v) ⟨env,o1,yW⟩
noncomputable def Kc(P:Program)(b9:Nat->FD)(rec:dE)(n:Nat)(g:Operand)(ps:List Nat)(x y:IC)(st:St)(kt:Kt):Option eo:=
 match st.S.ev g with
 | .func (.func f) first cap=>Hr P b9 rec f (first++[.kV st.nx]++cap) (st.o.set st.nx (.loop P.funcs.size n ((List.range n).map st.env.get) ps x y .ready none)) (st.nx+1) (Sw st.nx st.env kt)
 |_=>none
abbrev og:=(P:Program)->(Nat->FD)->sv P->dE->Nat->Bool->Nat->St->Kt->Option eo
noncomputable def Xd(kt:Kt):RO->Option eo:=fun r=>match r with| .ok st=>kt .normal st| .bG v st=>kt (.bG v) st
noncomputable def Xe(l:List cg):og:=fun P b9 md rec _ _ _ st kt=>x7 P b9 md rec (Xd kt) l st
def wP:List Nat->Nat->Nat->Nat
 |[],_,c=>c
 |x::l,k,c=>match Nat.beq x (2^k - 1)with
  |true=>wP l (k+1) c
  |false=>wP l (k+1) (k+1)
def pY(pr:List (List Nat)):Nat:=wP (ee pr []) 0 0
noncomputable def OH(l:List cg)(pr:List (List Nat)):og:=fun P b9 md rec _ _ _ st kt=>
 Nat.fc (pY pr) fun m=>match uj P b9 md rec pr (l.take m) st.nx st []with
 |some (.fin s1 fp)=>match HE pr fp with
  |true=>Nat.fc (st.nx+m) fun n=>match Nat.ble m l.length with
   |true=>x7 P b9 md rec (Xd kt) (l.drop m) ⟨s1.env,s1.o,n⟩
   |false=>none
  |false=>none
 |some (.bG _ _ _)=>match OG P b9 md rec l pr st with
  |some (e,s1)=>kt e s1
  |none=>none
 |none=>none
noncomputable def CI(rec:dE)(b:Nat)(rd:Bool)(n:Nat)(y:IC)(kt:Kt):Kt:=fun e s1=>match e with| .normal=>rec b rd n y s1 kt|e=>kt e s1
noncomputable def Xf(x y:IC):og:=fun _ _ _ rec b rd n st kt=>rec b rd n x st (CI rec b rd n y kt)
noncomputable def DX(a c:Option eo):Option eo:=
 match a with
 |some (.r x)=>match c with
  |some (.r y)=>match R.same x y with
   |true=>some (.r x)
   |false=>none
  |_=>none
 |_=>none
noncomputable def Sx(c:Operand)(x y:IC):og:=fun _ _ _ rec b rd n st kt=>match st.S.ev c with
 | .d (.bool true)=>rec b rd n x st kt
 | .d (.bool false)=>rec b rd n y st kt
 | .eZ=>DX (rec b rd n x st kt) (rec b rd n y st kt)
 |_=>none
noncomputable def CJ(id:Nat)(kt:Kt):Kt:=fun e s1=>match e with
 | .exit j=>match Nat.beq j id with
   |true=>kt .normal s1
   |false=>kt (.exit j) s1
 |e=>kt e s1
noncomputable def OI(id:Nat)(x:IC):og:=fun _ _ _ rec b rd n st kt=>rec b rd n x st (CJ id kt)
noncomputable def Sy(x:IC):og:=fun _ _ _ rec b rd n st kt=>match Nat.ble b st.nx with
 |true=>rec b rd n x st (CI rec b rd n (.loop x) kt)
 |false=>none
noncomputable def OJ(e:fy):og:=fun _ _ _ _ _ _ _ st kt=>kt e st
noncomputable def Xg:og:=fun _ _ _ _ _ _ _ _ _=>none
noncomputable def Xh(g:Operand)(ps:List Nat)(x y:IC):og:=fun P b9 _ rec _ rd n st kt=>match rd with
 |true=>none
 |false=>Kc P b9 rec n g ps x y st kt
noncomputable def Mo(ic:IC):og:=
 match ic with
 | .skip=>OJ .normal
 | .af l=>Xe l
 | .cP l pr=>OH l pr
 | .seq x y=>Xf x y
 | .cond c x y=>Sx c x y
 | .block id x=>OI id x
 | .loop x=>Sy x
 | .exit id=>OJ (.exit id)
 | .ret=>OJ .ret
 | .ED g ps x y=>Xh g ps x y
 | .bad=>Xg
noncomputable def run(P:Program)(b9:Nat->FD)(md:sv P)(k:Nat):dE:=
 Nat.rec (motive:=fun _=>dE) (fun _ _ _ _ _ _=>none) (fun _ rec b rd n ic st kt=>Mo ic P b9 md rec b rd n st kt) k
theorem HG{P:Program}{b9:Nat->FD}{md:sv P}{k:Nat}:run P b9 md (k+1)=fun b rd n ic st kt=>Mo ic P b9 md (run P b9 md k) b rd n st kt:=rfl
section
variable {P:Program}{b9:Nat->FD}{md:sv P}
theorem Mp(bc:P.follows .mixedOrders=true)(cE:∀g,(b9 g).Ok P g){rec:dE}(aT:eF P rec){fr:Nat}{g:Nat}{args:List V}{st:St}{r:DR}(h:hX P b9 rec g args st=some r){K:V->List (Nat×ae)->List Nat->Prop}{KX:V->List Nat->List Nat->Prop}(hr:r.to K KX):
 iY P g args st.S.o st.S.nx fr K KX:=by
 unfold hX at h
 simp only at h
 generalize my:reach st.o.get 2000 (V.ag args) []=rd at h
 split at h
 ·rename_i hc
  simp only[Bool.and_eq_true,List.all_eq_true]at hc
  obtain⟨OK,tk⟩:=hc
  have a1:∀id∈rd,id<st.nx:=fun id ax=>Nat.le_of_ble_eq_true (OK id ax).1
  have a2:∀id∈V.ag args,id∈rd:=fun id ax=>by simpa using tk id ax
  have a3:∀id∈rd,∀j∈(st.o.get id).refs,j∈rd:=fun id ax j hj=>by simpa using(OK id ax).2 j hj
  have a0:rd.all (fun id=>decide (id<st.S.nx))=true:=List.all_eq_true.2 fun id ax=>decide_eq_true (a1 id ax)
  have key:∀ {r:CR} {a:CR},Ss r=some (.c a)->r=a:=fun h=>by unfold Ss at h;injection h with h;injection h
  split at h
  ·rename_i v o1 yW hf
   split at h
   ·cases h
   ·rename_i v' pa
    split at h
    ·rename_i rs Rb
     split at h
     ·rename_i OL
      injection h with h;subst h
      simp only[Bool.and_eq_true,List.all_eq_true]at OL
      refine⟨rd,_,a0, .inl ⟨rs,xP.kG a1 a2 a3 (fun x hx=>(iN rd x hx).1) (fun x hx j hj=>by simpa using OL.1 x hx j hj) (ng bc cE aT hf fun r tq=> ?_),hr⟩⟩
      rw[key tq]
      refine⟨fun id ax=>rQ ax,ue v,rs, ?_,Rb,rfl,fun id ax=>by simpa using OL.2 id ax⟩
      cases v with
      |bS vs=>
       match vs,pa with
       |[],_=>rfl
       |[x],hv=>exact absurd rfl (hv x)
       |_::_::_,_=>rfl
      |_=>rfl
     ·cases h
    ·cases h
  ·rename_i v o1 yW hf
   split at h
   ·rename_i x hx
    split at h
    ·rename_i OL
     injection h with h;subst h
     simp only[Bool.and_eq_true,List.all_eq_true]at OL
     refine⟨rd,eK st.o.get o1.get rd,a0, .inr (.inl ⟨x,xP.kG a1 a2 a3 (fun x hx=>(iN rd x hx).1) (fun x hx j hj=>by simpa using OL.1 x hx j hj) (ng bc cE aT hf fun r tq=> ?_),hr⟩)⟩
     rw[key tq]
     exact⟨fun id ax=>rQ ax,x,hx,rfl,fun id ax=>by simpa using OL.2 id ax⟩
    ·cases h
   ·cases h
  ·cases h
 ·cases h
theorem OM(bc:P.follows .mixedOrders=true)(cE:∀g,(b9 g).Ok P g){rec:dE}(aT:eF P rec){g:Nat}{args:List V}{st:St}{rd:List Nat}{ds:List D}(eP:cc st.o.get args=some ds){r:DR}(h:VM P b9 md rec g args st rd=some r)
 {K:V->List (Nat×ae)->List Nat->Prop} {KX:V->List Nat->List Nat->Prop} (hr:r.to K KX):
 rK P g ds (fun v=>K v (cQ st.S.o (V.bf args)) rd) (fun v=>K v [] rd) (fun v=>KX v [] rd):=by
 unfold VM at h
 simp only[eP]at h
 split at h
 ·split at h
  ·rename_i v o1 yW HH
   split at h
   ·rename_i hrf
    injection h with h;subst h
    exact .inr (.inr ⟨v,Rt.kG hrf (ng bc cE aT HH fun r tq=>by unfold Ss at tq;injection tq with tq;injection tq with tq;rw[tq];exact rfl),hr⟩)
   ·cases h
  ·cases h
 ·split at h
  ·rename_i rs HA
   have hP:=x8 bc cE aT HA
   split at h
   ·rename_i hf
    injection h with h;subst h
    exact .inl ⟨rs,hP, .inr ⟨hf,hr⟩⟩
   ·injection h with h;subst h
    exact .inl ⟨rs,hP, .inl hr⟩
  ·rename_i x HA
   have hP:=x8 bc cE aT HA
   split at h
   ·rename_i hf
    injection h with h;subst h
    exact .inr (.inl ⟨x,hP,hf,hr⟩)
   ·cases h
  ·cases h
theorem DY{t ty:TypeId}{sz:Nat}{es:List D}{r:CR}(h:J8 P t r=some (.r (.ret [.sl es, .int .i64 (.ofNat ty), .int .i64 (.ofNat sz)]))):
 r.to (fun v o1 _=>(∃j ep,v= .osl j ep/\o1 j= .arr ep ty sz es)\/(v= .bn/\es=[]/\0<sz)) (fun _ _ _=>False):=by
 unfold J8 at h
 split at h
 ·rename_i v o1 n1
  split at h
  ·rename_i j ep
   split at h
   ·rename_i gU WY nP es' ho
    split at h
    ·rename_i he
     have he:=Nat.eq_of_beq_eq_true he
     subst he
     rw[CH]at h
     simp only[Option.some.injEq,eo.r.injEq,R.ret.injEq,List.cons.injEq,D.sl.injEq,D.int.injEq,true_and,and_true]at h
     obtain⟨rfl,h2,h3⟩:=h
     have h2:WY=ty:=Int.ofNat.inj h2
     have h3:nP=sz:=Int.ofNat.inj h3
     subst h2;subst h3
     exact .inl ⟨j,gU,rfl,ho⟩
    ·cases h
   ·cases h
  ·split at h
   ·rename_i e he
    split at h
    ·rename_i hp
     rw[CH]at h
     simp only[Option.some.injEq,eo.r.injEq,R.ret.injEq,List.cons.injEq,D.sl.injEq,D.int.injEq,true_and,and_true]at h
     obtain⟨rfl,h2,h3⟩:=h
     have h3:P.cellsOf e=sz:=Int.ofNat.inj h3
     subst h3
     exact .inr ⟨rfl,rfl,Nat.blt_eq.mp hp⟩
    ·cases h
   ·cases h
  ·cases h
 ·cases h
theorem Kd(bc:P.follows .mixedOrders=true)(cE:∀g,(b9 g).Ok P g){rec:dE}(aT:eF P rec){fr:Nat}{g:Nat}{t:TypeId}{args:List V}{st:St}{r:DR}(h:OE P b9 rec g t args st fr=some r){K:V->List (Nat×ae)->List Nat->Prop}{KX:V->List Nat->List Nat->Prop}(hr:r.to K KX):
 iY P g args st.S.o st.S.nx fr K KX:=by
 unfold OE at h
 split at h
 ·rename_i ds eP
  split at h
  ·rename_i es ty sz HH
   injection h with h;subst h
   unfold wN at eP
   split at eP
   ·rename_i ax
    exact⟨[],_,by simp, .inr (.inr ⟨_,Cm.J7 ax eP (Cm.OB (ng bc cE aT HH fun r tq=>DY tq)),hr⟩)⟩
   ·cases eP
  ·cases h
 ·split at h
  ·rename_i ds eP
   split at h
   ·rename_i es ty sz HH
    split at h
    ·rename_i hc
     injection h with h;subst h
     simp only[Bool.and_eq_true]at hc
     refine⟨V.bf args,_, ?_, .inr (.inr ⟨_,Cm.J6 eP hc.1 (ng bc cE aT HH fun r tq=>DY tq),hr⟩)⟩
     exact List.all_eq_true.2 fun id ax=>decide_eq_true (Nat.blt_eq.mp (List.all_eq_true.1 hc.2 id ax))
    ·cases h
   ·cases h
  ·cases h
theorem ya(bc:P.follows .mixedOrders=true)(cE:∀g,(b9 g).Ok P g){rec:dE}(aT:eF P rec){st:St}{fr:Nat}{o:cg}{r:DR}(h:J9 P b9 md rec st fr o.op=some r){K:V->List (Nat×ae)->List Nat->Prop}{KX:V->List Nat->List Nat->Prop}(hr:r.to K KX):
 yX P st.S fr o K KX:=by
 have hs:VN P st fr o.op=some r->(match gr P st.S fr o.op with|some (v,Δ,_)=>K v Δ (jr st.S o.op)|none=>False):=by
  intro h
  unfold VN at h
  split at h
  ·rename_i v Δ rd he
   injection h with h;subst h
   simp only[DN he]
   exact hr
  ·cases h
 unfold J9 at h
 unfold yX
 split at h
 ·rename_i c hc
  simp only[hc]
  split at h
  ·rename_i f hf
   simp only[hf]
   split at h
   ·rename_i g first cap hv
    simp only[hv]
    split at h
    ·have hh:=Mp bc cE aT h hr (fr:=fr)
     split
     ·exact .inr hh
     ·exact hh
    split at h
    ·rename_i r' Nh
     injection h with h;subst h
     cases eP:cc st.S.o (first++List.map st.S.ev c.args.toList++cap)with
     |some ds=>exact .inl (OM bc cE aT eP Nh hr)
     |none=>
      have Oz:cc st.o.get (first++List.map st.S.ev c.args.toList++cap)=none:=eP
      unfold VM at Nh
      simp only[Oz]at Nh
      exact Mp bc cE aT Nh hr
    ·have hh:=Kd bc cE aT (st:=st) h hr
     split
     ·exact .inr hh
     ·exact hh
   ·cases h
  ·rename_i dY
   rw[<- hc]at h
   have:=hs h
   rw[hc]at this
   split
   ·rename_i f hf;exact absurd hf (dY f)
   ·exact this
 ·rename_i hc
  have:=hs h
  split
  ·rename_i c hh;exact absurd hh (hc c)
  ·exact this
def VP(s:S)(gd:Option (Nat×Bool))(A B:Prop):Prop:=
 match gd with
 |none=>A
 |some (d,want)=>match s.env d with
  | .d (.bool b)=>if b=want then A else B
  | .bS []=>B
  |_=>False
theorem yc{st:St}{gd:Option (Nat×Bool)}{t:Bool}(h:Su st gd=some t){A B:Prop}(hA:t=true->A)(hB:t=false->B):VP st.S gd A B:=by
 cases gd with
 |none=>simp only[Su,Option.some.injEq]at h;exact hA h.symm
 |some p=>
  obtain⟨d,want⟩:=p
  have he:st.S.env d=st.env.get d:=rfl
  simp only[Su]at h
  simp only[VP,he]
  split at h
  ·rename_i b hb
   injection h with h
   by_cases e:b=want
   ·rw[if_pos e];exact hA (by rw[<- h,e];simp)
   ·rw[if_neg e];exact hB (by rw[<- h];simpa using e)
  ·rename_i hb
   injection h with h
   exact hB h.symm
  ·cases h
theorem Ke{P:Program}{KB:List Nat->Fp->Prop}{pr:List (List Nat)}{o:cg}{l:List cg}{fr:Nat}{s:S}{fp:Fp}{bad ws:List Nat}(hb:(pr.getD fp.length []).any (fun j=>bad.contains j)=false)
 (h:VP s o.gd (yX P s fr o (fun v Δ rd=>ij P KB pr l (fr+1) ⟨a8 s.env o.dst v,put s.o Δ,s.nx⟩ (fp++[(rd,Δ.map (·.1))]) bad (ws++Δ.map (·.1))) (fun _ _ _=>False)) (ij P KB pr l (fr+1) ⟨a8 s.env o.dst (.bS []),s.o,s.nx⟩ (fp++[([],[])]) bad ws)):
 ij P KB pr (o::l) fr s fp bad ws:=by
 simp only[ij]
 rw[if_neg (by rw[hb];simp)]
 cases hg:o.gd with
 |none=>rw[hg]at h;exact h
 |some p=>obtain⟨d,want⟩:=p;rw[hg]at h;exact h
theorem Kg{P:Program}{K:S->Fp->Prop}{KP:V->List Nat->Fp->Prop}{pr:List (List Nat)}{o:cg}{l:List cg}{fr:Nat}{s:S}{fp:Fp}
 (h:VP s o.gd (yX P s fr o (fun v Δ rd=>kK P K KP pr l (fr+1) ⟨a8 s.env o.dst v,put s.o Δ,s.nx⟩ (fp++[(rd,Δ.map (·.1))]))
  (fun v ws rd=>ij P (KP v) pr l (fr+1) ⟨a8 s.env o.dst .ab,s.o,s.nx⟩ (fp++[(rd,[])]) [fp.length] (ws++fp.flatMap (·.2)))) (kK P K KP pr l (fr+1) ⟨a8 s.env o.dst (.bS []),s.o,s.nx⟩ (fp++[([],[])]))):
 kK P K KP pr (o::l) fr s fp:=by
 simp only[kK]
 cases hg:o.gd with
 |none=>rw[hg]at h;exact h
 |some p=>obtain⟨d,want⟩:=p;rw[hg]at h;exact h
theorem pZ(bc:P.follows .mixedOrders=true)(cE:∀g,(b9 g).Ok P g){rec:dE}(aT:eF P rec){pr:List (List Nat)}{wl:List Nat}{Xi:Fp}{KB:List Nat->Fp->Prop}(hK:KB wl Xi):
 ∀ (l:List cg) (fr:Nat) (st:St) (fp:Fp) (bad ws:List Nat),ui P b9 md rec pr l fr st fp bad ws=some (wl,Xi)->ij P KB pr l fr st.S fp bad ws
 |[],fr,st,fp,bad,ws,h=>by
  simp only[ui,Option.some.injEq,Prod.mk.injEq]at h
  obtain⟨rfl,rfl⟩:=h;exact hK
 |o::l,fr,st,fp,bad,ws,h=>by
  simp only[ui,ju,nd]at h
  split at h
  ·rename_i hb
   simp only[ij]
   rw[if_pos hb]
   have:=pZ bc cE aT hK l _ _ _ _ _ h
   simp only[St.S,ez]at this
   exact this
  ·rename_i hb
   refine Ke hb ?_
   split at h
   ·rename_i hg
    refine yc hg (fun _=> ?_) (fun h=>by cases h)
    split at h
    ·rename_i v Δ rd dD
     refine ya bc cE aT dD ?_
     have:=pZ bc cE aT hK l _ _ _ _ _ h
     simp only[St.S,ez,jN]at this
     exact this
    ·cases h
   ·rename_i hg
    refine yc hg (fun h=>by cases h) (fun _=> ?_)
    have:=pZ bc cE aT hK l _ _ _ _ _ h
    simp only[St.S,ez]at this
    exact this
   ·cases h
def DQ.to (K:S->Fp->Prop)(KP:V->List Nat->Fp->Prop):DQ->Prop
 | .fin st fp=>K st.S fp
 | .bG v wl fp=>KP v wl fp
theorem ni(bc:P.follows .mixedOrders=true)(cE:∀g,(b9 g).Ok P g){rec:dE}(aT:eF P rec){pr:List (List Nat)}{q:DQ}{K:S->Fp->Prop}{KP:V->List Nat->Fp->Prop}(hq:q.to K KP):
 ∀ (l:List cg) (fr:Nat) (st:St) (fp:Fp),uj P b9 md rec pr l fr st fp=some q->kK P K KP pr l fr st.S fp
 |[],fr,st,fp,h=>by
  simp only[uj,Option.some.injEq]at h
  subst h;exact hq
 |o::l,fr,st,fp,h=>by
  simp only[uj,ju,nd,Nat.cU]at h
  refine Kg ?_
  split at h
  ·rename_i hg
   refine yc hg (fun _=> ?_) (fun h=>by cases h)
   split at h
   ·rename_i v Δ rd dD
    refine ya bc cE aT dD ?_
    have:=ni bc cE aT hq l _ _ _ h
    simp only[St.S,ez,jN]at this
    exact this
   ·rename_i v ws rd dD
    split at h
    ·rename_i wl Xi hb
     injection h with h;subst h
     refine ya bc cE aT dD ?_
     have:=pZ bc cE aT (KB:=KP v) hq l _ _ _ _ _ hb
     simp only[St.S,ez]at this
     exact this
    ·cases h
   ·cases h
  ·rename_i hg
   refine yc hg (fun h=>by cases h) (fun _=> ?_)
   have:=ni bc cE aT hq l _ _ _ h
   simp only[St.S,ez]at this
   exact this
  ·cases h
theorem yd{pr:List (List Nat)}{fp:Fp}(h:HE pr fp=true):eB pr fp=true:=by
 unfold HE at h
 split at h
 ·rename_i hq
  unfold quiet at hq
  have hz:∀i,(fp.getD i ([],[])).2=[]:=by
   intro i
   rw[List.getD_eq_getElem?_getD]
   cases hx:fp[i]? with
   |none=>rfl
   |some x=>
    have:=List.all_eq_true.1 hq x (List.mem_of_getElem? hx)
    simp only[Option.getD_some]
    split at this
    ·rename_i e;exact e
    ·cases this
  unfold eB
  simp only[hz,kD,List.all_nil,Bool.and_self,Bool.or_true]
  simp
 ·rw[DW]at h
  unfold eB
  rw[List.all_eq_true]
  intro j hj
  rw[List.all_eq_true]
  intro i hi
  exact AK fp [] h j (Nat.zero_le _) (by simpa using hj) i (by simpa using hi)
theorem uk:∀ (l:List Nat) (k c:Nat),c<=k->c<=wP l k c/\∀i x,l[i]? =some x->wP l k c<=k+i->x=2^(k+i) - 1
 |[],_,c,_=>⟨Nat.le_refl _,fun i x h=>by simp at h⟩
 |y::l,k,c,hc=>by
  simp only[wP]
  split
  ·rename_i he
   obtain⟨h1,h2⟩:=uk l (k+1) c (by omega)
   refine⟨h1,fun i x hi hle=> ?_⟩
   cases i with
   |zero=>simp at hi;subst hi;simpa using Nat.eq_of_beq_eq_true he
   |succ i=>
    have:=h2 i x (by simpa using hi) (by omega)
    rw[this,show k+(i+1)=k+1+i by omega]
  ·obtain⟨h1,h2⟩:=uk l (k+1) (k+1) (Nat.le_refl _)
   refine⟨by omega,fun i x hi hle=> ?_⟩
   cases i with
   |zero=>omega
   |succ i=>
    have:=h2 i x (by simpa using hi) (by omega)
    rw[this,show k+(i+1)=k+1+i by omega]
theorem wQ:∀ (pr:List (List Nat)) (acc:List Nat),(ee pr acc).length=acc.length+pr.length
 |[],acc=>by simp[ee]
 |ps::l,acc=>by simp only[ee,wQ l,List.length_append,List.length_cons,List.length_nil];omega
theorem HI(pr:List (List Nat)):G9 pr (pY pr)=true:=by
 refine List.all_eq_true.2 fun k hk=> ?_
 have hk:k<pr.length:=by simpa using hk
 by_cases h:k<pY pr
 ·simp[Nat.blt_eq.mpr h]
 ·have hl:k<(ee pr []).length:=by rw[wQ];simpa using hk
  have:=(uk (ee pr []) 0 0 (Nat.le_refl _)).2 k _ (List.getElem?_eq_getElem hl) (by rw[Nat.zero_add];exact Nat.le_of_not_lt h)
  rw[Nat.zero_add]at this
  rw[List.getD_eq_getElem?_getD,List.getElem?_eq_getElem hl,Option.getD_some,this]
  simp
theorem Kh(bc:P.follows .mixedOrders=true)(cE:∀g,(b9 g).Ok P g){rec:dE}(aT:eF P rec){l:List cg}{pr:List (List Nat)}{st st':St}{e:fy}(h:OG P b9 md rec l pr st=some (e,st')){Q:fy->S->Prop}(hQ:Q e st'.S):
 kK P (Cv pr (st.S.nx+l.length) Q) (Ad pr l st.S Q) pr l st.S.nx st.S []:=by
 unfold OG at h
 split at h
 ·rename_i s1 fp hd
  split at h
  ·rename_i hf
   simp only[Nat.cU,Option.some.injEq,Prod.mk.injEq]at h
   obtain⟨rfl,rfl⟩:=h
   exact ni bc cE aT (q:= .fin s1 fp) (K:=Cv pr (st.S.nx+l.length) Q) (KP:=Ad pr l st.S Q) (show Cv pr (st.S.nx+l.length) Q s1.S fp from⟨yd hf,hQ⟩) l _ _ _ hd
  ·cases h
 ·rename_i v wl fp hd
  split at h
  ·rename_i hf
   simp only[Option.some.injEq,Prod.mk.injEq]at h
   obtain⟨rfl,rfl⟩:=h
   exact ni bc cE aT (q:= .bG v wl fp) (K:=Cv pr (st.S.nx+l.length) Q) (KP:=Ad pr l st.S Q) (show Ad pr l st.S Q v wl fp from⟨yd hf,hQ⟩) l _ _ _ hd
  ·cases h
 ·cases h
theorem Ki(bc:P.follows .mixedOrders=true)(cE:∀g,(b9 g).Ok P g){rec:dE}(aT:eF P rec){n:Nat}{g:Operand}{ps:List Nat}{x y:IC}{st:St}{kt:Kt}{a:eo}(h:Kc P b9 rec n g ps x y st kt=some a){Q:fy->S->Prop}(hQ:∀e st',kt e st'=some a->Q e st'.S):
 zM P n (st.S.ev g) ps x y Q st.S:=by
 unfold Kc at h
 refine⟨(List.range n).map st.env.get,fun i=> ?_, ?_⟩
 ·unfold bw
  simp only[List.getD_eq_getElem?_getD,List.getElem?_map]
  by_cases hi:i<n
  ·right;rw[List.getElem?_range hi];rfl
  ·left;rw[List.getElem?_eq_none (by simp;omega)];rfl
 ·split at h
  ·rename_i f first cap hv
   simp only[hv]
   refine .inl ?_
   have key:=fun {K X} hr=>ng (K:=K) (X:=X) bc cE aT h hr
   simp only[Tr.jh]at key
   refine key fun r hr=> ?_
   unfold Sw at hr
   cases r with
   |ret v o1 yW=>
    simp only at hr
    split at hr
    ·rename_i nf m e p c d VO pd ho
     have hl:VO≠ .busy:=by
      intro hb;subst hb;cases hr
     refine⟨nf,m,e,p,c,d,VO,pd,ho,hl, ?_⟩
     split at hr
     ·cases hr
     ·split at hr<;>(have h3:=hQ _ _ hr;simp only[vu];simp only[St.S,Tr.jh]at h3;exact h3)
    ·cases hr
   |bG v o1 yW=>exact hQ _ _ hr
  ·cases h
theorem bW.same {b:Nat}{s:S}(h:b<=s.nx):bW b s s:=fun _ φ _ _ h1 h2=>⟨φ,h1,h2,fun _ h=>h,h,fun _ _ hr=>⟨hr,rfl⟩,fun _ e' _ he=>⟨e',he,Nat.le_refl _,fun _=>rfl⟩⟩
theorem HJ{x y:Option eo}{a:eo}(h:DX x y=some a):x=some a/\y=some a:=by
 unfold DX at h
 split at h
 ·rename_i r
  split at h
  ·rename_i r'
   split at h
   ·rename_i hs
    injection h with h;subst h
    rw[R.dW hs]
    exact⟨rfl,rfl⟩
   ·cases h
  ·cases h
 ·cases h
theorem ON(bc:P.follows .mixedOrders=true)(cE:∀g,(b9 g).Ok P g):∀k,∀j,j<=k->eF P (run P b9 md j):=by
 intro k
 induction k with
 |zero=>intro j hj b rd n ic st kt a h;obtain rfl:j=0:=by omega
        cases h
 |succ k ih=>
  intro j hj b rd n ic st kt a h Q hQ
  cases j with
  |zero=>cases h
  |succ j=>
   have aT:eF P (run P b9 md j):=ih j (by omega)
   rw[HG]at h
   cases ic with
   |skip=>exact hQ _ _ h
   |exit id=>exact hQ _ _ h
   |ret=>exact hQ _ _ h
   |bad=>cases h
   |af l=>
    have h:x7 P b9 md (run P b9 md j) (Xd kt) l st=some a:=h
    exact sM bc cE aT (K:=Q .normal) (X:=fun v s=>Q (.bG v) s) (fun r hr=>by
     cases r with
     |ok OA=>exact hQ .normal _ hr
     |bG v OA=>exact hQ (.bG v) _ hr) l _ h
   |cP l pr=>
    have h:OH l pr P b9 md (run P b9 md j) b rd n st kt=some a:=h
    unfold OH at h
    rw[Nat.cU]at h
    split at h
    ·rename_i s1 fp hd
     split at h
     ·rename_i hf
      rw[Nat.cU]at h
      split at h
      ·rename_i Ju
       refine .inr ⟨pY pr,Nat.le_of_ble_eq_true Ju,HI pr, ?_⟩
       refine ni bc cE aT (q:= .fin s1 fp) (K:=fun s' fp=>eB pr fp=true/\oK P (fun v s=>Q (.bG v) s) (Q .normal) (l.drop (pY pr)) ⟨s'.env,s'.o,st.S.nx+pY pr⟩) (KP:=fun _ _ _=>False) (show _/\_ from⟨yd hf, ?_⟩) (l.take (pY pr)) _ _ _ hd
       exact sM bc cE aT (K:=Q .normal) (X:=fun v s=>Q (.bG v) s) (fun r hr=>by
        cases r with
        |ok OA=>exact hQ .normal _ hr
        |bG v OA=>exact hQ (.bG v) _ hr) (l.drop (pY pr)) ⟨s1.env,s1.o,st.nx+pY pr⟩ h
      ·cases h
     ·cases h
    ·split at h
     ·rename_i e s1 h1
      exact .inl (Kh bc cE aT h1 (hQ _ _ h))
     ·cases h
    ·cases h
   |seq x y=>
    have h:run P b9 md j b rd n x st (CI (run P b9 md j) b rd n y kt)=some a:=h
    simp only[sG]
    refine aT _ _ _ _ _ _ _ h _ fun e s1 he=> ?_
    unfold CI at he
    cases e with
    |normal=>exact aT _ _ _ _ _ _ _ he _ hQ
    |_=>exact hQ _ _ he
   |cond c x y=>
    have h:(match st.S.ev c with| .d (.bool true)=>run P b9 md j b rd n x st kt| .d (.bool false)=>run P b9 md j b rd n y st kt| .eZ=>DX (run P b9 md j b rd n x st kt) (run P b9 md j b rd n y st kt)|_=>none)=some a:=h
    simp only[sG]
    split at h
    ·rename_i hv
     simp only[hv]
     exact(tI _ _).mpr (aT _ _ _ _ _ _ _ h _ hQ)
    ·rename_i hv
     simp only[hv]
     exact(rF _ _).mpr (aT _ _ _ _ _ _ _ h _ hQ)
    ·rename_i hv
     simp only[hv]
     obtain⟨h1,h2⟩:=HJ h
     exact⟨aT _ _ _ _ _ _ _ h1 _ hQ,aT _ _ _ _ _ _ _ h2 _ hQ⟩
    ·cases h
   |block id x=>
    have h:run P b9 md j b rd n x st (CJ id kt)=some a:=h
    simp only[sG]
    refine aT _ _ _ _ _ _ _ h _ fun e s1 he=> ?_
    unfold CJ at he
    cases e with
    |exit j'=>
     simp only at he
     split at he
     ·rename_i hb
      simp only[ft,Nat.eq_of_beq_eq_true hb,if_true];exact hQ _ _ he
     ·rename_i hb
      simp only[ft,Nat.ne_of_beq_eq_false hb,if_false];exact hQ _ _ he
    |_=>exact hQ _ _ he
   |loop x=>
    have Xj:∀m Mq,run P b9 md (m+1) b rd n (.loop x) Mq kt=some a->b<=Mq.nx/\run P b9 md m b rd n x Mq (CI (run P b9 md m) b rd n (.loop x) kt)=some a:=by
     intro m Mq h
     have h:(match Nat.ble b Mq.nx with|true=>run P b9 md m b rd n x Mq (CI (run P b9 md m) b rd n (.loop x) kt)|false=>none)=some a:=h
     split at h
     ·rename_i hb;exact⟨Nat.le_of_ble_eq_true hb,h⟩
     ·cases h
    have h:run P b9 md (j+1) b rd n (.loop x) st kt=some a:=h
    refine⟨fun m s=>m<=k+1/\∃st,s=st.S/\run P b9 md m b rd n (.loop x) st kt=some a,⟨j+1,st.S,bW.same (Xj j st h).1,hj,st,rfl,h⟩, ?_⟩
    rintro m s0 ⟨hm,Mq,rfl,h0⟩
    cases m with
    |zero=>cases h0
    |succ m=>
     have Sz:eF P (run P b9 md m):=ih m (by omega)
     refine Sz _ _ _ _ _ _ _ (Xj m Mq h0).2 _ fun e s1 he=> ?_
     unfold CI at he
     cases e with
     |normal=>
      refine⟨m,s1.S,Nat.lt_succ_self _,bW.same ?_,by omega,s1,rfl,he⟩
      cases m with
      |zero=>cases he
      |succ m=>exact(Xj m s1 he).1
     |_=>exact hQ _ _ he
   |ED g ps x y=>
    cases rd with
    |true=>
     have h:(none:Option eo)=some a:=h
     cases h
    |false=>
     have h:Kc P b9 (run P b9 md j) n g ps x y st kt=some a:=h
     exact⟨rfl,Ki bc cE aT h hQ⟩
noncomputable def OO(P:Program)(b9:Nat->FD)(md:sv P)(k:Nat)(g:Nat)(ds:List D):Option R:=
 match Hr P b9 (run P b9 md k) g (ds.map .d) (.e fun _=> .no) 0 AF with
 |some (.r x)=>some x
 |_=>none
theorem bJ.OP (bc:P.follows .mixedOrders=true)(cE:∀g,(b9 g).Ok P g){k g:Nat}{ds:List D}{out:R}(h:OO P b9 md k g ds=some out):bJ P g ds out:=by
 unfold OO at h
 split at h
 ·rename_i x hr;injection h with h;subst h;exact AG bc cE (ON bc cE k k (Nat.le_refl _)) hr
 ·cases h
end
end Go.Proofs.YtealblliddhgiaaGreat
namespace Go.Proofs.YtealblliddhgiaaGreat
def Tr.HK {α:Type}(p:Nat->α->Prop):Tr α->(Nat->Nat)->Prop
 | .e g,f=>∀i,p (f i) (g i)
 | .n x l r,f=>p (f 0) x/\HK p l (fun i=>f (2*i+1))/\HK p r (fun i=>f (2*i+2))
theorem Tr.ye {α:Type}{p:Nat->α->Prop}:∀ {f:Nat->Nat} (t:Tr α),t.HK p f->∀k,p (f k) (t.get k)
 |f, .e g,h,k=>h k
 |f, .n x l r,h,k=>by
  obtain⟨h1,h2,h3⟩:=h
  rw[Tr.ua]
  split
  ·rename_i e;subst e;exact h1
  ·split
   ·have:=Tr.ye l h2 (k/2)
    rwa [show 2*(k/2)+1=k by omega]at this
   ·have:=Tr.ye r h3 (k/2 - 1)
    rwa [show 2*(k/2 - 1)+2=k by omega]at this
end Go.Proofs.YtealblliddhgiaaGreat
namespace Go.Proofs.YtealblliddhgiaaGreat
@[reducible] def mv (d s:Nat):cg:=⟨some d, .move (.tmp s),none⟩
@[reducible] def BM (d:Nat) (n:Int):cg:=⟨some d, .move (.const (.int .i64 n)),none⟩
@[reducible] def sg (d s:Nat):cg:=⟨some d, .assign (.tmp s),none⟩
@[reducible] def bU (d:Nat) (n:Int):cg:=⟨some d, .assign (.const (.int .i64 n)),none⟩
@[reducible] def bt (d:Nat) (b:Bool):cg:=⟨some d, .assign (.const (.bool b)),none⟩
@[reducible] def ld (d t s:Nat):cg:=⟨some d, .load t (.tmp s),none⟩
@[reducible] def st (t a b:Nat):cg:=⟨none, .store t (.tmp a) (.tmp b),none⟩
@[reducible] def fa (d t s f:Nat):cg:=⟨some d, .fieldAddr t (.tmp s) f,none⟩
@[reducible] def ex (d s i:Nat):cg:=⟨some d, .extract (.tmp s) i,none⟩
@[reducible] def bH (d c a:Nat):cg:=⟨some d, .pick (.tmp c) (.tmp a) (.const (.bool false)),none⟩
@[reducible] def cG (d c a:Nat):cg:=⟨some d, .pick (.tmp c) (.const (.bool true)) (.tmp a),none⟩
@[reducible] def ia (d t x i:Nat):cg:=⟨some d, .indexAddr t (.tmp x) (.tmp i),none⟩
@[reducible] def bx (d t s:Nat):cg:=⟨some d, .box t (.tmp s),none⟩
@[reducible] def al (d t:Nat):cg:=⟨some d, .alloc t,none⟩
@[reducible] def ln (d s t:Nat):cg:=⟨some d, .call {callee:= .builtin .len,args:=#[.tmp s],argTypes:=#[t]},none⟩
@[reducible] def k0 (d f:Nat):cg:=⟨some d, .call {callee:= .value (.func f),args:=#[],argTypes:=#[]},none⟩
@[reducible] def k1 (d f a t:Nat):cg:=⟨some d, .call {callee:= .value (.func f),args:=#[.tmp a],argTypes:=#[t]},none⟩
@[reducible] def k2 (d f a b t u:Nat):cg:=⟨some d, .call {callee:= .value (.func f),args:=#[.tmp a, .tmp b],argTypes:=#[t,u]},none⟩
@[reducible] def k3 (d f a b c t u v:Nat):cg:=⟨some d, .call {callee:= .value (.func f),args:=#[.tmp a, .tmp b, .tmp c],argTypes:=#[t,u,v]},none⟩
@[reducible] def bo (op:BinOp) (d t x y u:Nat):cg:=⟨some d, .binOp op t (.tmp x) (.tmp y) u,none⟩
@[reducible] def bk (op:BinOp) (d t x:Nat) (n:Int) (u:Nat):cg:=⟨some d, .binOp op t (.tmp x) (.const (.int .i64 n)) u,none⟩
@[reducible] def nt (d t s:Nat):cg:=⟨some d, .unOp .not t (.tmp s),none⟩
@[reducible] def nc (d s:Nat):cg:=⟨some d, .nilCheck (.tmp s),none⟩
@[reducible] def gT (o:cg) (g:Nat):cg:=⟨o.dst,o.op,some (g,true)⟩
@[reducible] def gF (o:cg) (g:Nat):cg:=⟨o.dst,o.op,some (g,false)⟩
attribute [go_sem] mv BM sg bU bt ld st fa ex bH cG ia bx al ln k0 k1 k2 k3 bo bk nt nc gT gF
end Go.Proofs.YtealblliddhgiaaGreat
