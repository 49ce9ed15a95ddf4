/-
  A PART OF THE PROOF. Conditions: none.
-/
import Derived.Test.YtnkamdiiakdkgaaGreatEu11
set_option linter.unusedSimpArgs false
set_option linter.unusedVariables false
namespace Go.Proofs.YtnkamdiiakdkgaaGreat
section
mutual
def V.same:V->V->Bool
 | .d x, .d y=>x.same y
 | .bw, .bw=>true
 | .aa, .aa=>true
 | .agg a, .agg b=>V.fw a b
 | .ptr i o, .ptr j p=>Nat.beq i j&&Nat.beq o p
 | .osl i o, .osl j p=>Nat.beq i j&&Nat.beq o p
 | .pR a, .pR b=>D.fw a b
 | .iface t x, .iface u y=>Nat.beq t u&&x.same y
 | .mp i, .mp j=>Nat.beq i j
 |_,_=>false
def V.fw:List V->List V->Bool
 |[],[]=>true
 |a::bX,b::bs=>a.same b&&V.fw bX bs
 |_,_=>false
end
mutual
theorem V.dG:∀ (x y:V),x.same y=true->x=y
 | .d x,y,h=>by cases y<;>simp only[V.same,Bool.false_eq_true]at h;rw[D.dG _ _ h]
 | .bw,y,h=>by cases y<;>simp_all[V.same]
 | .aa,y,h=>by cases y<;>simp_all[V.same]
 | .agg a,y,h=>by cases y<;>simp only[V.same,Bool.false_eq_true]at h;rw[V.dh _ _ h]
 | .ptr i o,y,h=>by
   exact W2
 | .osl i o,y,h=>by
   exact W2
 | .pR a,y,h=>by cases y<;>simp only[V.same,Bool.false_eq_true]at h;rw[D.dh _ _ h]
 | .iface t x,y,h=>by
   cases y<;>simp only[V.same,Bool.false_eq_true,Bool.and_eq_true]at h
   rw[Nat.eq_of_beq_eq_true h.1,V.dG _ _ h.2]
 | .mp i,y,h=>by
   cases y<;>simp only[V.same,Bool.false_eq_true]at h
   rw[Nat.eq_of_beq_eq_true h]
 | .bS _,y,h| .pe _ _ _ _ _,y,h| .pp _ _,y,h| .func _ _ _,y,h| .vw _ _ _,y,h| .eN,y,h| .iD _,y,h=>by simp[V.same]at h
theorem V.dh:∀ (x y:List V),V.fw x y=true->x=y
 |[],y,h=>by cases y<;>simp_all[V.fw]
 |a::bX,y,h=>by
  cases y<;>simp only[V.fw,Bool.false_eq_true,Bool.and_eq_true]at h
  rw[V.dG _ _ h.1,V.dh _ _ h.2]
end
def tK:List (D×D)->List (D×D)->Bool
 |[],[]=>true
 |(a,b)::l,(c,d)::m=>a.same c&&(b.same d&&tK l m)
 |_,_=>false
theorem tL:∀ (l m:List (D×D)),tK l m=true->l=m
 |[],m,h=>by cases m<;>simp_all[tK]
 |(a,b)::l,m,h=>by
  cases m with
  |nil=>simp[tK]at h
  |cons p m=>
   obtain⟨c,d⟩:=p
   simp only[tK,Bool.and_eq_true]at h
   rw[D.dG _ _ h.1,D.dG _ _ h.2.1,tL l m h.2.2]
noncomputable def ab.same:ab->ab->Bool
 | .no, .no=>true
 | .row a, .row b=>V.fw a b
 | .arr e t s a, .arr f u r b=>Nat.beq e f&&Nat.beq t u&&Nat.beq s r&&D.fw a b
 | .qT e a, .qT f b=>Nat.beq e f&&D.fw a b
 | .map k v a, .map k' v' b=>Nat.beq k k'&&Nat.beq v v'&&tK a b
 | .gu a, .gu b=>tK a b
 | .xb a i, .xb b j=>a==b&&Nat.beq i j
 |_,_=>false
theorem ab.dG {x y:ab}(h:x.same y=true):x=y:=by
 cases x<;>cases y<;>simp only[ab.same,Bool.false_eq_true,Bool.and_eq_true]at h
 ·rfl
 ·rw[V.dh _ _ h]
 ·rw[Nat.eq_of_beq_eq_true h.1.1.1,Nat.eq_of_beq_eq_true h.1.1.2,Nat.eq_of_beq_eq_true h.1.2,D.dh _ _ h.2]
 ·rw[Nat.eq_of_beq_eq_true h.1,D.dh _ _ h.2]
 ·rw[Nat.eq_of_beq_eq_true h.1.1,Nat.eq_of_beq_eq_true h.1.2,tL _ _ h.2]
 ·rw[tL _ _ h]
 ·rw[eq_of_beq h.1,Nat.eq_of_beq_eq_true h.2]
noncomputable def reach(o:Nat->ab):Nat->List Nat->List Nat->List Nat
 |0,_,seen=>seen
 |_+1,[],seen=>seen
 |n+1,id::todo,seen=>match seen.contains id with
  |true=>reach o n todo seen
  |false=>reach o n ((o id).refs++todo) (id::seen)
noncomputable def dZ(o o1:Nat->ab):List Nat->List (Nat×ab)
 |[]=>[]
 |id::l=>match(o id).same (o1 id)with
  |true=>dZ o o1 l
  |false=>(id,o1 id)::dZ o o1 l
theorem hU{o o1:Nat->ab}:∀ (l:List Nat) (x:Nat×ab),x∈dZ o o1 l->x.1∈l/\x.2=o1 x.1
 |[],x,h=>by simp[dZ]at h
 |id::l,x,h=>by
  simp only[dZ]at h
  split at h
  ·obtain⟨h1,h2⟩:=hU l x h;exact⟨List.mem_cons_of_mem _ h1,h2⟩
  ·rcases List.mem_cons.1 h with rfl|h
   ·exact⟨aI,rfl⟩
   ·obtain⟨h1,h2⟩:=hU l x h;exact⟨List.mem_cons_of_mem _ h1,h2⟩
theorem mu{o o1:Nat->ab}:∀ (l:List Nat) (id:Nat),id∈l->id∉(dZ o o1 l).map (·.1)->o1 id=o id
 |[],id,h,_=>by simp at h
 |j::l,id,h,hn=>by
  simp only[dZ]at hn
  split at hn
  ·rename_i hs
   rcases List.mem_cons.1 h with rfl|h
   ·exact(ab.dG hs).symm
   ·exact mu l id h hn
  ·simp only[List.map_cons,List.mem_cons,not_or]at hn
   rcases List.mem_cons.1 h with rfl|h
   ·exact absurd rfl hn.1
   ·exact mu l id h hn.2
theorem AG{o1:Nat->ab}:∀ (Δ:List (Nat×ab)) (o:Nat->ab),(∀x∈Δ,x.2=o1 x.1)->∀id,id∈Δ.map (·.1)\/o id=o1 id->put o Δ id=o1 id
 |[],o,_,id,h=>by rcases h with h|h;· simp at h
                  ·exact h
 |x::Δ,o,hv,id,h=>by
  simp only[put,List.foldl_cons]
  refine AG Δ (aF o x.1 x.2) (fun y hy=>hv y (List.mem_cons_of_mem _ hy)) id ?_
  simp only[List.map_cons,List.mem_cons]at h
  simp only[aJ]
  by_cases e:id=x.1
  ·right;rw[if_pos e,hv x (by simp),e]
  ·rcases h with(h|h)|h
   ·exact absurd h e
   ·exact .inl h
   ·right;rw[if_neg e];exact h
theorem rq{o o1:Nat->ab}{l:List Nat}{id:Nat}(h:id∈l):o1 id=put o (dZ o o1 l) id:=by
 by_cases hm:id∈(dZ o o1 l).map (·.1)
 ·exact(AG _ o (fun x hx=>(hU l x hx).2) id (.inl hm)).symm
 ·rw[fE hm];exact mu l id h hm
inductive DR where
 |val (v:V) (Δ:List (Nat×ab)) (rd:List Nat)|bF (v:V) (ws rd:List Nat)
def DR.to (K:V->List (Nat×ab)->List Nat->Prop)(KX:V->List Nat->List Nat->Prop):DR->Prop
 | .val v Δ rd=>K v Δ rd
 | .bF v ws rd=>KX v ws rd
noncomputable def YJ(c:CR):Option dJ:=some (.c c)
noncomputable def hX(P:Program)(bM:Nat->FD)(rec:df)(g:Nat)(args:List V)(st:St):Option DR:=
 let rd:=reach st.o.get 2000 (V.aL args) []
 match rd.all (fun id=>Nat.blt id st.nx&&(st.o.get id).refs.all rd.contains)&&(V.aL args).all rd.contains with
 |true=>match I4 P bM rec g args (.e (Cw rd st.o.get)) st.nx YJ with
  |some (.c (.ret v o1 _))=>match v with
   | .bS [_]=>none
   |v=>match bT o1.get (tI v)with
    |some rs=>match(dZ st.o.get o1.get rd).all (fun x=>x.2.refs.all rd.contains)&&(V.bg (tI v)).all (fun id=> !rd.contains id)with
     |true=>some (.val (iE rs) (dZ st.o.get o1.get rd) rd)
     |false=>none
    |none=>none
  |some (.c (.bF v o1 _))=>match dA o1.get v with
   |some x=>match(dZ st.o.get o1.get rd).all (fun x=>x.2.refs.all rd.contains)&&v.ids.all (fun id=> !rd.contains id)with
    |true=>some (.bF (.d x) ((dZ st.o.get o1.get rd).map (·.1)) rd)
    |false=>none
   |none=>none
  |_=>none
 |false=>none
noncomputable def cDX(P:Program)(bM:Nat->FD)(md:pj P)(rec:df)(g:Nat)(args:List V)(st:St)(rd:List Nat):Option DR:=
 match bT st.o.get args with
 |some ds=>match md.YG g with
  |false=>match I4 P bM rec g (ds.map .d) (.e fun _=> .no) 0 YJ with
   |some (.c (.ret v _ _))=>match v.refs with
    |[]=>some (.val v (cc st.o.get (V.bg args)) rd)
    |_=>none
   |_=>none
  |true=>match Mt P bM md rec g ds with
   |some (.ret rs)=>match D.ja rs with
    |true=>some (.val (iE rs) [] rd)
    |false=>some (.val (iE rs) (cc st.o.get (V.bg args)) rd)
   |some (.bF x)=>match x.flat with
    |true=>some (.bF (.d x) [] rd)
    |false=>none
   |none=>none
 |none=>hX P bM rec g args st
noncomputable def sDX(P:Program)(st:St)(fr:Nat)(op:Op):Option DR:=
 match Ms op P st.S fr with
 |some (v,Δ,_)=>some (.val v Δ (nr st.S op))
 |none=>none
def V.abQ:V->Bool
 | .mp _=>true
 |_=>false
def SH{P:Program}(md:pj P)(g:Nat)(args:List V):Bool:= !md.YG g&&args.any V.abQ
def wo(args:List V):Option (List D):=
 match V.bg args with
 |[]=>bT (fun _=> .no) args
 |_=>none
noncomputable def Mw(P:Program)(t:TypeId)(c:CR):Option dJ:=
 match c with
 | .ret v o1 _=>match v with
   | .osl j ep=>match o1.get j with
     | .arr gS ty sz es=>match Nat.beq gS ep with
       |true=>YF (.ret [.sl es, .int .i64 (ty:Nat), .int .i64 (sz:Nat)]) fun x=>some (.r x)
       |false=>none
     |_=>none
   | .bw=>match bQ P t with
     |some e=>match Nat.blt 0 (P.cellsOf e)with
      |true=>YF (.ret [.sl [], .int .i64 (e:Nat), .int .i64 (P.cellsOf e:Nat)]) fun x=>some (.r x)
      |false=>none
     |none=>none
   |_=>none
 |_=>none
noncomputable def SI(P:Program)(bM:Nat->FD)(rec:df)(g:Nat)(t:TypeId)(args:List V)(st:St)(fr:Nat):Option DR:=
 match wo args with
 |some ds=>match I4 P bM rec g (ds.map .d) (.e fun _=> .no) 0 (Mw P t)with
  |some (.r (.ret [.sl es, .int .i64 (.ofNat ty), .int .i64 (.ofNat sz)]))=>some (.val (.osl fr 0) [(fr, .arr 0 ty sz es)] [])
  |_=>none
 |none=>match bT st.o.get args with
  |some ds=>match I4 P bM rec g (ds.map .d) (.e fun _=> .no) 0 (Mw P t)with
   |some (.r (.ret [.sl es, .int .i64 (.ofNat ty), .int .i64 (.ofNat sz)]))=>match D.ja es&&(V.bg args).all (fun id=>Nat.blt id st.nx)with
    |true=>some (.val (.osl fr 0) [(fr, .arr 0 ty sz es)] (V.bg args))
    |false=>none
   |_=>none
  |none=>none
noncomputable def Mx(P:Program)(bM:Nat->FD)(md:pj P)(rec:df)(st:St)(fr:Nat)(op:Op):Option DR:=
 match op with
 | .call c=>match c.callee with
   | .value f=>match st.S.ev f with
     | .func (.func g) first cap=>match SH md g (first++c.args.toList.map st.S.ev++cap)with
       |true=>hX P bM rec g (first++c.args.toList.map st.S.ev++cap) st
       |false=>match cDX P bM md rec g (first++c.args.toList.map st.S.ev++cap) st (nr st.S (.call c))with
        |some r=>some r
        |none=>SI P bM rec g (c.argTypes.getD 0 0) (first++c.args.toList.map st.S.ev++cap) st fr
     |_=>none
   |_=>sDX P st fr (.call c)
 |op=>sDX P st fr op
noncomputable def YK(st:St):Option (Nat×Bool)->Option Bool
 |none=>some true
 |some (d,want)=>match st.env.get d with
  | .d (.bool b)=>some (b==want)
  | .bS []=>some false
  |_=>none
noncomputable def tM(P:Program)(bM:Nat->FD)(md:pj P)(rec:df)(pr:List (List Nat)):List bL->Nat->St->Fp->List Nat->List Nat->Option (List Nat×Fp)
 |[],_,_,fp,_,ws=>some (ws,fp)
 |o::l,fr,st,fp,bad,ws=>match(pr.getD fp.length []).any (fun j=>bad.contains j)with
  |true=>tM P bM md rec pr l (fr+1) ⟨rp st.env o.dst .aa,st.o,st.nx⟩ (fp++[([],[])]) (bad++[fp.length]) ws
  |false=>match YK st o.gd with
   |some true=>match Mx P bM md rec st fr o.op with
    |some (.val v Δ rd)=>lg st.env o.dst v fun e=>tH st.o Δ fun ob=>tM P bM md rec pr l (fr+1) ⟨e,ob,st.nx⟩ (fp++[(rd,Δ.map (·.1))]) bad (ws++Δ.map (·.1))
    |_=>none
   |some false=>tM P bM md rec pr l (fr+1) ⟨rp st.env o.dst (.bS []),st.o,st.nx⟩ (fp++[([],[])]) bad ws
   |none=>none
inductive DQ where
 |fin (st:St) (fp:Fp)|bF (v:V) (wl:List Nat) (fp:Fp)
noncomputable def tN(P:Program)(bM:Nat->FD)(md:pj P)(rec:df)(pr:List (List Nat)):List bL->Nat->St->Fp->Option DQ
 |[],_,st,fp=>some (.fin st fp)
 |o::l,fr,st,fp=>match YK st o.gd with
  |some true=>match Mx P bM md rec st fr o.op with
   |some (.val v Δ rd)=>lg st.env o.dst v fun e=>tH st.o Δ fun ob=>Nat.fc (fr+1) fun fr=>tN P bM md rec pr l fr ⟨e,ob,st.nx⟩ (fp++[(rd,Δ.map (·.1))])
   |some (.bF v ws rd)=>match tM P bM md rec pr l (fr+1) ⟨rp st.env o.dst .aa,st.o,st.nx⟩ (fp++[(rd,[])]) [fp.length] (ws++fp.flatMap (·.2))with
    |some (wl,fp)=>some (.bF v wl fp)
    |none=>none
   |none=>none
  |some false=>lg st.env o.dst (.bS []) fun e=>Nat.fc (fr+1) fun fr=>tN P bM md rec pr l fr ⟨e,st.o,st.nx⟩ (fp++[([],[])])
  |none=>none
noncomputable def quiet(fp:Fp):Bool:=fp.all fun x=>match x.2 with|[]=>true|_=>false
noncomputable def x3(m:Nat)(x:List Nat×List Nat):Nat->Fp->Bool
 |_,[]=>true
 |i,y::l=>(match y.2,x.2 with
  |[],[]=>true
  |_,_=>m.testBit i||(jO y.2 x.1&&jO y.2 x.2&&jO x.2 y.1))&&x3 m x (i+1) l
noncomputable def Eg(ms:List Nat)(pre:Fp):Nat->Fp->Bool
 |_,[]=>true
 |j,x::l=>x3 (ms.getD j 0) x 0 pre&&Eg ms (pre++[x]) (j+1) l
noncomputable def YL{β:Type}:List Nat->(List Nat->β)->β
 |[],c=>c []
 |x::xs,c=>Nat.fc x fun x=>YL xs fun xs=>c (x::xs)
theorem Je{β:Type}:∀ (x:List Nat) (c:List Nat->β),YL x c=c x
 |[],c=>rfl
 |x::xs,c=>by simp only[YL,Nat.cF,Je xs]
noncomputable def My{β:Type}:Fp->(Fp->β)->β
 |[],c=>c []
 |(a,b)::l,c=>YL a fun a=>YL b fun b=>My l fun l=>c ((a,b)::l)
theorem Eh{β:Type}:∀ (x:Fp) (c:Fp->β),My x c=c x
 |[],c=>rfl
 |(a,b)::l,c=>by simp only[My,Je,Eh l]
noncomputable def Jf(pr:List (List Nat))(fp:Fp):Bool:=match quiet fp with|true=>true|false=>My fp fun fp=>Eg (dV pr []) [] 0 fp
theorem wq{m:Nat}{x:List Nat×List Nat}:∀ (l:Fp) (i:Nat),x3 m x i l=true->∀k,k<l.length->(m.testBit (i+k)||(jO (l.getD k ([],[])).2 x.1&&jO (l.getD k ([],[])).2 x.2&&jO x.2 (l.getD k ([],[])).1))=true
 |[],i,_,k,hk=>by simp at hk
 |y::l,i,h,k,hk=>by
  simp only[x3,Bool.and_eq_true]at h
  cases k with
  |zero=>
   have h1:=h.1
   simp only[List.getD_cons_zero,Nat.add_zero]
   split at h1
   ·rename_i e1 e2
    rw[e1,e2];simp[jO]
   ·exact h1
  |succ k=>
   have:=wq l (i+1) h.2 k (by simpa using hk)
   rw[List.getD_cons_succ,show i+(k+1)=i+1+k by omega]
   exact this
theorem AH{ms:List Nat}:∀ (l pre:Fp),Eg ms pre pre.length l=true->∀j,pre.length<=j->j<(pre++l).length->∀i,i<j->
 ((ms.getD j 0).testBit i||(jO ((pre++l).getD i ([],[])).2 ((pre++l).getD j ([],[])).1&&jO ((pre++l).getD i ([],[])).2 ((pre++l).getD j ([],[])).2&&jO ((pre++l).getD j ([],[])).2 ((pre++l).getD i ([],[])).1))=true
 |[],pre,_,j,h1,h2,i,_=>by simp at h2;omega
 |x::l,pre,h,j,h1,h2,i,hi=>by
  simp only[Eg,Bool.and_eq_true]at h
  by_cases e:j=pre.length
  ·subst e
   have:=wq pre 0 h.1 i hi
   have e1:(pre++x::l).getD pre.length ([],[])=x:=by simp[List.getD_eq_getElem?_getD]
   have e2:(pre++x::l).getD i ([],[])=pre.getD i ([],[]):=by simp[List.getD_eq_getElem?_getD,List.getElem?_append_left hi]
   rw[e1,e2]
   simpa using this
  ·have h3:=h.2
   have:=AH l (pre++[x]) (by simpa using h3) j ow sI i hi
   simpa using this
noncomputable def SJ(P:Program)(bM:Nat->FD)(md:pj P)(rec:df)(l:List bL)(pr:List (List Nat))(st:St):Option (eS×St):=
 match tN P bM md rec pr l st.nx st []with
 |some (.fin s1 fp)=>match Jf pr fp with
  |true=>Nat.fc (st.nx+l.length) fun n=>some (.normal,⟨s1.env,s1.o,n⟩)
  |false=>none
 |some (.bF v wl fp)=>match Jf pr fp with
  |true=>some (.bF v,⟨.e (tj (dstsOf l) wl l.length st.S).env, .e (tj (dstsOf l) wl l.length st.S).o,st.nx+l.length⟩)
  |false=>none
 |none=>none
noncomputable def YM(id:Nat)(env:Tr V)(kt:Kt)(c:CR):Option dJ:=
 match c with
 | .ret _ o1 yN=>match o1.get id with
   | .loop nf m e p c d lst pd=>match lst with
     | .busy=>none
     |_=>match pd with
      |none=>kt .normal ⟨env,o1.set id (.loop nf m e p c d .exhausted pd),yN⟩
      |some .ret=>kt .ret ⟨env,o1.set id (.loop nf m e p c d .exhausted pd),yN⟩
      |some (.exit j)=>kt (.exit j) ⟨env,o1.set id (.loop nf m e p c d .exhausted pd),yN⟩
   |_=>none
 | .bF v o1 yN=>kt (.bF v) ⟨env,o1,yN⟩
noncomputable def Mz(P:Program)(bM:Nat->FD)(rec:df)(n:Nat)(g:Operand)(ps:List Nat)(x y:IC)(st:St)(kt:Kt):Option dJ:=
 match st.S.ev g with
 | .func (.func f) first cap=>I4 P bM rec f (first++[.iD st.nx]++cap) (st.o.set st.nx (.loop P.funcs.size n ((List.range n).map st.env.get) ps x y .ready none)) (st.nx+1) (YM st.nx st.env kt)
 |_=>none
abbrev nE:=(P:Program)->(Nat->FD)->pj P->df->Nat->Bool->Nat->St->Kt->Option dJ
noncomputable def roX(kt:Kt):RO->Option dJ:=fun r=>match r with| .ok st=>kt .normal st| .bF v st=>kt (.bF v) st
noncomputable def abR(l:List bL):nE:=fun P bM md rec _ _ _ st kt=>xY P bM md rec (roX kt) l st
def wu:List Nat->Nat->Nat->Nat
 |[],_,c=>c
 |x::l,k,c=>match Nat.beq x (2^k - 1)with
  |true=>wu l (k+1) c
  |false=>wu l (k+1) (k+1)
def pk(pr:List (List Nat)):Nat:=wu (dV pr []) 0 0
noncomputable def SK(l:List bL)(pr:List (List Nat)):nE:=fun P bM md rec _ _ _ st kt=>
 Nat.fc (pk pr) fun m=>match tN P bM md rec pr (l.take m) st.nx st []with
 |some (.fin s1 fp)=>match Jf pr fp with
  |true=>Nat.fc (st.nx+m) fun n=>match Nat.ble m l.length with
   |true=>xY P bM md rec (roX kt) (l.drop m) ⟨s1.env,s1.o,n⟩
   |false=>none
  |false=>none
 |some (.bF _ _ _)=>match SJ P bM md rec l pr st with
  |some (e,s1)=>kt e s1
  |none=>none
 |none=>none
noncomputable def CQ(rec:df)(b:Nat)(rd:Bool)(n:Nat)(y:IC)(kt:Kt):Kt:=fun e s1=>match e with| .normal=>rec b rd n y s1 kt|e=>kt e s1
noncomputable def abS(x y:IC):nE:=fun _ _ _ rec b rd n st kt=>rec b rd n x st (CQ rec b rd n y kt)
noncomputable def Ei(a c:Option dJ):Option dJ:=
 match a with
 |some (.r x)=>match c with
  |some (.r y)=>match R.same x y with
   |true=>some (.r x)
   |false=>none
  |_=>none
 |_=>none
noncomputable def YN(c:Operand)(x y:IC):nE:=fun _ _ _ rec b rd n st kt=>match st.S.ev c with
 | .d (.bool true)=>rec b rd n x st kt
 | .d (.bool false)=>rec b rd n y st kt
 | .eN=>Ei (rec b rd n x st kt) (rec b rd n y st kt)
 |_=>none
noncomputable def CS(id:Nat)(kt:Kt):Kt:=fun e s1=>match e with
 | .exit j=>match Nat.beq j id with
   |true=>kt .normal s1
   |false=>kt (.exit j) s1
 |e=>kt e s1
noncomputable def SL(id:Nat)(x:IC):nE:=fun _ _ _ rec b rd n st kt=>rec b rd n x st (CS id kt)
noncomputable def YO(x:IC):nE:=fun _ _ _ rec b rd n st kt=>match Nat.ble b st.nx with
 |true=>rec b rd n x st (CQ rec b rd n (.loop x) kt)
 |false=>none
noncomputable def SM(e:eS):nE:=fun _ _ _ _ _ _ _ st kt=>kt e st
noncomputable def abT:nE:=fun _ _ _ _ _ _ _ _ _=>none
noncomputable def abU(g:Operand)(ps:List Nat)(x y:IC):nE:=fun P bM _ rec _ rd n st kt=>match rd with
 |true=>none
 |false=>Mz P bM rec n g ps x y st kt
noncomputable def Pq(ic:IC):nE:=
 match ic with
 | .skip=>SM .normal
 | .ad l=>abR l
 | .cT l pr=>SK l pr
 | .seq x y=>abS x y
 | .cond c x y=>YN c x y
 | .block id x=>SL id x
 | .loop x=>YO x
 | .exit id=>SM (.exit id)
 | .ret=>SM .ret
 | .Fh g ps x y=>abU g ps x y
 | .bad=>abT
noncomputable def run(P:Program)(bM:Nat->FD)(md:pj P)(k:Nat):df:=
 Nat.rec (motive:=fun _=>df) (fun _ _ _ _ _ _=>none) (fun _ rec b rd n ic st kt=>Pq ic P bM md rec b rd n st kt) k
theorem Jg{P:Program}{bM:Nat->FD}{md:pj P}{k:Nat}:run P bM md (k+1)=fun b rd n ic st kt=>Pq ic P bM md (run P bM md k) b rd n st kt:=rfl
section
variable {P:Program}{bM:Nat->FD}{md:pj P}
theorem Pr(bf:P.follows .mixedOrders=true)(cm:∀g,(bM g).Ok P g){rec:df}(bp:dS P rec){fr:Nat}{g:Nat}{args:List V}{st:St}{r:DR}(h:hX P bM rec g args st=some r){K:V->List (Nat×ab)->List Nat->Prop}{KX:V->List Nat->List Nat->Prop}(hr:r.to K KX):
 ir P g args st.S.o st.S.nx fr K KX:=by
 unfold hX at h
 simp only at h
 generalize nd:reach st.o.get 2000 (V.aL args) []=rd at h
 split at h
 ·rename_i hc
  simp only[Bool.and_eq_true,List.all_eq_true]at hc
  obtain⟨hc1,sV⟩:=hc
  have a1:∀id∈rd,id<st.nx:=fun id au=>Nat.le_of_ble_eq_true (hc1 id au).1
  have a2:∀id∈V.aL args,id∈rd:=fun id au=>by simpa using sV id au
  have a3:∀id∈rd,∀j∈(st.o.get id).refs,j∈rd:=fun id au j hj=>by simpa using(hc1 id au).2 j hj
  have a0:rd.all (fun id=>decide (id<st.S.nx))=true:=List.all_eq_true.2 fun id au=>decide_eq_true (a1 id au)
  have key:∀ {r:CR} {a:CR},YJ r=some (.c a)->r=a:=fun h=>by unfold YJ at h;injection h with h;injection h
  split at h
  ·rename_i v o1 yN hf
   split at h
   ·cases h
   ·rename_i v' om
    split at h
    ·rename_i rs Xp
     split at h
     ·rename_i SN
      injection h with h;subst h
      simp only[Bool.and_eq_true,List.all_eq_true]at SN
      refine⟨rd,_,a0, .inl ⟨rs,DU.l9 a1 a2 a3 (fun x hx=>(hU rd x hx).1) (fun x hx j hj=>by simpa using SN.1 x hx j hj) (mq bf cm bp hf fun r pU=> ?_),hr⟩⟩
      rw[key pU]
      refine⟨fun id au=>rq au,tI v,rs, ?_,Xp,rfl,fun id au=>by simpa using SN.2 id au⟩
      cases v with
      |bS vs=>
       match vs,om with
       |[],_=>rfl
       |[x],hv=>exact absurd rfl (hv x)
       |_::_::_,_=>rfl
      |_=>rfl
     ·cases h
    ·cases h
  ·rename_i v o1 yN hf
   split at h
   ·rename_i x hx
    split at h
    ·rename_i SN
     injection h with h;subst h
     simp only[Bool.and_eq_true,List.all_eq_true]at SN
     refine⟨rd,dZ st.o.get o1.get rd,a0, .inr (.inl ⟨x,DU.l9 a1 a2 a3 (fun x hx=>(hU rd x hx).1) (fun x hx j hj=>by simpa using SN.1 x hx j hj) (mq bf cm bp hf fun r pU=> ?_),hr⟩)⟩
     rw[key pU]
     exact⟨fun id au=>rq au,x,hx,rfl,fun id au=>by simpa using SN.2 id au⟩
    ·cases h
   ·cases h
  ·cases h
 ·cases h
theorem SO(bf:P.follows .mixedOrders=true)(cm:∀g,(bM g).Ok P g){rec:df}(bp:dS P rec){g:Nat}{args:List V}{st:St}{rd:List Nat}{ds:List D}(eD:bT st.o.get args=some ds){r:DR}(h:cDX P bM md rec g args st rd=some r)
 {K:V->List (Nat×ab)->List Nat->Prop} {KX:V->List Nat->List Nat->Prop} (hr:r.to K KX):
 rm P g ds (fun v=>K v (cc st.S.o (V.bg args)) rd) (fun v=>K v [] rd) (fun v=>KX v [] rd):=by
 unfold cDX at h
 simp only[eD]at h
 split at h
 ·split at h
  ·rename_i v o1 yN F6
   split at h
   ·rename_i hrf
    injection h with h;subst h
    exact .inr (.inr ⟨v,XI.l9 hrf (mq bf cm bp F6 fun r pU=>by unfold YJ at pU;injection pU with pU;injection pU with pU;rw[pU];exact rfl),hr⟩)
   ·cases h
  ·cases h
 ·split at h
  ·rename_i rs Jd
   have hP:=xZ bf cm bp Jd
   split at h
   ·rename_i hf
    injection h with h;subst h
    exact .inl ⟨rs,hP, .inr ⟨hf,hr⟩⟩
   ·injection h with h;subst h
    exact .inl ⟨rs,hP, .inl hr⟩
  ·rename_i x Jd
   have hP:=xZ bf cm bp Jd
   split at h
   ·rename_i hf
    injection h with h;subst h
    exact .inr (.inl ⟨x,hP,hf,hr⟩)
   ·cases h
  ·cases h
theorem Ej{t ty:TypeId}{sz:Nat}{es:List D}{r:CR}(h:Mw P t r=some (.r (.ret [.sl es, .int .i64 (.ofNat ty), .int .i64 (.ofNat sz)]))):
 r.to (fun v o1 _=>(∃j ep,v= .osl j ep/\o1 j= .arr ep ty sz es)\/(v= .bw/\es=[]/\0<sz)) (fun _ _ _=>False):=by
 unfold Mw at h
 split at h
 ·rename_i v o1 n1
  split at h
  ·rename_i j ep
   split at h
   ·rename_i gS ty' pS es' ho
    split at h
    ·rename_i he
     have he:=Nat.eq_of_beq_eq_true he
     subst he
     rw[CP]at h
     simp only[Option.some.injEq,dJ.r.injEq,R.ret.injEq,List.cons.injEq,D.sl.injEq,D.int.injEq,true_and,and_true]at h
     obtain⟨rfl,h2,h3⟩:=h
     have h2:ty'=ty:=Int.ofNat.inj h2
     have h3:pS=sz:=Int.ofNat.inj h3
     subst h2;subst h3
     exact .inl ⟨j,gS,rfl,ho⟩
    ·cases h
   ·cases h
  ·split at h
   ·rename_i e he
    split at h
    ·rename_i hp
     rw[CP]at h
     simp only[Option.some.injEq,dJ.r.injEq,R.ret.injEq,List.cons.injEq,D.sl.injEq,D.int.injEq,true_and,and_true]at h
     obtain⟨rfl,h2,h3⟩:=h
     have h3:P.cellsOf e=sz:=Int.ofNat.inj h3
     subst h3
     exact .inr ⟨rfl,rfl,Nat.blt_eq.mp hp⟩
    ·cases h
   ·cases h
  ·cases h
 ·cases h
theorem MA(bf:P.follows .mixedOrders=true)(cm:∀g,(bM g).Ok P g){rec:df}(bp:dS P rec){fr:Nat}{g:Nat}{t:TypeId}{args:List V}{st:St}{r:DR}(h:SI P bM rec g t args st fr=some r){K:V->List (Nat×ab)->List Nat->Prop}{KX:V->List Nat->List Nat->Prop}(hr:r.to K KX):
 ir P g args st.S.o st.S.nx fr K KX:=by
 unfold SI at h
 split at h
 ·rename_i ds eD
  split at h
  ·rename_i es ty sz F6
   injection h with h;subst h
   unfold wo at eD
   split at eD
   ·rename_i au
    exact⟨[],_,aI, .inr (.inr ⟨_,xJ.Mq au eD (xJ.IY (mq bf cm bp F6 fun r pU=>Ej pU)),hr⟩)⟩
   ·cases eD
  ·cases h
 ·split at h
  ·rename_i ds eD
   split at h
   ·rename_i es ty sz F6
    split at h
    ·rename_i hc
     injection h with h;subst h
     simp only[Bool.and_eq_true]at hc
     refine⟨V.bg args,_, ?_, .inr (.inr ⟨_,xJ.Mp eD hc.1 (mq bf cm bp F6 fun r pU=>Ej pU),hr⟩)⟩
     exact List.all_eq_true.2 fun id au=>decide_eq_true (Nat.blt_eq.mp (List.all_eq_true.1 hc.2 id au))
    ·cases h
   ·cases h
  ·cases h
theorem x4(bf:P.follows .mixedOrders=true)(cm:∀g,(bM g).Ok P g){rec:df}(bp:dS P rec){st:St}{fr:Nat}{o:bL}{r:DR}(h:Mx P bM md rec st fr o.op=some r){K:V->List (Nat×ab)->List Nat->Prop}{KX:V->List Nat->List Nat->Prop}(hr:r.to K KX):
 yO P st.S fr o K KX:=by
 have hs:sDX P st fr o.op=some r->(match fK P st.S fr o.op with|some (v,Δ,_)=>K v Δ (nr st.S o.op)|none=>False):=by
  intro h
  unfold sDX at h
  split at h
  ·rename_i v Δ rd he
   injection h with h;subst h
   simp only[D9 he]
   exact hr
  ·cases h
 unfold Mx at h
 unfold yO
 split at h
 ·rename_i c hc
  simp only[hc]
  split at h
  ·rename_i f hf
   simp only[hf]
   split at h
   ·rename_i g first cap hv
    simp only[hv]
    split at h
    ·have hh:=Pr bf cm bp h hr (fr:=fr)
     split
     ·exact .inr hh
     ·exact hh
    split at h
    ·rename_i r' Rw
     injection h with h;subst h
     cases eD:bT st.S.o (first++List.map st.S.ev c.args.toList++cap)with
     |some ds=>exact .inl (SO bf cm bp eD Rw hr)
     |none=>
      have SF:bT st.o.get (first++List.map st.S.ev c.args.toList++cap)=none:=eD
      unfold cDX at Rw
      simp only[SF]at Rw
      exact Pr bf cm bp Rw hr
    ·have hh:=MA bf cm bp (st:=st) h hr
     split
     ·exact .inr hh
     ·exact hh
   ·cases h
  ·rename_i eB
   rw[<- hc]at h
   have:=hs h
   rw[hc]at this
   split
   ·rename_i f hf;exact absurd hf (eB f)
   ·exact this
 ·rename_i hc
  have:=hs h
  split
  ·rename_i c hh;exact absurd hh (hc c)
  ·exact this
def gdW(s:S)(gd:Option (Nat×Bool))(A B:Prop):Prop:=
 match gd with
 |none=>A
 |some (d,want)=>match s.env d with
  | .d (.bool b)=>if b=want then A else B
  | .bS []=>B
  |_=>False
theorem x5{st:St}{gd:Option (Nat×Bool)}{t:Bool}(h:YK st gd=some t){A B:Prop}(hA:t=true->A)(hB:t=false->B):gdW st.S gd A B:=by
 cases gd with
 |none=>simp only[YK,Option.some.injEq]at h;exact hA h.symm
 |some p=>
  obtain⟨d,want⟩:=p
  have he:st.S.env d=st.env.get d:=rfl
  simp only[YK]at h
  simp only[gdW,he]
  split at h
  ·rename_i b hb
   injection h with h
   by_cases e:b=want
   ·rw[if_pos e];exact hA (by rw[<- h,e];simp)
   ·rw[if_neg e];exact hB (by rw[<- h];simpa using e)
  ·rename_i hb
   injection h with h
   exact hB h.symm
  ·cases h
theorem MB{P:Program}{KB:List Nat->Fp->Prop}{pr:List (List Nat)}{o:bL}{l:List bL}{fr:Nat}{s:S}{fp:Fp}{bad ws:List Nat}(hb:(pr.getD fp.length []).any (fun j=>bad.contains j)=false)
 (h:gdW s o.gd (yO P s fr o (fun v Δ rd=>gG P KB pr l (fr+1) ⟨aY s.env o.dst v,put s.o Δ,s.nx⟩ (fp++[(rd,Δ.map (·.1))]) bad (ws++Δ.map (·.1))) (fun _ _ _=>False)) (gG P KB pr l (fr+1) ⟨aY s.env o.dst (.bS []),s.o,s.nx⟩ (fp++[([],[])]) bad ws)):
 gG P KB pr (o::l) fr s fp bad ws:=by
 simp only[gG]
 rw[if_neg (by rw[hb];simp)]
 cases hg:o.gd with
 |none=>rw[hg]at h;exact h
 |some p=>obtain⟨d,want⟩:=p;rw[hg]at h;exact h
theorem MC{P:Program}{K:S->Fp->Prop}{KP:V->List Nat->Fp->Prop}{pr:List (List Nat)}{o:bL}{l:List bL}{fr:Nat}{s:S}{fp:Fp}
 (h:gdW s o.gd (yO P s fr o (fun v Δ rd=>jT P K KP pr l (fr+1) ⟨aY s.env o.dst v,put s.o Δ,s.nx⟩ (fp++[(rd,Δ.map (·.1))]))
  (fun v ws rd=>gG P (KP v) pr l (fr+1) ⟨aY s.env o.dst .aa,s.o,s.nx⟩ (fp++[(rd,[])]) [fp.length] (ws++fp.flatMap (·.2)))) (jT P K KP pr l (fr+1) ⟨aY s.env o.dst (.bS []),s.o,s.nx⟩ (fp++[([],[])]))):
 jT P K KP pr (o::l) fr s fp:=by
 simp only[jT]
 cases hg:o.gd with
 |none=>rw[hg]at h;exact h
 |some p=>obtain⟨d,want⟩:=p;rw[hg]at h;exact h
theorem pn(bf:P.follows .mixedOrders=true)(cm:∀g,(bM g).Ok P g){rec:df}(bp:dS P rec){pr:List (List Nat)}{wl:List Nat}{fp':Fp}{KB:List Nat->Fp->Prop}(hK:KB wl fp'):
 ∀ (l:List bL) (fr:Nat) (st:St) (fp:Fp) (bad ws:List Nat),tM P bM md rec pr l fr st fp bad ws=some (wl,fp')->gG P KB pr l fr st.S fp bad ws
 |[],fr,st,fp,bad,ws,h=>by
  simp only[tM,Option.some.injEq,Prod.mk.injEq]at h
  obtain⟨rfl,rfl⟩:=h;exact hK
 |o::l,fr,st,fp,bad,ws,h=>by
  simp only[tM,iN,mo]at h
  split at h
  ·rename_i hb
   simp only[gG]
   rw[if_pos hb]
   have:=pn bf cm bp hK l _ _ _ _ _ h
   exact HK
  ·rename_i hb
   refine MB hb ?_
   split at h
   ·rename_i hg
    refine x5 hg (fun _=> ?_) (fun h=>by cases h)
    split at h
    ·rename_i v Δ rd gr
     refine x4 bf cm bp gr ?_
     have:=pn bf cm bp hK l _ _ _ _ _ h
     simp only[St.S,iI,ji]at this
     exact this
    ·cases h
   ·rename_i hg
    refine x5 hg (fun h=>by cases h) (fun _=> ?_)
    have:=pn bf cm bp hK l _ _ _ _ _ h
    exact HK
   ·cases h
def DQ.to (K:S->Fp->Prop)(KP:V->List Nat->Fp->Prop):DQ->Prop
 | .fin st fp=>K st.S fp
 | .bF v wl fp=>KP v wl fp
theorem mw(bf:P.follows .mixedOrders=true)(cm:∀g,(bM g).Ok P g){rec:df}(bp:dS P rec){pr:List (List Nat)}{q:DQ}{K:S->Fp->Prop}{KP:V->List Nat->Fp->Prop}(hq:q.to K KP):
 ∀ (l:List bL) (fr:Nat) (st:St) (fp:Fp),tN P bM md rec pr l fr st fp=some q->jT P K KP pr l fr st.S fp
 |[],fr,st,fp,h=>by
  simp only[tN,Option.some.injEq]at h
  subst h;exact hq
 |o::l,fr,st,fp,h=>by
  simp only[tN,iN,mo,Nat.cF]at h
  refine MC ?_
  split at h
  ·rename_i hg
   refine x5 hg (fun _=> ?_) (fun h=>by cases h)
   split at h
   ·rename_i v Δ rd gr
    refine x4 bf cm bp gr ?_
    have:=mw bf cm bp hq l _ _ _ h
    simp only[St.S,iI,ji]at this
    exact this
   ·rename_i v ws rd gr
    split at h
    ·rename_i wl fp' hb
     injection h with h;subst h
     refine x4 bf cm bp gr ?_
     have:=pn bf cm bp (KB:=KP v) hq l _ _ _ _ _ hb
     exact HK
    ·cases h
   ·cases h
  ·rename_i hg
   refine x5 hg (fun h=>by cases h) (fun _=> ?_)
   have:=mw bf cm bp hq l _ _ _ h
   exact HK
  ·cases h
theorem x6{pr:List (List Nat)}{fp:Fp}(h:Jf pr fp=true):dR pr fp=true:=by
 unfold Jf at h
 split at h
 ·rename_i hq
  unfold quiet at hq
  have hz:∀i,(fp.getD i ([],[])).2=[]:=by
   intro i
   rw[List.getD_eq_getElem?_getD]
   cases hx:fp[i]? with
   |none=>rfl
   |some x=>
    have:=List.all_eq_true.1 hq x (List.mem_of_getElem? hx)
    simp only[Option.getD_some]
    split at this
    ·rename_i e;exact e
    ·cases this
  unfold dR
  simp only[hz,jO,List.all_nil,Bool.and_self,Bool.or_true]
  simp
 ·rw[Eh]at h
  unfold dR
  rw[List.all_eq_true]
  intro j hj
  rw[List.all_eq_true]
  intro i hi
  exact AH fp [] h j (Nat.zero_le _) lO i (by simpa using hi)
theorem tO:∀ (l:List Nat) (k c:Nat),c<=k->c<=wu l k c/\∀i x,l[i]? =some x->wu l k c<=k+i->x=2^(k+i) - 1
 |[],_,c,_=>⟨Nat.le_refl _,fun i x h=>by simp at h⟩
 |y::l,k,c,hc=>by
  simp only[wu]
  split
  ·rename_i he
   obtain⟨h1,h2⟩:=tO l (k+1) c ah
   refine⟨h1,fun i x hi hle=> ?_⟩
   cases i with
   |zero=>simp at hi;subst hi;simpa using Nat.eq_of_beq_eq_true he
   |succ i=>
    have:=h2 i x (by simpa using hi) ah
    rw[this,show k+(i+1)=k+1+i by omega]
  ·obtain⟨h1,h2⟩:=tO l (k+1) (k+1) (Nat.le_refl _)
   refine⟨ah,fun i x hi hle=> ?_⟩
   cases i with
   |zero=>omega
   |succ i=>
    have:=h2 i x (by simpa using hi) ah
    rw[this,show k+(i+1)=k+1+i by omega]
theorem wv:∀ (pr:List (List Nat)) (acc:List Nat),(dV pr acc).length=acc.length+pr.length
 |[],acc=>by simp[dV]
 |ps::l,acc=>by simp only[dV,wv l,List.length_append,List.length_cons,List.length_nil];omega
theorem Jh(pr:List (List Nat)):xQ pr (pk pr)=true:=by
 refine List.all_eq_true.2 fun k hk=> ?_
 have hk:k<pr.length:=by simpa using hk
 by_cases h:k<pk pr
 ·simp[Nat.blt_eq.mpr h]
 ·have hl:k<(dV pr []).length:=by rw[wv];simpa using hk
  have:=(tO (dV pr []) 0 0 (Nat.le_refl _)).2 k _ (List.getElem?_eq_getElem hl) (by rw[Nat.zero_add];exact Nat.le_of_not_lt h)
  rw[Nat.zero_add]at this
  rw[List.getD_eq_getElem?_getD,List.getElem?_eq_getElem hl,Option.getD_some,this]
  simp
theorem MD(bf:P.follows .mixedOrders=true)(cm:∀g,(bM g).Ok P g){rec:df}(bp:dS P rec){l:List bL}{pr:List (List Nat)}{st st':St}{e:eS}(h:SJ P bM md rec l pr st=some (e,st')){Q:eS->S->Prop}(hQ:Q e st'.S):
 jT P (CE pr (st.S.nx+l.length) Q) (Ae pr l st.S Q) pr l st.S.nx st.S []:=by
 unfold SJ at h
 split at h
 ·rename_i s1 fp hd
  split at h
  ·rename_i hf
   simp only[Nat.cF,Option.some.injEq,Prod.mk.injEq]at h
   obtain⟨rfl,rfl⟩:=h
   exact mw bf cm bp (q:= .fin s1 fp) (K:=CE pr (st.S.nx+l.length) Q) (KP:=Ae pr l st.S Q) (show CE pr (st.S.nx+l.length) Q s1.S fp from⟨x6 hf,hQ⟩) l _ _ _ hd
  ·cases h
 ·rename_i v wl fp hd
  split at h
  ·rename_i hf
   simp only[Option.some.injEq,Prod.mk.injEq]at h
   obtain⟨rfl,rfl⟩:=h
   exact mw bf cm bp (q:= .bF v wl fp) (K:=CE pr (st.S.nx+l.length) Q) (KP:=Ae pr l st.S Q) (show Ae pr l st.S Q v wl fp from⟨x6 hf,hQ⟩) l _ _ _ hd
  ·cases h
 ·cases h
theorem ME(bf:P.follows .mixedOrders=true)(cm:∀g,(bM g).Ok P g){rec:df}(bp:dS P rec){n:Nat}{g:Operand}{ps:List Nat}{x y:IC}{st:St}{kt:Kt}{a:dJ}(h:Mz P bM rec n g ps x y st kt=some a){Q:eS->S->Prop}(hQ:∀e st',kt e st'=some a->Q e st'.S):
 zQ P n (st.S.ev g) ps x y Q st.S:=by
 unfold Mz at h
 refine⟨(List.range n).map st.env.get,fun i=> ?_, ?_⟩
 ·unfold ba
  simp only[List.getD_eq_getElem?_getD,List.getElem?_map]
  by_cases hi:i<n
  ·right;rw[List.getElem?_range hi];rfl
  ·left;rw[List.getElem?_eq_none (by simp;omega)];rfl
 ·split at h
  ·rename_i f first cap hv
   simp only[hv]
   refine .inl ?_
   have key:=fun {K X} hr=>mq (K:=K) (X:=X) bf cm bp h hr
   simp only[Tr.gR]at key
   refine key fun r hr=> ?_
   unfold YM at hr
   cases r with
   |ret v o1 yN=>
    simp only at hr
    split at hr
    ·rename_i nf m e p c d lst pd ho
     have hl:lst≠ .busy:=by
      intro hb;subst hb;cases hr
     refine⟨nf,m,e,p,c,d,lst,pd,ho,hl, ?_⟩
     split at hr
     ·cases hr
     ·split at hr<;>(have h3:=hQ _ _ hr;simp only[nU];simp only[St.S,Tr.gR]at h3;exact h3)
    ·cases hr
   |bF v o1 yN=>exact hQ _ _ hr
  ·cases h
theorem bC.same {b:Nat}{s:S}(h:b<=s.nx):bC b s s:=fun _ φ _ _ h1 h2=>⟨φ,h1,h2,fun _ h=>h,h,fun _ _ hr=>⟨hr,rfl⟩,fun _ e' _ he=>⟨e',he,Nat.le_refl _,fun _=>rfl⟩⟩
theorem Ji{x y:Option dJ}{a:dJ}(h:Ei x y=some a):x=some a/\y=some a:=by
 unfold Ei at h
 split at h
 ·rename_i r
  split at h
  ·rename_i r'
   split at h
   ·rename_i hs
    injection h with h;subst h
    rw[R.dG hs]
    exact⟨rfl,rfl⟩
   ·cases h
  ·cases h
 ·cases h
theorem SP(bf:P.follows .mixedOrders=true)(cm:∀g,(bM g).Ok P g):∀k,∀j,j<=k->dS P (run P bM md j):=by
 intro k
 induction k with
 |zero=>intro j hj b rd n ic st kt a h;obtain rfl:j=0:=ah
        cases h
 |succ k ih=>
  intro j hj b rd n ic st kt a h Q hQ
  cases j with
  |zero=>cases h
  |succ j=>
   have bp:dS P (run P bM md j):=ih j ah
   rw[Jg]at h
   cases ic with
   |skip=>exact hQ _ _ h
   |exit id=>exact hQ _ _ h
   |ret=>exact hQ _ _ h
   |bad=>cases h
   |ad l=>
    have h:xY P bM md (run P bM md j) (roX kt) l st=some a:=h
    exact sx bf cm bp (K:=Q .normal) (X:=fun v s=>Q (.bF v) s) (fun r hr=>by
     cases r with
     |ok SG=>exact hQ .normal _ hr
     |bF v SG=>exact hQ (.bF v) _ hr) l _ h
   |cT l pr=>
    have h:SK l pr P bM md (run P bM md j) b rd n st kt=some a:=h
    unfold SK at h
    rw[Nat.cF]at h
    split at h
    ·rename_i s1 fp hd
     split at h
     ·rename_i hf
      rw[Nat.cF]at h
      split at h
      ·rename_i Fs
       refine .inr ⟨pk pr,Nat.le_of_ble_eq_true Fs,Jh pr, ?_⟩
       refine mw bf cm bp (q:= .fin s1 fp) (K:=fun s' fp=>dR pr fp=true/\nW P (fun v s=>Q (.bF v) s) (Q .normal) (l.drop (pk pr)) ⟨s'.env,s'.o,st.S.nx+pk pr⟩) (KP:=fun _ _ _=>False) (show _/\_ from⟨x6 hf, ?_⟩) (l.take (pk pr)) _ _ _ hd
       exact sx bf cm bp (K:=Q .normal) (X:=fun v s=>Q (.bF v) s) (fun r hr=>by
        cases r with
        |ok SG=>exact hQ .normal _ hr
        |bF v SG=>exact hQ (.bF v) _ hr) (l.drop (pk pr)) ⟨s1.env,s1.o,st.nx+pk pr⟩ h
      ·cases h
     ·cases h
    ·split at h
     ·rename_i e s1 h1
      exact .inl (MD bf cm bp h1 (hQ _ _ h))
     ·cases h
    ·cases h
   |seq x y=>
    have h:run P bM md j b rd n x st (CQ (run P bM md j) b rd n y kt)=some a:=h
    simp only[sr]
    refine bp _ _ _ _ _ _ _ h _ fun e s1 he=> ?_
    unfold CQ at he
    cases e with
    |normal=>exact bp _ _ _ _ _ _ _ he _ hQ
    |_=>exact hQ _ _ he
   |cond c x y=>
    have h:(match st.S.ev c with| .d (.bool true)=>run P bM md j b rd n x st kt| .d (.bool false)=>run P bM md j b rd n y st kt| .eN=>Ei (run P bM md j b rd n x st kt) (run P bM md j b rd n y st kt)|_=>none)=some a:=h
    simp only[sr]
    split at h
    ·rename_i hv
     simp only[hv]
     exact(tg _ _).mpr (bp _ _ _ _ _ _ _ h _ hQ)
    ·rename_i hv
     simp only[hv]
     exact(ri _ _).mpr (bp _ _ _ _ _ _ _ h _ hQ)
    ·rename_i hv
     simp only[hv]
     obtain⟨h1,h2⟩:=Ji h
     exact⟨bp _ _ _ _ _ _ _ h1 _ hQ,bp _ _ _ _ _ _ _ h2 _ hQ⟩
    ·cases h
   |block id x=>
    have h:run P bM md j b rd n x st (CS id kt)=some a:=h
    simp only[sr]
    refine bp _ _ _ _ _ _ _ h _ fun e s1 he=> ?_
    unfold CS at he
    cases e with
    |exit j'=>
     simp only at he
     split at he
     ·rename_i hb
      simp only[eO,Nat.eq_of_beq_eq_true hb,if_true];exact hQ _ _ he
     ·rename_i hb
      simp only[eO,Nat.ne_of_beq_eq_false hb,if_false];exact hQ _ _ he
    |_=>exact hQ _ _ he
   |loop x=>
    have unf:∀m Ps,run P bM md (m+1) b rd n (.loop x) Ps kt=some a->b<=Ps.nx/\run P bM md m b rd n x Ps (CQ (run P bM md m) b rd n (.loop x) kt)=some a:=by
     intro m Ps h
     have h:(match Nat.ble b Ps.nx with|true=>run P bM md m b rd n x Ps (CQ (run P bM md m) b rd n (.loop x) kt)|false=>none)=some a:=h
     split at h
     ·rename_i hb;exact⟨Nat.le_of_ble_eq_true hb,h⟩
     ·cases h
    have h:run P bM md (j+1) b rd n (.loop x) st kt=some a:=h
    refine⟨fun m s=>m<=k+1/\∃st,s=st.S/\run P bM md m b rd n (.loop x) st kt=some a,⟨j+1,st.S,bC.same (unf j st h).1,hj,st,rfl,h⟩, ?_⟩
    rintro m s0 ⟨hm,Ps,rfl,h0⟩
    cases m with
    |zero=>cases h0
    |succ m=>
     have YP:dS P (run P bM md m):=ih m ah
     refine YP _ _ _ _ _ _ _ (unf m Ps h0).2 _ fun e s1 he=> ?_
     unfold CQ at he
     cases e with
     |normal=>
      refine⟨m,s1.S,Nat.lt_succ_self _,bC.same ?_,ah,s1,rfl,he⟩
      cases m with
      |zero=>cases he
      |succ m=>exact(unf m s1 he).1
     |_=>exact hQ _ _ he
   |Fh g ps x y=>
    cases rd with
    |true=>
     have h:(none:Option dJ)=some a:=h
     cases h
    |false=>
     have h:Mz P bM (run P bM md j) n g ps x y st kt=some a:=h
     exact⟨rfl,_, .inl rfl,ME bf cm bp h hQ⟩
noncomputable def nk(P:Program)(bM:Nat->FD)(md:pj P)(k:Nat)(g:Nat)(ds:List D):Option R:=
 match I4 P bM (run P bM md k) g (ds.map .d) (.e fun _=> .no) 0 AD with
 |some (.r x)=>some x
 |_=>none
theorem aW.fX (bf:P.follows .mixedOrders=true)(cm:∀g,(bM g).Ok P g){k g:Nat}{ds:List D}{out:R}(h:nk P bM md k g ds=some out):aW P g ds out:=by
 unfold nk at h
 split at h
 ·rename_i x hr;injection h with h;subst h;exact AE bf cm (SP bf cm k k (Nat.le_refl _)) hr
 ·cases h
end
end
def Tr.Ek {α:Type}(p:Nat->α->Prop):Tr α->(Nat->Nat)->Prop
 | .e g,f=>∀i,p (f i) (g i)
 | .n x l r,f=>p (f 0) x/\Ek p l (fun i=>f (2*i+1))/\Ek p r (fun i=>f (2*i+2))
theorem Tr.x7 {α:Type}{p:Nat->α->Prop}:∀ {f:Nat->Nat} (t:Tr α),t.Ek p f->∀k,p (f k) (t.get k)
 |f, .e g,h,k=>h k
 |f, .n x l r,h,k=>by
  obtain⟨h1,h2,h3⟩:=h
  rw[Tr.tE]
  split
  ·rename_i e;subst e;exact h1
  ·split
   ·have:=Tr.x7 l h2 (k/2)
    rwa [show 2*(k/2)+1=k by omega]at this
   ·have:=Tr.x7 r h3 (k/2 - 1)
    rwa [show 2*(k/2 - 1)+2=k by omega]at this
@[reducible] def mv (d s:Nat):bL:=⟨some d, .move (.tmp s),none⟩
@[reducible] def lH (d:Nat) (n:Int):bL:=⟨some d, .move (.const (.int .i64 n)),none⟩
@[reducible] def sg (d s:Nat):bL:=⟨some d, .assign (.tmp s),none⟩
@[reducible] def cq (d:Nat) (n:Int):bL:=⟨some d, .assign (.const (.int .i64 n)),none⟩
@[reducible] def bu (d:Nat) (b:Bool):bL:=⟨some d, .assign (.const (.bool b)),none⟩
@[reducible] def ld (d t s:Nat):bL:=⟨some d, .load t (.tmp s),none⟩
@[reducible] def st (t a b:Nat):bL:=⟨none, .store t (.tmp a) (.tmp b),none⟩
@[reducible] def fa (d t s f:Nat):bL:=⟨some d, .fieldAddr t (.tmp s) f,none⟩
@[reducible] def ex (d s i:Nat):bL:=⟨some d, .extract (.tmp s) i,none⟩
@[reducible] def ct (d c a:Nat):bL:=⟨some d, .pick (.tmp c) (.tmp a) (.const (.bool false)),none⟩
@[reducible] def da (d c a:Nat):bL:=⟨some d, .pick (.tmp c) (.const (.bool true)) (.tmp a),none⟩
@[reducible] def ia (d t x i:Nat):bL:=⟨some d, .indexAddr t (.tmp x) (.tmp i),none⟩
@[reducible] def bx (d t s:Nat):bL:=⟨some d, .box t (.tmp s),none⟩
@[reducible] def al (d t:Nat):bL:=⟨some d, .alloc t,none⟩
@[reducible] def ln (d s t:Nat):bL:=⟨some d, .call {callee:= .builtin .len,args:=#[.tmp s],argTypes:=#[t]},none⟩
@[reducible] def k0 (d f:Nat):bL:=⟨some d, .call {callee:= .value (.func f),args:=#[],argTypes:=#[]},none⟩
@[reducible] def k1 (d f a t:Nat):bL:=⟨some d, .call {callee:= .value (.func f),args:=#[.tmp a],argTypes:=#[t]},none⟩
@[reducible] def k2 (d f a b t u:Nat):bL:=⟨some d, .call {callee:= .value (.func f),args:=#[.tmp a, .tmp b],argTypes:=#[t,u]},none⟩
@[reducible] def k3 (d f a b c t u v:Nat):bL:=⟨some d, .call {callee:= .value (.func f),args:=#[.tmp a, .tmp b, .tmp c],argTypes:=#[t,u,v]},none⟩
@[reducible] def k4 (d f a b c e t u v w:Nat):bL:=⟨some d, .call {callee:= .value (.func f),args:=#[.tmp a, .tmp b, .tmp c, .tmp e],argTypes:=#[t,u,v,w]},none⟩
@[reducible] def kg (d f:Nat) (xs:Array Operand) (ts:Array TypeId):bL:=⟨some d, .call {callee:= .value (.func f),args:=xs,argTypes:=ts},none⟩
@[reducible] def ka (d a b t:Nat):bL:=⟨some d, .call {callee:= .builtin .append,args:=#[.tmp a, .tmp b],argTypes:=#[t,t]},none⟩
@[reducible] def mY (d t x:Nat):bL:=⟨some d, .buildSlice t 1 #[(0, .tmp x)],none⟩
@[reducible] def lL (d:Nat):bL:=⟨some d, .assign (.const (.slice none 0 0)),none⟩
@[reducible] def MF (d t x:Nat) (n:Int):bL:=⟨some d, .indexAddr t (.tmp x) (.const (.int .i64 n)),none⟩
@[reducible] def bo (op:BinOp) (d t x y u:Nat):bL:=⟨some d, .binOp op t (.tmp x) (.tmp y) u,none⟩
@[reducible] def bk (op:BinOp) (d t x:Nat) (n:Int) (u:Nat):bL:=⟨some d, .binOp op t (.tmp x) (.const (.int .i64 n)) u,none⟩
@[reducible] def nt (d t s:Nat):bL:=⟨some d, .unOp .not t (.tmp s),none⟩
@[reducible] def nc (d s:Nat):bL:=⟨some d, .nilCheck (.tmp s),none⟩
@[reducible] def gT (o:bL) (g:Nat):bL:=⟨o.dst,o.op,some (g,true)⟩
@[reducible] def gF (o:bL) (g:Nat):bL:=⟨o.dst,o.op,some (g,false)⟩
attribute [go_sem] mv lH sg cq bu ld st fa ex ct da ia bx al ln k0 k1 k2 k3 k4 kg ka mY lL MF bo bk nt nc gT gF
end Go.Proofs.YtnkamdiiakdkgaaGreat
