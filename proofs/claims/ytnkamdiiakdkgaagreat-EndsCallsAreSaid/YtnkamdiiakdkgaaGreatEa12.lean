/-
  A PART OF THE PROOF. Conditions: none.
-/
import Derived.Test.YtnkamdiiakdkgaaGreatEa11
set_option linter.unusedSimpArgs false
set_option linter.unusedVariables false
namespace Go.Proofs.YtnkamdiiakdkgaaGreat
section
mutual
def V.same:V->V->Bool
 | .d x, .d y=>x.same y
 | .a8, .a8=>true
 | .aa, .aa=>true
 | .agg a, .agg b=>V.eY a b
 | .ptr i o, .ptr j p=>Nat.beq i j&&Nat.beq o p
 | .osl i o, .osl j p=>Nat.beq i j&&Nat.beq o p
 | .px a, .px b=>D.eY a b
 | .iface t x, .iface u y=>Nat.beq t u&&x.same y
 | .mp i, .mp j=>Nat.beq i j
 |_,_=>false
def V.eY:List V->List V->Bool
 |[],[]=>true
 |a::bU,b::bs=>a.same b&&V.eY bU bs
 |_,_=>false
end
mutual
theorem V.dx:∀ (x y:V),x.same y=true->x=y
 | .d x,y,h=>by cases y<;>simp only[V.same,Bool.false_eq_true]at h;rw[D.dx _ _ h]
 | .a8,y,h=>by cases y<;>simp_all[V.same]
 | .aa,y,h=>by cases y<;>simp_all[V.same]
 | .agg a,y,h=>by cases y<;>simp only[V.same,Bool.false_eq_true]at h;rw[V.c6 _ _ h]
 | .ptr i o,y,h=>by
   exact Vw
 | .osl i o,y,h=>by
   exact Vw
 | .px a,y,h=>by cases y<;>simp only[V.same,Bool.false_eq_true]at h;rw[D.c6 _ _ h]
 | .iface t x,y,h=>by
   cases y<;>simp only[V.same,Bool.false_eq_true,Bool.and_eq_true]at h
   rw[Nat.eq_of_beq_eq_true h.1,V.dx _ _ h.2]
 | .mp i,y,h=>by
   cases y<;>simp only[V.same,Bool.false_eq_true]at h
   rw[Nat.eq_of_beq_eq_true h]
 | .bP _,y,h| .pe _ _ _ _ _,y,h| .pp _ _,y,h| .func _ _ _,y,h| .uU _ _ _,y,h| .ey,y,h| .ir _,y,h=>by simp[V.same]at h
theorem V.c6:∀ (x y:List V),V.eY x y=true->x=y
 |[],y,h=>by cases y<;>simp_all[V.eY]
 |a::bU,y,h=>by
  cases y<;>simp only[V.eY,Bool.false_eq_true,Bool.and_eq_true]at h
  rw[V.dx _ _ h.1,V.c6 _ _ h.2]
end
def s7:List (D×D)->List (D×D)->Bool
 |[],[]=>true
 |(a,b)::l,(c,d)::m=>a.same c&&(b.same d&&s7 l m)
 |_,_=>false
theorem s8:∀ (l m:List (D×D)),s7 l m=true->l=m
 |[],m,h=>by cases m<;>simp_all[s7]
 |(a,b)::l,m,h=>by
  cases m with
  |nil=>simp[s7]at h
  |cons p m=>
   obtain⟨c,d⟩:=p
   simp only[s7,Bool.and_eq_true]at h
   rw[D.dx _ _ h.1,D.dx _ _ h.2.1,s8 l m h.2.2]
noncomputable def ab.same:ab->ab->Bool
 | .no, .no=>true
 | .row a, .row b=>V.eY a b
 | .arr e t s a, .arr f u r b=>Nat.beq e f&&Nat.beq t u&&Nat.beq s r&&D.eY a b
 | .qu e a, .qu f b=>Nat.beq e f&&D.eY a b
 | .map k v a, .map k' v' b=>Nat.beq k k'&&Nat.beq v v'&&s7 a b
 | .fU a, .fU b=>s7 a b
 | .wx a i, .wx b j=>a==b&&Nat.beq i j
 |_,_=>false
theorem ab.dx {x y:ab}(h:x.same y=true):x=y:=by
 cases x<;>cases y<;>simp only[ab.same,Bool.false_eq_true,Bool.and_eq_true]at h
 ·rfl
 ·rw[V.c6 _ _ h]
 ·rw[Nat.eq_of_beq_eq_true h.1.1.1,Nat.eq_of_beq_eq_true h.1.1.2,Nat.eq_of_beq_eq_true h.1.2,D.c6 _ _ h.2]
 ·rw[Nat.eq_of_beq_eq_true h.1,D.c6 _ _ h.2]
 ·rw[Nat.eq_of_beq_eq_true h.1.1,Nat.eq_of_beq_eq_true h.1.2,s8 _ _ h.2]
 ·rw[s8 _ _ h]
 ·rw[eq_of_beq h.1,Nat.eq_of_beq_eq_true h.2]
noncomputable def reach(o:Nat->ab):Nat->List Nat->List Nat->List Nat
 |0,_,seen=>seen
 |_+1,[],seen=>seen
 |n+1,id::todo,seen=>match seen.contains id with
  |true=>reach o n todo seen
  |false=>reach o n ((o id).refs++todo) (id::seen)
noncomputable def dM(o o1:Nat->ab):List Nat->List (Nat×ab)
 |[]=>[]
 |id::l=>match(o id).same (o1 id)with
  |true=>dM o o1 l
  |false=>(id,o1 id)::dM o o1 l
theorem gM{o o1:Nat->ab}:∀ (l:List Nat) (x:Nat×ab),x∈dM o o1 l->x.1∈l/\x.2=o1 x.1
 |[],x,h=>by simp[dM]at h
 |id::l,x,h=>by
  simp only[dM]at h
  split at h
  ·obtain⟨h1,h2⟩:=gM l x h;exact⟨List.mem_cons_of_mem _ h1,h2⟩
  ·rcases List.mem_cons.1 h with rfl|h
   ·exact⟨aK,rfl⟩
   ·obtain⟨h1,h2⟩:=gM l x h;exact⟨List.mem_cons_of_mem _ h1,h2⟩
theorem l9{o o1:Nat->ab}:∀ (l:List Nat) (id:Nat),id∈l->id∉(dM o o1 l).map (·.1)->o1 id=o id
 |[],id,h,_=>by simp at h
 |j::l,id,h,hn=>by
  simp only[dM]at hn
  split at hn
  ·rename_i hs
   rcases List.mem_cons.1 h with rfl|h
   ·exact(ab.dx hs).symm
   ·exact l9 l id h hn
  ·simp only[List.map_cons,List.mem_cons,not_or]at hn
   rcases List.mem_cons.1 h with rfl|h
   ·exact absurd rfl hn.1
   ·exact l9 l id h hn.2
theorem zX{o1:Nat->ab}:∀ (Δ:List (Nat×ab)) (o:Nat->ab),(∀x∈Δ,x.2=o1 x.1)->∀id,id∈Δ.map (·.1)\/o id=o1 id->put o Δ id=o1 id
 |[],o,_,id,h=>by rcases h with h|h;· simp at h
                  ·exact h
 |x::Δ,o,hv,id,h=>by
  simp only[put,List.foldl_cons]
  refine zX Δ (aA o x.1 x.2) (fun y hy=>hv y (List.mem_cons_of_mem _ hy)) id ?_
  simp only[List.map_cons,List.mem_cons]at h
  simp only[aH]
  by_cases e:id=x.1
  ·right;rw[if_pos e,hv x (by simp),e]
  ·rcases h with(h|h)|h
   ·exact absurd h e
   ·exact .inl h
   ·right;rw[if_neg e];exact h
theorem qO{o o1:Nat->ab}{l:List Nat}{id:Nat}(h:id∈l):o1 id=put o (dM o o1 l) id:=by
 by_cases hm:id∈(dM o o1 l).map (·.1)
 ·exact(zX _ o (fun x hx=>(gM l x hx).2) id (.inl hm)).symm
 ·rw[fg hm];exact l9 l id h hm
inductive DR where
 |val (v:V) (Δ:List (Nat×ab)) (rd:List Nat)|bD (v:V) (ws rd:List Nat)
def DR.to (K:V->List (Nat×ab)->List Nat->Prop)(KX:V->List Nat->List Nat->Prop):DR->Prop
 | .val v Δ rd=>K v Δ rd
 | .bD v ws rd=>KX v ws rd
noncomputable def W9(c:CR):Option dA:=some (.c c)
noncomputable def hX(P:Program)(bJ:Nat->FD)(rec:c0)(g:Nat)(args:List V)(st:St):Option DR:=
 let rd:=reach st.o.get 2000 (V.aJ args) []
 match rd.all (fun id=>Nat.blt id st.nx&&(st.o.get id).refs.all rd.contains)&&(V.aJ args).all rd.contains with
 |true=>match HX P bJ rec g args (.e (BP rd st.o.get)) st.nx W9 with
  |some (.c (.ret v o1 _))=>match v with
   | .bP [_]=>none
   |v=>match bQ o1.get (s5 v)with
    |some rs=>match(dM st.o.get o1.get rd).all (fun x=>x.2.refs.all rd.contains)&&(V.a7 (s5 v)).all (fun id=> !rd.contains id)with
     |true=>some (.val (iu rs) (dM st.o.get o1.get rd) rd)
     |false=>none
    |none=>none
  |some (.c (.bD v o1 _))=>match dp o1.get v with
   |some x=>match(dM st.o.get o1.get rd).all (fun x=>x.2.refs.all rd.contains)&&v.ids.all (fun id=> !rd.contains id)with
    |true=>some (.bD (.d x) ((dM st.o.get o1.get rd).map (·.1)) rd)
    |false=>none
   |none=>none
  |_=>none
 |false=>none
noncomputable def ZY(P:Program)(bJ:Nat->FD)(md:oN P)(rec:c0)(g:Nat)(args:List V)(st:St)(rd:List Nat):Option DR:=
 match bQ st.o.get args with
 |some ds=>match md.W6 g with
  |false=>match HX P bJ rec g (ds.map .d) (.e fun _=> .no) 0 W9 with
   |some (.c (.ret v _ _))=>match v.refs with
    |[]=>some (.val v (bZ st.o.get (V.a7 args)) rd)
    |_=>none
   |_=>none
  |true=>match Lc P bJ md rec g ds with
   |some (.ret rs)=>match D.iS rs with
    |true=>some (.val (iu rs) [] rd)
    |false=>some (.val (iu rs) (bZ st.o.get (V.a7 args)) rd)
   |some (.bD x)=>match x.flat with
    |true=>some (.bD (.d x) [] rd)
    |false=>none
   |none=>none
 |none=>hX P bJ rec g args st
noncomputable def ZZ(P:Program)(st:St)(fr:Nat)(op:Op):Option DR:=
 match Lb op P st.S fr with
 |some (v,Δ,_)=>some (.val v Δ (m5 st.S op))
 |none=>none
def V.aaX:V->Bool
 | .mp _=>true
 |_=>false
def Rm{P:Program}(md:oN P)(g:Nat)(args:List V):Bool:= !md.W6 g&&args.any V.aaX
def vF(args:List V):Option (List D):=
 match V.a7 args with
 |[]=>bQ (fun _=> .no) args
 |_=>none
noncomputable def Lf(P:Program)(t:TypeId)(c:CR):Option dA:=
 match c with
 | .ret v o1 _=>match v with
   | .osl j ep=>match o1.get j with
     | .arr gG ty sz es=>match Nat.beq gG ep with
       |true=>W5 (.ret [.sl es, .int .i64 (ty:Nat), .int .i64 (sz:Nat)]) fun x=>some (.r x)
       |false=>none
     |_=>none
   | .a8=>match bR P t with
     |some e=>match Nat.blt 0 (P.cellsOf e)with
      |true=>W5 (.ret [.sl [], .int .i64 (e:Nat), .int .i64 (P.cellsOf e:Nat)]) fun x=>some (.r x)
      |false=>none
     |none=>none
   |_=>none
 |_=>none
noncomputable def Rn(P:Program)(bJ:Nat->FD)(rec:c0)(g:Nat)(t:TypeId)(args:List V)(st:St)(fr:Nat):Option DR:=
 match vF args with
 |some ds=>match HX P bJ rec g (ds.map .d) (.e fun _=> .no) 0 (Lf P t)with
  |some (.r (.ret [.sl es, .int .i64 (.ofNat ty), .int .i64 (.ofNat sz)]))=>some (.val (.osl fr 0) [(fr, .arr 0 ty sz es)] [])
  |_=>none
 |none=>match bQ st.o.get args with
  |some ds=>match HX P bJ rec g (ds.map .d) (.e fun _=> .no) 0 (Lf P t)with
   |some (.r (.ret [.sl es, .int .i64 (.ofNat ty), .int .i64 (.ofNat sz)]))=>match D.iS es&&(V.a7 args).all (fun id=>Nat.blt id st.nx)with
    |true=>some (.val (.osl fr 0) [(fr, .arr 0 ty sz es)] (V.a7 args))
    |false=>none
   |_=>none
  |none=>none
noncomputable def Lg(P:Program)(bJ:Nat->FD)(md:oN P)(rec:c0)(st:St)(fr:Nat)(op:Op):Option DR:=
 match op with
 | .call c=>match c.callee with
   | .value f=>match st.S.ev f with
     | .func (.func g) first cap=>match Rm md g (first++c.args.toList.map st.S.ev++cap)with
       |true=>hX P bJ rec g (first++c.args.toList.map st.S.ev++cap) st
       |false=>match ZY P bJ md rec g (first++c.args.toList.map st.S.ev++cap) st (m5 st.S (.call c))with
        |some r=>some r
        |none=>Rn P bJ rec g (c.argTypes.getD 0 0) (first++c.args.toList.map st.S.ev++cap) st fr
     |_=>none
   |_=>ZZ P st fr (.call c)
 |op=>ZZ P st fr op
noncomputable def Xa(st:St):Option (Nat×Bool)->Option Bool
 |none=>some true
 |some (d,want)=>match st.env.get d with
  | .d (.bool b)=>some (b==want)
  | .bP []=>some false
  |_=>none
noncomputable def s9(P:Program)(bJ:Nat->FD)(md:oN P)(rec:c0)(pr:List (List Nat)):List bI->Nat->St->Fp->List Nat->List Nat->Option (List Nat×Fp)
 |[],_,_,fp,_,ws=>some (ws,fp)
 |o::l,fr,st,fp,bad,ws=>match(pr.getD fp.length []).any (fun j=>bad.contains j)with
  |true=>s9 P bJ md rec pr l (fr+1) ⟨qN st.env o.dst .aa,st.o,st.nx⟩ (fp++[([],[])]) (bad++[fp.length]) ws
  |false=>match Xa st o.gd with
   |some true=>match Lg P bJ md rec st fr o.op with
    |some (.val v Δ rd)=>kP st.env o.dst v fun e=>sZ st.o Δ fun ob=>s9 P bJ md rec pr l (fr+1) ⟨e,ob,st.nx⟩ (fp++[(rd,Δ.map (·.1))]) bad (ws++Δ.map (·.1))
    |_=>none
   |some false=>s9 P bJ md rec pr l (fr+1) ⟨qN st.env o.dst (.bP []),st.o,st.nx⟩ (fp++[([],[])]) bad ws
   |none=>none
inductive DQ where
 |fin (st:St) (fp:Fp)|bD (v:V) (wl:List Nat) (fp:Fp)
noncomputable def ta(P:Program)(bJ:Nat->FD)(md:oN P)(rec:c0)(pr:List (List Nat)):List bI->Nat->St->Fp->Option DQ
 |[],_,st,fp=>some (.fin st fp)
 |o::l,fr,st,fp=>match Xa st o.gd with
  |some true=>match Lg P bJ md rec st fr o.op with
   |some (.val v Δ rd)=>kP st.env o.dst v fun e=>sZ st.o Δ fun ob=>Nat.fc (fr+1) fun fr=>ta P bJ md rec pr l fr ⟨e,ob,st.nx⟩ (fp++[(rd,Δ.map (·.1))])
   |some (.bD v ws rd)=>match s9 P bJ md rec pr l (fr+1) ⟨qN st.env o.dst .aa,st.o,st.nx⟩ (fp++[(rd,[])]) [fp.length] (ws++fp.flatMap (·.2))with
    |some (wl,fp)=>some (.bD v wl fp)
    |none=>none
   |none=>none
  |some false=>kP st.env o.dst (.bP []) fun e=>Nat.fc (fr+1) fun fr=>ta P bJ md rec pr l fr ⟨e,st.o,st.nx⟩ (fp++[([],[])])
  |none=>none
noncomputable def quiet(fp:Fp):Bool:=fp.all fun x=>match x.2 with|[]=>true|_=>false
noncomputable def xo(m:Nat)(x:List Nat×List Nat):Nat->Fp->Bool
 |_,[]=>true
 |i,y::l=>(match y.2,x.2 with
  |[],[]=>true
  |_,_=>m.testBit i||(jE y.2 x.1&&jE y.2 x.2&&jE x.2 y.1))&&xo m x (i+1) l
noncomputable def Du(ms:List Nat)(pre:Fp):Nat->Fp->Bool
 |_,[]=>true
 |j,x::l=>xo (ms.getD j 0) x 0 pre&&Du ms (pre++[x]) (j+1) l
noncomputable def Xb{β:Type}:List Nat->(List Nat->β)->β
 |[],c=>c []
 |x::xs,c=>Nat.fc x fun x=>Xb xs fun xs=>c (x::xs)
theorem Ia{β:Type}:∀ (x:List Nat) (c:List Nat->β),Xb x c=c x
 |[],c=>rfl
 |x::xs,c=>by simp only[Xb,Nat.cC,Ia xs]
noncomputable def Lh{β:Type}:Fp->(Fp->β)->β
 |[],c=>c []
 |(a,b)::l,c=>Xb a fun a=>Xb b fun b=>Lh l fun l=>c ((a,b)::l)
theorem Dv{β:Type}:∀ (x:Fp) (c:Fp->β),Lh x c=c x
 |[],c=>rfl
 |(a,b)::l,c=>by simp only[Lh,Ia,Dv l]
noncomputable def Ib(pr:List (List Nat))(fp:Fp):Bool:=match quiet fp with|true=>true|false=>Lh fp fun fp=>Du (dJ pr []) [] 0 fp
theorem vG{m:Nat}{x:List Nat×List Nat}:∀ (l:Fp) (i:Nat),xo m x i l=true->∀k,k<l.length->(m.testBit (i+k)||(jE (l.getD k ([],[])).2 x.1&&jE (l.getD k ([],[])).2 x.2&&jE x.2 (l.getD k ([],[])).1))=true
 |[],i,_,k,hk=>by simp at hk
 |y::l,i,h,k,hk=>by
  simp only[xo,Bool.and_eq_true]at h
  cases k with
  |zero=>
   have h1:=h.1
   simp only[List.getD_cons_zero,Nat.add_zero]
   split at h1
   ·rename_i e1 e2
    rw[e1,e2];simp[jE]
   ·exact h1
  |succ k=>
   have:=vG l (i+1) h.2 k (by simpa using hk)
   rw[List.getD_cons_succ,show i+(k+1)=i+1+k by omega]
   exact this
theorem zY{ms:List Nat}:∀ (l pre:Fp),Du ms pre pre.length l=true->∀j,pre.length<=j->j<(pre++l).length->∀i,i<j->
 ((ms.getD j 0).testBit i||(jE ((pre++l).getD i ([],[])).2 ((pre++l).getD j ([],[])).1&&jE ((pre++l).getD i ([],[])).2 ((pre++l).getD j ([],[])).2&&jE ((pre++l).getD j ([],[])).2 ((pre++l).getD i ([],[])).1))=true
 |[],pre,_,j,h1,h2,i,_=>by simp at h2;omega
 |x::l,pre,h,j,h1,h2,i,hi=>by
  simp only[Du,Bool.and_eq_true]at h
  by_cases e:j=pre.length
  ·subst e
   have:=vG pre 0 h.1 i hi
   have e1:(pre++x::l).getD pre.length ([],[])=x:=by simp[List.getD_eq_getElem?_getD]
   have e2:(pre++x::l).getD i ([],[])=pre.getD i ([],[]):=by simp[List.getD_eq_getElem?_getD,List.getElem?_append_left hi]
   rw[e1,e2]
   simpa using this
  ·have h3:=h.2
   have:=zY l (pre++[x]) (by simpa using h3) j nn rX i hi
   simpa using this
noncomputable def Ro(P:Program)(bJ:Nat->FD)(md:oN P)(rec:c0)(l:List bI)(pr:List (List Nat))(st:St):Option (eK×St):=
 match ta P bJ md rec pr l st.nx st []with
 |some (.fin s1 fp)=>match Ib pr fp with
  |true=>Nat.fc (st.nx+l.length) fun n=>some (.normal,⟨s1.env,s1.o,n⟩)
  |false=>none
 |some (.bD v wl fp)=>match Ib pr fp with
  |true=>some (.bD v,⟨.e (sH (dstsOf l) wl l.length st.S).env, .e (sH (dstsOf l) wl l.length st.S).o,st.nx+l.length⟩)
  |false=>none
 |none=>none
noncomputable def Xc(id:Nat)(env:Tr V)(kt:Kt)(c:CR):Option dA:=
 match c with
 | .ret _ o1 x9=>match o1.get id with
   | .loop nf m e p c d Z0 pd=>match Z0 with
     | .busy=>none
     |_=>match pd with
      |none=>kt .normal ⟨env,o1.set id (.loop nf m e p c d .exhausted pd),x9⟩
      |some .ret=>kt .ret ⟨env,o1.set id (.loop nf m e p c d .exhausted pd),x9⟩
      |some (.exit j)=>kt (.exit j) ⟨env,o1.set id (.loop nf m e p c d .exhausted pd),x9⟩
   |_=>none
 | .bD v o1 x9=>kt (.bD v) ⟨env,o1,x9⟩
noncomputable def Li(P:Program)(bJ:Nat->FD)(rec:c0)(n:Nat)(g:Operand)(ps:List Nat)(x y:IC)(st:St)(kt:Kt):Option dA:=
 match st.S.ev g with
 | .func (.func f) first cap=>HX P bJ rec f (first++[.ir st.nx]++cap) (st.o.set st.nx (.loop P.funcs.size n ((List.range n).map st.env.get) ps x y .ready none)) (st.nx+1) (Xc st.nx st.env kt)
 |_=>none
abbrev ni:=(P:Program)->(Nat->FD)->oN P->c0->Nat->Bool->Nat->St->Kt->Option dA
noncomputable def roX(kt:Kt):RO->Option dA:=fun r=>match r with| .ok st=>kt .normal st| .bD v st=>kt (.bD v) st
noncomputable def aaY(l:List bI):ni:=fun P bJ md rec _ _ _ st kt=>xm P bJ md rec (roX kt) l st
def vH:List Nat->Nat->Nat->Nat
 |[],_,c=>c
 |x::l,k,c=>match Nat.beq x (2^k - 1)with
  |true=>vH l (k+1) c
  |false=>vH l (k+1) (k+1)
def oO(pr:List (List Nat)):Nat:=vH (dJ pr []) 0 0
noncomputable def Rp(l:List bI)(pr:List (List Nat)):ni:=fun P bJ md rec _ _ _ st kt=>
 Nat.fc (oO pr) fun m=>match ta P bJ md rec pr (l.take m) st.nx st []with
 |some (.fin s1 fp)=>match Ib pr fp with
  |true=>Nat.fc (st.nx+m) fun n=>match Nat.ble m l.length with
   |true=>xm P bJ md rec (roX kt) (l.drop m) ⟨s1.env,s1.o,n⟩
   |false=>none
  |false=>none
 |some (.bD _ _ _)=>match Ro P bJ md rec l pr st with
  |some (e,s1)=>kt e s1
  |none=>none
 |none=>none
noncomputable def B8(rec:c0)(b:Nat)(rd:Bool)(n:Nat)(y:IC)(kt:Kt):Kt:=fun e s1=>match e with| .normal=>rec b rd n y s1 kt|e=>kt e s1
noncomputable def aaZ(x y:IC):ni:=fun _ _ _ rec b rd n st kt=>rec b rd n x st (B8 rec b rd n y kt)
noncomputable def Dw(a c:Option dA):Option dA:=
 match a with
 |some (.r x)=>match c with
  |some (.r y)=>match R.same x y with
   |true=>some (.r x)
   |false=>none
  |_=>none
 |_=>none
noncomputable def Xd(c:Operand)(x y:IC):ni:=fun _ _ _ rec b rd n st kt=>match st.S.ev c with
 | .d (.bool true)=>rec b rd n x st kt
 | .d (.bool false)=>rec b rd n y st kt
 | .ey=>Dw (rec b rd n x st kt) (rec b rd n y st kt)
 |_=>none
noncomputable def B9(id:Nat)(kt:Kt):Kt:=fun e s1=>match e with
 | .exit j=>match Nat.beq j id with
   |true=>kt .normal s1
   |false=>kt (.exit j) s1
 |e=>kt e s1
noncomputable def Rq(id:Nat)(x:IC):ni:=fun _ _ _ rec b rd n st kt=>rec b rd n x st (B9 id kt)
noncomputable def Xe(x:IC):ni:=fun _ _ _ rec b rd n st kt=>match Nat.ble b st.nx with
 |true=>rec b rd n x st (B8 rec b rd n (.loop x) kt)
 |false=>none
noncomputable def Rr(e:eK):ni:=fun _ _ _ _ _ _ _ st kt=>kt e st
noncomputable def aa0:ni:=fun _ _ _ _ _ _ _ _ _=>none
noncomputable def aa1(g:Operand)(ps:List Nat)(x y:IC):ni:=fun P bJ _ rec _ rd n st kt=>match rd with
 |true=>none
 |false=>Li P bJ rec n g ps x y st kt
noncomputable def N0(ic:IC):ni:=
 match ic with
 | .skip=>Rr .normal
 | .ae l=>aaY l
 | .cU l pr=>Rp l pr
 | .seq x y=>aaZ x y
 | .cond c x y=>Xd c x y
 | .block id x=>Rq id x
 | .loop x=>Xe x
 | .exit id=>Rr (.exit id)
 | .ret=>Rr .ret
 | .El g ps x y=>aa1 g ps x y
 | .bad=>aa0
noncomputable def run(P:Program)(bJ:Nat->FD)(md:oN P)(k:Nat):c0:=
 Nat.rec (motive:=fun _=>c0) (fun _ _ _ _ _ _=>none) (fun _ rec b rd n ic st kt=>N0 ic P bJ md rec b rd n st kt) k
theorem Ic{P:Program}{bJ:Nat->FD}{md:oN P}{k:Nat}:run P bJ md (k+1)=fun b rd n ic st kt=>N0 ic P bJ md (run P bJ md k) b rd n st kt:=rfl
section
variable {P:Program}{bJ:Nat->FD}{md:oN P}
theorem N1(aZ:P.follows .mixedOrders=true)(b9:∀g,(bJ g).Ok P g){rec:c0}(bt:dI P rec){fr:Nat}{g:Nat}{args:List V}{st:St}{r:DR}(h:hX P bJ rec g args st=some r){K:V->List (Nat×ab)->List Nat->Prop}{KX:V->List Nat->List Nat->Prop}(hr:r.to K KX):
 gY P g args st.S.o st.S.nx fr K KX:=by
 unfold hX at h
 simp only at h
 generalize mP:reach st.o.get 2000 (V.aJ args) []=rd at h
 split at h
 ·rename_i hc
  simp only[Bool.and_eq_true,List.all_eq_true]at hc
  obtain⟨hc1,qB⟩:=hc
  have a1:∀id∈rd,id<st.nx:=fun id au=>Nat.le_of_ble_eq_true (hc1 id au).1
  have a2:∀id∈V.aJ args,id∈rd:=fun id au=>by simpa using qB id au
  have a3:∀id∈rd,∀j∈(st.o.get id).refs,j∈rd:=fun id au j hj=>by simpa using(hc1 id au).2 j hj
  have a0:rd.all (fun id=>decide (id<st.S.nx))=true:=List.all_eq_true.2 fun id au=>decide_eq_true (a1 id au)
  have key:∀ {r:CR} {a:CR},W9 r=some (.c a)->r=a:=fun h=>by unfold W9 at h;injection h with h;injection h
  split at h
  ·rename_i v o1 x9 hf
   split at h
   ·cases h
   ·rename_i v' rh
    split at h
    ·rename_i rs VT
     split at h
     ·rename_i Rs
      injection h with h;subst h
      simp only[Bool.and_eq_true,List.all_eq_true]at Rs
      refine⟨rd,_,a0, .inl ⟨rs,C8.lT a1 a2 a3 (fun x hx=>(gM rd x hx).1) (fun x hx j hj=>by simpa using Rs.1 x hx j hj) (l8 aZ b9 bt hf fun r wF=> ?_),hr⟩⟩
      rw[key wF]
      refine⟨fun id au=>qO au,s5 v,rs, ?_,VT,rfl,fun id au=>by simpa using Rs.2 id au⟩
      cases v with
      |bP vs=>
       match vs,rh with
       |[],_=>rfl
       |[x],hv=>exact absurd rfl (hv x)
       |_::_::_,_=>rfl
      |_=>rfl
     ·cases h
    ·cases h
  ·rename_i v o1 x9 hf
   split at h
   ·rename_i x hx
    split at h
    ·rename_i Rs
     injection h with h;subst h
     simp only[Bool.and_eq_true,List.all_eq_true]at Rs
     refine⟨rd,dM st.o.get o1.get rd,a0, .inr (.inl ⟨x,C8.lT a1 a2 a3 (fun x hx=>(gM rd x hx).1) (fun x hx j hj=>by simpa using Rs.1 x hx j hj) (l8 aZ b9 bt hf fun r wF=> ?_),hr⟩)⟩
     rw[key wF]
     exact⟨fun id au=>qO au,x,hx,rfl,fun id au=>by simpa using Rs.2 id au⟩
    ·cases h
   ·cases h
  ·cases h
 ·cases h
theorem Rt(aZ:P.follows .mixedOrders=true)(b9:∀g,(bJ g).Ok P g){rec:c0}(bt:dI P rec){g:Nat}{args:List V}{st:St}{rd:List Nat}{ds:List D}(eg:bQ st.o.get args=some ds){r:DR}(h:ZY P bJ md rec g args st rd=some r)
 {K:V->List (Nat×ab)->List Nat->Prop} {KX:V->List Nat->List Nat->Prop} (hr:r.to K KX):
 qL P g ds (fun v=>K v (bZ st.S.o (V.a7 args)) rd) (fun v=>K v [] rd) (fun v=>KX v [] rd):=by
 unfold ZY at h
 simp only[eg]at h
 split at h
 ·split at h
  ·rename_i v o1 x9 E7
   split at h
   ·rename_i hrf
    injection h with h;subst h
    exact .inr (.inr ⟨v,V9.lT hrf (l8 aZ b9 bt E7 fun r wF=>by unfold W9 at wF;injection wF with wF;injection wF with wF;rw[wF];exact rfl),hr⟩)
   ·cases h
  ·cases h
 ·split at h
  ·rename_i rs H9
   have hP:=xn aZ b9 bt H9
   split at h
   ·rename_i hf
    injection h with h;subst h
    exact .inl ⟨rs,hP, .inr ⟨hf,hr⟩⟩
   ·injection h with h;subst h
    exact .inl ⟨rs,hP, .inl hr⟩
  ·rename_i x H9
   have hP:=xn aZ b9 bt H9
   split at h
   ·rename_i hf
    injection h with h;subst h
    exact .inr (.inl ⟨x,hP,hf,hr⟩)
   ·cases h
  ·cases h
theorem Dx{t ty:TypeId}{sz:Nat}{es:List D}{r:CR}(h:Lf P t r=some (.r (.ret [.sl es, .int .i64 (.ofNat ty), .int .i64 (.ofNat sz)]))):
 r.to (fun v o1 _=>(∃j ep,v= .osl j ep/\o1 j= .arr ep ty sz es)\/(v= .a8/\es=[]/\0<sz)) (fun _ _ _=>False):=by
 unfold Lf at h
 split at h
 ·rename_i v o1 n1
  split at h
  ·rename_i j ep
   split at h
   ·rename_i gG ty' py es' ho
    split at h
    ·rename_i he
     have he:=Nat.eq_of_beq_eq_true he
     subst he
     rw[B7]at h
     simp only[Option.some.injEq,dA.r.injEq,R.ret.injEq,List.cons.injEq,D.sl.injEq,D.int.injEq,true_and,and_true]at h
     obtain⟨rfl,h2,h3⟩:=h
     have h2:ty'=ty:=Int.ofNat.inj h2
     have h3:py=sz:=Int.ofNat.inj h3
     subst h2;subst h3
     exact .inl ⟨j,gG,rfl,ho⟩
    ·cases h
   ·cases h
  ·split at h
   ·rename_i e he
    split at h
    ·rename_i hp
     rw[B7]at h
     simp only[Option.some.injEq,dA.r.injEq,R.ret.injEq,List.cons.injEq,D.sl.injEq,D.int.injEq,true_and,and_true]at h
     obtain⟨rfl,h2,h3⟩:=h
     have h3:P.cellsOf e=sz:=Int.ofNat.inj h3
     subst h3
     exact .inr ⟨rfl,rfl,Nat.blt_eq.mp hp⟩
    ·cases h
   ·cases h
  ·cases h
 ·cases h
theorem Lj(aZ:P.follows .mixedOrders=true)(b9:∀g,(bJ g).Ok P g){rec:c0}(bt:dI P rec){fr:Nat}{g:Nat}{t:TypeId}{args:List V}{st:St}{r:DR}(h:Rn P bJ rec g t args st fr=some r){K:V->List (Nat×ab)->List Nat->Prop}{KX:V->List Nat->List Nat->Prop}(hr:r.to K KX):
 gY P g args st.S.o st.S.nx fr K KX:=by
 unfold Rn at h
 split at h
 ·rename_i ds eg
  split at h
  ·rename_i es ty sz E7
   injection h with h;subst h
   unfold vF at eg
   split at eg
   ·rename_i au
    exact⟨[],_,aK, .inr (.inr ⟨_,w7.K9 au eg (w7.HQ (l8 aZ b9 bt E7 fun r wF=>Dx wF)),hr⟩)⟩
   ·cases eg
  ·cases h
 ·split at h
  ·rename_i ds eg
   split at h
   ·rename_i es ty sz E7
    split at h
    ·rename_i hc
     injection h with h;subst h
     simp only[Bool.and_eq_true]at hc
     refine⟨V.a7 args,_, ?_, .inr (.inr ⟨_,w7.K8 eg hc.1 (l8 aZ b9 bt E7 fun r wF=>Dx wF),hr⟩)⟩
     exact List.all_eq_true.2 fun id au=>decide_eq_true (Nat.blt_eq.mp (List.all_eq_true.1 hc.2 id au))
    ·cases h
   ·cases h
  ·cases h
theorem xp(aZ:P.follows .mixedOrders=true)(b9:∀g,(bJ g).Ok P g){rec:c0}(bt:dI P rec){st:St}{fr:Nat}{o:bI}{r:DR}(h:Lg P bJ md rec st fr o.op=some r){K:V->List (Nat×ab)->List Nat->Prop}{KX:V->List Nat->List Nat->Prop}(hr:r.to K KX):
 ya P st.S fr o K KX:=by
 have hs:ZZ P st fr o.op=some r->(match fm P st.S fr o.op with|some (v,Δ,_)=>K v Δ (m5 st.S o.op)|none=>False):=by
  intro h
  unfold ZZ at h
  split at h
  ·rename_i v Δ rd he
   injection h with h;subst h
   simp only[Dn he]
   exact hr
  ·cases h
 unfold Lg at h
 unfold ya
 split at h
 ·rename_i c hc
  simp only[hc]
  split at h
  ·rename_i f hf
   simp only[hf]
   split at h
   ·rename_i g first cap hv
    simp only[hv]
    split at h
    ·have hh:=N1 aZ b9 bt h hr (fr:=fr)
     split
     ·exact .inr hh
     ·exact hh
    split at h
    ·rename_i r' P7
     injection h with h;subst h
     cases eg:bQ st.S.o (first++List.map st.S.ev c.args.toList++cap)with
     |some ds=>exact .inl (Rt aZ b9 bt eg P7 hr)
     |none=>
      have Ri:bQ st.o.get (first++List.map st.S.ev c.args.toList++cap)=none:=eg
      unfold ZY at P7
      simp only[Ri]at P7
      exact N1 aZ b9 bt P7 hr
    ·have hh:=Lj aZ b9 bt (st:=st) h hr
     split
     ·exact .inr hh
     ·exact hh
   ·cases h
  ·rename_i ee
   rw[<- hc]at h
   have:=hs h
   rw[hc]at this
   split
   ·rename_i f hf;exact absurd hf (ee f)
   ·exact this
 ·rename_i hc
  have:=hs h
  split
  ·rename_i c hh;exact absurd hh (hc c)
  ·exact this
def Z1(s:S)(gd:Option (Nat×Bool))(A B:Prop):Prop:=
 match gd with
 |none=>A
 |some (d,want)=>match s.env d with
  | .d (.bool b)=>if b=want then A else B
  | .bP []=>B
  |_=>False
theorem xq{st:St}{gd:Option (Nat×Bool)}{t:Bool}(h:Xa st gd=some t){A B:Prop}(hA:t=true->A)(hB:t=false->B):Z1 st.S gd A B:=by
 cases gd with
 |none=>simp only[Xa,Option.some.injEq]at h;exact hA h.symm
 |some p=>
  obtain⟨d,want⟩:=p
  have he:st.S.env d=st.env.get d:=rfl
  simp only[Xa]at h
  simp only[Z1,he]
  split at h
  ·rename_i b hb
   injection h with h
   by_cases e:b=want
   ·rw[if_pos e];exact hA (by rw[<- h,e];simp)
   ·rw[if_neg e];exact hB (by rw[<- h];simpa using e)
  ·rename_i hb
   injection h with h
   exact hB h.symm
  ·cases h
theorem Lk{P:Program}{KB:List Nat->Fp->Prop}{pr:List (List Nat)}{o:bI}{l:List bI}{fr:Nat}{s:S}{fp:Fp}{bad ws:List Nat}(hb:(pr.getD fp.length []).any (fun j=>bad.contains j)=false)
 (h:Z1 s o.gd (ya P s fr o (fun v Δ rd=>gk P KB pr l (fr+1) ⟨aT s.env o.dst v,put s.o Δ,s.nx⟩ (fp++[(rd,Δ.map (·.1))]) bad (ws++Δ.map (·.1))) (fun _ _ _=>False)) (gk P KB pr l (fr+1) ⟨aT s.env o.dst (.bP []),s.o,s.nx⟩ (fp++[([],[])]) bad ws)):
 gk P KB pr (o::l) fr s fp bad ws:=by
 simp only[gk]
 rw[if_neg (by rw[hb];simp)]
 cases hg:o.gd with
 |none=>rw[hg]at h;exact h
 |some p=>obtain⟨d,want⟩:=p;rw[hg]at h;exact h
theorem Ll{P:Program}{K:S->Fp->Prop}{KP:V->List Nat->Fp->Prop}{pr:List (List Nat)}{o:bI}{l:List bI}{fr:Nat}{s:S}{fp:Fp}
 (h:Z1 s o.gd (ya P s fr o (fun v Δ rd=>jK P K KP pr l (fr+1) ⟨aT s.env o.dst v,put s.o Δ,s.nx⟩ (fp++[(rd,Δ.map (·.1))]))
  (fun v ws rd=>gk P (KP v) pr l (fr+1) ⟨aT s.env o.dst .aa,s.o,s.nx⟩ (fp++[(rd,[])]) [fp.length] (ws++fp.flatMap (·.2)))) (jK P K KP pr l (fr+1) ⟨aT s.env o.dst (.bP []),s.o,s.nx⟩ (fp++[([],[])]))):
 jK P K KP pr (o::l) fr s fp:=by
 simp only[jK]
 cases hg:o.gd with
 |none=>rw[hg]at h;exact h
 |some p=>obtain⟨d,want⟩:=p;rw[hg]at h;exact h
theorem oP(aZ:P.follows .mixedOrders=true)(b9:∀g,(bJ g).Ok P g){rec:c0}(bt:dI P rec){pr:List (List Nat)}{wl:List Nat}{fp':Fp}{KB:List Nat->Fp->Prop}(hK:KB wl fp'):
 ∀ (l:List bI) (fr:Nat) (st:St) (fp:Fp) (bad ws:List Nat),s9 P bJ md rec pr l fr st fp bad ws=some (wl,fp')->gk P KB pr l fr st.S fp bad ws
 |[],fr,st,fp,bad,ws,h=>by
  simp only[s9,Option.some.injEq,Prod.mk.injEq]at h
  obtain⟨rfl,rfl⟩:=h;exact hK
 |o::l,fr,st,fp,bad,ws,h=>by
  simp only[s9,iF,l7]at h
  split at h
  ·rename_i hb
   simp only[gk]
   rw[if_pos hb]
   have:=oP aZ b9 bt hK l _ _ _ _ _ h
   exact GM
  ·rename_i hb
   refine Lk hb ?_
   split at h
   ·rename_i hg
    refine xq hg (fun _=> ?_) (fun h=>by cases h)
    split at h
    ·rename_i v Δ rd fN
     refine xp aZ b9 bt fN ?_
     have:=oP aZ b9 bt hK l _ _ _ _ _ h
     simp only[St.S,iA,jb]at this
     exact this
    ·cases h
   ·rename_i hg
    refine xq hg (fun h=>by cases h) (fun _=> ?_)
    have:=oP aZ b9 bt hK l _ _ _ _ _ h
    exact GM
   ·cases h
def DQ.to (K:S->Fp->Prop)(KP:V->List Nat->Fp->Prop):DQ->Prop
 | .fin st fp=>K st.S fp
 | .bD v wl fp=>KP v wl fp
theorem ma(aZ:P.follows .mixedOrders=true)(b9:∀g,(bJ g).Ok P g){rec:c0}(bt:dI P rec){pr:List (List Nat)}{q:DQ}{K:S->Fp->Prop}{KP:V->List Nat->Fp->Prop}(hq:q.to K KP):
 ∀ (l:List bI) (fr:Nat) (st:St) (fp:Fp),ta P bJ md rec pr l fr st fp=some q->jK P K KP pr l fr st.S fp
 |[],fr,st,fp,h=>by
  simp only[ta,Option.some.injEq]at h
  subst h;exact hq
 |o::l,fr,st,fp,h=>by
  simp only[ta,iF,l7,Nat.cC]at h
  refine Ll ?_
  split at h
  ·rename_i hg
   refine xq hg (fun _=> ?_) (fun h=>by cases h)
   split at h
   ·rename_i v Δ rd fN
    refine xp aZ b9 bt fN ?_
    have:=ma aZ b9 bt hq l _ _ _ h
    simp only[St.S,iA,jb]at this
    exact this
   ·rename_i v ws rd fN
    split at h
    ·rename_i wl fp' hb
     injection h with h;subst h
     refine xp aZ b9 bt fN ?_
     have:=oP aZ b9 bt (KB:=KP v) hq l _ _ _ _ _ hb
     exact GM
    ·cases h
   ·cases h
  ·rename_i hg
   refine xq hg (fun h=>by cases h) (fun _=> ?_)
   have:=ma aZ b9 bt hq l _ _ _ h
   exact GM
  ·cases h
theorem xr{pr:List (List Nat)}{fp:Fp}(h:Ib pr fp=true):dH pr fp=true:=by
 unfold Ib at h
 split at h
 ·rename_i hq
  unfold quiet at hq
  have hz:∀i,(fp.getD i ([],[])).2=[]:=by
   intro i
   rw[List.getD_eq_getElem?_getD]
   cases hx:fp[i]? with
   |none=>rfl
   |some x=>
    have:=List.all_eq_true.1 hq x (List.mem_of_getElem? hx)
    simp only[Option.getD_some]
    split at this
    ·rename_i e;exact e
    ·cases this
  unfold dH
  simp only[hz,jE,List.all_nil,Bool.and_self,Bool.or_true]
  simp
 ·rw[Dv]at h
  unfold dH
  rw[List.all_eq_true]
  intro j hj
  rw[List.all_eq_true]
  intro i hi
  exact zY fp [] h j (Nat.zero_le _) lB i (by simpa using hi)
theorem tc:∀ (l:List Nat) (k c:Nat),c<=k->c<=vH l k c/\∀i x,l[i]? =some x->vH l k c<=k+i->x=2^(k+i) - 1
 |[],_,c,_=>⟨Nat.le_refl _,fun i x h=>by simp at h⟩
 |y::l,k,c,hc=>by
  simp only[vH]
  split
  ·rename_i he
   obtain⟨h1,h2⟩:=tc l (k+1) c ag
   refine⟨h1,fun i x hi hle=> ?_⟩
   cases i with
   |zero=>simp at hi;subst hi;simpa using Nat.eq_of_beq_eq_true he
   |succ i=>
    have:=h2 i x (by simpa using hi) ag
    rw[this,show k+(i+1)=k+1+i by omega]
  ·obtain⟨h1,h2⟩:=tc l (k+1) (k+1) (Nat.le_refl _)
   refine⟨ag,fun i x hi hle=> ?_⟩
   cases i with
   |zero=>omega
   |succ i=>
    have:=h2 i x (by simpa using hi) ag
    rw[this,show k+(i+1)=k+1+i by omega]
theorem vI:∀ (pr:List (List Nat)) (acc:List Nat),(dJ pr acc).length=acc.length+pr.length
 |[],acc=>by simp[dJ]
 |ps::l,acc=>by simp only[dJ,vI l,List.length_append,List.length_cons,List.length_nil];omega
theorem Ie(pr:List (List Nat)):xe pr (oO pr)=true:=by
 refine List.all_eq_true.2 fun k hk=> ?_
 have hk:k<pr.length:=by simpa using hk
 by_cases h:k<oO pr
 ·simp[Nat.blt_eq.mpr h]
 ·have hl:k<(dJ pr []).length:=by rw[vI];simpa using hk
  have:=(tc (dJ pr []) 0 0 (Nat.le_refl _)).2 k _ (List.getElem?_eq_getElem hl) (by rw[Nat.zero_add];exact Nat.le_of_not_lt h)
  rw[Nat.zero_add]at this
  rw[List.getD_eq_getElem?_getD,List.getElem?_eq_getElem hl,Option.getD_some,this]
  simp
theorem Lm(aZ:P.follows .mixedOrders=true)(b9:∀g,(bJ g).Ok P g){rec:c0}(bt:dI P rec){l:List bI}{pr:List (List Nat)}{st st':St}{e:eK}(h:Ro P bJ md rec l pr st=some (e,st')){Q:eK->S->Prop}(hQ:Q e st'.S):
 jK P (BW pr (st.S.nx+l.length) Q) (zy pr l st.S Q) pr l st.S.nx st.S []:=by
 unfold Ro at h
 split at h
 ·rename_i s1 fp hd
  split at h
  ·rename_i hf
   simp only[Nat.cC,Option.some.injEq,Prod.mk.injEq]at h
   obtain⟨rfl,rfl⟩:=h
   exact ma aZ b9 bt (q:= .fin s1 fp) (K:=BW pr (st.S.nx+l.length) Q) (KP:=zy pr l st.S Q) (show BW pr (st.S.nx+l.length) Q s1.S fp from⟨xr hf,hQ⟩) l _ _ _ hd
  ·cases h
 ·rename_i v wl fp hd
  split at h
  ·rename_i hf
   simp only[Option.some.injEq,Prod.mk.injEq]at h
   obtain⟨rfl,rfl⟩:=h
   exact ma aZ b9 bt (q:= .bD v wl fp) (K:=BW pr (st.S.nx+l.length) Q) (KP:=zy pr l st.S Q) (show zy pr l st.S Q v wl fp from⟨xr hf,hQ⟩) l _ _ _ hd
  ·cases h
 ·cases h
theorem Ln(aZ:P.follows .mixedOrders=true)(b9:∀g,(bJ g).Ok P g){rec:c0}(bt:dI P rec){n:Nat}{g:Operand}{ps:List Nat}{x y:IC}{st:St}{kt:Kt}{a:dA}(h:Li P bJ rec n g ps x y st kt=some a){Q:eK->S->Prop}(hQ:∀e st',kt e st'=some a->Q e st'.S):
 ze P n (st.S.ev g) ps x y Q st.S:=by
 unfold Li at h
 refine⟨(List.range n).map st.env.get,fun i=> ?_, ?_⟩
 ·unfold aW
  simp only[List.getD_eq_getElem?_getD,List.getElem?_map]
  by_cases hi:i<n
  ·right;rw[List.getElem?_range hi];rfl
  ·left;rw[List.getElem?_eq_none (by simp;omega)];rfl
 ·split at h
  ·rename_i f first cap hv
   simp only[hv]
   refine .inl ?_
   have key:=fun {K X} hr=>l8 (K:=K) (X:=X) aZ b9 bt h hr
   simp only[Tr.gC]at key
   refine key fun r hr=> ?_
   unfold Xc at hr
   cases r with
   |ret v o1 x9=>
    simp only at hr
    split at hr
    ·rename_i nf m e p c d Z0 pd ho
     have hl:Z0≠ .busy:=by
      intro hb;subst hb;cases hr
     refine⟨nf,m,e,p,c,d,Z0,pd,ho,hl, ?_⟩
     split at hr
     ·cases hr
     ·split at hr<;>(have h3:=hQ _ _ hr;simp only[nB];simp only[St.S,Tr.gC]at h3;exact h3)
    ·cases hr
   |bD v o1 x9=>exact hQ _ _ hr
  ·cases h
theorem bf.same {b:Nat}{s:S}(h:b<=s.nx):bf b s s:=fun _ φ _ _ h1 h2=>⟨φ,h1,h2,fun _ h=>h,h,fun _ _ hr=>⟨hr,rfl⟩,fun _ e' _ he=>⟨e',he,Nat.le_refl _,fun _=>rfl⟩⟩
theorem Ig{x y:Option dA}{a:dA}(h:Dw x y=some a):x=some a/\y=some a:=by
 unfold Dw at h
 split at h
 ·rename_i r
  split at h
  ·rename_i r'
   split at h
   ·rename_i hs
    injection h with h;subst h
    rw[R.dx hs]
    exact⟨rfl,rfl⟩
   ·cases h
  ·cases h
 ·cases h
theorem Ru(aZ:P.follows .mixedOrders=true)(b9:∀g,(bJ g).Ok P g):∀k,∀j,j<=k->dI P (run P bJ md j):=by
 intro k
 induction k with
 |zero=>intro j hj b rd n ic st kt a h;obtain rfl:j=0:=ag
        cases h
 |succ k ih=>
  intro j hj b rd n ic st kt a h Q hQ
  cases j with
  |zero=>cases h
  |succ j=>
   have bt:dI P (run P bJ md j):=ih j ag
   rw[Ic]at h
   cases ic with
   |skip=>exact hQ _ _ h
   |exit id=>exact hQ _ _ h
   |ret=>exact hQ _ _ h
   |bad=>cases h
   |ae l=>
    have h:xm P bJ md (run P bJ md j) (roX kt) l st=some a:=h
    exact rN aZ b9 bt (K:=Q .normal) (X:=fun v s=>Q (.bD v) s) (fun r hr=>by
     cases r with
     |ok Rj=>exact hQ .normal _ hr
     |bD v Rj=>exact hQ (.bD v) _ hr) l _ h
   |cU l pr=>
    have h:Rp l pr P bJ md (run P bJ md j) b rd n st kt=some a:=h
    unfold Rp at h
    rw[Nat.cC]at h
    split at h
    ·rename_i s1 fp hd
     split at h
     ·rename_i hf
      rw[Nat.cC]at h
      split at h
      ·rename_i CW
       refine .inr ⟨oO pr,Nat.le_of_ble_eq_true CW,Ie pr, ?_⟩
       refine ma aZ b9 bt (q:= .fin s1 fp) (K:=fun s' fp=>dH pr fp=true/\nD P (fun v s=>Q (.bD v) s) (Q .normal) (l.drop (oO pr)) ⟨s'.env,s'.o,st.S.nx+oO pr⟩) (KP:=fun _ _ _=>False) (show _/\_ from⟨xr hf, ?_⟩) (l.take (oO pr)) _ _ _ hd
       exact rN aZ b9 bt (K:=Q .normal) (X:=fun v s=>Q (.bD v) s) (fun r hr=>by
        cases r with
        |ok Rj=>exact hQ .normal _ hr
        |bD v Rj=>exact hQ (.bD v) _ hr) (l.drop (oO pr)) ⟨s1.env,s1.o,st.nx+oO pr⟩ h
      ·cases h
     ·cases h
    ·split at h
     ·rename_i e s1 h1
      exact .inl (Lm aZ b9 bt h1 (hQ _ _ h))
     ·cases h
    ·cases h
   |seq x y=>
    have h:run P bJ md j b rd n x st (B8 (run P bJ md j) b rd n y kt)=some a:=h
    simp only[rJ]
    refine bt _ _ _ _ _ _ _ h _ fun e s1 he=> ?_
    unfold B8 at he
    cases e with
    |normal=>exact bt _ _ _ _ _ _ _ he _ hQ
    |_=>exact hQ _ _ he
   |cond c x y=>
    have h:(match st.S.ev c with| .d (.bool true)=>run P bJ md j b rd n x st kt| .d (.bool false)=>run P bJ md j b rd n y st kt| .ey=>Dw (run P bJ md j b rd n x st kt) (run P bJ md j b rd n y st kt)|_=>none)=some a:=h
    simp only[rJ]
    split at h
    ·rename_i hv
     simp only[hv]
     exact(sF _ _).mpr (bt _ _ _ _ _ _ _ h _ hQ)
    ·rename_i hv
     simp only[hv]
     exact(qH _ _).mpr (bt _ _ _ _ _ _ _ h _ hQ)
    ·rename_i hv
     simp only[hv]
     obtain⟨h1,h2⟩:=Ig h
     exact⟨bt _ _ _ _ _ _ _ h1 _ hQ,bt _ _ _ _ _ _ _ h2 _ hQ⟩
    ·cases h
   |block id x=>
    have h:run P bJ md j b rd n x st (B9 id kt)=some a:=h
    simp only[rJ]
    refine bt _ _ _ _ _ _ _ h _ fun e s1 he=> ?_
    unfold B9 at he
    cases e with
    |exit j'=>
     simp only at he
     split at he
     ·rename_i hb
      simp only[ez,Nat.eq_of_beq_eq_true hb,if_true];exact hQ _ _ he
     ·rename_i hb
      simp only[ez,Nat.ne_of_beq_eq_false hb,if_false];exact hQ _ _ he
    |_=>exact hQ _ _ he
   |loop x=>
    have unf:∀m N2,run P bJ md (m+1) b rd n (.loop x) N2 kt=some a->b<=N2.nx/\run P bJ md m b rd n x N2 (B8 (run P bJ md m) b rd n (.loop x) kt)=some a:=by
     intro m N2 h
     have h:(match Nat.ble b N2.nx with|true=>run P bJ md m b rd n x N2 (B8 (run P bJ md m) b rd n (.loop x) kt)|false=>none)=some a:=h
     split at h
     ·rename_i hb;exact⟨Nat.le_of_ble_eq_true hb,h⟩
     ·cases h
    have h:run P bJ md (j+1) b rd n (.loop x) st kt=some a:=h
    refine⟨fun m s=>m<=k+1/\∃st,s=st.S/\run P bJ md m b rd n (.loop x) st kt=some a,⟨j+1,st.S,bf.same (unf j st h).1,hj,st,rfl,h⟩, ?_⟩
    rintro m s0 ⟨hm,N2,rfl,h0⟩
    cases m with
    |zero=>cases h0
    |succ m=>
     have Xf:dI P (run P bJ md m):=ih m ag
     refine Xf _ _ _ _ _ _ _ (unf m N2 h0).2 _ fun e s1 he=> ?_
     unfold B8 at he
     cases e with
     |normal=>
      refine⟨m,s1.S,Nat.lt_succ_self _,bf.same ?_,ag,s1,rfl,he⟩
      cases m with
      |zero=>cases he
      |succ m=>exact(unf m s1 he).1
     |_=>exact hQ _ _ he
   |El g ps x y=>
    cases rd with
    |true=>
     have h:(none:Option dA)=some a:=h
     cases h
    |false=>
     have h:Li P bJ (run P bJ md j) n g ps x y st kt=some a:=h
     exact⟨rfl,_, .inl rfl,Ln aZ b9 bt h hQ⟩
noncomputable def mW(P:Program)(bJ:Nat->FD)(md:oN P)(k:Nat)(g:Nat)(ds:List D):Option R:=
 match HX P bJ (run P bJ md k) g (ds.map .d) (.e fun _=> .no) 0 zU with
 |some (.r x)=>some x
 |_=>none
theorem aR.fG (aZ:P.follows .mixedOrders=true)(b9:∀g,(bJ g).Ok P g){k g:Nat}{ds:List D}{out:R}(h:mW P bJ md k g ds=some out):aR P g ds out:=by
 unfold mW at h
 split at h
 ·rename_i x hr;injection h with h;subst h;exact zV aZ b9 (Ru aZ b9 k k (Nat.le_refl _)) hr
 ·cases h
end
end
def Tr.Dy {α:Type}(p:Nat->α->Prop):Tr α->(Nat->Nat)->Prop
 | .e g,f=>∀i,p (f i) (g i)
 | .n x l r,f=>p (f 0) x/\Dy p l (fun i=>f (2*i+1))/\Dy p r (fun i=>f (2*i+2))
theorem Tr.xu {α:Type}{p:Nat->α->Prop}:∀ {f:Nat->Nat} (t:Tr α),t.Dy p f->∀k,p (f k) (t.get k)
 |f, .e g,h,k=>h k
 |f, .n x l r,h,k=>by
  obtain⟨h1,h2,h3⟩:=h
  rw[Tr.sW]
  split
  ·rename_i e;subst e;exact h1
  ·split
   ·have:=Tr.xu l h2 (k/2)
    rwa [show 2*(k/2)+1=k by omega]at this
   ·have:=Tr.xu r h3 (k/2 - 1)
    rwa [show 2*(k/2 - 1)+2=k by omega]at this
@[reducible] def mv (d s:Nat):bI:=⟨some d, .move (.tmp s),none⟩
@[reducible] def lr (d:Nat) (n:Int):bI:=⟨some d, .move (.const (.int .i64 n)),none⟩
@[reducible] def sg (d s:Nat):bI:=⟨some d, .assign (.tmp s),none⟩
@[reducible] def cn (d:Nat) (n:Int):bI:=⟨some d, .assign (.const (.int .i64 n)),none⟩
@[reducible] def bn (d:Nat) (b:Bool):bI:=⟨some d, .assign (.const (.bool b)),none⟩
@[reducible] def ld (d t s:Nat):bI:=⟨some d, .load t (.tmp s),none⟩
@[reducible] def st (t a b:Nat):bI:=⟨none, .store t (.tmp a) (.tmp b),none⟩
@[reducible] def fa (d t s f:Nat):bI:=⟨some d, .fieldAddr t (.tmp s) f,none⟩
@[reducible] def ex (d s i:Nat):bI:=⟨some d, .extract (.tmp s) i,none⟩
@[reducible] def cu (d c a:Nat):bI:=⟨some d, .pick (.tmp c) (.tmp a) (.const (.bool false)),none⟩
@[reducible] def dN (d c a:Nat):bI:=⟨some d, .pick (.tmp c) (.const (.bool true)) (.tmp a),none⟩
@[reducible] def ia (d t x i:Nat):bI:=⟨some d, .indexAddr t (.tmp x) (.tmp i),none⟩
@[reducible] def bx (d t s:Nat):bI:=⟨some d, .box t (.tmp s),none⟩
@[reducible] def al (d t:Nat):bI:=⟨some d, .alloc t,none⟩
@[reducible] def ln (d s t:Nat):bI:=⟨some d, .call {callee:= .builtin .len,args:=#[.tmp s],argTypes:=#[t]},none⟩
@[reducible] def k0 (d f:Nat):bI:=⟨some d, .call {callee:= .value (.func f),args:=#[],argTypes:=#[]},none⟩
@[reducible] def k1 (d f a t:Nat):bI:=⟨some d, .call {callee:= .value (.func f),args:=#[.tmp a],argTypes:=#[t]},none⟩
@[reducible] def k2 (d f a b t u:Nat):bI:=⟨some d, .call {callee:= .value (.func f),args:=#[.tmp a, .tmp b],argTypes:=#[t,u]},none⟩
@[reducible] def k3 (d f a b c t u v:Nat):bI:=⟨some d, .call {callee:= .value (.func f),args:=#[.tmp a, .tmp b, .tmp c],argTypes:=#[t,u,v]},none⟩
@[reducible] def k4 (d f a b c e t u v w:Nat):bI:=⟨some d, .call {callee:= .value (.func f),args:=#[.tmp a, .tmp b, .tmp c, .tmp e],argTypes:=#[t,u,v,w]},none⟩
@[reducible] def kg (d f:Nat) (xs:Array Operand) (ts:Array TypeId):bI:=⟨some d, .call {callee:= .value (.func f),args:=xs,argTypes:=ts},none⟩
@[reducible] def ka (d a b t:Nat):bI:=⟨some d, .call {callee:= .builtin .append,args:=#[.tmp a, .tmp b],argTypes:=#[t,t]},none⟩
@[reducible] def kQ (d t x:Nat):bI:=⟨some d, .buildSlice t 1 #[(0, .tmp x)],none⟩
@[reducible] def j9 (d:Nat):bI:=⟨some d, .assign (.const (.slice none 0 0)),none⟩
@[reducible] def Lo (d t x:Nat) (n:Int):bI:=⟨some d, .indexAddr t (.tmp x) (.const (.int .i64 n)),none⟩
@[reducible] def bo (op:BinOp) (d t x y u:Nat):bI:=⟨some d, .binOp op t (.tmp x) (.tmp y) u,none⟩
@[reducible] def bk (op:BinOp) (d t x:Nat) (n:Int) (u:Nat):bI:=⟨some d, .binOp op t (.tmp x) (.const (.int .i64 n)) u,none⟩
@[reducible] def nt (d t s:Nat):bI:=⟨some d, .unOp .not t (.tmp s),none⟩
@[reducible] def nc (d s:Nat):bI:=⟨some d, .nilCheck (.tmp s),none⟩
@[reducible] def gT (o:bI) (g:Nat):bI:=⟨o.dst,o.op,some (g,true)⟩
@[reducible] def gF (o:bI) (g:Nat):bI:=⟨o.dst,o.op,some (g,false)⟩
attribute [go_sem] mv lr sg cn bn ld st fa ex cu dN ia bx al ln k0 k1 k2 k3 k4 kg ka kQ j9 Lo bo bk nt nc gT gF
end Go.Proofs.YtnkamdiiakdkgaaGreat
