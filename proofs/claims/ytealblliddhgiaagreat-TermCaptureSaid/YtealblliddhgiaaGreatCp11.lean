/-
  A PART OF THE PROOF. Conditions: none.
-/
import Derived.Test.YtealblliddhgiaaGreatCp10
set_option linter.unusedSimpArgs false
set_option linter.unusedVariables false
namespace Go.Proofs.YtealblliddhgiaaGreat
mutual
def V.same:V->V->Bool
 | .d x, .d y=>x.same y
 | .aW, .aW=>true
 | .ab, .ab=>true
 | .agg a, .agg b=>V.fO a b
 | .ptr i o, .ptr j p=>Nat.beq i j&&Nat.beq o p
 | .osl i o, .osl j p=>Nat.beq i j&&Nat.beq o p
 | .nC a, .nC b=>D.fO a b
 | .iface t x, .iface u y=>Nat.beq t u&&x.same y
 | .mp i, .mp j=>Nat.beq i j
 |_,_=>false
def V.fO:List V->List V->Bool
 |[],[]=>true
 |a::cc,b::bs=>a.same b&&V.fO cc bs
 |_,_=>false
end
mutual
theorem V.ee:∀ (x y:V),x.same y=true->x=y
 | .d x,y,h=>by cases y<;>simp only[V.same,Bool.false_eq_true]at h;rw[D.ee _ _ h]
 | .aW,y,h=>by cases y<;>simp_all[V.same]
 | .ab,y,h=>by cases y<;>simp_all[V.same]
 | .agg a,y,h=>by cases y<;>simp only[V.same,Bool.false_eq_true]at h;rw[V.dx _ _ h]
 | .ptr i o,y,h=>by
   cases y<;>simp only[V.same,Bool.false_eq_true,Bool.and_eq_true]at h
   rw[Nat.eq_of_beq_eq_true h.1,Nat.eq_of_beq_eq_true h.2]
 | .osl i o,y,h=>by
   cases y<;>simp only[V.same,Bool.false_eq_true,Bool.and_eq_true]at h
   rw[Nat.eq_of_beq_eq_true h.1,Nat.eq_of_beq_eq_true h.2]
 | .nC a,y,h=>by cases y<;>simp only[V.same,Bool.false_eq_true]at h;rw[D.dx _ _ h]
 | .iface t x,y,h=>by
   cases y<;>simp only[V.same,Bool.false_eq_true,Bool.and_eq_true]at h
   rw[Nat.eq_of_beq_eq_true h.1,V.ee _ _ h.2]
 | .mp i,y,h=>by
   cases y<;>simp only[V.same,Bool.false_eq_true]at h
   rw[Nat.eq_of_beq_eq_true h]
 | .bW _,y,h| .pe _ _ _ _ _,y,h| .pp _ _,y,h| .func _ _ _,y,h| .rz _ _ _,y,h| .eY,y,h| .ko _,y,h=>by simp[V.same]at h
theorem V.dx:∀ (x y:List V),V.fO x y=true->x=y
 |[],y,h=>by cases y<;>simp_all[V.fO]
 |a::cc,y,h=>by
  cases y<;>simp only[V.fO,Bool.false_eq_true,Bool.and_eq_true]at h
  rw[V.ee _ _ h.1,V.dx _ _ h.2]
end
def sM:List (D×D)->List (D×D)->Bool
 |[],[]=>true
 |(a,b)::l,(c,d)::m=>a.same c&&(b.same d&&sM l m)
 |_,_=>false
theorem sN:∀ (l m:List (D×D)),sM l m=true->l=m
 |[],m,h=>by cases m<;>simp_all[sM]
 |(a,b)::l,m,h=>by
  cases m with
  |nil=>simp[sM]at h
  |cons p m=>
   obtain⟨c,d⟩:=p
   simp only[sM,Bool.and_eq_true]at h
   rw[D.ee _ _ h.1,D.ee _ _ h.2.1,sN l m h.2.2]
noncomputable def ae.same:ae->ae->Bool
 | .no, .no=>true
 | .row a, .row b=>V.fO a b
 | .arr e t s a, .arr f u r b=>Nat.beq e f&&Nat.beq t u&&Nat.beq s r&&D.fO a b
 | .oh e a, .oh f b=>Nat.beq e f&&D.fO a b
 | .map k v a, .map k' v' b=>Nat.beq k k'&&Nat.beq v v'&&sM a b
 | .et a, .et b=>sM a b
 | .rA a i, .rA b j=>a==b&&Nat.beq i j
 |_,_=>false
theorem ae.ee {x y:ae}(h:x.same y=true):x=y:=by
 cases x<;>cases y<;>simp only[ae.same,Bool.false_eq_true,Bool.and_eq_true]at h
 ·rfl
 ·rw[V.dx _ _ h]
 ·rw[Nat.eq_of_beq_eq_true h.1.1.1,Nat.eq_of_beq_eq_true h.1.1.2,Nat.eq_of_beq_eq_true h.1.2,D.dx _ _ h.2]
 ·rw[Nat.eq_of_beq_eq_true h.1,D.dx _ _ h.2]
 ·rw[Nat.eq_of_beq_eq_true h.1.1,Nat.eq_of_beq_eq_true h.1.2,sN _ _ h.2]
 ·rw[sN _ _ h]
 ·rw[eq_of_beq h.1,Nat.eq_of_beq_eq_true h.2]
noncomputable def reach(o:Nat->ae):Nat->List Nat->List Nat->List Nat
 |0,_,seen=>seen
 |_+1,[],seen=>seen
 |n+1,id::todo,seen=>match seen.contains id with
  |true=>reach o n todo seen
  |false=>reach o n ((o id).refs++todo) (id::seen)
noncomputable def eL(o o1:Nat->ae):List Nat->List (Nat×ae)
 |[]=>[]
 |id::l=>match(o id).same (o1 id)with
  |true=>eL o o1 l
  |false=>(id,o1 id)::eL o o1 l
theorem im{o o1:Nat->ae}:∀ (l:List Nat) (x:Nat×ae),x∈eL o o1 l->x.1∈l/\x.2=o1 x.1
 |[],x,h=>by simp[eL]at h
 |id::l,x,h=>by
  simp only[eL]at h
  split at h
  ·obtain⟨h1,h2⟩:=im l x h;exact⟨List.mem_cons_of_mem _ h1,h2⟩
  ·rcases List.mem_cons.1 h with rfl|h
   ·exact⟨by simp,rfl⟩
   ·obtain⟨h1,h2⟩:=im l x h;exact⟨List.mem_cons_of_mem _ h1,h2⟩
theorem mJ{o o1:Nat->ae}:∀ (l:List Nat) (id:Nat),id∈l->id∉(eL o o1 l).map (·.1)->o1 id=o id
 |[],id,h,_=>by simp at h
 |j::l,id,h,hn=>by
  simp only[eL]at hn
  split at hn
  ·rename_i hs
   rcases List.mem_cons.1 h with rfl|h
   ·exact(ae.ee hs).symm
   ·exact mJ l id h hn
  ·simp only[List.map_cons,List.mem_cons,not_or]at hn
   rcases List.mem_cons.1 h with rfl|h
   ·exact absurd rfl hn.1
   ·exact mJ l id h hn.2
theorem yA{o1:Nat->ae}:∀ (Δ:List (Nat×ae)) (o:Nat->ae),(∀x∈Δ,x.2=o1 x.1)->∀id,id∈Δ.map (·.1)\/o id=o1 id->put o Δ id=o1 id
 |[],o,_,id,h=>by rcases h with h|h;· simp at h
                  ·exact h
 |x::Δ,o,hv,id,h=>by
  simp only[put,List.foldl_cons]
  refine yA Δ (aq o x.1 x.2) (fun y hy=>hv y (List.mem_cons_of_mem _ hy)) id ?_
  simp only[List.map_cons,List.mem_cons]at h
  simp only[aJ]
  by_cases e:id=x.1
  ·right;rw[if_pos e,hv x (by simp),e]
  ·rcases h with(h|h)|h
   ·exact absurd h e
   ·exact .inl h
   ·right;rw[if_neg e];exact h
theorem qC{o o1:Nat->ae}{l:List Nat}{id:Nat}(h:id∈l):o1 id=put o (eL o o1 l) id:=by
 by_cases hm:id∈(eL o o1 l).map (·.1)
 ·exact(yA _ o (fun x hx=>(im l x hx).2) id (.inl hm)).symm
 ·rw[fW hm];exact mJ l id h hm
inductive DR where
 |val (v:V) (Δ:List (Nat×ae)) (rd:List Nat)|bK (v:V) (ws rd:List Nat)
def DR.to (K:V->List (Nat×ae)->List Nat->Prop)(KX:V->List Nat->List Nat->Prop):DR->Prop
 | .val v Δ rd=>K v Δ rd
 | .bK v ws rd=>KX v ws rd
noncomputable def Py(c:CR):Option eB:=some (.c c)
noncomputable def hX(P:Program)(b9:Nat->FD)(rec:dF)(g:Nat)(args:List V)(st:St):Option DR:=
 let rd:=reach st.o.get 2000 (V.ag args) []
 match rd.all (fun id=>Nat.blt id st.nx&&(st.o.get id).refs.all rd.contains)&&(V.ag args).all rd.contains with
 |true=>match FK P b9 rec g args (.e (Ap rd st.o.get)) st.nx Py with
  |some (.c (.ret v o1 _))=>match v with
   | .bW [_]=>none
   |v=>match bZ o1.get (sK v)with
    |some rs=>match(eL st.o.get o1.get rd).all (fun x=>x.2.refs.all rd.contains)&&(V.ba (sK v)).all (fun id=> !rd.contains id)with
     |true=>some (.val (iM rs) (eL st.o.get o1.get rd) rd)
     |false=>none
    |none=>none
  |some (.c (.bK v o1 _))=>match dG o1.get v with
   |some x=>match(eL st.o.get o1.get rd).all (fun x=>x.2.refs.all rd.contains)&&v.ids.all (fun id=> !rd.contains id)with
    |true=>some (.bK (.d x) ((eL st.o.get o1.get rd).map (·.1)) rd)
    |false=>none
   |none=>none
  |_=>none
 |false=>none
noncomputable def SC(P:Program)(b9:Nat->FD)(md:qY P)(rec:dF)(g:Nat)(args:List V)(st:St)(rd:List Nat):Option DR:=
 match bZ st.o.get args with
 |some ds=>match md.Pv g with
  |false=>match FK P b9 rec g (ds.map .d) (.e fun _=> .no) 0 Py with
   |some (.c (.ret v _ _))=>match v.refs with
    |[]=>some (.val v (cw st.o.get (V.ba args)) rd)
    |_=>none
   |_=>none
  |true=>match H4 P b9 md rec g ds with
   |some (.ret rs)=>match D.jk rs with
    |true=>some (.val (iM rs) [] rd)
    |false=>some (.val (iM rs) (cw st.o.get (V.ba args)) rd)
   |some (.bK x)=>match x.flat with
    |true=>some (.bK (.d x) [] rd)
    |false=>none
   |none=>none
 |none=>hX P b9 rec g args st
noncomputable def SD(P:Program)(st:St)(fr:Nat)(op:Op):Option DR:=
 match H3 op P st.S fr with
 |some (v,Δ,_)=>some (.val v Δ (iX st.S op))
 |none=>none
def V.T3:V->Bool
 | .mp _=>true
 |_=>false
def LM{P:Program}(md:qY P)(g:Nat)(args:List V):Bool:= !md.Pv g&&args.any V.T3
def uR(args:List V):Option (List D):=
 match V.ba args with
 |[]=>bZ (fun _=> .no) args
 |_=>none
noncomputable def H9(P:Program)(t:TypeId)(c:CR):Option eB:=
 match c with
 | .ret v o1 _=>match v with
   | .osl j ep=>match o1.get j with
     | .arr gG ty sz es=>match Nat.beq gG ep with
       |true=>Pu (.ret [.sl es, .int .i64 (ty:Nat), .int .i64 (sz:Nat)]) fun x=>some (.r x)
       |false=>none
     |_=>none
   | .aW=>match aU P t with
     |some e=>match Nat.blt 0 (P.cellsOf e)with
      |true=>Pu (.ret [.sl [], .int .i64 (e:Nat), .int .i64 (P.cellsOf e:Nat)]) fun x=>some (.r x)
      |false=>none
     |none=>none
   |_=>none
 |_=>none
noncomputable def LN(P:Program)(b9:Nat->FD)(rec:dF)(g:Nat)(t:TypeId)(args:List V)(st:St)(fr:Nat):Option DR:=
 match uR args with
 |some ds=>match FK P b9 rec g (ds.map .d) (.e fun _=> .no) 0 (H9 P t)with
  |some (.r (.ret [.sl es, .int .i64 (.ofNat ty), .int .i64 (.ofNat sz)]))=>some (.val (.osl fr 0) [(fr, .arr 0 ty sz es)] [])
  |_=>none
 |none=>match bZ st.o.get args with
  |some ds=>match FK P b9 rec g (ds.map .d) (.e fun _=> .no) 0 (H9 P t)with
   |some (.r (.ret [.sl es, .int .i64 (.ofNat ty), .int .i64 (.ofNat sz)]))=>match D.jk es&&(V.ba args).all (fun id=>Nat.blt id st.nx)with
    |true=>some (.val (.osl fr 0) [(fr, .arr 0 ty sz es)] (V.ba args))
    |false=>none
   |_=>none
  |none=>none
noncomputable def Ia(P:Program)(b9:Nat->FD)(md:qY P)(rec:dF)(st:St)(fr:Nat)(op:Op):Option DR:=
 match op with
 | .call c=>match c.callee with
   | .value f=>match st.S.ev f with
     | .func (.func g) first cap=>match LM md g (first++c.args.toList.map st.S.ev++cap)with
       |true=>hX P b9 rec g (first++c.args.toList.map st.S.ev++cap) st
       |false=>match SC P b9 md rec g (first++c.args.toList.map st.S.ev++cap) st (iX st.S (.call c))with
        |some r=>some r
        |none=>LN P b9 rec g (c.argTypes.getD 0 0) (first++c.args.toList.map st.S.ev++cap) st fr
     |_=>none
   |_=>SD P st fr (.call c)
 |op=>SD P st fr op
noncomputable def Pz(st:St):Option (Nat×Bool)->Option Bool
 |none=>some true
 |some (d,want)=>match st.env.get d with
  | .d (.bool b)=>some (b==want)
  | .bW []=>some false
  |_=>none
noncomputable def sO(P:Program)(b9:Nat->FD)(md:qY P)(rec:dF)(pr:List (List Nat)):List cf->Nat->St->Fp->List Nat->List Nat->Option (List Nat×Fp)
 |[],_,_,fp,_,ws=>some (ws,fp)
 |o::l,fr,st,fp,bad,ws=>match(pr.getD fp.length []).any (fun j=>bad.contains j)with
  |true=>sO P b9 md rec pr l (fr+1) ⟨qB st.env o.dst .ab,st.o,st.nx⟩ (fp++[([],[])]) (bad++[fp.length]) ws
  |false=>match Pz st o.gd with
   |some true=>match Ia P b9 md rec st fr o.op with
    |some (.val v Δ rd)=>lC st.env o.dst v fun e=>sJ st.o Δ fun ob=>sO P b9 md rec pr l (fr+1) ⟨e,ob,st.nx⟩ (fp++[(rd,Δ.map (·.1))]) bad (ws++Δ.map (·.1))
    |_=>none
   |some false=>sO P b9 md rec pr l (fr+1) ⟨qB st.env o.dst (.bW []),st.o,st.nx⟩ (fp++[([],[])]) bad ws
   |none=>none
inductive DQ where
 |fin (st:St) (fp:Fp)|bK (v:V) (wl:List Nat) (fp:Fp)
noncomputable def sP(P:Program)(b9:Nat->FD)(md:qY P)(rec:dF)(pr:List (List Nat)):List cf->Nat->St->Fp->Option DQ
 |[],_,st,fp=>some (.fin st fp)
 |o::l,fr,st,fp=>match Pz st o.gd with
  |some true=>match Ia P b9 md rec st fr o.op with
   |some (.val v Δ rd)=>lC st.env o.dst v fun e=>sJ st.o Δ fun ob=>Nat.fc (fr+1) fun fr=>sP P b9 md rec pr l fr ⟨e,ob,st.nx⟩ (fp++[(rd,Δ.map (·.1))])
   |some (.bK v ws rd)=>match sO P b9 md rec pr l (fr+1) ⟨qB st.env o.dst .ab,st.o,st.nx⟩ (fp++[(rd,[])]) [fp.length] (ws++fp.flatMap (·.2))with
    |some (wl,fp)=>some (.bK v wl fp)
    |none=>none
   |none=>none
  |some false=>lC st.env o.dst (.bW []) fun e=>Nat.fc (fr+1) fun fr=>sP P b9 md rec pr l fr ⟨e,st.o,st.nx⟩ (fp++[([],[])])
  |none=>none
noncomputable def quiet(fp:Fp):Bool:=fp.all fun x=>match x.2 with|[]=>true|_=>false
noncomputable def wv(m:Nat)(x:List Nat×List Nat):Nat->Fp->Bool
 |_,[]=>true
 |i,y::l=>(match y.2,x.2 with
  |[],[]=>true
  |_,_=>m.testBit i||(jX y.2 x.1&&jX y.2 x.2&&jX x.2 y.1))&&wv m x (i+1) l
noncomputable def BV(ms:List Nat)(pre:Fp):Nat->Fp->Bool
 |_,[]=>true
 |j,x::l=>wv (ms.getD j 0) x 0 pre&&BV ms (pre++[x]) (j+1) l
noncomputable def PA{β:Type}:List Nat->(List Nat->β)->β
 |[],c=>c []
 |x::xs,c=>Nat.fc x fun x=>PA xs fun xs=>c (x::xs)
theorem FX{β:Type}:∀ (x:List Nat) (c:List Nat->β),PA x c=c x
 |[],c=>rfl
 |x::xs,c=>by simp only[PA,Nat.cZ,FX xs]
noncomputable def Ib{β:Type}:Fp->(Fp->β)->β
 |[],c=>c []
 |(a,b)::l,c=>PA a fun a=>PA b fun b=>Ib l fun l=>c ((a,b)::l)
theorem BW{β:Type}:∀ (x:Fp) (c:Fp->β),Ib x c=c x
 |[],c=>rfl
 |(a,b)::l,c=>by simp only[Ib,FX,BW l]
noncomputable def FY(pr:List (List Nat))(fp:Fp):Bool:=match quiet fp with|true=>true|false=>Ib fp fun fp=>BV (eo pr []) [] 0 fp
theorem uS{m:Nat}{x:List Nat×List Nat}:∀ (l:Fp) (i:Nat),wv m x i l=true->∀k,k<l.length->(m.testBit (i+k)||(jX (l.getD k ([],[])).2 x.1&&jX (l.getD k ([],[])).2 x.2&&jX x.2 (l.getD k ([],[])).1))=true
 |[],i,_,k,hk=>by simp at hk
 |y::l,i,h,k,hk=>by
  simp only[wv,Bool.and_eq_true]at h
  cases k with
  |zero=>
   have h1:=h.1
   simp only[List.getD_cons_zero,Nat.add_zero]
   split at h1
   ·rename_i e1 e2
    rw[e1,e2];simp[jX]
   ·exact h1
  |succ k=>
   have:=uS l (i+1) h.2 k (by simpa using hk)
   rw[List.getD_cons_succ,show i+(k+1)=i+1+k by omega]
   exact this
theorem yB{ms:List Nat}:∀ (l pre:Fp),BV ms pre pre.length l=true->∀j,pre.length<=j->j<(pre++l).length->∀i,i<j->
 ((ms.getD j 0).testBit i||(jX ((pre++l).getD i ([],[])).2 ((pre++l).getD j ([],[])).1&&jX ((pre++l).getD i ([],[])).2 ((pre++l).getD j ([],[])).2&&jX ((pre++l).getD j ([],[])).2 ((pre++l).getD i ([],[])).1))=true
 |[],pre,_,j,h1,h2,i,_=>by simp at h2;omega
 |x::l,pre,h,j,h1,h2,i,hi=>by
  simp only[BV,Bool.and_eq_true]at h
  by_cases e:j=pre.length
  ·subst e
   have:=uS pre 0 h.1 i hi
   have e1:(pre++x::l).getD pre.length ([],[])=x:=by simp[List.getD_eq_getElem?_getD]
   have e2:(pre++x::l).getD i ([],[])=pre.getD i ([],[]):=by simp[List.getD_eq_getElem?_getD,List.getElem?_append_left hi]
   rw[e1,e2]
   simpa using this
  ·have h3:=h.2
   have:=yB l (pre++[x]) (by simpa using h3) j (by simp;omega) (by simpa using h2) i hi
   simpa using this
noncomputable def LO(P:Program)(b9:Nat->FD)(md:qY P)(rec:dF)(l:List cf)(pr:List (List Nat))(st:St):Option (fq×St):=
 match sP P b9 md rec pr l st.nx st []with
 |some (.fin s1 fp)=>match FY pr fp with
  |true=>Nat.fc (st.nx+l.length) fun n=>some (.normal,⟨s1.env,s1.o,n⟩)
  |false=>none
 |some (.bK v wl fp)=>match FY pr fp with
  |true=>some (.bK v,⟨.e (si (dstsOf l) wl l.length st.S).env, .e (si (dstsOf l) wl l.length st.S).o,st.nx+l.length⟩)
  |false=>none
 |none=>none
noncomputable def PB(id:Nat)(env:Tr V)(kt:Kt)(c:CR):Option eB:=
 match c with
 | .ret _ o1 xa=>match o1.get id with
   | .loop nf m e p c d SE pd=>match SE with
     | .busy=>none
     |_=>match pd with
      |none=>kt .normal ⟨env,o1.set id (.loop nf m e p c d .exhausted pd),xa⟩
      |some .ret=>kt .ret ⟨env,o1.set id (.loop nf m e p c d .exhausted pd),xa⟩
      |some (.exit j)=>kt (.exit j) ⟨env,o1.set id (.loop nf m e p c d .exhausted pd),xa⟩
   |_=>none
 | .bK v o1 xa=>kt (.bK v) ⟨env,o1,xa⟩
noncomputable def Ic(P:Program)(b9:Nat->FD)(rec:dF)(n:Nat)(g:Operand)(ps:List Nat)(x y:IC)(st:St)(kt:Kt):Option eB:=
 match st.S.ev g with
 | .func (.func f) first cap=>FK P b9 rec f (first++[.ko st.nx]++cap) (st.o.set st.nx (.loop P.funcs.size n ((List.range n).map st.env.get) ps x y .ready none)) (st.nx+1) (PB st.nx st.env kt)
 |_=>none
abbrev nv:=(P:Program)->(Nat->FD)->qY P->dF->Nat->Bool->Nat->St->Kt->Option eB
noncomputable def T4(kt:Kt):RO->Option eB:=fun r=>match r with| .ok st=>kt .normal st| .bK v st=>kt (.bK v) st
noncomputable def T5(l:List cf):nv:=fun P b9 md rec _ _ _ st kt=>wq P b9 md rec (T4 kt) l st
def uT:List Nat->Nat->Nat->Nat
 |[],_,c=>c
 |x::l,k,c=>match Nat.beq x (2^k - 1)with
  |true=>uT l (k+1) c
  |false=>uT l (k+1) (k+1)
def pa(pr:List (List Nat)):Nat:=uT (eo pr []) 0 0
noncomputable def LP(l:List cf)(pr:List (List Nat)):nv:=fun P b9 md rec _ _ _ st kt=>
 Nat.fc (pa pr) fun m=>match sP P b9 md rec pr (l.take m) st.nx st []with
 |some (.fin s1 fp)=>match FY pr fp with
  |true=>Nat.fc (st.nx+m) fun n=>match Nat.ble m l.length with
   |true=>wq P b9 md rec (T4 kt) (l.drop m) ⟨s1.env,s1.o,n⟩
   |false=>none
  |false=>none
 |some (.bK _ _ _)=>match LO P b9 md rec l pr st with
  |some (e,s1)=>kt e s1
  |none=>none
 |none=>none
noncomputable def AO(rec:dF)(b:Nat)(rd:Bool)(n:Nat)(y:IC)(kt:Kt):Kt:=fun e s1=>match e with| .normal=>rec b rd n y s1 kt|e=>kt e s1
noncomputable def T6(x y:IC):nv:=fun _ _ _ rec b rd n st kt=>rec b rd n x st (AO rec b rd n y kt)
noncomputable def BX(a c:Option eB):Option eB:=
 match a with
 |some (.r x)=>match c with
  |some (.r y)=>match R.same x y with
   |true=>some (.r x)
   |false=>none
  |_=>none
 |_=>none
noncomputable def PC(c:Operand)(x y:IC):nv:=fun _ _ _ rec b rd n st kt=>match st.S.ev c with
 | .d (.bool true)=>rec b rd n x st kt
 | .d (.bool false)=>rec b rd n y st kt
 | .eY=>BX (rec b rd n x st kt) (rec b rd n y st kt)
 |_=>none
noncomputable def AP(id:Nat)(kt:Kt):Kt:=fun e s1=>match e with
 | .exit j=>match Nat.beq j id with
   |true=>kt .normal s1
   |false=>kt (.exit j) s1
 |e=>kt e s1
noncomputable def LQ(id:Nat)(x:IC):nv:=fun _ _ _ rec b rd n st kt=>rec b rd n x st (AP id kt)
noncomputable def PD(x:IC):nv:=fun _ _ _ rec b rd n st kt=>match Nat.ble b st.nx with
 |true=>rec b rd n x st (AO rec b rd n (.loop x) kt)
 |false=>none
noncomputable def LR(e:fq):nv:=fun _ _ _ _ _ _ _ st kt=>kt e st
noncomputable def T7:nv:=fun _ _ _ _ _ _ _ _ _=>none
noncomputable def T8(g:Operand)(ps:List Nat)(x y:IC):nv:=fun P b9 _ rec _ rd n st kt=>match rd with
 |true=>none
 |false=>Ic P b9 rec n g ps x y st kt
noncomputable def JN(ic:IC):nv:=
 match ic with
 | .skip=>LR .normal
 | .af l=>T5 l
 | .cW l pr=>LP l pr
 | .seq x y=>T6 x y
 | .cond c x y=>PC c x y
 | .block id x=>LQ id x
 | .loop x=>PD x
 | .exit id=>LR (.exit id)
 | .ret=>LR .ret
 | .Cz g ps x y=>T8 g ps x y
 | .bad=>T7
noncomputable def run(P:Program)(b9:Nat->FD)(md:qY P)(k:Nat):dF:=
 Nat.rec (motive:=fun _=>dF) (fun _ _ _ _ _ _=>none) (fun _ rec b rd n ic st kt=>JN ic P b9 md rec b rd n st kt) k
theorem FZ{P:Program}{b9:Nat->FD}{md:qY P}{k:Nat}:run P b9 md (k+1)=fun b rd n ic st kt=>JN ic P b9 md (run P b9 md k) b rd n st kt:=rfl
section
variable {P:Program}{b9:Nat->FD}{md:qY P}
theorem JO(bc:P.follows .mixedOrders=true)(cF:∀g,(b9 g).Ok P g){rec:dF}(bG:eG P rec){fr:Nat}{g:Nat}{args:List V}{st:St}{r:DR}(h:hX P b9 rec g args st=some r){K:V->List (Nat×ae)->List Nat->Prop}{KX:V->List Nat->List Nat->Prop}(hr:r.to K KX):
 iD P g args st.S.o st.S.nx fr K KX:=by
 unfold hX at h
 simp only at h
 generalize me:reach st.o.get 2000 (V.ag args) []=rd at h
 split at h
 ·rename_i hc
  simp only[Bool.and_eq_true,List.all_eq_true]at hc
  obtain⟨WI,rO⟩:=hc
  have a1:∀id∈rd,id<st.nx:=fun id aj=>Nat.le_of_ble_eq_true (WI id aj).1
  have a2:∀id∈V.ag args,id∈rd:=fun id aj=>by simpa using rO id aj
  have a3:∀id∈rd,∀j∈(st.o.get id).refs,j∈rd:=fun id aj j hj=>by simpa using(WI id aj).2 j hj
  have a0:rd.all (fun id=>decide (id<st.S.nx))=true:=List.all_eq_true.2 fun id aj=>decide_eq_true (a1 id aj)
  have key:∀ {r:CR} {a:CR},Py r=some (.c a)->r=a:=fun h=>by unfold Py at h;injection h with h;injection h
  split at h
  ·rename_i v o1 xa hf
   split at h
   ·cases h
   ·rename_i v' tx
    split at h
    ·rename_i rs N8
     split at h
     ·rename_i LS
      injection h with h;subst h
      simp only[Bool.and_eq_true,List.all_eq_true]at LS
      refine⟨rd,_,a0, .inl ⟨rs,zH.lx a1 a2 a3 (fun x hx=>(im rd x hx).1) (fun x hx j hj=>by simpa using LS.1 x hx j hj) (mH bc cF bG hf fun r vE=> ?_),hr⟩⟩
      rw[key vE]
      refine⟨fun id aj=>qC aj,sK v,rs, ?_,N8,rfl,fun id aj=>by simpa using LS.2 id aj⟩
      cases v with
      |bW vs=>
       match vs,tx with
       |[],_=>rfl
       |[x],hv=>exact absurd rfl (hv x)
       |_::_::_,_=>rfl
      |_=>rfl
     ·cases h
    ·cases h
  ·rename_i v o1 xa hf
   split at h
   ·rename_i x hx
    split at h
    ·rename_i LS
     injection h with h;subst h
     simp only[Bool.and_eq_true,List.all_eq_true]at LS
     refine⟨rd,eL st.o.get o1.get rd,a0, .inr (.inl ⟨x,zH.lx a1 a2 a3 (fun x hx=>(im rd x hx).1) (fun x hx j hj=>by simpa using LS.1 x hx j hj) (mH bc cF bG hf fun r vE=> ?_),hr⟩)⟩
     rw[key vE]
     exact⟨fun id aj=>qC aj,x,hx,rfl,fun id aj=>by simpa using LS.2 id aj⟩
    ·cases h
   ·cases h
  ·cases h
 ·cases h
theorem LU(bc:P.follows .mixedOrders=true)(cF:∀g,(b9 g).Ok P g){rec:dF}(bG:eG P rec){g:Nat}{args:List V}{st:St}{rd:List Nat}{ds:List D}(eW:bZ st.o.get args=some ds){r:DR}(h:SC P b9 md rec g args st rd=some r)
 {K:V->List (Nat×ae)->List Nat->Prop} {KX:V->List Nat->List Nat->Prop} (hr:r.to K KX):
 qy P g ds (fun v=>K v (cw st.S.o (V.ba args)) rd) (fun v=>K v [] rd) (fun v=>KX v [] rd):=by
 unfold SC at h
 simp only[eW]at h
 split at h
 ·split at h
  ·rename_i v o1 xa JP
   split at h
   ·rename_i Ze
    injection h with h;subst h
    exact .inr (.inr ⟨v,Ou.lx Ze (mH bc cF bG JP fun r vE=>by unfold Py at vE;injection vE with vE;injection vE with vE;rw[vE];exact rfl),hr⟩)
   ·cases h
  ·cases h
 ·split at h
  ·rename_i rs FU
   have hP:=wu bc cF bG FU
   split at h
   ·rename_i hf
    injection h with h;subst h
    exact .inl ⟨rs,hP, .inr ⟨hf,hr⟩⟩
   ·injection h with h;subst h
    exact .inl ⟨rs,hP, .inl hr⟩
  ·rename_i x FU
   have hP:=wu bc cF bG FU
   split at h
   ·rename_i hf
    injection h with h;subst h
    exact .inr (.inl ⟨x,hP,hf,hr⟩)
   ·cases h
  ·cases h
theorem BZ{t ty:TypeId}{sz:Nat}{es:List D}{r:CR}(h:H9 P t r=some (.r (.ret [.sl es, .int .i64 (.ofNat ty), .int .i64 (.ofNat sz)]))):
 r.to (fun v o1 _=>(∃j ep,v= .osl j ep/\o1 j= .arr ep ty sz es)\/(v= .aW/\es=[]/\0<sz)) (fun _ _ _=>False):=by
 unfold H9 at h
 split at h
 ·rename_i v o1 n1
  split at h
  ·rename_i j ep
   split at h
   ·rename_i gG TP nb es' ho
    split at h
    ·rename_i he
     have he:=Nat.eq_of_beq_eq_true he
     subst he
     rw[AM]at h
     simp only[Option.some.injEq,eB.r.injEq,R.ret.injEq,List.cons.injEq,D.sl.injEq,D.int.injEq,true_and,and_true]at h
     obtain⟨rfl,h2,h3⟩:=h
     have h2:TP=ty:=Int.ofNat.inj h2
     have h3:nb=sz:=Int.ofNat.inj h3
     subst h2;subst h3
     exact .inl ⟨j,gG,rfl,ho⟩
    ·cases h
   ·cases h
  ·split at h
   ·rename_i e he
    split at h
    ·rename_i hp
     rw[AM]at h
     simp only[Option.some.injEq,eB.r.injEq,R.ret.injEq,List.cons.injEq,D.sl.injEq,D.int.injEq,true_and,and_true]at h
     obtain⟨rfl,h2,h3⟩:=h
     have h3:P.cellsOf e=sz:=Int.ofNat.inj h3
     subst h3
     exact .inr ⟨rfl,rfl,Nat.blt_eq.mp hp⟩
    ·cases h
   ·cases h
  ·cases h
 ·cases h
theorem Ie(bc:P.follows .mixedOrders=true)(cF:∀g,(b9 g).Ok P g){rec:dF}(bG:eG P rec){fr:Nat}{g:Nat}{t:TypeId}{args:List V}{st:St}{r:DR}(h:LN P b9 rec g t args st fr=some r){K:V->List (Nat×ae)->List Nat->Prop}{KX:V->List Nat->List Nat->Prop}(hr:r.to K KX):
 iD P g args st.S.o st.S.nx fr K KX:=by
 unfold LN at h
 split at h
 ·rename_i ds eW
  split at h
  ·rename_i es ty sz JP
   injection h with h;subst h
   unfold uR at eW
   split at eW
   ·rename_i aj
    exact⟨[],_,by simp, .inr (.inr ⟨_,Aq.H8 aj eW (Aq.LK (mH bc cF bG JP fun r vE=>BZ vE)),hr⟩)⟩
   ·cases eW
  ·cases h
 ·split at h
  ·rename_i ds eW
   split at h
   ·rename_i es ty sz JP
    split at h
    ·rename_i hc
     injection h with h;subst h
     simp only[Bool.and_eq_true]at hc
     refine⟨V.ba args,_, ?_, .inr (.inr ⟨_,Aq.H7 eW hc.1 (mH bc cF bG JP fun r vE=>BZ vE),hr⟩)⟩
     exact List.all_eq_true.2 fun id aj=>decide_eq_true (Nat.blt_eq.mp (List.all_eq_true.1 hc.2 id aj))
    ·cases h
   ·cases h
  ·cases h
theorem wx(bc:P.follows .mixedOrders=true)(cF:∀g,(b9 g).Ok P g){rec:dF}(bG:eG P rec){st:St}{fr:Nat}{o:cf}{r:DR}(h:Ia P b9 md rec st fr o.op=some r){K:V->List (Nat×ae)->List Nat->Prop}{KX:V->List Nat->List Nat->Prop}(hr:r.to K KX):
 xb P st.S fr o K KX:=by
 have hs:SD P st fr o.op=some r->(match gf P st.S fr o.op with|some (v,Δ,_)=>K v Δ (iX st.S o.op)|none=>False):=by
  intro h
  unfold SD at h
  split at h
  ·rename_i v Δ rd he
   injection h with h;subst h
   simp only[BP he]
   exact hr
  ·cases h
 unfold Ia at h
 unfold xb
 split at h
 ·rename_i c hc
  simp only[hc]
  split at h
  ·rename_i f hf
   simp only[hf]
   split at h
   ·rename_i g first cap hv
    simp only[hv]
    split at h
    ·have hh:=JO bc cF bG h hr (fr:=fr)
     split
     ·exact .inr hh
     ·exact hh
    split at h
    ·rename_i r' Kw
     injection h with h;subst h
     cases eW:bZ st.S.o (first++List.map st.S.ev c.args.toList++cap)with
     |some ds=>exact .inl (LU bc cF bG eW Kw hr)
     |none=>
      have LI:bZ st.o.get (first++List.map st.S.ev c.args.toList++cap)=none:=eW
      unfold SC at Kw
      simp only[LI]at Kw
      exact JO bc cF bG Kw hr
    ·have hh:=Ie bc cF bG (st:=st) h hr
     split
     ·exact .inr hh
     ·exact hh
   ·cases h
  ·rename_i eg
   rw[<- hc]at h
   have:=hs h
   rw[hc]at this
   split
   ·rename_i f hf;exact absurd hf (eg f)
   ·exact this
 ·rename_i hc
  have:=hs h
  split
  ·rename_i c hh;exact absurd hh (hc c)
  ·exact this
def SF(s:S)(gd:Option (Nat×Bool))(A B:Prop):Prop:=
 match gd with
 |none=>A
 |some (d,want)=>match s.env d with
  | .d (.bool b)=>if b=want then A else B
  | .bW []=>B
  |_=>False
theorem wy{st:St}{gd:Option (Nat×Bool)}{t:Bool}(h:Pz st gd=some t){A B:Prop}(hA:t=true->A)(hB:t=false->B):SF st.S gd A B:=by
 cases gd with
 |none=>simp only[Pz,Option.some.injEq]at h;exact hA h.symm
 |some p=>
  obtain⟨d,want⟩:=p
  have he:st.S.env d=st.env.get d:=rfl
  simp only[Pz]at h
  simp only[SF,he]
  split at h
  ·rename_i b hb
   injection h with h
   by_cases e:b=want
   ·rw[if_pos e];exact hA (by rw[<- h,e];simp)
   ·rw[if_neg e];exact hB (by rw[<- h];simpa using e)
  ·rename_i hb
   injection h with h
   exact hB h.symm
  ·cases h
theorem Ig{P:Program}{KB:List Nat->Fp->Prop}{pr:List (List Nat)}{o:cf}{l:List cf}{fr:Nat}{s:S}{fp:Fp}{bad ws:List Nat}(hb:(pr.getD fp.length []).any (fun j=>bad.contains j)=false)
 (h:SF s o.gd (xb P s fr o (fun v Δ rd=>gP P KB pr l (fr+1) ⟨aY s.env o.dst v,put s.o Δ,s.nx⟩ (fp++[(rd,Δ.map (·.1))]) bad (ws++Δ.map (·.1))) (fun _ _ _=>False)) (gP P KB pr l (fr+1) ⟨aY s.env o.dst (.bW []),s.o,s.nx⟩ (fp++[([],[])]) bad ws)):
 gP P KB pr (o::l) fr s fp bad ws:=by
 simp only[gP]
 rw[if_neg (by rw[hb];simp)]
 cases hg:o.gd with
 |none=>rw[hg]at h;exact h
 |some p=>obtain⟨d,want⟩:=p;rw[hg]at h;exact h
theorem Ih{P:Program}{K:S->Fp->Prop}{KP:V->List Nat->Fp->Prop}{pr:List (List Nat)}{o:cf}{l:List cf}{fr:Nat}{s:S}{fp:Fp}
 (h:SF s o.gd (xb P s fr o (fun v Δ rd=>j7 P K KP pr l (fr+1) ⟨aY s.env o.dst v,put s.o Δ,s.nx⟩ (fp++[(rd,Δ.map (·.1))]))
  (fun v ws rd=>gP P (KP v) pr l (fr+1) ⟨aY s.env o.dst .ab,s.o,s.nx⟩ (fp++[(rd,[])]) [fp.length] (ws++fp.flatMap (·.2)))) (j7 P K KP pr l (fr+1) ⟨aY s.env o.dst (.bW []),s.o,s.nx⟩ (fp++[([],[])]))):
 j7 P K KP pr (o::l) fr s fp:=by
 simp only[j7]
 cases hg:o.gd with
 |none=>rw[hg]at h;exact h
 |some p=>obtain⟨d,want⟩:=p;rw[hg]at h;exact h
theorem pb(bc:P.follows .mixedOrders=true)(cF:∀g,(b9 g).Ok P g){rec:dF}(bG:eG P rec){pr:List (List Nat)}{wl:List Nat}{T9:Fp}{KB:List Nat->Fp->Prop}(hK:KB wl T9):
 ∀ (l:List cf) (fr:Nat) (st:St) (fp:Fp) (bad ws:List Nat),sO P b9 md rec pr l fr st fp bad ws=some (wl,T9)->gP P KB pr l fr st.S fp bad ws
 |[],fr,st,fp,bad,ws,h=>by
  simp only[sO,Option.some.injEq,Prod.mk.injEq]at h
  obtain⟨rfl,rfl⟩:=h;exact hK
 |o::l,fr,st,fp,bad,ws,h=>by
  simp only[sO,ja,mG]at h
  split at h
  ·rename_i hb
   simp only[gP]
   rw[if_pos hb]
   have:=pb bc cF bG hK l _ _ _ _ _ h
   simp only[St.S,eD]at this
   exact this
  ·rename_i hb
   refine Ig hb ?_
   split at h
   ·rename_i hg
    refine wy hg (fun _=> ?_) (fun h=>by cases h)
    split at h
    ·rename_i v Δ rd dD
     refine wx bc cF bG dD ?_
     have:=pb bc cF bG hK l _ _ _ _ _ h
     simp only[St.S,eD,ju]at this
     exact this
    ·cases h
   ·rename_i hg
    refine wy hg (fun h=>by cases h) (fun _=> ?_)
    have:=pb bc cF bG hK l _ _ _ _ _ h
    simp only[St.S,eD]at this
    exact this
   ·cases h
def DQ.to (K:S->Fp->Prop)(KP:V->List Nat->Fp->Prop):DQ->Prop
 | .fin st fp=>K st.S fp
 | .bK v wl fp=>KP v wl fp
theorem mK(bc:P.follows .mixedOrders=true)(cF:∀g,(b9 g).Ok P g){rec:dF}(bG:eG P rec){pr:List (List Nat)}{q:DQ}{K:S->Fp->Prop}{KP:V->List Nat->Fp->Prop}(hq:q.to K KP):
 ∀ (l:List cf) (fr:Nat) (st:St) (fp:Fp),sP P b9 md rec pr l fr st fp=some q->j7 P K KP pr l fr st.S fp
 |[],fr,st,fp,h=>by
  simp only[sP,Option.some.injEq]at h
  subst h;exact hq
 |o::l,fr,st,fp,h=>by
  simp only[sP,ja,mG,Nat.cZ]at h
  refine Ih ?_
  split at h
  ·rename_i hg
   refine wy hg (fun _=> ?_) (fun h=>by cases h)
   split at h
   ·rename_i v Δ rd dD
    refine wx bc cF bG dD ?_
    have:=mK bc cF bG hq l _ _ _ h
    simp only[St.S,eD,ju]at this
    exact this
   ·rename_i v ws rd dD
    split at h
    ·rename_i wl T9 hb
     injection h with h;subst h
     refine wx bc cF bG dD ?_
     have:=pb bc cF bG (KB:=KP v) hq l _ _ _ _ _ hb
     simp only[St.S,eD]at this
     exact this
    ·cases h
   ·cases h
  ·rename_i hg
   refine wy hg (fun h=>by cases h) (fun _=> ?_)
   have:=mK bc cF bG hq l _ _ _ h
   simp only[St.S,eD]at this
   exact this
  ·cases h
theorem wz{pr:List (List Nat)}{fp:Fp}(h:FY pr fp=true):eE pr fp=true:=by
 unfold FY at h
 split at h
 ·rename_i hq
  unfold quiet at hq
  have hz:∀i,(fp.getD i ([],[])).2=[]:=by
   intro i
   rw[List.getD_eq_getElem?_getD]
   cases hx:fp[i]? with
   |none=>rfl
   |some x=>
    have:=List.all_eq_true.1 hq x (List.mem_of_getElem? hx)
    simp only[Option.getD_some]
    split at this
    ·rename_i e;exact e
    ·cases this
  unfold eE
  simp only[hz,jX,List.all_nil,Bool.and_self,Bool.or_true]
  simp
 ·rw[BW]at h
  unfold eE
  rw[List.all_eq_true]
  intro j hj
  rw[List.all_eq_true]
  intro i hi
  exact yB fp [] h j (Nat.zero_le _) (by simpa using hj) i (by simpa using hi)
theorem sQ:∀ (l:List Nat) (k c:Nat),c<=k->c<=uT l k c/\∀i x,l[i]? =some x->uT l k c<=k+i->x=2^(k+i) - 1
 |[],_,c,_=>⟨Nat.le_refl _,fun i x h=>by simp at h⟩
 |y::l,k,c,hc=>by
  simp only[uT]
  split
  ·rename_i he
   obtain⟨h1,h2⟩:=sQ l (k+1) c (by omega)
   refine⟨h1,fun i x hi hle=> ?_⟩
   cases i with
   |zero=>simp at hi;subst hi;simpa using Nat.eq_of_beq_eq_true he
   |succ i=>
    have:=h2 i x (by simpa using hi) (by omega)
    rw[this,show k+(i+1)=k+1+i by omega]
  ·obtain⟨h1,h2⟩:=sQ l (k+1) (k+1) (Nat.le_refl _)
   refine⟨by omega,fun i x hi hle=> ?_⟩
   cases i with
   |zero=>omega
   |succ i=>
    have:=h2 i x (by simpa using hi) (by omega)
    rw[this,show k+(i+1)=k+1+i by omega]
theorem uU:∀ (pr:List (List Nat)) (acc:List Nat),(eo pr acc).length=acc.length+pr.length
 |[],acc=>by simp[eo]
 |ps::l,acc=>by simp only[eo,uU l,List.length_append,List.length_cons,List.length_nil];omega
theorem F0(pr:List (List Nat)):Fm pr (pa pr)=true:=by
 refine List.all_eq_true.2 fun k hk=> ?_
 have hk:k<pr.length:=by simpa using hk
 by_cases h:k<pa pr
 ·simp[Nat.blt_eq.mpr h]
 ·have hl:k<(eo pr []).length:=by rw[uU];simpa using hk
  have:=(sQ (eo pr []) 0 0 (Nat.le_refl _)).2 k _ (List.getElem?_eq_getElem hl) (by rw[Nat.zero_add];exact Nat.le_of_not_lt h)
  rw[Nat.zero_add]at this
  rw[List.getD_eq_getElem?_getD,List.getElem?_eq_getElem hl,Option.getD_some,this]
  simp
theorem Ii(bc:P.follows .mixedOrders=true)(cF:∀g,(b9 g).Ok P g){rec:dF}(bG:eG P rec){l:List cf}{pr:List (List Nat)}{st st':St}{e:fq}(h:LO P b9 md rec l pr st=some (e,st')){Q:fq->S->Prop}(hQ:Q e st'.S):
 j7 P (AA pr (st.S.nx+l.length) Q) (yd pr l st.S Q) pr l st.S.nx st.S []:=by
 unfold LO at h
 split at h
 ·rename_i s1 fp hd
  split at h
  ·rename_i hf
   simp only[Nat.cZ,Option.some.injEq,Prod.mk.injEq]at h
   obtain⟨rfl,rfl⟩:=h
   exact mK bc cF bG (q:= .fin s1 fp) (K:=AA pr (st.S.nx+l.length) Q) (KP:=yd pr l st.S Q) (show AA pr (st.S.nx+l.length) Q s1.S fp from⟨wz hf,hQ⟩) l _ _ _ hd
  ·cases h
 ·rename_i v wl fp hd
  split at h
  ·rename_i hf
   simp only[Option.some.injEq,Prod.mk.injEq]at h
   obtain⟨rfl,rfl⟩:=h
   exact mK bc cF bG (q:= .bK v wl fp) (K:=AA pr (st.S.nx+l.length) Q) (KP:=yd pr l st.S Q) (show yd pr l st.S Q v wl fp from⟨wz hf,hQ⟩) l _ _ _ hd
  ·cases h
 ·cases h
theorem Ij(bc:P.follows .mixedOrders=true)(cF:∀g,(b9 g).Ok P g){rec:dF}(bG:eG P rec){n:Nat}{g:Operand}{ps:List Nat}{x y:IC}{st:St}{kt:Kt}{a:eB}(h:Ic P b9 rec n g ps x y st kt=some a){Q:fq->S->Prop}(hQ:∀e st',kt e st'=some a->Q e st'.S):
 xP P n (st.S.ev g) ps x y Q st.S:=by
 unfold Ic at h
 refine⟨(List.range n).map st.env.get,fun i=> ?_, ?_⟩
 ·unfold bB
  simp only[List.getD_eq_getElem?_getD,List.getElem?_map]
  by_cases hi:i<n
  ·right;rw[List.getElem?_range hi];rfl
  ·left;rw[List.getElem?_eq_none (by simp;omega)];rfl
 ·split at h
  ·rename_i f first cap hv
   simp only[hv]
   refine .inl ?_
   have key:=fun {K X} hr=>mH (K:=K) (X:=X) bc cF bG h hr
   simp only[Tr.iR]at key
   refine key fun r hr=> ?_
   unfold PB at hr
   cases r with
   |ret v o1 xa=>
    simp only at hr
    split at hr
    ·rename_i nf m e p c d SE pd ho
     have hl:SE≠ .busy:=by
      intro hb;subst hb;cases hr
     refine⟨nf,m,e,p,c,d,SE,pd,ho,hl, ?_⟩
     split at hr
     ·cases hr
     ·split at hr<;>(have h3:=hQ _ _ hr;simp only[vN];simp only[St.S,Tr.iR]at h3;exact h3)
    ·cases hr
   |bK v o1 xa=>exact hQ _ _ hr
  ·cases h
theorem bY.same {b:Nat}{s:S}(h:b<=s.nx):bY b s s:=fun _ φ _ _ h1 h2=>⟨φ,h1,h2,fun _ h=>h,h,fun _ _ hr=>⟨hr,rfl⟩,fun _ e' _ he=>⟨e',he,Nat.le_refl _,fun _=>rfl⟩⟩
theorem F1{x y:Option eB}{a:eB}(h:BX x y=some a):x=some a/\y=some a:=by
 unfold BX at h
 split at h
 ·rename_i r
  split at h
  ·rename_i r'
   split at h
   ·rename_i hs
    injection h with h;subst h
    rw[R.ee hs]
    exact⟨rfl,rfl⟩
   ·cases h
  ·cases h
 ·cases h
theorem LV(bc:P.follows .mixedOrders=true)(cF:∀g,(b9 g).Ok P g):∀k,∀j,j<=k->eG P (run P b9 md j):=by
 intro k
 induction k with
 |zero=>intro j hj b rd n ic st kt a h;obtain rfl:j=0:=by omega
        cases h
 |succ k ih=>
  intro j hj b rd n ic st kt a h Q hQ
  cases j with
  |zero=>cases h
  |succ j=>
   have bG:eG P (run P b9 md j):=ih j (by omega)
   rw[FZ]at h
   cases ic with
   |skip=>exact hQ _ _ h
   |exit id=>exact hQ _ _ h
   |ret=>exact hQ _ _ h
   |bad=>cases h
   |af l=>
    have h:wq P b9 md (run P b9 md j) (T4 kt) l st=some a:=h
    exact rm bc cF bG (K:=Q .normal) (X:=fun v s=>Q (.bK v) s) (fun r hr=>by
     cases r with
     |ok LJ=>exact hQ .normal _ hr
     |bK v LJ=>exact hQ (.bK v) _ hr) l _ h
   |cW l pr=>
    have h:LP l pr P b9 md (run P b9 md j) b rd n st kt=some a:=h
    unfold LP at h
    rw[Nat.cZ]at h
    split at h
    ·rename_i s1 fp hd
     split at h
     ·rename_i hf
      rw[Nat.cZ]at h
      split at h
      ·rename_i G6
       refine .inr ⟨pa pr,Nat.le_of_ble_eq_true G6,F0 pr, ?_⟩
       refine mK bc cF bG (q:= .fin s1 fp) (K:=fun s' fp=>eE pr fp=true/\nP P (fun v s=>Q (.bK v) s) (Q .normal) (l.drop (pa pr)) ⟨s'.env,s'.o,st.S.nx+pa pr⟩) (KP:=fun _ _ _=>False) (show _/\_ from⟨wz hf, ?_⟩) (l.take (pa pr)) _ _ _ hd
       exact rm bc cF bG (K:=Q .normal) (X:=fun v s=>Q (.bK v) s) (fun r hr=>by
        cases r with
        |ok LJ=>exact hQ .normal _ hr
        |bK v LJ=>exact hQ (.bK v) _ hr) (l.drop (pa pr)) ⟨s1.env,s1.o,st.nx+pa pr⟩ h
      ·cases h
     ·cases h
    ·split at h
     ·rename_i e s1 h1
      exact .inl (Ii bc cF bG h1 (hQ _ _ h))
     ·cases h
    ·cases h
   |seq x y=>
    have h:run P b9 md j b rd n x st (AO (run P b9 md j) b rd n y kt)=some a:=h
    simp only[rh]
    refine bG _ _ _ _ _ _ _ h _ fun e s1 he=> ?_
    unfold AO at he
    cases e with
    |normal=>exact bG _ _ _ _ _ _ _ he _ hQ
    |_=>exact hQ _ _ he
   |cond c x y=>
    have h:(match st.S.ev c with| .d (.bool true)=>run P b9 md j b rd n x st kt| .d (.bool false)=>run P b9 md j b rd n y st kt| .eY=>BX (run P b9 md j b rd n x st kt) (run P b9 md j b rd n y st kt)|_=>none)=some a:=h
    simp only[rh]
    split at h
    ·rename_i hv
     simp only[hv]
     exact(sd _ _).mpr (bG _ _ _ _ _ _ _ h _ hQ)
    ·rename_i hv
     simp only[hv]
     exact(qt _ _).mpr (bG _ _ _ _ _ _ _ h _ hQ)
    ·rename_i hv
     simp only[hv]
     obtain⟨h1,h2⟩:=F1 h
     exact⟨bG _ _ _ _ _ _ _ h1 _ hQ,bG _ _ _ _ _ _ _ h2 _ hQ⟩
    ·cases h
   |block id x=>
    have h:run P b9 md j b rd n x st (AP id kt)=some a:=h
    simp only[rh]
    refine bG _ _ _ _ _ _ _ h _ fun e s1 he=> ?_
    unfold AP at he
    cases e with
    |exit j'=>
     simp only at he
     split at he
     ·rename_i hb
      simp only[fk,Nat.eq_of_beq_eq_true hb,if_true];exact hQ _ _ he
     ·rename_i hb
      simp only[fk,Nat.ne_of_beq_eq_false hb,if_false];exact hQ _ _ he
    |_=>exact hQ _ _ he
   |loop x=>
    have Ua:∀m JQ,run P b9 md (m+1) b rd n (.loop x) JQ kt=some a->b<=JQ.nx/\run P b9 md m b rd n x JQ (AO (run P b9 md m) b rd n (.loop x) kt)=some a:=by
     intro m JQ h
     have h:(match Nat.ble b JQ.nx with|true=>run P b9 md m b rd n x JQ (AO (run P b9 md m) b rd n (.loop x) kt)|false=>none)=some a:=h
     split at h
     ·rename_i hb;exact⟨Nat.le_of_ble_eq_true hb,h⟩
     ·cases h
    have h:run P b9 md (j+1) b rd n (.loop x) st kt=some a:=h
    refine⟨fun m s=>m<=k+1/\∃st,s=st.S/\run P b9 md m b rd n (.loop x) st kt=some a,⟨j+1,st.S,bY.same (Ua j st h).1,hj,st,rfl,h⟩, ?_⟩
    rintro m s0 ⟨hm,JQ,rfl,h0⟩
    cases m with
    |zero=>cases h0
    |succ m=>
     have PE:eG P (run P b9 md m):=ih m (by omega)
     refine PE _ _ _ _ _ _ _ (Ua m JQ h0).2 _ fun e s1 he=> ?_
     unfold AO at he
     cases e with
     |normal=>
      refine⟨m,s1.S,Nat.lt_succ_self _,bY.same ?_,by omega,s1,rfl,he⟩
      cases m with
      |zero=>cases he
      |succ m=>exact(Ua m s1 he).1
     |_=>exact hQ _ _ he
   |Cz g ps x y=>
    cases rd with
    |true=>
     have h:(none:Option eB)=some a:=h
     cases h
    |false=>
     have h:Ic P b9 (run P b9 md j) n g ps x y st kt=some a:=h
     exact⟨rfl,Ij bc cF bG h hQ⟩
noncomputable def LW(P:Program)(b9:Nat->FD)(md:qY P)(k:Nat)(g:Nat)(ds:List D):Option R:=
 match FK P b9 (run P b9 md k) g (ds.map .d) (.e fun _=> .no) 0 yx with
 |some (.r x)=>some x
 |_=>none
theorem cq.LX (bc:P.follows .mixedOrders=true)(cF:∀g,(b9 g).Ok P g){k g:Nat}{ds:List D}{out:R}(h:LW P b9 md k g ds=some out):cq P g ds out:=by
 unfold LW at h
 split at h
 ·rename_i x hr;injection h with h;subst h;exact yy bc cF (LV bc cF k k (Nat.le_refl _)) hr
 ·cases h
end
end Go.Proofs.YtealblliddhgiaaGreat
namespace Go.Proofs.YtealblliddhgiaaGreat
def Tr.F2 {α:Type}(p:Nat->α->Prop):Tr α->(Nat->Nat)->Prop
 | .e g,f=>∀i,p (f i) (g i)
 | .n x l r,f=>p (f 0) x/\F2 p l (fun i=>f (2*i+1))/\F2 p r (fun i=>f (2*i+2))
theorem Tr.wA {α:Type}{p:Nat->α->Prop}:∀ {f:Nat->Nat} (t:Tr α),t.F2 p f->∀k,p (f k) (t.get k)
 |f, .e g,h,k=>h k
 |f, .n x l r,h,k=>by
  obtain⟨h1,h2,h3⟩:=h
  rw[Tr.sG]
  split
  ·rename_i e;subst e;exact h1
  ·split
   ·have:=Tr.wA l h2 (k/2)
    rwa [show 2*(k/2)+1=k by omega]at this
   ·have:=Tr.wA r h3 (k/2 - 1)
    rwa [show 2*(k/2 - 1)+2=k by omega]at this
end Go.Proofs.YtealblliddhgiaaGreat
namespace Go.Proofs.YtealblliddhgiaaGreat
@[reducible] def mv (d s:Nat):cf:=⟨some d, .move (.tmp s),none⟩
@[reducible] def zJ (d:Nat) (n:Int):cf:=⟨some d, .move (.const (.int .i64 n)),none⟩
@[reducible] def sg (d s:Nat):cf:=⟨some d, .assign (.tmp s),none⟩
@[reducible] def bV (d:Nat) (n:Int):cf:=⟨some d, .assign (.const (.int .i64 n)),none⟩
@[reducible] def br (d:Nat) (b:Bool):cf:=⟨some d, .assign (.const (.bool b)),none⟩
@[reducible] def ld (d t s:Nat):cf:=⟨some d, .load t (.tmp s),none⟩
@[reducible] def st (t a b:Nat):cf:=⟨none, .store t (.tmp a) (.tmp b),none⟩
@[reducible] def fa (d t s f:Nat):cf:=⟨some d, .fieldAddr t (.tmp s) f,none⟩
@[reducible] def ex (d s i:Nat):cf:=⟨some d, .extract (.tmp s) i,none⟩
@[reducible] def bH (d c a:Nat):cf:=⟨some d, .pick (.tmp c) (.tmp a) (.const (.bool false)),none⟩
@[reducible] def cH (d c a:Nat):cf:=⟨some d, .pick (.tmp c) (.const (.bool true)) (.tmp a),none⟩
@[reducible] def ia (d t x i:Nat):cf:=⟨some d, .indexAddr t (.tmp x) (.tmp i),none⟩
@[reducible] def bx (d t s:Nat):cf:=⟨some d, .box t (.tmp s),none⟩
@[reducible] def al (d t:Nat):cf:=⟨some d, .alloc t,none⟩
@[reducible] def ln (d s t:Nat):cf:=⟨some d, .call {callee:= .builtin .len,args:=#[.tmp s],argTypes:=#[t]},none⟩
@[reducible] def k0 (d f:Nat):cf:=⟨some d, .call {callee:= .value (.func f),args:=#[],argTypes:=#[]},none⟩
@[reducible] def k1 (d f a t:Nat):cf:=⟨some d, .call {callee:= .value (.func f),args:=#[.tmp a],argTypes:=#[t]},none⟩
@[reducible] def k2 (d f a b t u:Nat):cf:=⟨some d, .call {callee:= .value (.func f),args:=#[.tmp a, .tmp b],argTypes:=#[t,u]},none⟩
@[reducible] def k3 (d f a b c t u v:Nat):cf:=⟨some d, .call {callee:= .value (.func f),args:=#[.tmp a, .tmp b, .tmp c],argTypes:=#[t,u,v]},none⟩
@[reducible] def bo (op:BinOp) (d t x y u:Nat):cf:=⟨some d, .binOp op t (.tmp x) (.tmp y) u,none⟩
@[reducible] def bk (op:BinOp) (d t x:Nat) (n:Int) (u:Nat):cf:=⟨some d, .binOp op t (.tmp x) (.const (.int .i64 n)) u,none⟩
@[reducible] def nt (d t s:Nat):cf:=⟨some d, .unOp .not t (.tmp s),none⟩
@[reducible] def nc (d s:Nat):cf:=⟨some d, .nilCheck (.tmp s),none⟩
@[reducible] def gT (o:cf) (g:Nat):cf:=⟨o.dst,o.op,some (g,true)⟩
@[reducible] def gF (o:cf) (g:Nat):cf:=⟨o.dst,o.op,some (g,false)⟩
attribute [go_sem] mv zJ sg bV br ld st fa ex bH cH ia bx al ln k0 k1 k2 k3 bo bk nt nc gT gF
end Go.Proofs.YtealblliddhgiaaGreat
