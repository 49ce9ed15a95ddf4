/-
  A PART OF THE PROOF. Conditions: none.
-/
import Derived.Test.YtbmnikpknlkbkaaGreatEc10
set_option linter.unusedSimpArgs false
set_option linter.unusedVariables false
namespace Go.Proofs.YtbmnikpknlkbkaaGreat
mutual
def V.same:V->V->Bool
 | .d x, .d y=>x.same y
 | .aI, .aI=>true
 | .aE, .aE=>true
 | .agg a, .agg b=>V.dY a b
 | .ptr i o, .ptr j p=>Nat.beq i j&&Nat.beq o p
 | .osl i o, .osl j p=>Nat.beq i j&&Nat.beq o p
 | .jU a, .jU b=>D.dY a b
 | .iface t x, .iface u y=>Nat.beq t u&&x.same y
 | .mp i, .mp j=>Nat.beq i j
 |_,_=>false
def V.dY:List V->List V->Bool
 |[],[]=>true
 |a::bu,b::bs=>a.same b&&V.dY bu bs
 |_,_=>false
end
mutual
theorem V.cP:∀ (x y:V),x.same y=true->x=y
 | .d x,y,h=>by cases y<;>simp only[V.same,Bool.false_eq_true]at h;rw[D.cP _ _ h]
 | .aI,y,h=>by cases y<;>simp_all[V.same]
 | .aE,y,h=>by cases y<;>simp_all[V.same]
 | .agg a,y,h=>by cases y<;>simp only[V.same,Bool.false_eq_true]at h;rw[V.ct _ _ h]
 | .ptr i o,y,h=>by
   cases y<;>simp only[V.same,Bool.false_eq_true,Bool.and_eq_true]at h
   rw[Nat.eq_of_beq_eq_true h.1,Nat.eq_of_beq_eq_true h.2]
 | .osl i o,y,h=>by
   cases y<;>simp only[V.same,Bool.false_eq_true,Bool.and_eq_true]at h
   rw[Nat.eq_of_beq_eq_true h.1,Nat.eq_of_beq_eq_true h.2]
 | .jU a,y,h=>by cases y<;>simp only[V.same,Bool.false_eq_true]at h;rw[D.ct _ _ h]
 | .iface t x,y,h=>by
   cases y<;>simp only[V.same,Bool.false_eq_true,Bool.and_eq_true]at h
   rw[Nat.eq_of_beq_eq_true h.1,V.cP _ _ h.2]
 | .mp i,y,h=>by
   cases y<;>simp only[V.same,Bool.false_eq_true]at h
   rw[Nat.eq_of_beq_eq_true h]
 | .bJ _,y,h| .pe _ _ _ _ _,y,h| .pp _ _,y,h| .func _ _ _,y,h| .nm _ _ _,y,h| .dy,y,h| .js _,y,h=>by simp[V.same]at h
theorem V.ct:∀ (x y:List V),V.dY x y=true->x=y
 |[],y,h=>by cases y<;>simp_all[V.dY]
 |a::bu,y,h=>by
  cases y<;>simp only[V.dY,Bool.false_eq_true,Bool.and_eq_true]at h
  rw[V.cP _ _ h.1,V.ct _ _ h.2]
end
def oj:List (D×D)->List (D×D)->Bool
 |[],[]=>true
 |(a,b)::l,(c,d)::m=>a.same c&&(b.same d&&oj l m)
 |_,_=>false
theorem om:∀ (l m:List (D×D)),oj l m=true->l=m
 |[],m,h=>by cases m<;>simp_all[oj]
 |(a,b)::l,m,h=>by
  cases m with
  |nil=>simp[oj]at h
  |cons p m=>
   obtain⟨c,d⟩:=p
   simp only[oj,Bool.and_eq_true]at h
   rw[D.cP _ _ h.1,D.cP _ _ h.2.1,om l m h.2.2]
noncomputable def aa.same:aa->aa->Bool
 | .no, .no=>true
 | .row a, .row b=>V.dY a b
 | .arr e t s a, .arr f u r b=>Nat.beq e f&&Nat.beq t u&&Nat.beq s r&&D.dY a b
 | .ky e a, .ky f b=>Nat.beq e f&&D.dY a b
 | .map k v a, .map k' v' b=>Nat.beq k k'&&Nat.beq v v'&&oj a b
 | .dT a, .dT b=>oj a b
 | .oB a i, .oB b j=>a==b&&Nat.beq i j
 |_,_=>false
theorem aa.cP {x y:aa}(h:x.same y=true):x=y:=by
 cases x<;>cases y<;>simp only[aa.same,Bool.false_eq_true,Bool.and_eq_true]at h
 ·rfl
 ·rw[V.ct _ _ h]
 ·rw[Nat.eq_of_beq_eq_true h.1.1.1,Nat.eq_of_beq_eq_true h.1.1.2,Nat.eq_of_beq_eq_true h.1.2,D.ct _ _ h.2]
 ·rw[Nat.eq_of_beq_eq_true h.1,D.ct _ _ h.2]
 ·rw[Nat.eq_of_beq_eq_true h.1.1,Nat.eq_of_beq_eq_true h.1.2,om _ _ h.2]
 ·rw[om _ _ h]
 ·rw[eq_of_beq h.1,Nat.eq_of_beq_eq_true h.2]
noncomputable def reach(o:Nat->aa):Nat->List Nat->List Nat->List Nat
 |0,_,seen=>seen
 |_+1,[],seen=>seen
 |n+1,id::todo,seen=>match seen.contains id with
  |true=>reach o n todo seen
  |false=>reach o n ((o id).refs++todo) (id::seen)
noncomputable def dg(o o1:Nat->aa):List Nat->List (Nat×aa)
 |[]=>[]
 |id::l=>match(o id).same (o1 id)with
  |true=>dg o o1 l
  |false=>(id,o1 id)::dg o o1 l
theorem eV{o o1:Nat->aa}:∀ (l:List Nat) (x:Nat×aa),x∈dg o o1 l->x.1∈l/\x.2=o1 x.1
 |[],x,h=>by simp[dg]at h
 |id::l,x,h=>by
  simp only[dg]at h
  split at h
  ·obtain⟨h1,h2⟩:=eV l x h;exact⟨List.mem_cons_of_mem _ h1,h2⟩
  ·rcases List.mem_cons.1 h with rfl|h
   ·exact⟨by simp,rfl⟩
   ·obtain⟨h1,h2⟩:=eV l x h;exact⟨List.mem_cons_of_mem _ h1,h2⟩
theorem jn{o o1:Nat->aa}:∀ (l:List Nat) (id:Nat),id∈l->id∉(dg o o1 l).map (·.1)->o1 id=o id
 |[],id,h,_=>by simp at h
 |j::l,id,h,hn=>by
  simp only[dg]at hn
  split at hn
  ·rename_i hs
   rcases List.mem_cons.1 h with rfl|h
   ·exact(aa.cP hs).symm
   ·exact jn l id h hn
  ·simp only[List.map_cons,List.mem_cons,not_or]at hn
   rcases List.mem_cons.1 h with rfl|h
   ·exact absurd rfl hn.1
   ·exact jn l id h hn.2
theorem sP{o1:Nat->aa}:∀ (Δ:List (Nat×aa)) (o:Nat->aa),(∀x∈Δ,x.2=o1 x.1)->∀id,id∈Δ.map (·.1)\/o id=o1 id->put o Δ id=o1 id
 |[],o,_,id,h=>by rcases h with h|h;· simp at h
                  ·exact h
 |x::Δ,o,hv,id,h=>by
  simp only[put,List.foldl_cons]
  refine sP Δ (aV o x.1 x.2) (fun y hy=>hv y (List.mem_cons_of_mem _ hy)) id ?_
  simp only[List.map_cons,List.mem_cons]at h
  simp only[ax]
  by_cases e:id=x.1
  ·right;rw[if_pos e,hv x (by simp),e]
  ·rcases h with(h|h)|h
   ·exact absurd h e
   ·exact .inl h
   ·right;rw[if_neg e];exact h
theorem mG{o o1:Nat->aa}{l:List Nat}{id:Nat}(h:id∈l):o1 id=put o (dg o o1 l) id:=by
 by_cases hm:id∈(dg o o1 l).map (·.1)
 ·exact(sP _ o (fun x hx=>(eV l x hx).2) id (.inl hm)).symm
 ·rw[eh hm];exact jn l id h hm
inductive DR where
 |val (v:V) (Δ:List (Nat×aa)) (rd:List Nat)|ba (v:V) (ws rd:List Nat)
def DR.to (K:V->List (Nat×aa)->List Nat->Prop)(KX:V->List Nat->List Nat->Prop):DR->Prop
 | .val v Δ rd=>K v Δ rd
 | .ba v ws rd=>KX v ws rd
noncomputable def Gk(c:CR):Option cV:=some (.c c)
noncomputable def hX(P:Program)(bg:Nat->FD)(rec:cC)(g:Nat)(args:List V)(st:St):Option DR:=
 let rd:=reach st.o.get 2000 (V.az args) []
 match rd.all (fun id=>Nat.blt id st.nx&&(st.o.get id).refs.all rd.contains)&&(V.az args).all rd.contains with
 |true=>match ye P bg rec g args (.e (A9 rd st.o.get)) st.nx Gk with
  |some (.c (.ret v o1 _))=>match v with
   | .bJ [_]=>none
   |v=>match bt o1.get (oh v)with
    |some rs=>match(dg st.o.get o1.get rd).all (fun x=>x.2.refs.all rd.contains)&&(V.aP (oh v)).all (fun id=> !rd.contains id)with
     |true=>some (.val (gQ rs) (dg st.o.get o1.get rd) rd)
     |false=>none
    |none=>none
  |some (.c (.ba v o1 _))=>match dk o1.get v with
   |some x=>match(dg st.o.get o1.get rd).all (fun x=>x.2.refs.all rd.contains)&&v.ids.all (fun id=> !rd.contains id)with
    |true=>some (.ba (.d x) ((dg st.o.get o1.get rd).map (·.1)) rd)
    |false=>none
   |none=>none
  |_=>none
 |false=>none
noncomputable def HW(P:Program)(bg:Nat->FD)(md:lD P)(rec:cC)(g:Nat)(args:List V)(st:St)(rd:List Nat):Option DR:=
 match bt st.o.get args with
 |some ds=>match md.Gh g with
  |false=>match ye P bg rec g (ds.map .d) (.e fun _=> .no) 0 Gk with
   |some (.c (.ret v _ _))=>match v.refs with
    |[]=>some (.val v (b8 st.o.get (V.aP args)) rd)
    |_=>none
   |_=>none
  |true=>match Ad P bg md rec g ds with
   |some (.ret rs)=>match D.gq rs with
    |true=>some (.val (gQ rs) [] rd)
    |false=>some (.val (gQ rs) (b8 st.o.get (V.aP args)) rd)
   |some (.ba x)=>match x.flat with
    |true=>some (.ba (.d x) [] rd)
    |false=>none
   |none=>none
 |none=>hX P bg rec g args st
noncomputable def HX(P:Program)(st:St)(fr:Nat)(op:Op):Option DR:=
 match Ac op P st.S fr with
 |some (v,Δ,_)=>some (.val v Δ (ft st.S op))
 |none=>none
def V.Jz:V->Bool
 | .mp _=>true
 |_=>false
def Dg{P:Program}(md:lD P)(g:Nat)(args:List V):Bool:= !md.Gh g&&args.any V.Jz
def pP(args:List V):Option (List D):=
 match V.aP args with
 |[]=>bt (fun _=> .no) args
 |_=>none
noncomputable def Ag(P:Program)(t:TypeId)(c:CR):Option cV:=
 match c with
 | .ret v o1 _=>match v with
   | .osl j ep=>match o1.get j with
     | .arr eF ty sz es=>match Nat.beq eF ep with
       |true=>Gg (.ret [.sl es, .int .i64 (ty:Nat), .int .i64 (sz:Nat)]) fun x=>some (.r x)
       |false=>none
     |_=>none
   | .aI=>match aB P t with
     |some e=>match Nat.blt 0 (P.cellsOf e)with
      |true=>Gg (.ret [.sl [], .int .i64 (e:Nat), .int .i64 (P.cellsOf e:Nat)]) fun x=>some (.r x)
      |false=>none
     |none=>none
   |_=>none
 |_=>none
noncomputable def Dh(P:Program)(bg:Nat->FD)(rec:cC)(g:Nat)(t:TypeId)(args:List V)(st:St)(fr:Nat):Option DR:=
 match pP args with
 |some ds=>match ye P bg rec g (ds.map .d) (.e fun _=> .no) 0 (Ag P t)with
  |some (.r (.ret [.sl es, .int .i64 (.ofNat ty), .int .i64 (.ofNat sz)]))=>some (.val (.osl fr 0) [(fr, .arr 0 ty sz es)] [])
  |_=>none
 |none=>match bt st.o.get args with
  |some ds=>match ye P bg rec g (ds.map .d) (.e fun _=> .no) 0 (Ag P t)with
   |some (.r (.ret [.sl es, .int .i64 (.ofNat ty), .int .i64 (.ofNat sz)]))=>match D.gq es&&(V.aP args).all (fun id=>Nat.blt id st.nx)with
    |true=>some (.val (.osl fr 0) [(fr, .arr 0 ty sz es)] (V.aP args))
    |false=>none
   |_=>none
  |none=>none
noncomputable def Ah(P:Program)(bg:Nat->FD)(md:lD P)(rec:cC)(st:St)(fr:Nat)(op:Op):Option DR:=
 match op with
 | .call c=>match c.callee with
   | .value f=>match st.S.ev f with
     | .func (.func g) first cap=>match Dg md g (first++c.args.toList.map st.S.ev++cap)with
       |true=>hX P bg rec g (first++c.args.toList.map st.S.ev++cap) st
       |false=>match HW P bg md rec g (first++c.args.toList.map st.S.ev++cap) st (ft st.S (.call c))with
        |some r=>some r
        |none=>Dh P bg rec g (c.argTypes.getD 0 0) (first++c.args.toList.map st.S.ev++cap) st fr
     |_=>none
   |_=>HX P st fr (.call c)
 |op=>HX P st fr op
noncomputable def Gl(st:St):Option (Nat×Bool)->Option Bool
 |none=>some true
 |some (d,want)=>match st.env.get d with
  | .d (.bool b)=>some (b==want)
  | .bJ []=>some false
  |_=>none
noncomputable def oo(P:Program)(bg:Nat->FD)(md:lD P)(rec:cC)(pr:List (List Nat)):List bz->Nat->St->Fp->List Nat->List Nat->Option (List Nat×Fp)
 |[],_,_,fp,_,ws=>some (ws,fp)
 |o::l,fr,st,fp,bad,ws=>match(pr.getD fp.length []).any (fun j=>bad.contains j)with
  |true=>oo P bg md rec pr l (fr+1) ⟨mF st.env o.dst .aE,st.o,st.nx⟩ (fp++[([],[])]) (bad++[fp.length]) ws
  |false=>match Gl st o.gd with
   |some true=>match Ah P bg md rec st fr o.op with
    |some (.val v Δ rd)=>iE st.env o.dst v fun e=>og st.o Δ fun ob=>oo P bg md rec pr l (fr+1) ⟨e,ob,st.nx⟩ (fp++[(rd,Δ.map (·.1))]) bad (ws++Δ.map (·.1))
    |_=>none
   |some false=>oo P bg md rec pr l (fr+1) ⟨mF st.env o.dst (.bJ []),st.o,st.nx⟩ (fp++[([],[])]) bad ws
   |none=>none
inductive DQ where
 |fin (st:St) (fp:Fp)|ba (v:V) (wl:List Nat) (fp:Fp)
noncomputable def oq(P:Program)(bg:Nat->FD)(md:lD P)(rec:cC)(pr:List (List Nat)):List bz->Nat->St->Fp->Option DQ
 |[],_,st,fp=>some (.fin st fp)
 |o::l,fr,st,fp=>match Gl st o.gd with
  |some true=>match Ah P bg md rec st fr o.op with
   |some (.val v Δ rd)=>iE st.env o.dst v fun e=>og st.o Δ fun ob=>Nat.fc (fr+1) fun fr=>oq P bg md rec pr l fr ⟨e,ob,st.nx⟩ (fp++[(rd,Δ.map (·.1))])
   |some (.ba v ws rd)=>match oo P bg md rec pr l (fr+1) ⟨mF st.env o.dst .aE,st.o,st.nx⟩ (fp++[(rd,[])]) [fp.length] (ws++fp.flatMap (·.2))with
    |some (wl,fp)=>some (.ba v wl fp)
    |none=>none
   |none=>none
  |some false=>iE st.env o.dst (.bJ []) fun e=>Nat.fc (fr+1) fun fr=>oq P bg md rec pr l fr ⟨e,st.o,st.nx⟩ (fp++[([],[])])
  |none=>none
noncomputable def quiet(fp:Fp):Bool:=fp.all fun x=>match x.2 with|[]=>true|_=>false
noncomputable def qM(m:Nat)(x:List Nat×List Nat):Nat->Fp->Bool
 |_,[]=>true
 |i,y::l=>(match y.2,x.2 with
  |[],[]=>true
  |_,_=>m.testBit i||(iO y.2 x.1&&iO y.2 x.2&&iO x.2 y.1))&&qM m x (i+1) l
noncomputable def u7(ms:List Nat)(pre:Fp):Nat->Fp->Bool
 |_,[]=>true
 |j,x::l=>qM (ms.getD j 0) x 0 pre&&u7 ms (pre++[x]) (j+1) l
noncomputable def Gm{β:Type}:List Nat->(List Nat->β)->β
 |[],c=>c []
 |x::xs,c=>Nat.fc x fun x=>Gm xs fun xs=>c (x::xs)
theorem yo{β:Type}:∀ (x:List Nat) (c:List Nat->β),Gm x c=c x
 |[],c=>rfl
 |x::xs,c=>by simp only[Gm,Nat.bZ,yo xs]
noncomputable def Ai{β:Type}:Fp->(Fp->β)->β
 |[],c=>c []
 |(a,b)::l,c=>Gm a fun a=>Gm b fun b=>Ai l fun l=>c ((a,b)::l)
theorem u9{β:Type}:∀ (x:Fp) (c:Fp->β),Ai x c=c x
 |[],c=>rfl
 |(a,b)::l,c=>by simp only[Ai,yo,u9 l]
noncomputable def yp(pr:List (List Nat))(fp:Fp):Bool:=match quiet fp with|true=>true|false=>Ai fp fun fp=>u7 (dc pr []) [] 0 fp
theorem pQ{m:Nat}{x:List Nat×List Nat}:∀ (l:Fp) (i:Nat),qM m x i l=true->∀k,k<l.length->(m.testBit (i+k)||(iO (l.getD k ([],[])).2 x.1&&iO (l.getD k ([],[])).2 x.2&&iO x.2 (l.getD k ([],[])).1))=true
 |[],i,_,k,hk=>by simp at hk
 |y::l,i,h,k,hk=>by
  simp only[qM,Bool.and_eq_true]at h
  cases k with
  |zero=>
   have h1:=h.1
   simp only[List.getD_cons_zero,Nat.add_zero]
   split at h1
   ·rename_i e1 e2
    rw[e1,e2];simp[iO]
   ·exact h1
  |succ k=>
   have:=pQ l (i+1) h.2 k (by simpa using hk)
   rw[List.getD_cons_succ,show i+(k+1)=i+1+k by omega]
   exact this
theorem sQ{ms:List Nat}:∀ (l pre:Fp),u7 ms pre pre.length l=true->∀j,pre.length<=j->j<(pre++l).length->∀i,i<j->
 ((ms.getD j 0).testBit i||(iO ((pre++l).getD i ([],[])).2 ((pre++l).getD j ([],[])).1&&iO ((pre++l).getD i ([],[])).2 ((pre++l).getD j ([],[])).2&&iO ((pre++l).getD j ([],[])).2 ((pre++l).getD i ([],[])).1))=true
 |[],pre,_,j,h1,h2,i,_=>by simp at h2;omega
 |x::l,pre,h,j,h1,h2,i,hi=>by
  simp only[u7,Bool.and_eq_true]at h
  by_cases e:j=pre.length
  ·subst e
   have:=pQ pre 0 h.1 i hi
   have e1:(pre++x::l).getD pre.length ([],[])=x:=by simp[List.getD_eq_getElem?_getD]
   have e2:(pre++x::l).getD i ([],[])=pre.getD i ([],[]):=by simp[List.getD_eq_getElem?_getD,List.getElem?_append_left hi]
   rw[e1,e2]
   simpa using this
  ·have h3:=h.2
   have:=sQ l (pre++[x]) (by simpa using h3) j (by simp;omega) (by simpa using h2) i hi
   simpa using this
noncomputable def Di(P:Program)(bg:Nat->FD)(md:lD P)(rec:cC)(l:List bz)(pr:List (List Nat))(st:St):Option (eY×St):=
 match oq P bg md rec pr l st.nx st []with
 |some (.fin s1 fp)=>match yp pr fp with
  |true=>Nat.fc (st.nx+l.length) fun n=>some (.normal,⟨s1.env,s1.o,n⟩)
  |false=>none
 |some (.ba v wl fp)=>match yp pr fp with
  |true=>some (.ba v,⟨.e (nU (dstsOf l) wl l.length st.S).env, .e (nU (dstsOf l) wl l.length st.S).o,st.nx+l.length⟩)
  |false=>none
 |none=>none
noncomputable def Gn(id:Nat)(env:Tr V)(kt:Kt)(c:CR):Option cV:=
 match c with
 | .ret _ o1 ri=>match o1.get id with
   | .loop nf m e p c d HY pd=>match HY with
     | .busy=>none
     |_=>match pd with
      |none=>kt .normal ⟨env,o1.set id (.loop nf m e p c d .exhausted pd),ri⟩
      |some .ret=>kt .ret ⟨env,o1.set id (.loop nf m e p c d .exhausted pd),ri⟩
      |some (.exit j)=>kt (.exit j) ⟨env,o1.set id (.loop nf m e p c d .exhausted pd),ri⟩
   |_=>none
 | .ba v o1 ri=>kt (.ba v) ⟨env,o1,ri⟩
noncomputable def Aj(P:Program)(bg:Nat->FD)(rec:cC)(n:Nat)(g:Operand)(ps:List Nat)(x y:IC)(st:St)(kt:Kt):Option cV:=
 match st.S.ev g with
 | .func (.func f) first cap=>ye P bg rec f (first++[.js st.nx]++cap) (st.o.set st.nx (.loop P.funcs.size n ((List.range n).map st.env.get) ps x y .ready none)) (st.nx+1) (Gn st.nx st.env kt)
 |_=>none
abbrev jS:=(P:Program)->(Nat->FD)->lD P->cC->Nat->Bool->Nat->St->Kt->Option cV
noncomputable def JA(kt:Kt):RO->Option cV:=fun r=>match r with| .ok st=>kt .normal st| .ba v st=>kt (.ba v) st
noncomputable def JB(l:List bz):jS:=fun P bg md rec _ _ _ st kt=>qK P bg md rec (JA kt) l st
def pR:List Nat->Nat->Nat->Nat
 |[],_,c=>c
 |x::l,k,c=>match Nat.beq x (2^k - 1)with
  |true=>pR l (k+1) c
  |false=>pR l (k+1) (k+1)
def lE(pr:List (List Nat)):Nat:=pR (dc pr []) 0 0
noncomputable def Dj(l:List bz)(pr:List (List Nat)):jS:=fun P bg md rec _ _ _ st kt=>
 Nat.fc (lE pr) fun m=>match oq P bg md rec pr (l.take m) st.nx st []with
 |some (.fin s1 fp)=>match yp pr fp with
  |true=>Nat.fc (st.nx+m) fun n=>match Nat.ble m l.length with
   |true=>qK P bg md rec (JA kt) (l.drop m) ⟨s1.env,s1.o,n⟩
   |false=>none
  |false=>none
 |some (.ba _ _ _)=>match Di P bg md rec l pr st with
  |some (e,s1)=>kt e s1
  |none=>none
 |none=>none
noncomputable def uf(rec:cC)(b:Nat)(rd:Bool)(n:Nat)(y:IC)(kt:Kt):Kt:=fun e s1=>match e with| .normal=>rec b rd n y s1 kt|e=>kt e s1
noncomputable def JC(x y:IC):jS:=fun _ _ _ rec b rd n st kt=>rec b rd n x st (uf rec b rd n y kt)
noncomputable def va(a c:Option cV):Option cV:=
 match a with
 |some (.r x)=>match c with
  |some (.r y)=>match R.same x y with
   |true=>some (.r x)
   |false=>none
  |_=>none
 |_=>none
noncomputable def Gp(c:Operand)(x y:IC):jS:=fun _ _ _ rec b rd n st kt=>match st.S.ev c with
 | .d (.bool true)=>rec b rd n x st kt
 | .d (.bool false)=>rec b rd n y st kt
 | .dy=>va (rec b rd n x st kt) (rec b rd n y st kt)
 |_=>none
noncomputable def ug(id:Nat)(kt:Kt):Kt:=fun e s1=>match e with
 | .exit j=>match Nat.beq j id with
   |true=>kt .normal s1
   |false=>kt (.exit j) s1
 |e=>kt e s1
noncomputable def Dk(id:Nat)(x:IC):jS:=fun _ _ _ rec b rd n st kt=>rec b rd n x st (ug id kt)
noncomputable def Gq(x:IC):jS:=fun _ _ _ rec b rd n st kt=>match Nat.ble b st.nx with
 |true=>rec b rd n x st (uf rec b rd n (.loop x) kt)
 |false=>none
noncomputable def Dl(e:eY):jS:=fun _ _ _ _ _ _ _ st kt=>kt e st
noncomputable def JD:jS:=fun _ _ _ _ _ _ _ _ _=>none
noncomputable def JE(g:Operand)(ps:List Nat)(x y:IC):jS:=fun P bg _ rec _ rd n st kt=>match rd with
 |true=>none
 |false=>Aj P bg rec n g ps x y st kt
noncomputable def BH(ic:IC):jS:=
 match ic with
 | .skip=>Dl .normal
 | .ab l=>JB l
 | .dn l pr=>Dj l pr
 | .seq x y=>JC x y
 | .cond c x y=>Gp c x y
 | .block id x=>Dk id x
 | .loop x=>Gq x
 | .exit id=>Dl (.exit id)
 | .ret=>Dl .ret
 | .vl g ps x y=>JE g ps x y
 | .bad=>JD
noncomputable def run(P:Program)(bg:Nat->FD)(md:lD P)(k:Nat):cC:=
 Nat.rec (motive:=fun _=>cC) (fun _ _ _ _ _ _=>none) (fun _ rec b rd n ic st kt=>BH ic P bg md rec b rd n st kt) k
theorem yq{P:Program}{bg:Nat->FD}{md:lD P}{k:Nat}:run P bg md (k+1)=fun b rd n ic st kt=>BH ic P bg md (run P bg md k) b rd n st kt:=rfl
section
variable {P:Program}{bg:Nat->FD}{md:lD P}
theorem BI(aO:P.follows .mixedOrders=true)(bI:∀g,(bg g).Ok P g){rec:cC}(a7:db P rec){fr:Nat}{g:Nat}{args:List V}{st:St}{r:DR}(h:hX P bg rec g args st=some r){K:V->List (Nat×aa)->List Nat->Prop}{KX:V->List Nat->List Nat->Prop}(hr:r.to K KX):
 e7 P g args st.S.o st.S.nx fr K KX:=by
 unfold hX at h
 simp only at h
 generalize jw:reach st.o.get 2000 (V.az args) []=rd at h
 split at h
 ·rename_i hc
  simp only[Bool.and_eq_true,List.all_eq_true]at hc
  obtain⟨L5,ta⟩:=hc
  have a1:∀id∈rd,id<st.nx:=fun id ag=>Nat.le_of_ble_eq_true (L5 id ag).1
  have a2:∀id∈V.az args,id∈rd:=fun id ag=>by simpa using ta id ag
  have a3:∀id∈rd,∀j∈(st.o.get id).refs,j∈rd:=fun id ag j hj=>by simpa using(L5 id ag).2 j hj
  have a0:rd.all (fun id=>decide (id<st.S.nx))=true:=List.all_eq_true.2 fun id ag=>decide_eq_true (a1 id ag)
  have key:∀ {r:CR} {a:CR},Gk r=some (.c a)->r=a:=fun h=>by unfold Gk at h;injection h with h;injection h
  split at h
  ·rename_i v o1 ri hf
   split at h
   ·cases h
   ·rename_i v' mM
    split at h
    ·rename_i rs ER
     split at h
     ·rename_i Dm
      injection h with h;subst h
      simp only[Bool.and_eq_true,List.all_eq_true]at Dm
      refine⟨rd,_,a0, .inl ⟨rs,xz.kb a1 a2 a3 (fun x hx=>(eV rd x hx).1) (fun x hx j hj=>by simpa using Dm.1 x hx j hj) (jm aO bI a7 hf fun r p9=> ?_),hr⟩⟩
      rw[key p9]
      refine⟨fun id ag=>mG ag,oh v,rs, ?_,ER,rfl,fun id ag=>by simpa using Dm.2 id ag⟩
      cases v with
      |bJ vs=>
       match vs,mM with
       |[],_=>rfl
       |[x],hv=>exact absurd rfl (hv x)
       |_::_::_,_=>rfl
      |_=>rfl
     ·cases h
    ·cases h
  ·rename_i v o1 ri hf
   split at h
   ·rename_i x hx
    split at h
    ·rename_i Dm
     injection h with h;subst h
     simp only[Bool.and_eq_true,List.all_eq_true]at Dm
     refine⟨rd,dg st.o.get o1.get rd,a0, .inr (.inl ⟨x,xz.kb a1 a2 a3 (fun x hx=>(eV rd x hx).1) (fun x hx j hj=>by simpa using Dm.1 x hx j hj) (jm aO bI a7 hf fun r p9=> ?_),hr⟩)⟩
     rw[key p9]
     exact⟨fun id ag=>mG ag,x,hx,rfl,fun id ag=>by simpa using Dm.2 id ag⟩
    ·cases h
   ·cases h
  ·cases h
 ·cases h
theorem Dn(aO:P.follows .mixedOrders=true)(bI:∀g,(bg g).Ok P g){rec:cC}(a7:db P rec){g:Nat}{args:List V}{st:St}{rd:List Nat}{ds:List D}(dp:bt st.o.get args=some ds){r:DR}(h:HW P bg md rec g args st rd=some r)
 {K:V->List (Nat×aa)->List Nat->Prop} {KX:V->List Nat->List Nat->Prop} (hr:r.to K KX):
 mB P g ds (fun v=>K v (b8 st.S.o (V.aP args)) rd) (fun v=>K v [] rd) (fun v=>KX v [] rd):=by
 unfold HW at h
 simp only[dp]at h
 split at h
 ·split at h
  ·rename_i v o1 ri BJ
   split at h
   ·rename_i OZ
    injection h with h;subst h
    exact .inr (.inr ⟨v,Fb.kb OZ (jm aO bI a7 BJ fun r p9=>by unfold Gk at p9;injection p9 with p9;injection p9 with p9;rw[p9];exact rfl),hr⟩)
   ·cases h
  ·cases h
 ·split at h
  ·rename_i rs yn
   have hP:=qL aO bI a7 yn
   split at h
   ·rename_i hf
    injection h with h;subst h
    exact .inl ⟨rs,hP, .inr ⟨hf,hr⟩⟩
   ·injection h with h;subst h
    exact .inl ⟨rs,hP, .inl hr⟩
  ·rename_i x yn
   have hP:=qL aO bI a7 yn
   split at h
   ·rename_i hf
    injection h with h;subst h
    exact .inr (.inl ⟨x,hP,hf,hr⟩)
   ·cases h
  ·cases h
theorem vb{t ty:TypeId}{sz:Nat}{es:List D}{r:CR}(h:Ag P t r=some (.r (.ret [.sl es, .int .i64 (.ofNat ty), .int .i64 (.ofNat sz)]))):
 r.to (fun v o1 _=>(∃j ep,v= .osl j ep/\o1 j= .arr ep ty sz es)\/(v= .aI/\es=[]/\0<sz)) (fun _ _ _=>False):=by
 unfold Ag at h
 split at h
 ·rename_i v o1 n1
  split at h
  ·rename_i j ep
   split at h
   ·rename_i eF Jj jF es' ho
    split at h
    ·rename_i he
     have he:=Nat.eq_of_beq_eq_true he
     subst he
     rw[ue]at h
     simp only[Option.some.injEq,cV.r.injEq,R.ret.injEq,List.cons.injEq,D.sl.injEq,D.int.injEq,true_and,and_true]at h
     obtain⟨rfl,h2,h3⟩:=h
     have h2:Jj=ty:=Int.ofNat.inj h2
     have h3:jF=sz:=Int.ofNat.inj h3
     subst h2;subst h3
     exact .inl ⟨j,eF,rfl,ho⟩
    ·cases h
   ·cases h
  ·split at h
   ·rename_i e he
    split at h
    ·rename_i hp
     rw[ue]at h
     simp only[Option.some.injEq,cV.r.injEq,R.ret.injEq,List.cons.injEq,D.sl.injEq,D.int.injEq,true_and,and_true]at h
     obtain⟨rfl,h2,h3⟩:=h
     have h3:P.cellsOf e=sz:=Int.ofNat.inj h3
     subst h3
     exact .inr ⟨rfl,rfl,Nat.blt_eq.mp hp⟩
    ·cases h
   ·cases h
  ·cases h
 ·cases h
theorem Ak(aO:P.follows .mixedOrders=true)(bI:∀g,(bg g).Ok P g){rec:cC}(a7:db P rec){fr:Nat}{g:Nat}{t:TypeId}{args:List V}{st:St}{r:DR}(h:Dh P bg rec g t args st fr=some r){K:V->List (Nat×aa)->List Nat->Prop}{KX:V->List Nat->List Nat->Prop}(hr:r.to K KX):
 e7 P g args st.S.o st.S.nx fr K KX:=by
 unfold Dh at h
 split at h
 ·rename_i ds dp
  split at h
  ·rename_i es ty sz BJ
   injection h with h;subst h
   unfold pP at dp
   split at dp
   ·rename_i ag
    exact⟨[],_,by simp, .inr (.inr ⟨_,tO.Aa ag dp (tO.C0 (jm aO bI a7 BJ fun r p9=>vb p9)),hr⟩)⟩
   ·cases dp
  ·cases h
 ·split at h
  ·rename_i ds dp
   split at h
   ·rename_i es ty sz BJ
    split at h
    ·rename_i hc
     injection h with h;subst h
     simp only[Bool.and_eq_true]at hc
     refine⟨V.aP args,_, ?_, .inr (.inr ⟨_,tO.z9 dp hc.1 (jm aO bI a7 BJ fun r p9=>vb p9),hr⟩)⟩
     exact List.all_eq_true.2 fun id ag=>decide_eq_true (Nat.blt_eq.mp (List.all_eq_true.1 hc.2 id ag))
    ·cases h
   ·cases h
  ·cases h
theorem qO(aO:P.follows .mixedOrders=true)(bI:∀g,(bg g).Ok P g){rec:cC}(a7:db P rec){st:St}{fr:Nat}{o:bz}{r:DR}(h:Ah P bg md rec st fr o.op=some r){K:V->List (Nat×aa)->List Nat->Prop}{KX:V->List Nat->List Nat->Prop}(hr:r.to K KX):
 rj P st.S fr o K KX:=by
 have hs:HX P st fr o.op=some r->(match ei P st.S fr o.op with|some (v,Δ,_)=>K v Δ (ft st.S o.op)|none=>False):=by
  intro h
  unfold HX at h
  split at h
  ·rename_i v Δ rd he
   injection h with h;subst h
   simp only[u0 he]
   exact hr
  ·cases h
 unfold Ah at h
 unfold rj
 split at h
 ·rename_i c hc
  simp only[hc]
  split at h
  ·rename_i f hf
   simp only[hf]
   split at h
   ·rename_i g first cap hv
    simp only[hv]
    split at h
    ·have hh:=BI aO bI a7 h hr (fr:=fr)
     split
     ·exact .inr hh
     ·exact hh
    split at h
    ·rename_i r' BV
     injection h with h;subst h
     cases dp:bt st.S.o (first++List.map st.S.ev c.args.toList++cap)with
     |some ds=>exact .inl (Dn aO bI a7 dp BV hr)
     |none=>
      have De:bt st.o.get (first++List.map st.S.ev c.args.toList++cap)=none:=dp
      unfold HW at BV
      simp only[De]at BV
      exact BI aO bI a7 BV hr
    ·have hh:=Ak aO bI a7 (st:=st) h hr
     split
     ·exact .inr hh
     ·exact hh
   ·cases h
  ·rename_i cQ
   rw[<- hc]at h
   have:=hs h
   rw[hc]at this
   split
   ·rename_i f hf;exact absurd hf (cQ f)
   ·exact this
 ·rename_i hc
  have:=hs h
  split
  ·rename_i c hh;exact absurd hh (hc c)
  ·exact this
def HZ(s:S)(gd:Option (Nat×Bool))(A B:Prop):Prop:=
 match gd with
 |none=>A
 |some (d,want)=>match s.env d with
  | .d (.bool b)=>if b=want then A else B
  | .bJ []=>B
  |_=>False
theorem qP{st:St}{gd:Option (Nat×Bool)}{t:Bool}(h:Gl st gd=some t){A B:Prop}(hA:t=true->A)(hB:t=false->B):HZ st.S gd A B:=by
 cases gd with
 |none=>simp only[Gl,Option.some.injEq]at h;exact hA h.symm
 |some p=>
  obtain⟨d,want⟩:=p
  have he:st.S.env d=st.env.get d:=rfl
  simp only[Gl]at h
  simp only[HZ,he]
  split at h
  ·rename_i b hb
   injection h with h
   by_cases e:b=want
   ·rw[if_pos e];exact hA (by rw[<- h,e];simp)
   ·rw[if_neg e];exact hB (by rw[<- h];simpa using e)
  ·rename_i hb
   injection h with h
   exact hB h.symm
  ·cases h
theorem Al{P:Program}{KB:List Nat->Fp->Prop}{pr:List (List Nat)}{o:bz}{l:List bz}{fr:Nat}{s:S}{fp:Fp}{bad ws:List Nat}(hb:(pr.getD fp.length []).any (fun j=>bad.contains j)=false)
 (h:HZ s o.gd (rj P s fr o (fun v Δ rd=>eN P KB pr l (fr+1) ⟨aJ s.env o.dst v,put s.o Δ,s.nx⟩ (fp++[(rd,Δ.map (·.1))]) bad (ws++Δ.map (·.1))) (fun _ _ _=>False)) (eN P KB pr l (fr+1) ⟨aJ s.env o.dst (.bJ []),s.o,s.nx⟩ (fp++[([],[])]) bad ws)):
 eN P KB pr (o::l) fr s fp bad ws:=by
 simp only[eN]
 rw[if_neg (by rw[hb];simp)]
 cases hg:o.gd with
 |none=>rw[hg]at h;exact h
 |some p=>obtain⟨d,want⟩:=p;rw[hg]at h;exact h
theorem Am{P:Program}{K:S->Fp->Prop}{KP:V->List Nat->Fp->Prop}{pr:List (List Nat)}{o:bz}{l:List bz}{fr:Nat}{s:S}{fp:Fp}
 (h:HZ s o.gd (rj P s fr o (fun v Δ rd=>gC P K KP pr l (fr+1) ⟨aJ s.env o.dst v,put s.o Δ,s.nx⟩ (fp++[(rd,Δ.map (·.1))]))
  (fun v ws rd=>eN P (KP v) pr l (fr+1) ⟨aJ s.env o.dst .aE,s.o,s.nx⟩ (fp++[(rd,[])]) [fp.length] (ws++fp.flatMap (·.2)))) (gC P K KP pr l (fr+1) ⟨aJ s.env o.dst (.bJ []),s.o,s.nx⟩ (fp++[([],[])]))):
 gC P K KP pr (o::l) fr s fp:=by
 simp only[gC]
 cases hg:o.gd with
 |none=>rw[hg]at h;exact h
 |some p=>obtain⟨d,want⟩:=p;rw[hg]at h;exact h
theorem lF(aO:P.follows .mixedOrders=true)(bI:∀g,(bg g).Ok P g){rec:cC}(a7:db P rec){pr:List (List Nat)}{wl:List Nat}{JF:Fp}{KB:List Nat->Fp->Prop}(hK:KB wl JF):
 ∀ (l:List bz) (fr:Nat) (st:St) (fp:Fp) (bad ws:List Nat),oo P bg md rec pr l fr st fp bad ws=some (wl,JF)->eN P KB pr l fr st.S fp bad ws
 |[],fr,st,fp,bad,ws,h=>by
  simp only[oo,Option.some.injEq,Prod.mk.injEq]at h
  obtain⟨rfl,rfl⟩:=h;exact hK
 |o::l,fr,st,fp,bad,ws,h=>by
  simp only[oo,fB,jl]at h
  split at h
  ·rename_i hb
   simp only[eN]
   rw[if_pos hb]
   have:=lF aO bI a7 hK l _ _ _ _ _ h
   simp only[St.S,cZ]at this
   exact this
  ·rename_i hb
   refine Al hb ?_
   split at h
   ·rename_i hg
    refine qP hg (fun _=> ?_) (fun h=>by cases h)
    split at h
    ·rename_i v Δ rd cw
     refine qO aO bI a7 cw ?_
     have:=lF aO bI a7 hK l _ _ _ _ _ h
     simp only[St.S,cZ,fP]at this
     exact this
    ·cases h
   ·rename_i hg
    refine qP hg (fun h=>by cases h) (fun _=> ?_)
    have:=lF aO bI a7 hK l _ _ _ _ _ h
    simp only[St.S,cZ]at this
    exact this
   ·cases h
def DQ.to (K:S->Fp->Prop)(KP:V->List Nat->Fp->Prop):DQ->Prop
 | .fin st fp=>K st.S fp
 | .ba v wl fp=>KP v wl fp
theorem jo(aO:P.follows .mixedOrders=true)(bI:∀g,(bg g).Ok P g){rec:cC}(a7:db P rec){pr:List (List Nat)}{q:DQ}{K:S->Fp->Prop}{KP:V->List Nat->Fp->Prop}(hq:q.to K KP):
 ∀ (l:List bz) (fr:Nat) (st:St) (fp:Fp),oq P bg md rec pr l fr st fp=some q->gC P K KP pr l fr st.S fp
 |[],fr,st,fp,h=>by
  simp only[oq,Option.some.injEq]at h
  subst h;exact hq
 |o::l,fr,st,fp,h=>by
  simp only[oq,fB,jl,Nat.bZ]at h
  refine Am ?_
  split at h
  ·rename_i hg
   refine qP hg (fun _=> ?_) (fun h=>by cases h)
   split at h
   ·rename_i v Δ rd cw
    refine qO aO bI a7 cw ?_
    have:=jo aO bI a7 hq l _ _ _ h
    simp only[St.S,cZ,fP]at this
    exact this
   ·rename_i v ws rd cw
    split at h
    ·rename_i wl JF hb
     injection h with h;subst h
     refine qO aO bI a7 cw ?_
     have:=lF aO bI a7 (KB:=KP v) hq l _ _ _ _ _ hb
     simp only[St.S,cZ]at this
     exact this
    ·cases h
   ·cases h
  ·rename_i hg
   refine qP hg (fun h=>by cases h) (fun _=> ?_)
   have:=jo aO bI a7 hq l _ _ _ h
   simp only[St.S,cZ]at this
   exact this
  ·cases h
theorem qQ{pr:List (List Nat)}{fp:Fp}(h:yp pr fp=true):fC pr fp=true:=by
 unfold yp at h
 split at h
 ·rename_i hq
  unfold quiet at hq
  have hz:∀i,(fp.getD i ([],[])).2=[]:=by
   intro i
   rw[List.getD_eq_getElem?_getD]
   cases hx:fp[i]? with
   |none=>rfl
   |some x=>
    have:=List.all_eq_true.1 hq x (List.mem_of_getElem? hx)
    simp only[Option.getD_some]
    split at this
    ·rename_i e;exact e
    ·cases this
  unfold fC
  simp only[hz,iO,List.all_nil,Bool.and_self,Bool.or_true]
  simp
 ·rw[u9]at h
  unfold fC
  rw[List.all_eq_true]
  intro j hj
  rw[List.all_eq_true]
  intro i hi
  exact sQ fp [] h j (Nat.zero_le _) (by simpa using hj) i (by simpa using hi)
theorem ot:∀ (l:List Nat) (k c:Nat),c<=k->c<=pR l k c/\∀i x,l[i]? =some x->pR l k c<=k+i->x=2^(k+i) - 1
 |[],_,c,_=>⟨Nat.le_refl _,fun i x h=>by simp at h⟩
 |y::l,k,c,hc=>by
  simp only[pR]
  split
  ·rename_i he
   obtain⟨h1,h2⟩:=ot l (k+1) c (by omega)
   refine⟨h1,fun i x hi hle=> ?_⟩
   cases i with
   |zero=>simp at hi;subst hi;simpa using Nat.eq_of_beq_eq_true he
   |succ i=>
    have:=h2 i x (by simpa using hi) (by omega)
    rw[this,show k+(i+1)=k+1+i by omega]
  ·obtain⟨h1,h2⟩:=ot l (k+1) (k+1) (Nat.le_refl _)
   refine⟨by omega,fun i x hi hle=> ?_⟩
   cases i with
   |zero=>omega
   |succ i=>
    have:=h2 i x (by simpa using hi) (by omega)
    rw[this,show k+(i+1)=k+1+i by omega]
theorem pT:∀ (pr:List (List Nat)) (acc:List Nat),(dc pr acc).length=acc.length+pr.length
 |[],acc=>by simp[dc]
 |ps::l,acc=>by simp only[dc,pT l,List.length_append,List.length_cons,List.length_nil];omega
theorem yr(pr:List (List Nat)):xG pr (lE pr)=true:=by
 refine List.all_eq_true.2 fun k hk=> ?_
 have hk:k<pr.length:=by simpa using hk
 by_cases h:k<lE pr
 ·simp[Nat.blt_eq.mpr h]
 ·have hl:k<(dc pr []).length:=by rw[pT];simpa using hk
  have:=(ot (dc pr []) 0 0 (Nat.le_refl _)).2 k _ (List.getElem?_eq_getElem hl) (by rw[Nat.zero_add];exact Nat.le_of_not_lt h)
  rw[Nat.zero_add]at this
  rw[List.getD_eq_getElem?_getD,List.getElem?_eq_getElem hl,Option.getD_some,this]
  simp
theorem An(aO:P.follows .mixedOrders=true)(bI:∀g,(bg g).Ok P g){rec:cC}(a7:db P rec){l:List bz}{pr:List (List Nat)}{st st':St}{e:eY}(h:Di P bg md rec l pr st=some (e,st')){Q:eY->S->Prop}(hQ:Q e st'.S):
 gC P (tW pr (st.S.nx+l.length) Q) (ss pr l st.S Q) pr l st.S.nx st.S []:=by
 unfold Di at h
 split at h
 ·rename_i s1 fp hd
  split at h
  ·rename_i hf
   simp only[Nat.bZ,Option.some.injEq,Prod.mk.injEq]at h
   obtain⟨rfl,rfl⟩:=h
   exact jo aO bI a7 (q:= .fin s1 fp) (K:=tW pr (st.S.nx+l.length) Q) (KP:=ss pr l st.S Q) (show tW pr (st.S.nx+l.length) Q s1.S fp from⟨qQ hf,hQ⟩) l _ _ _ hd
  ·cases h
 ·rename_i v wl fp hd
  split at h
  ·rename_i hf
   simp only[Option.some.injEq,Prod.mk.injEq]at h
   obtain⟨rfl,rfl⟩:=h
   exact jo aO bI a7 (q:= .ba v wl fp) (K:=tW pr (st.S.nx+l.length) Q) (KP:=ss pr l st.S Q) (show ss pr l st.S Q v wl fp from⟨qQ hf,hQ⟩) l _ _ _ hd
  ·cases h
 ·cases h
theorem Ao(aO:P.follows .mixedOrders=true)(bI:∀g,(bg g).Ok P g){rec:cC}(a7:db P rec){n:Nat}{g:Operand}{ps:List Nat}{x y:IC}{st:St}{kt:Kt}{a:cV}(h:Aj P bg rec n g ps x y st kt=some a){Q:eY->S->Prop}(hQ:∀e st',kt e st'=some a->Q e st'.S):
 tF P n (st.S.ev g) ps x y Q st.S:=by
 unfold Aj at h
 refine⟨(List.range n).map st.env.get,fun i=> ?_, ?_⟩
 ·unfold bU
  simp only[List.getD_eq_getElem?_getD,List.getElem?_map]
  by_cases hi:i<n
  ·right;rw[List.getElem?_range hi];rfl
  ·left;rw[List.getElem?_eq_none (by simp;omega)];rfl
 ·split at h
  ·rename_i f first cap hv
   simp only[hv]
   refine .inl ?_
   have key:=fun {K X} hr=>jm (K:=K) (X:=X) aO bI a7 h hr
   simp only[Tr.eQ]at key
   refine key fun r hr=> ?_
   unfold Gn at hr
   cases r with
   |ret v o1 ri=>
    simp only at hr
    split at hr
    ·rename_i nf m e p c d HY pd ho
     have hl:HY≠ .busy:=by
      intro hb;subst hb;cases hr
     refine⟨nf,m,e,p,c,d,HY,pd,ho,hl, ?_⟩
     split at hr
     ·cases hr
     ·split at hr<;>(have h3:=hQ _ _ hr;simp only[B4];simp only[St.S,Tr.eQ]at h3;exact h3)
    ·cases hr
   |ba v o1 ri=>exact hQ _ _ hr
  ·cases h
theorem dv.same {b:Nat}{s:S}(h:b<=s.nx):dv b s s:=fun _ φ _ _ h1 h2=>⟨φ,h1,h2,fun _ h=>h,h,fun _ _ hr=>⟨hr,rfl⟩,fun _ e' _ he=>⟨e',he,Nat.le_refl _,fun _=>rfl⟩⟩
theorem yu{x y:Option cV}{a:cV}(h:va x y=some a):x=some a/\y=some a:=by
 unfold va at h
 split at h
 ·rename_i r
  split at h
  ·rename_i r'
   split at h
   ·rename_i hs
    injection h with h;subst h
    rw[R.cP hs]
    exact⟨rfl,rfl⟩
   ·cases h
  ·cases h
 ·cases h
theorem Dp(aO:P.follows .mixedOrders=true)(bI:∀g,(bg g).Ok P g):∀k,∀j,j<=k->db P (run P bg md j):=by
 intro k
 induction k with
 |zero=>intro j hj b rd n ic st kt a h;obtain rfl:j=0:=by omega
        cases h
 |succ k ih=>
  intro j hj b rd n ic st kt a h Q hQ
  cases j with
  |zero=>cases h
  |succ j=>
   have a7:db P (run P bg md j):=ih j (by omega)
   rw[yq]at h
   cases ic with
   |skip=>exact hQ _ _ h
   |exit id=>exact hQ _ _ h
   |ret=>exact hQ _ _ h
   |bad=>cases h
   |ab l=>
    have h:qK P bg md (run P bg md j) (JA kt) l st=some a:=h
    exact nh aO bI a7 (K:=Q .normal) (X:=fun v s=>Q (.ba v) s) (fun r hr=>by
     cases r with
     |ok Df=>exact hQ .normal _ hr
     |ba v Df=>exact hQ (.ba v) _ hr) l _ h
   |dn l pr=>
    have h:Dj l pr P bg md (run P bg md j) b rd n st kt=some a:=h
    unfold Dj at h
    rw[Nat.bZ]at h
    split at h
    ·rename_i s1 fp hd
     split at h
     ·rename_i hf
      rw[Nat.bZ]at h
      split at h
      ·rename_i zo
       refine .inr ⟨lE pr,Nat.le_of_ble_eq_true zo,yr pr, ?_⟩
       refine jo aO bI a7 (q:= .fin s1 fp) (K:=fun s' fp=>fC pr fp=true/\kf P (fun v s=>Q (.ba v) s) (Q .normal) (l.drop (lE pr)) ⟨s'.env,s'.o,st.S.nx+lE pr⟩) (KP:=fun _ _ _=>False) (show _/\_ from⟨qQ hf, ?_⟩) (l.take (lE pr)) _ _ _ hd
       exact nh aO bI a7 (K:=Q .normal) (X:=fun v s=>Q (.ba v) s) (fun r hr=>by
        cases r with
        |ok Df=>exact hQ .normal _ hr
        |ba v Df=>exact hQ (.ba v) _ hr) (l.drop (lE pr)) ⟨s1.env,s1.o,st.nx+lE pr⟩ h
      ·cases h
     ·cases h
    ·split at h
     ·rename_i e s1 h1
      exact .inl (An aO bI a7 h1 (hQ _ _ h))
     ·cases h
    ·cases h
   |seq x y=>
    have h:run P bg md j b rd n x st (uf (run P bg md j) b rd n y kt)=some a:=h
    simp only[m9]
    refine a7 _ _ _ _ _ _ _ h _ fun e s1 he=> ?_
    unfold uf at he
    cases e with
    |normal=>exact a7 _ _ _ _ _ _ _ he _ hQ
    |_=>exact hQ _ _ he
   |cond c x y=>
    have h:(match st.S.ev c with| .d (.bool true)=>run P bg md j b rd n x st kt| .d (.bool false)=>run P bg md j b rd n y st kt| .dy=>va (run P bg md j b rd n x st kt) (run P bg md j b rd n y st kt)|_=>none)=some a:=h
    simp only[m9]
    split at h
    ·rename_i hv
     simp only[hv]
     exact(nS _ _).mpr (a7 _ _ _ _ _ _ _ h _ hQ)
    ·rename_i hv
     simp only[hv]
     exact(mu _ _).mpr (a7 _ _ _ _ _ _ _ h _ hQ)
    ·rename_i hv
     simp only[hv]
     obtain⟨h1,h2⟩:=yu h
     exact⟨a7 _ _ _ _ _ _ _ h1 _ hQ,a7 _ _ _ _ _ _ _ h2 _ hQ⟩
    ·cases h
   |block id x=>
    have h:run P bg md j b rd n x st (ug id kt)=some a:=h
    simp only[m9]
    refine a7 _ _ _ _ _ _ _ h _ fun e s1 he=> ?_
    unfold ug at he
    cases e with
    |exit j'=>
     simp only at he
     split at he
     ·rename_i hb
      simp only[dG,Nat.eq_of_beq_eq_true hb,if_true];exact hQ _ _ he
     ·rename_i hb
      simp only[dG,Nat.ne_of_beq_eq_false hb,if_false];exact hQ _ _ he
    |_=>exact hQ _ _ he
   |loop x=>
    have JG:∀m BK,run P bg md (m+1) b rd n (.loop x) BK kt=some a->b<=BK.nx/\run P bg md m b rd n x BK (uf (run P bg md m) b rd n (.loop x) kt)=some a:=by
     intro m BK h
     have h:(match Nat.ble b BK.nx with|true=>run P bg md m b rd n x BK (uf (run P bg md m) b rd n (.loop x) kt)|false=>none)=some a:=h
     split at h
     ·rename_i hb;exact⟨Nat.le_of_ble_eq_true hb,h⟩
     ·cases h
    have h:run P bg md (j+1) b rd n (.loop x) st kt=some a:=h
    refine⟨fun m s=>m<=k+1/\∃st,s=st.S/\run P bg md m b rd n (.loop x) st kt=some a,⟨j+1,st.S,dv.same (JG j st h).1,hj,st,rfl,h⟩, ?_⟩
    rintro m s0 ⟨hm,BK,rfl,h0⟩
    cases m with
    |zero=>cases h0
    |succ m=>
     have Gs:db P (run P bg md m):=ih m (by omega)
     refine Gs _ _ _ _ _ _ _ (JG m BK h0).2 _ fun e s1 he=> ?_
     unfold uf at he
     cases e with
     |normal=>
      refine⟨m,s1.S,Nat.lt_succ_self _,dv.same ?_,by omega,s1,rfl,he⟩
      cases m with
      |zero=>cases he
      |succ m=>exact(JG m s1 he).1
     |_=>exact hQ _ _ he
   |vl g ps x y=>
    cases rd with
    |true=>
     have h:(none:Option cV)=some a:=h
     cases h
    |false=>
     have h:Aj P bg (run P bg md j) n g ps x y st kt=some a:=h
     exact⟨rfl,Ao aO bI a7 h hQ⟩
noncomputable def jK(P:Program)(bg:Nat->FD)(md:lD P)(k:Nat)(g:Nat)(ds:List D):Option R:=
 match ye P bg (run P bg md k) g (ds.map .d) (.e fun _=> .no) 0 sM with
 |some (.r x)=>some x
 |_=>none
theorem cR.eD (aO:P.follows .mixedOrders=true)(bI:∀g,(bg g).Ok P g){k g:Nat}{ds:List D}{out:R}(h:jK P bg md k g ds=some out):cR P g ds out:=by
 unfold jK at h
 split at h
 ·rename_i x hr;injection h with h;subst h;exact sN aO bI (Dp aO bI k k (Nat.le_refl _)) hr
 ·cases h
end
end Go.Proofs.YtbmnikpknlkbkaaGreat
namespace Go.Proofs.YtbmnikpknlkbkaaGreat
def Tr.yw {α:Type}(p:Nat->α->Prop):Tr α->(Nat->Nat)->Prop
 | .e g,f=>∀i,p (f i) (g i)
 | .n x l r,f=>p (f 0) x/\yw p l (fun i=>f (2*i+1))/\yw p r (fun i=>f (2*i+2))
theorem Tr.qR {α:Type}{p:Nat->α->Prop}:∀ {f:Nat->Nat} (t:Tr α),t.yw p f->∀k,p (f k) (t.get k)
 |f, .e g,h,k=>h k
 |f, .n x l r,h,k=>by
  obtain⟨h1,h2,h3⟩:=h
  rw[Tr.n9]
  split
  ·rename_i e;subst e;exact h1
  ·split
   ·have:=Tr.qR l h2 (k/2)
    rwa [show 2*(k/2)+1=k by omega]at this
   ·have:=Tr.qR r h3 (k/2 - 1)
    rwa [show 2*(k/2 - 1)+2=k by omega]at this
end Go.Proofs.YtbmnikpknlkbkaaGreat
namespace Go.Proofs.YtbmnikpknlkbkaaGreat
@[reducible] def mv (d s:Nat):bz:=⟨some d, .move (.tmp s),none⟩
@[reducible] def iL (d:Nat) (n:Int):bz:=⟨some d, .move (.const (.int .i64 n)),none⟩
@[reducible] def sg (d s:Nat):bz:=⟨some d, .assign (.tmp s),none⟩
@[reducible] def dw (d:Nat) (n:Int):bz:=⟨some d, .assign (.const (.int .i64 n)),none⟩
@[reducible] def bP (d:Nat) (b:Bool):bz:=⟨some d, .assign (.const (.bool b)),none⟩
@[reducible] def ld (d t s:Nat):bz:=⟨some d, .load t (.tmp s),none⟩
@[reducible] def st (t a b:Nat):bz:=⟨none, .store t (.tmp a) (.tmp b),none⟩
@[reducible] def fa (d t s f:Nat):bz:=⟨some d, .fieldAddr t (.tmp s) f,none⟩
@[reducible] def ex (d s i:Nat):bz:=⟨some d, .extract (.tmp s) i,none⟩
@[reducible] def dR (d c a:Nat):bz:=⟨some d, .pick (.tmp c) (.tmp a) (.const (.bool false)),none⟩
@[reducible] def eG (d c a:Nat):bz:=⟨some d, .pick (.tmp c) (.const (.bool true)) (.tmp a),none⟩
@[reducible] def ia (d t x i:Nat):bz:=⟨some d, .indexAddr t (.tmp x) (.tmp i),none⟩
@[reducible] def bx (d t s:Nat):bz:=⟨some d, .box t (.tmp s),none⟩
@[reducible] def al (d t:Nat):bz:=⟨some d, .alloc t,none⟩
@[reducible] def ln (d s t:Nat):bz:=⟨some d, .call {callee:= .builtin .len,args:=#[.tmp s],argTypes:=#[t]},none⟩
@[reducible] def k0 (d f:Nat):bz:=⟨some d, .call {callee:= .value (.func f),args:=#[],argTypes:=#[]},none⟩
@[reducible] def k1 (d f a t:Nat):bz:=⟨some d, .call {callee:= .value (.func f),args:=#[.tmp a],argTypes:=#[t]},none⟩
@[reducible] def k2 (d f a b t u:Nat):bz:=⟨some d, .call {callee:= .value (.func f),args:=#[.tmp a, .tmp b],argTypes:=#[t,u]},none⟩
@[reducible] def k3 (d f a b c t u v:Nat):bz:=⟨some d, .call {callee:= .value (.func f),args:=#[.tmp a, .tmp b, .tmp c],argTypes:=#[t,u,v]},none⟩
@[reducible] def bo (op:BinOp) (d t x y u:Nat):bz:=⟨some d, .binOp op t (.tmp x) (.tmp y) u,none⟩
@[reducible] def bk (op:BinOp) (d t x:Nat) (n:Int) (u:Nat):bz:=⟨some d, .binOp op t (.tmp x) (.const (.int .i64 n)) u,none⟩
@[reducible] def nt (d t s:Nat):bz:=⟨some d, .unOp .not t (.tmp s),none⟩
@[reducible] def nc (d s:Nat):bz:=⟨some d, .nilCheck (.tmp s),none⟩
@[reducible] def gT (o:bz) (g:Nat):bz:=⟨o.dst,o.op,some (g,true)⟩
@[reducible] def gF (o:bz) (g:Nat):bz:=⟨o.dst,o.op,some (g,false)⟩
attribute [go_sem] mv iL sg dw bP ld st fa ex dR eG ia bx al ln k0 k1 k2 k3 bo bk nt nc gT gF
end Go.Proofs.YtbmnikpknlkbkaaGreat
