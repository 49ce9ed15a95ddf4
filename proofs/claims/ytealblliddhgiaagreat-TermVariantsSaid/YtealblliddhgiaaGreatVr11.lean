/-
  A PART OF THE PROOF. Conditions: none.
-/
import Derived.Test.YtealblliddhgiaaGreatVr10
set_option linter.unusedSimpArgs false
set_option linter.unusedVariables false
namespace Go.Proofs.YtealblliddhgiaaGreat
mutual
def V.same:V->V->Bool
 | .d x, .d y=>x.same y
 | .aX, .aX=>true
 | .aa, .aa=>true
 | .agg a, .agg b=>V.fE a b
 | .ptr i o, .ptr j p=>Nat.beq i j&&Nat.beq o p
 | .osl i o, .osl j p=>Nat.beq i j&&Nat.beq o p
 | .nr a, .nr b=>D.fE a b
 | .iface t x, .iface u y=>Nat.beq t u&&x.same y
 | .mp i, .mp j=>Nat.beq i j
 |_,_=>false
def V.fE:List V->List V->Bool
 |[],[]=>true
 |a::bY,b::bs=>a.same b&&V.fE bY bs
 |_,_=>false
end
mutual
theorem V.dS:∀ (x y:V),x.same y=true->x=y
 | .d x,y,h=>by cases y<;>simp only[V.same,Bool.false_eq_true]at h;rw[D.dS _ _ h]
 | .aX,y,h=>by cases y<;>simp_all[V.same]
 | .aa,y,h=>by cases y<;>simp_all[V.same]
 | .agg a,y,h=>by cases y<;>simp only[V.same,Bool.false_eq_true]at h;rw[V.dq _ _ h]
 | .ptr i o,y,h=>by
   cases y<;>simp only[V.same,Bool.false_eq_true,Bool.and_eq_true]at h
   rw[Nat.eq_of_beq_eq_true h.1,Nat.eq_of_beq_eq_true h.2]
 | .osl i o,y,h=>by
   cases y<;>simp only[V.same,Bool.false_eq_true,Bool.and_eq_true]at h
   rw[Nat.eq_of_beq_eq_true h.1,Nat.eq_of_beq_eq_true h.2]
 | .nr a,y,h=>by cases y<;>simp only[V.same,Bool.false_eq_true]at h;rw[D.dq _ _ h]
 | .iface t x,y,h=>by
   cases y<;>simp only[V.same,Bool.false_eq_true,Bool.and_eq_true]at h
   rw[Nat.eq_of_beq_eq_true h.1,V.dS _ _ h.2]
 | .mp i,y,h=>by
   cases y<;>simp only[V.same,Bool.false_eq_true]at h
   rw[Nat.eq_of_beq_eq_true h]
 | .bT _,y,h| .pe _ _ _ _ _,y,h| .pp _ _,y,h| .func _ _ _,y,h| .rk _ _ _,y,h| .eO,y,h| .ke _,y,h=>by simp[V.same]at h
theorem V.dq:∀ (x y:List V),V.fE x y=true->x=y
 |[],y,h=>by cases y<;>simp_all[V.fE]
 |a::bY,y,h=>by
  cases y<;>simp only[V.fE,Bool.false_eq_true,Bool.and_eq_true]at h
  rw[V.dS _ _ h.1,V.dq _ _ h.2]
end
def sD:List (D×D)->List (D×D)->Bool
 |[],[]=>true
 |(a,b)::l,(c,d)::m=>a.same c&&(b.same d&&sD l m)
 |_,_=>false
theorem sE:∀ (l m:List (D×D)),sD l m=true->l=m
 |[],m,h=>by cases m<;>simp_all[sD]
 |(a,b)::l,m,h=>by
  cases m with
  |nil=>simp[sD]at h
  |cons p m=>
   obtain⟨c,d⟩:=p
   simp only[sD,Bool.and_eq_true]at h
   rw[D.dS _ _ h.1,D.dS _ _ h.2.1,sE l m h.2.2]
noncomputable def ae.same:ae->ae->Bool
 | .no, .no=>true
 | .row a, .row b=>V.fE a b
 | .arr e t s a, .arr f u r b=>Nat.beq e f&&Nat.beq t u&&Nat.beq s r&&D.fE a b
 | .nW e a, .nW f b=>Nat.beq e f&&D.fE a b
 | .map k v a, .map k' v' b=>Nat.beq k k'&&Nat.beq v v'&&sD a b
 | .dZ a, .dZ b=>sD a b
 | .rl a i, .rl b j=>a==b&&Nat.beq i j
 |_,_=>false
theorem ae.dS {x y:ae}(h:x.same y=true):x=y:=by
 cases x<;>cases y<;>simp only[ae.same,Bool.false_eq_true,Bool.and_eq_true]at h
 ·rfl
 ·rw[V.dq _ _ h]
 ·rw[Nat.eq_of_beq_eq_true h.1.1.1,Nat.eq_of_beq_eq_true h.1.1.2,Nat.eq_of_beq_eq_true h.1.2,D.dq _ _ h.2]
 ·rw[Nat.eq_of_beq_eq_true h.1,D.dq _ _ h.2]
 ·rw[Nat.eq_of_beq_eq_true h.1.1,Nat.eq_of_beq_eq_true h.1.2,sE _ _ h.2]
 ·rw[sE _ _ h]
 ·rw[eq_of_beq h.1,Nat.eq_of_beq_eq_true h.2]
noncomputable def reach(o:Nat->ae):Nat->List Nat->List Nat->List Nat
 |0,_,seen=>seen
 |_+1,[],seen=>seen
 |n+1,id::todo,seen=>match seen.contains id with
  |true=>reach o n todo seen
  |false=>reach o n ((o id).refs++todo) (id::seen)
noncomputable def eA(o o1:Nat->ae):List Nat->List (Nat×ae)
 |[]=>[]
 |id::l=>match(o id).same (o1 id)with
  |true=>eA o o1 l
  |false=>(id,o1 id)::eA o o1 l
theorem hU{o o1:Nat->ae}:∀ (l:List Nat) (x:Nat×ae),x∈eA o o1 l->x.1∈l/\x.2=o1 x.1
 |[],x,h=>by simp[eA]at h
 |id::l,x,h=>by
  simp only[eA]at h
  split at h
  ·obtain⟨h1,h2⟩:=hU l x h;exact⟨List.mem_cons_of_mem _ h1,h2⟩
  ·rcases List.mem_cons.1 h with rfl|h
   ·exact⟨by simp,rfl⟩
   ·obtain⟨h1,h2⟩:=hU l x h;exact⟨List.mem_cons_of_mem _ h1,h2⟩
theorem mz{o o1:Nat->ae}:∀ (l:List Nat) (id:Nat),id∈l->id∉(eA o o1 l).map (·.1)->o1 id=o id
 |[],id,h,_=>by simp at h
 |j::l,id,h,hn=>by
  simp only[eA]at hn
  split at hn
  ·rename_i hs
   rcases List.mem_cons.1 h with rfl|h
   ·exact(ae.dS hs).symm
   ·exact mz l id h hn
  ·simp only[List.map_cons,List.mem_cons,not_or]at hn
   rcases List.mem_cons.1 h with rfl|h
   ·exact absurd rfl hn.1
   ·exact mz l id h hn.2
theorem yg{o1:Nat->ae}:∀ (Δ:List (Nat×ae)) (o:Nat->ae),(∀x∈Δ,x.2=o1 x.1)->∀id,id∈Δ.map (·.1)\/o id=o1 id->put o Δ id=o1 id
 |[],o,_,id,h=>by rcases h with h|h;· simp at h
                  ·exact h
 |x::Δ,o,hv,id,h=>by
  simp only[put,List.foldl_cons]
  refine yg Δ (ao o x.1 x.2) (fun y hy=>hv y (List.mem_cons_of_mem _ hy)) id ?_
  simp only[List.map_cons,List.mem_cons]at h
  simp only[aL]
  by_cases e:id=x.1
  ·right;rw[if_pos e,hv x (by simp),e]
  ·rcases h with(h|h)|h
   ·exact absurd h e
   ·exact .inl h
   ·right;rw[if_neg e];exact h
theorem qt{o o1:Nat->ae}{l:List Nat}{id:Nat}(h:id∈l):o1 id=put o (eA o o1 l) id:=by
 by_cases hm:id∈(eA o o1 l).map (·.1)
 ·exact(yg _ o (fun x hx=>(hU l x hx).2) id (.inl hm)).symm
 ·rw[fN hm];exact mz l id h hm
inductive DR where
 |val (v:V) (Δ:List (Nat×ae)) (rd:List Nat)|bK (v:V) (ws rd:List Nat)
def DR.to (K:V->List (Nat×ae)->List Nat->Prop)(KX:V->List Nat->List Nat->Prop):DR->Prop
 | .val v Δ rd=>K v Δ rd
 | .bK v ws rd=>KX v ws rd
noncomputable def OK(c:CR):Option eh:=some (.c c)
noncomputable def hX(P:Program)(bX:Nat->FD)(rec:dy)(g:Nat)(args:List V)(st:St):Option DR:=
 let rd:=reach st.o.get 2000 (V.ag args) []
 match rd.all (fun id=>Nat.blt id st.nx&&(st.o.get id).refs.all rd.contains)&&(V.ag args).all rd.contains with
 |true=>match E6 P bX rec g args (.e (zT rd st.o.get)) st.nx OK with
  |some (.c (.ret v o1 _))=>match v with
   | .bT [_]=>none
   |v=>match bU o1.get (sB v)with
    |some rs=>match(eA st.o.get o1.get rd).all (fun x=>x.2.refs.all rd.contains)&&(V.a8 (sB v)).all (fun id=> !rd.contains id)with
     |true=>some (.val (iD rs) (eA st.o.get o1.get rd) rd)
     |false=>none
    |none=>none
  |some (.c (.bK v o1 _))=>match dz o1.get v with
   |some x=>match(eA st.o.get o1.get rd).all (fun x=>x.2.refs.all rd.contains)&&v.ids.all (fun id=> !rd.contains id)with
    |true=>some (.bK (.d x) ((eA st.o.get o1.get rd).map (·.1)) rd)
    |false=>none
   |none=>none
  |_=>none
 |false=>none
noncomputable def RM(P:Program)(bX:Nat->FD)(md:qO P)(rec:dy)(g:Nat)(args:List V)(st:St)(rd:List Nat):Option DR:=
 match bU st.o.get args with
 |some ds=>match md.OG g with
  |false=>match E6 P bX rec g (ds.map .d) (.e fun _=> .no) 0 OK with
   |some (.c (.ret v _ _))=>match v.refs with
    |[]=>some (.val v (ck st.o.get (V.a8 args)) rd)
    |_=>none
   |_=>none
  |true=>match Hm P bX md rec g ds with
   |some (.ret rs)=>match D.jg rs with
    |true=>some (.val (iD rs) [] rd)
    |false=>some (.val (iD rs) (ck st.o.get (V.a8 args)) rd)
   |some (.bK x)=>match x.flat with
    |true=>some (.bK (.d x) [] rd)
    |false=>none
   |none=>none
 |none=>hX P bX rec g args st
noncomputable def RN(P:Program)(st:St)(fr:Nat)(op:Op):Option DR:=
 match Hl op P st.S fr with
 |some (v,Δ,_)=>some (.val v Δ (iR st.S op))
 |none=>none
def V.Tk:V->Bool
 | .mp _=>true
 |_=>false
def K6{P:Program}(md:qO P)(g:Nat)(args:List V):Bool:= !md.OG g&&args.any V.Tk
def uM(args:List V):Option (List D):=
 match V.a8 args with
 |[]=>bU (fun _=> .no) args
 |_=>none
noncomputable def Hs(P:Program)(t:TypeId)(c:CR):Option eh:=
 match c with
 | .ret v o1 _=>match v with
   | .osl j ep=>match o1.get j with
     | .arr gz ty sz es=>match Nat.beq gz ep with
       |true=>OE (.ret [.sl es, .int .i64 (ty:Nat), .int .i64 (sz:Nat)]) fun x=>some (.r x)
       |false=>none
     |_=>none
   | .aX=>match aT P t with
     |some e=>match Nat.blt 0 (P.cellsOf e)with
      |true=>OE (.ret [.sl [], .int .i64 (e:Nat), .int .i64 (P.cellsOf e:Nat)]) fun x=>some (.r x)
      |false=>none
     |none=>none
   |_=>none
 |_=>none
noncomputable def K7(P:Program)(bX:Nat->FD)(rec:dy)(g:Nat)(t:TypeId)(args:List V)(st:St)(fr:Nat):Option DR:=
 match uM args with
 |some ds=>match E6 P bX rec g (ds.map .d) (.e fun _=> .no) 0 (Hs P t)with
  |some (.r (.ret [.sl es, .int .i64 (.ofNat ty), .int .i64 (.ofNat sz)]))=>some (.val (.osl fr 0) [(fr, .arr 0 ty sz es)] [])
  |_=>none
 |none=>match bU st.o.get args with
  |some ds=>match E6 P bX rec g (ds.map .d) (.e fun _=> .no) 0 (Hs P t)with
   |some (.r (.ret [.sl es, .int .i64 (.ofNat ty), .int .i64 (.ofNat sz)]))=>match D.jg es&&(V.a8 args).all (fun id=>Nat.blt id st.nx)with
    |true=>some (.val (.osl fr 0) [(fr, .arr 0 ty sz es)] (V.a8 args))
    |false=>none
   |_=>none
  |none=>none
noncomputable def Ht(P:Program)(bX:Nat->FD)(md:qO P)(rec:dy)(st:St)(fr:Nat)(op:Op):Option DR:=
 match op with
 | .call c=>match c.callee with
   | .value f=>match st.S.ev f with
     | .func (.func g) first cap=>match K6 md g (first++c.args.toList.map st.S.ev++cap)with
       |true=>hX P bX rec g (first++c.args.toList.map st.S.ev++cap) st
       |false=>match RM P bX md rec g (first++c.args.toList.map st.S.ev++cap) st (iR st.S (.call c))with
        |some r=>some r
        |none=>K7 P bX rec g (c.argTypes.getD 0 0) (first++c.args.toList.map st.S.ev++cap) st fr
     |_=>none
   |_=>RN P st fr (.call c)
 |op=>RN P st fr op
noncomputable def OL(st:St):Option (Nat×Bool)->Option Bool
 |none=>some true
 |some (d,want)=>match st.env.get d with
  | .d (.bool b)=>some (b==want)
  | .bT []=>some false
  |_=>none
noncomputable def sF(P:Program)(bX:Nat->FD)(md:qO P)(rec:dy)(pr:List (List Nat)):List b7->Nat->St->Fp->List Nat->List Nat->Option (List Nat×Fp)
 |[],_,_,fp,_,ws=>some (ws,fp)
 |o::l,fr,st,fp,bad,ws=>match(pr.getD fp.length []).any (fun j=>bad.contains j)with
  |true=>sF P bX md rec pr l (fr+1) ⟨qs st.env o.dst .aa,st.o,st.nx⟩ (fp++[([],[])]) (bad++[fp.length]) ws
  |false=>match OL st o.gd with
   |some true=>match Ht P bX md rec st fr o.op with
    |some (.val v Δ rd)=>lr st.env o.dst v fun e=>sA st.o Δ fun ob=>sF P bX md rec pr l (fr+1) ⟨e,ob,st.nx⟩ (fp++[(rd,Δ.map (·.1))]) bad (ws++Δ.map (·.1))
    |_=>none
   |some false=>sF P bX md rec pr l (fr+1) ⟨qs st.env o.dst (.bT []),st.o,st.nx⟩ (fp++[([],[])]) bad ws
   |none=>none
inductive DQ where
 |fin (st:St) (fp:Fp)|bK (v:V) (wl:List Nat) (fp:Fp)
noncomputable def sG(P:Program)(bX:Nat->FD)(md:qO P)(rec:dy)(pr:List (List Nat)):List b7->Nat->St->Fp->Option DQ
 |[],_,st,fp=>some (.fin st fp)
 |o::l,fr,st,fp=>match OL st o.gd with
  |some true=>match Ht P bX md rec st fr o.op with
   |some (.val v Δ rd)=>lr st.env o.dst v fun e=>sA st.o Δ fun ob=>Nat.fc (fr+1) fun fr=>sG P bX md rec pr l fr ⟨e,ob,st.nx⟩ (fp++[(rd,Δ.map (·.1))])
   |some (.bK v ws rd)=>match sF P bX md rec pr l (fr+1) ⟨qs st.env o.dst .aa,st.o,st.nx⟩ (fp++[(rd,[])]) [fp.length] (ws++fp.flatMap (·.2))with
    |some (wl,fp)=>some (.bK v wl fp)
    |none=>none
   |none=>none
  |some false=>lr st.env o.dst (.bT []) fun e=>Nat.fc (fr+1) fun fr=>sG P bX md rec pr l fr ⟨e,st.o,st.nx⟩ (fp++[([],[])])
  |none=>none
noncomputable def quiet(fp:Fp):Bool:=fp.all fun x=>match x.2 with|[]=>true|_=>false
noncomputable def v8(m:Nat)(x:List Nat×List Nat):Nat->Fp->Bool
 |_,[]=>true
 |i,y::l=>(match y.2,x.2 with
  |[],[]=>true
  |_,_=>m.testBit i||(jR y.2 x.1&&jR y.2 x.2&&jR x.2 y.1))&&v8 m x (i+1) l
noncomputable def Bw(ms:List Nat)(pre:Fp):Nat->Fp->Bool
 |_,[]=>true
 |j,x::l=>v8 (ms.getD j 0) x 0 pre&&Bw ms (pre++[x]) (j+1) l
noncomputable def OM{β:Type}:List Nat->(List Nat->β)->β
 |[],c=>c []
 |x::xs,c=>Nat.fc x fun x=>OM xs fun xs=>c (x::xs)
theorem Fi{β:Type}:∀ (x:List Nat) (c:List Nat->β),OM x c=c x
 |[],c=>rfl
 |x::xs,c=>by simp only[OM,Nat.cS,Fi xs]
noncomputable def Hu{β:Type}:Fp->(Fp->β)->β
 |[],c=>c []
 |(a,b)::l,c=>OM a fun a=>OM b fun b=>Hu l fun l=>c ((a,b)::l)
theorem Bx{β:Type}:∀ (x:Fp) (c:Fp->β),Hu x c=c x
 |[],c=>rfl
 |(a,b)::l,c=>by simp only[Hu,Fi,Bx l]
noncomputable def Fj(pr:List (List Nat))(fp:Fp):Bool:=match quiet fp with|true=>true|false=>Hu fp fun fp=>Bw (dY pr []) [] 0 fp
theorem uN{m:Nat}{x:List Nat×List Nat}:∀ (l:Fp) (i:Nat),v8 m x i l=true->∀k,k<l.length->(m.testBit (i+k)||(jR (l.getD k ([],[])).2 x.1&&jR (l.getD k ([],[])).2 x.2&&jR x.2 (l.getD k ([],[])).1))=true
 |[],i,_,k,hk=>by simp at hk
 |y::l,i,h,k,hk=>by
  simp only[v8,Bool.and_eq_true]at h
  cases k with
  |zero=>
   have h1:=h.1
   simp only[List.getD_cons_zero,Nat.add_zero]
   split at h1
   ·rename_i e1 e2
    rw[e1,e2];simp[jR]
   ·exact h1
  |succ k=>
   have:=uN l (i+1) h.2 k (by simpa using hk)
   rw[List.getD_cons_succ,show i+(k+1)=i+1+k by omega]
   exact this
theorem yh{ms:List Nat}:∀ (l pre:Fp),Bw ms pre pre.length l=true->∀j,pre.length<=j->j<(pre++l).length->∀i,i<j->
 ((ms.getD j 0).testBit i||(jR ((pre++l).getD i ([],[])).2 ((pre++l).getD j ([],[])).1&&jR ((pre++l).getD i ([],[])).2 ((pre++l).getD j ([],[])).2&&jR ((pre++l).getD j ([],[])).2 ((pre++l).getD i ([],[])).1))=true
 |[],pre,_,j,h1,h2,i,_=>by simp at h2;omega
 |x::l,pre,h,j,h1,h2,i,hi=>by
  simp only[Bw,Bool.and_eq_true]at h
  by_cases e:j=pre.length
  ·subst e
   have:=uN pre 0 h.1 i hi
   have e1:(pre++x::l).getD pre.length ([],[])=x:=by simp[List.getD_eq_getElem?_getD]
   have e2:(pre++x::l).getD i ([],[])=pre.getD i ([],[]):=by simp[List.getD_eq_getElem?_getD,List.getElem?_append_left hi]
   rw[e1,e2]
   simpa using this
  ·have h3:=h.2
   have:=yh l (pre++[x]) (by simpa using h3) j (by simp;omega) (by simpa using h2) i hi
   simpa using this
noncomputable def K8(P:Program)(bX:Nat->FD)(md:qO P)(rec:dy)(l:List b7)(pr:List (List Nat))(st:St):Option (e9×St):=
 match sG P bX md rec pr l st.nx st []with
 |some (.fin s1 fp)=>match Fj pr fp with
  |true=>Nat.fc (st.nx+l.length) fun n=>some (.normal,⟨s1.env,s1.o,n⟩)
  |false=>none
 |some (.bK v wl fp)=>match Fj pr fp with
  |true=>some (.bK v,⟨.e (rV (dstsOf l) wl l.length st.S).env, .e (rV (dstsOf l) wl l.length st.S).o,st.nx+l.length⟩)
  |false=>none
 |none=>none
noncomputable def ON(id:Nat)(env:Tr V)(kt:Kt)(c:CR):Option eh:=
 match c with
 | .ret _ o1 wM=>match o1.get id with
   | .loop nf m e p c d RP pd=>match RP with
     | .busy=>none
     |_=>match pd with
      |none=>kt .normal ⟨env,o1.set id (.loop nf m e p c d .exhausted pd),wM⟩
      |some .ret=>kt .ret ⟨env,o1.set id (.loop nf m e p c d .exhausted pd),wM⟩
      |some (.exit j)=>kt (.exit j) ⟨env,o1.set id (.loop nf m e p c d .exhausted pd),wM⟩
   |_=>none
 | .bK v o1 wM=>kt (.bK v) ⟨env,o1,wM⟩
noncomputable def Hv(P:Program)(bX:Nat->FD)(rec:dy)(n:Nat)(g:Operand)(ps:List Nat)(x y:IC)(st:St)(kt:Kt):Option eh:=
 match st.S.ev g with
 | .func (.func f) first cap=>E6 P bX rec f (first++[.ke st.nx]++cap) (st.o.set st.nx (.loop P.funcs.size n ((List.range n).map st.env.get) ps x y .ready none)) (st.nx+1) (ON st.nx st.env kt)
 |_=>none
abbrev nk:=(P:Program)->(Nat->FD)->qO P->dy->Nat->Bool->Nat->St->Kt->Option eh
noncomputable def Tl(kt:Kt):RO->Option eh:=fun r=>match r with| .ok st=>kt .normal st| .bK v st=>kt (.bK v) st
noncomputable def Tn(l:List b7):nk:=fun P bX md rec _ _ _ st kt=>vZ P bX md rec (Tl kt) l st
def uO:List Nat->Nat->Nat->Nat
 |[],_,c=>c
 |x::l,k,c=>match Nat.beq x (2^k - 1)with
  |true=>uO l (k+1) c
  |false=>uO l (k+1) (k+1)
def oU(pr:List (List Nat)):Nat:=uO (dY pr []) 0 0
noncomputable def K9(l:List b7)(pr:List (List Nat)):nk:=fun P bX md rec _ _ _ st kt=>
 Nat.fc (oU pr) fun m=>match sG P bX md rec pr (l.take m) st.nx st []with
 |some (.fin s1 fp)=>match Fj pr fp with
  |true=>Nat.fc (st.nx+m) fun n=>match Nat.ble m l.length with
   |true=>vZ P bX md rec (Tl kt) (l.drop m) ⟨s1.env,s1.o,n⟩
   |false=>none
  |false=>none
 |some (.bK _ _ _)=>match K8 P bX md rec l pr st with
  |some (e,s1)=>kt e s1
  |none=>none
 |none=>none
noncomputable def An(rec:dy)(b:Nat)(rd:Bool)(n:Nat)(y:IC)(kt:Kt):Kt:=fun e s1=>match e with| .normal=>rec b rd n y s1 kt|e=>kt e s1
noncomputable def To(x y:IC):nk:=fun _ _ _ rec b rd n st kt=>rec b rd n x st (An rec b rd n y kt)
noncomputable def Bz(a c:Option eh):Option eh:=
 match a with
 |some (.r x)=>match c with
  |some (.r y)=>match R.same x y with
   |true=>some (.r x)
   |false=>none
  |_=>none
 |_=>none
noncomputable def OO(c:Operand)(x y:IC):nk:=fun _ _ _ rec b rd n st kt=>match st.S.ev c with
 | .d (.bool true)=>rec b rd n x st kt
 | .d (.bool false)=>rec b rd n y st kt
 | .eO=>Bz (rec b rd n x st kt) (rec b rd n y st kt)
 |_=>none
noncomputable def Ao(id:Nat)(kt:Kt):Kt:=fun e s1=>match e with
 | .exit j=>match Nat.beq j id with
   |true=>kt .normal s1
   |false=>kt (.exit j) s1
 |e=>kt e s1
noncomputable def La(id:Nat)(x:IC):nk:=fun _ _ _ rec b rd n st kt=>rec b rd n x st (Ao id kt)
noncomputable def OP(x:IC):nk:=fun _ _ _ rec b rd n st kt=>match Nat.ble b st.nx with
 |true=>rec b rd n x st (An rec b rd n (.loop x) kt)
 |false=>none
noncomputable def Lb(e:e9):nk:=fun _ _ _ _ _ _ _ st kt=>kt e st
noncomputable def Tp:nk:=fun _ _ _ _ _ _ _ _ _=>none
noncomputable def Tq(g:Operand)(ps:List Nat)(x y:IC):nk:=fun P bX _ rec _ rd n st kt=>match rd with
 |true=>none
 |false=>Hv P bX rec n g ps x y st kt
noncomputable def Jc(ic:IC):nk:=
 match ic with
 | .skip=>Lb .normal
 | .af l=>Tn l
 | .cO l pr=>K9 l pr
 | .seq x y=>To x y
 | .cond c x y=>OO c x y
 | .block id x=>La id x
 | .loop x=>OP x
 | .exit id=>Lb (.exit id)
 | .ret=>Lb .ret
 | .B4 g ps x y=>Tq g ps x y
 | .bad=>Tp
noncomputable def run(P:Program)(bX:Nat->FD)(md:qO P)(k:Nat):dy:=
 Nat.rec (motive:=fun _=>dy) (fun _ _ _ _ _ _=>none) (fun _ rec b rd n ic st kt=>Jc ic P bX md rec b rd n st kt) k
theorem Fk{P:Program}{bX:Nat->FD}{md:qO P}{k:Nat}:run P bX md (k+1)=fun b rd n ic st kt=>Jc ic P bX md (run P bX md k) b rd n st kt:=rfl
section
variable {P:Program}{bX:Nat->FD}{md:qO P}
theorem Jd(ba:P.follows .mixedOrders=true)(cy:∀g,(bX g).Ok P g){rec:dy}(bD:eu P rec){fr:Nat}{g:Nat}{args:List V}{st:St}{r:DR}(h:hX P bX rec g args st=some r){K:V->List (Nat×ae)->List Nat->Prop}{KX:V->List Nat->List Nat->Prop}(hr:r.to K KX):
 il P g args st.S.o st.S.nx fr K KX:=by
 unfold hX at h
 simp only at h
 generalize lZ:reach st.o.get 2000 (V.ag args) []=rd at h
 split at h
 ·rename_i hc
  simp only[Bool.and_eq_true,List.all_eq_true]at hc
  obtain⟨VR,rF⟩:=hc
  have a1:∀id∈rd,id<st.nx:=fun id aj=>Nat.le_of_ble_eq_true (VR id aj).1
  have a2:∀id∈V.ag args,id∈rd:=fun id aj=>by simpa using rF id aj
  have a3:∀id∈rd,∀j∈(st.o.get id).refs,j∈rd:=fun id aj j hj=>by simpa using(VR id aj).2 j hj
  have a0:rd.all (fun id=>decide (id<st.S.nx))=true:=List.all_eq_true.2 fun id aj=>decide_eq_true (a1 id aj)
  have key:∀ {r:CR} {a:CR},OK r=some (.c a)->r=a:=fun h=>by unfold OK at h;injection h with h;injection h
  split at h
  ·rename_i v o1 wM hf
   split at h
   ·cases h
   ·rename_i v' tt
    split at h
    ·rename_i rs Nk
     split at h
     ·rename_i Lc
      injection h with h;subst h
      simp only[Bool.and_eq_true,List.all_eq_true]at Lc
      refine⟨rd,_,a0, .inl ⟨rs,zi.lg a1 a2 a3 (fun x hx=>(hU rd x hx).1) (fun x hx j hj=>by simpa using Lc.1 x hx j hj) (my ba cy bD hf fun r tD=> ?_),hr⟩⟩
      rw[key tD]
      refine⟨fun id aj=>qt aj,sB v,rs, ?_,Nk,rfl,fun id aj=>by simpa using Lc.2 id aj⟩
      cases v with
      |bT vs=>
       match vs,tt with
       |[],_=>rfl
       |[x],hv=>exact absurd rfl (hv x)
       |_::_::_,_=>rfl
      |_=>rfl
     ·cases h
    ·cases h
  ·rename_i v o1 wM hf
   split at h
   ·rename_i x hx
    split at h
    ·rename_i Lc
     injection h with h;subst h
     simp only[Bool.and_eq_true,List.all_eq_true]at Lc
     refine⟨rd,eA st.o.get o1.get rd,a0, .inr (.inl ⟨x,zi.lg a1 a2 a3 (fun x hx=>(hU rd x hx).1) (fun x hx j hj=>by simpa using Lc.1 x hx j hj) (my ba cy bD hf fun r tD=> ?_),hr⟩)⟩
     rw[key tD]
     exact⟨fun id aj=>qt aj,x,hx,rfl,fun id aj=>by simpa using Lc.2 id aj⟩
    ·cases h
   ·cases h
  ·cases h
 ·cases h
theorem Ld(ba:P.follows .mixedOrders=true)(cy:∀g,(bX g).Ok P g){rec:dy}(bD:eu P rec){g:Nat}{args:List V}{st:St}{rd:List Nat}{ds:List D}(eM:bU st.o.get args=some ds){r:DR}(h:RM P bX md rec g args st rd=some r)
 {K:V->List (Nat×ae)->List Nat->Prop} {KX:V->List Nat->List Nat->Prop} (hr:r.to K KX):
 qo P g ds (fun v=>K v (ck st.S.o (V.a8 args)) rd) (fun v=>K v [] rd) (fun v=>KX v [] rd):=by
 unfold RM at h
 simp only[eM]at h
 split at h
 ·split at h
  ·rename_i v o1 wM Je
   split at h
   ·rename_i Yh
    injection h with h;subst h
    exact .inr (.inr ⟨v,NF.lg Yh (my ba cy bD Je fun r tD=>by unfold OK at tD;injection tD with tD;injection tD with tD;rw[tD];exact rfl),hr⟩)
   ·cases h
  ·cases h
 ·split at h
  ·rename_i rs Fg
   have hP:=v7 ba cy bD Fg
   split at h
   ·rename_i hf
    injection h with h;subst h
    exact .inl ⟨rs,hP, .inr ⟨hf,hr⟩⟩
   ·injection h with h;subst h
    exact .inl ⟨rs,hP, .inl hr⟩
  ·rename_i x Fg
   have hP:=v7 ba cy bD Fg
   split at h
   ·rename_i hf
    injection h with h;subst h
    exact .inr (.inl ⟨x,hP,hf,hr⟩)
   ·cases h
  ·cases h
theorem BA{t ty:TypeId}{sz:Nat}{es:List D}{r:CR}(h:Hs P t r=some (.r (.ret [.sl es, .int .i64 (.ofNat ty), .int .i64 (.ofNat sz)]))):
 r.to (fun v o1 _=>(∃j ep,v= .osl j ep/\o1 j= .arr ep ty sz es)\/(v= .aX/\es=[]/\0<sz)) (fun _ _ _=>False):=by
 unfold Hs at h
 split at h
 ·rename_i v o1 n1
  split at h
  ·rename_i j ep
   split at h
   ·rename_i gz S4 mV es' ho
    split at h
    ·rename_i he
     have he:=Nat.eq_of_beq_eq_true he
     subst he
     rw[Am]at h
     simp only[Option.some.injEq,eh.r.injEq,R.ret.injEq,List.cons.injEq,D.sl.injEq,D.int.injEq,true_and,and_true]at h
     obtain⟨rfl,h2,h3⟩:=h
     have h2:S4=ty:=Int.ofNat.inj h2
     have h3:mV=sz:=Int.ofNat.inj h3
     subst h2;subst h3
     exact .inl ⟨j,gz,rfl,ho⟩
    ·cases h
   ·cases h
  ·split at h
   ·rename_i e he
    split at h
    ·rename_i hp
     rw[Am]at h
     simp only[Option.some.injEq,eh.r.injEq,R.ret.injEq,List.cons.injEq,D.sl.injEq,D.int.injEq,true_and,and_true]at h
     obtain⟨rfl,h2,h3⟩:=h
     have h3:P.cellsOf e=sz:=Int.ofNat.inj h3
     subst h3
     exact .inr ⟨rfl,rfl,Nat.blt_eq.mp hp⟩
    ·cases h
   ·cases h
  ·cases h
 ·cases h
theorem Hw(ba:P.follows .mixedOrders=true)(cy:∀g,(bX g).Ok P g){rec:dy}(bD:eu P rec){fr:Nat}{g:Nat}{t:TypeId}{args:List V}{st:St}{r:DR}(h:K7 P bX rec g t args st fr=some r){K:V->List (Nat×ae)->List Nat->Prop}{KX:V->List Nat->List Nat->Prop}(hr:r.to K KX):
 il P g args st.S.o st.S.nx fr K KX:=by
 unfold K7 at h
 split at h
 ·rename_i ds eM
  split at h
  ·rename_i es ty sz Je
   injection h with h;subst h
   unfold uM at eM
   split at eM
   ·rename_i aj
    exact⟨[],_,by simp, .inr (.inr ⟨_,zU.Hr aj eM (zU.K4 (my ba cy bD Je fun r tD=>BA tD)),hr⟩)⟩
   ·cases eM
  ·cases h
 ·split at h
  ·rename_i ds eM
   split at h
   ·rename_i es ty sz Je
    split at h
    ·rename_i hc
     injection h with h;subst h
     simp only[Bool.and_eq_true]at hc
     refine⟨V.a8 args,_, ?_, .inr (.inr ⟨_,zU.Hq eM hc.1 (my ba cy bD Je fun r tD=>BA tD),hr⟩)⟩
     exact List.all_eq_true.2 fun id aj=>decide_eq_true (Nat.blt_eq.mp (List.all_eq_true.1 hc.2 id aj))
    ·cases h
   ·cases h
  ·cases h
theorem wa(ba:P.follows .mixedOrders=true)(cy:∀g,(bX g).Ok P g){rec:dy}(bD:eu P rec){st:St}{fr:Nat}{o:b7}{r:DR}(h:Ht P bX md rec st fr o.op=some r){K:V->List (Nat×ae)->List Nat->Prop}{KX:V->List Nat->List Nat->Prop}(hr:r.to K KX):
 wN P st.S fr o K KX:=by
 have hs:RN P st fr o.op=some r->(match fT P st.S fr o.op with|some (v,Δ,_)=>K v Δ (iR st.S o.op)|none=>False):=by
  intro h
  unfold RN at h
  split at h
  ·rename_i v Δ rd he
   injection h with h;subst h
   simp only[Bq he]
   exact hr
  ·cases h
 unfold Ht at h
 unfold wN
 split at h
 ·rename_i c hc
  simp only[hc]
  split at h
  ·rename_i f hf
   simp only[hf]
   split at h
   ·rename_i g first cap hv
    simp only[hv]
    split at h
    ·have hh:=Jd ba cy bD h hr (fr:=fr)
     split
     ·exact .inr hh
     ·exact hh
    split at h
    ·rename_i r' JO
     injection h with h;subst h
     cases eM:bU st.S.o (first++List.map st.S.ev c.args.toList++cap)with
     |some ds=>exact .inl (Ld ba cy bD eM JO hr)
     |none=>
      have K1:bU st.o.get (first++List.map st.S.ev c.args.toList++cap)=none:=eM
      unfold RM at JO
      simp only[K1]at JO
      exact Jd ba cy bD JO hr
    ·have hh:=Hw ba cy bD (st:=st) h hr
     split
     ·exact .inr hh
     ·exact hh
   ·cases h
  ·rename_i dU
   rw[<- hc]at h
   have:=hs h
   rw[hc]at this
   split
   ·rename_i f hf;exact absurd hf (dU f)
   ·exact this
 ·rename_i hc
  have:=hs h
  split
  ·rename_i c hh;exact absurd hh (hc c)
  ·exact this
def RQ(s:S)(gd:Option (Nat×Bool))(A B:Prop):Prop:=
 match gd with
 |none=>A
 |some (d,want)=>match s.env d with
  | .d (.bool b)=>if b=want then A else B
  | .bT []=>B
  |_=>False
theorem wb{st:St}{gd:Option (Nat×Bool)}{t:Bool}(h:OL st gd=some t){A B:Prop}(hA:t=true->A)(hB:t=false->B):RQ st.S gd A B:=by
 cases gd with
 |none=>simp only[OL,Option.some.injEq]at h;exact hA h.symm
 |some p=>
  obtain⟨d,want⟩:=p
  have he:st.S.env d=st.env.get d:=rfl
  simp only[OL]at h
  simp only[RQ,he]
  split at h
  ·rename_i b hb
   injection h with h
   by_cases e:b=want
   ·rw[if_pos e];exact hA (by rw[<- h,e];simp)
   ·rw[if_neg e];exact hB (by rw[<- h];simpa using e)
  ·rename_i hb
   injection h with h
   exact hB h.symm
  ·cases h
theorem Hx{P:Program}{KB:List Nat->Fp->Prop}{pr:List (List Nat)}{o:b7}{l:List b7}{fr:Nat}{s:S}{fp:Fp}{bad ws:List Nat}(hb:(pr.getD fp.length []).any (fun j=>bad.contains j)=false)
 (h:RQ s o.gd (wN P s fr o (fun v Δ rd=>gI P KB pr l (fr+1) ⟨aY s.env o.dst v,put s.o Δ,s.nx⟩ (fp++[(rd,Δ.map (·.1))]) bad (ws++Δ.map (·.1))) (fun _ _ _=>False)) (gI P KB pr l (fr+1) ⟨aY s.env o.dst (.bT []),s.o,s.nx⟩ (fp++[([],[])]) bad ws)):
 gI P KB pr (o::l) fr s fp bad ws:=by
 simp only[gI]
 rw[if_neg (by rw[hb];simp)]
 cases hg:o.gd with
 |none=>rw[hg]at h;exact h
 |some p=>obtain⟨d,want⟩:=p;rw[hg]at h;exact h
theorem Hy{P:Program}{K:S->Fp->Prop}{KP:V->List Nat->Fp->Prop}{pr:List (List Nat)}{o:b7}{l:List b7}{fr:Nat}{s:S}{fp:Fp}
 (h:RQ s o.gd (wN P s fr o (fun v Δ rd=>jW P K KP pr l (fr+1) ⟨aY s.env o.dst v,put s.o Δ,s.nx⟩ (fp++[(rd,Δ.map (·.1))]))
  (fun v ws rd=>gI P (KP v) pr l (fr+1) ⟨aY s.env o.dst .aa,s.o,s.nx⟩ (fp++[(rd,[])]) [fp.length] (ws++fp.flatMap (·.2)))) (jW P K KP pr l (fr+1) ⟨aY s.env o.dst (.bT []),s.o,s.nx⟩ (fp++[([],[])]))):
 jW P K KP pr (o::l) fr s fp:=by
 simp only[jW]
 cases hg:o.gd with
 |none=>rw[hg]at h;exact h
 |some p=>obtain⟨d,want⟩:=p;rw[hg]at h;exact h
theorem oV(ba:P.follows .mixedOrders=true)(cy:∀g,(bX g).Ok P g){rec:dy}(bD:eu P rec){pr:List (List Nat)}{wl:List Nat}{Ts:Fp}{KB:List Nat->Fp->Prop}(hK:KB wl Ts):
 ∀ (l:List b7) (fr:Nat) (st:St) (fp:Fp) (bad ws:List Nat),sF P bX md rec pr l fr st fp bad ws=some (wl,Ts)->gI P KB pr l fr st.S fp bad ws
 |[],fr,st,fp,bad,ws,h=>by
  simp only[sF,Option.some.injEq,Prod.mk.injEq]at h
  obtain⟨rfl,rfl⟩:=h;exact hK
 |o::l,fr,st,fp,bad,ws,h=>by
  simp only[sF,iV,mw]at h
  split at h
  ·rename_i hb
   simp only[gI]
   rw[if_pos hb]
   have:=oV ba cy bD hK l _ _ _ _ _ h
   simp only[St.S,eo]at this
   exact this
  ·rename_i hb
   refine Hx hb ?_
   split at h
   ·rename_i hg
    refine wb hg (fun _=> ?_) (fun h=>by cases h)
    split at h
    ·rename_i v Δ rd dw
     refine wa ba cy bD dw ?_
     have:=oV ba cy bD hK l _ _ _ _ _ h
     simp only[St.S,eo,jo]at this
     exact this
    ·cases h
   ·rename_i hg
    refine wb hg (fun h=>by cases h) (fun _=> ?_)
    have:=oV ba cy bD hK l _ _ _ _ _ h
    simp only[St.S,eo]at this
    exact this
   ·cases h
def DQ.to (K:S->Fp->Prop)(KP:V->List Nat->Fp->Prop):DQ->Prop
 | .fin st fp=>K st.S fp
 | .bK v wl fp=>KP v wl fp
theorem mA(ba:P.follows .mixedOrders=true)(cy:∀g,(bX g).Ok P g){rec:dy}(bD:eu P rec){pr:List (List Nat)}{q:DQ}{K:S->Fp->Prop}{KP:V->List Nat->Fp->Prop}(hq:q.to K KP):
 ∀ (l:List b7) (fr:Nat) (st:St) (fp:Fp),sG P bX md rec pr l fr st fp=some q->jW P K KP pr l fr st.S fp
 |[],fr,st,fp,h=>by
  simp only[sG,Option.some.injEq]at h
  subst h;exact hq
 |o::l,fr,st,fp,h=>by
  simp only[sG,iV,mw,Nat.cS]at h
  refine Hy ?_
  split at h
  ·rename_i hg
   refine wb hg (fun _=> ?_) (fun h=>by cases h)
   split at h
   ·rename_i v Δ rd dw
    refine wa ba cy bD dw ?_
    have:=mA ba cy bD hq l _ _ _ h
    simp only[St.S,eo,jo]at this
    exact this
   ·rename_i v ws rd dw
    split at h
    ·rename_i wl Ts hb
     injection h with h;subst h
     refine wa ba cy bD dw ?_
     have:=oV ba cy bD (KB:=KP v) hq l _ _ _ _ _ hb
     simp only[St.S,eo]at this
     exact this
    ·cases h
   ·cases h
  ·rename_i hg
   refine wb hg (fun h=>by cases h) (fun _=> ?_)
   have:=mA ba cy bD hq l _ _ _ h
   simp only[St.S,eo]at this
   exact this
  ·cases h
theorem wc{pr:List (List Nat)}{fp:Fp}(h:Fj pr fp=true):et pr fp=true:=by
 unfold Fj at h
 split at h
 ·rename_i hq
  unfold quiet at hq
  have hz:∀i,(fp.getD i ([],[])).2=[]:=by
   intro i
   rw[List.getD_eq_getElem?_getD]
   cases hx:fp[i]? with
   |none=>rfl
   |some x=>
    have:=List.all_eq_true.1 hq x (List.mem_of_getElem? hx)
    simp only[Option.getD_some]
    split at this
    ·rename_i e;exact e
    ·cases this
  unfold et
  simp only[hz,jR,List.all_nil,Bool.and_self,Bool.or_true]
  simp
 ·rw[Bx]at h
  unfold et
  rw[List.all_eq_true]
  intro j hj
  rw[List.all_eq_true]
  intro i hi
  exact yh fp [] h j (Nat.zero_le _) (by simpa using hj) i (by simpa using hi)
theorem sH:∀ (l:List Nat) (k c:Nat),c<=k->c<=uO l k c/\∀i x,l[i]? =some x->uO l k c<=k+i->x=2^(k+i) - 1
 |[],_,c,_=>⟨Nat.le_refl _,fun i x h=>by simp at h⟩
 |y::l,k,c,hc=>by
  simp only[uO]
  split
  ·rename_i he
   obtain⟨h1,h2⟩:=sH l (k+1) c (by omega)
   refine⟨h1,fun i x hi hle=> ?_⟩
   cases i with
   |zero=>simp at hi;subst hi;simpa using Nat.eq_of_beq_eq_true he
   |succ i=>
    have:=h2 i x (by simpa using hi) (by omega)
    rw[this,show k+(i+1)=k+1+i by omega]
  ·obtain⟨h1,h2⟩:=sH l (k+1) (k+1) (Nat.le_refl _)
   refine⟨by omega,fun i x hi hle=> ?_⟩
   cases i with
   |zero=>omega
   |succ i=>
    have:=h2 i x (by simpa using hi) (by omega)
    rw[this,show k+(i+1)=k+1+i by omega]
theorem uP:∀ (pr:List (List Nat)) (acc:List Nat),(dY pr acc).length=acc.length+pr.length
 |[],acc=>by simp[dY]
 |ps::l,acc=>by simp only[dY,uP l,List.length_append,List.length_cons,List.length_nil];omega
theorem Fl(pr:List (List Nat)):EL pr (oU pr)=true:=by
 refine List.all_eq_true.2 fun k hk=> ?_
 have hk:k<pr.length:=by simpa using hk
 by_cases h:k<oU pr
 ·simp[Nat.blt_eq.mpr h]
 ·have hl:k<(dY pr []).length:=by rw[uP];simpa using hk
  have:=(sH (dY pr []) 0 0 (Nat.le_refl _)).2 k _ (List.getElem?_eq_getElem hl) (by rw[Nat.zero_add];exact Nat.le_of_not_lt h)
  rw[Nat.zero_add]at this
  rw[List.getD_eq_getElem?_getD,List.getElem?_eq_getElem hl,Option.getD_some,this]
  simp
theorem Hz(ba:P.follows .mixedOrders=true)(cy:∀g,(bX g).Ok P g){rec:dy}(bD:eu P rec){l:List b7}{pr:List (List Nat)}{st st':St}{e:e9}(h:K8 P bX md rec l pr st=some (e,st')){Q:e9->S->Prop}(hQ:Q e st'.S):
 jW P (Ab pr (st.S.nx+l.length) Q) (xR pr l st.S Q) pr l st.S.nx st.S []:=by
 unfold K8 at h
 split at h
 ·rename_i s1 fp hd
  split at h
  ·rename_i hf
   simp only[Nat.cS,Option.some.injEq,Prod.mk.injEq]at h
   obtain⟨rfl,rfl⟩:=h
   exact mA ba cy bD (q:= .fin s1 fp) (K:=Ab pr (st.S.nx+l.length) Q) (KP:=xR pr l st.S Q) (show Ab pr (st.S.nx+l.length) Q s1.S fp from⟨wc hf,hQ⟩) l _ _ _ hd
  ·cases h
 ·rename_i v wl fp hd
  split at h
  ·rename_i hf
   simp only[Option.some.injEq,Prod.mk.injEq]at h
   obtain⟨rfl,rfl⟩:=h
   exact mA ba cy bD (q:= .bK v wl fp) (K:=Ab pr (st.S.nx+l.length) Q) (KP:=xR pr l st.S Q) (show xR pr l st.S Q v wl fp from⟨wc hf,hQ⟩) l _ _ _ hd
  ·cases h
 ·cases h
theorem HA(ba:P.follows .mixedOrders=true)(cy:∀g,(bX g).Ok P g){rec:dy}(bD:eu P rec){n:Nat}{g:Operand}{ps:List Nat}{x y:IC}{st:St}{kt:Kt}{a:eh}(h:Hv P bX rec n g ps x y st kt=some a){Q:e9->S->Prop}(hQ:∀e st',kt e st'=some a->Q e st'.S):
 xy P n (st.S.ev g) ps x y Q st.S:=by
 unfold Hv at h
 refine⟨(List.range n).map st.env.get,fun i=> ?_, ?_⟩
 ·unfold bF
  simp only[List.getD_eq_getElem?_getD,List.getElem?_map]
  by_cases hi:i<n
  ·right;rw[List.getElem?_range hi];rfl
  ·left;rw[List.getElem?_eq_none (by simp;omega)];rfl
 ·split at h
  ·rename_i f first cap hv
   simp only[hv]
   refine .inl ?_
   have key:=fun {K X} hr=>my (K:=K) (X:=X) ba cy bD h hr
   simp only[Tr.iI]at key
   refine key fun r hr=> ?_
   unfold ON at hr
   cases r with
   |ret v o1 wM=>
    simp only at hr
    split at hr
    ·rename_i nf m e p c d RP pd ho
     have hl:RP≠ .busy:=by
      intro hb;subst hb;cases hr
     refine⟨nf,m,e,p,c,d,RP,pd,ho,hl, ?_⟩
     split at hr
     ·cases hr
     ·split at hr<;>(have h3:=hQ _ _ hr;simp only[vA];simp only[St.S,Tr.iI]at h3;exact h3)
    ·cases hr
   |bK v o1 wM=>exact hQ _ _ hr
  ·cases h
theorem cq.same {b:Nat}{s:S}(h:b<=s.nx):cq b s s:=fun _ φ _ _ h1 h2=>⟨φ,h1,h2,fun _ h=>h,h,fun _ _ hr=>⟨hr,rfl⟩,fun _ e' _ he=>⟨e',he,Nat.le_refl _,fun _=>rfl⟩⟩
theorem Fm{x y:Option eh}{a:eh}(h:Bz x y=some a):x=some a/\y=some a:=by
 unfold Bz at h
 split at h
 ·rename_i r
  split at h
  ·rename_i r'
   split at h
   ·rename_i hs
    injection h with h;subst h
    rw[R.dS hs]
    exact⟨rfl,rfl⟩
   ·cases h
  ·cases h
 ·cases h
theorem Le(ba:P.follows .mixedOrders=true)(cy:∀g,(bX g).Ok P g):∀k,∀j,j<=k->eu P (run P bX md j):=by
 intro k
 induction k with
 |zero=>intro j hj b rd n ic st kt a h;obtain rfl:j=0:=by omega
        cases h
 |succ k ih=>
  intro j hj b rd n ic st kt a h Q hQ
  cases j with
  |zero=>cases h
  |succ j=>
   have bD:eu P (run P bX md j):=ih j (by omega)
   rw[Fk]at h
   cases ic with
   |skip=>exact hQ _ _ h
   |exit id=>exact hQ _ _ h
   |ret=>exact hQ _ _ h
   |bad=>cases h
   |af l=>
    have h:vZ P bX md (run P bX md j) (Tl kt) l st=some a:=h
    exact qZ ba cy bD (K:=Q .normal) (X:=fun v s=>Q (.bK v) s) (fun r hr=>by
     cases r with
     |ok K2=>exact hQ .normal _ hr
     |bK v K2=>exact hQ (.bK v) _ hr) l _ h
   |cO l pr=>
    have h:K9 l pr P bX md (run P bX md j) b rd n st kt=some a:=h
    unfold K9 at h
    rw[Nat.cS]at h
    split at h
    ·rename_i s1 fp hd
     split at h
     ·rename_i hf
      rw[Nat.cS]at h
      split at h
      ·rename_i GK
       refine .inr ⟨oU pr,Nat.le_of_ble_eq_true GK,Fl pr, ?_⟩
       refine mA ba cy bD (q:= .fin s1 fp) (K:=fun s' fp=>et pr fp=true/\nG P (fun v s=>Q (.bK v) s) (Q .normal) (l.drop (oU pr)) ⟨s'.env,s'.o,st.S.nx+oU pr⟩) (KP:=fun _ _ _=>False) (show _/\_ from⟨wc hf, ?_⟩) (l.take (oU pr)) _ _ _ hd
       exact qZ ba cy bD (K:=Q .normal) (X:=fun v s=>Q (.bK v) s) (fun r hr=>by
        cases r with
        |ok K2=>exact hQ .normal _ hr
        |bK v K2=>exact hQ (.bK v) _ hr) (l.drop (oU pr)) ⟨s1.env,s1.o,st.nx+oU pr⟩ h
      ·cases h
     ·cases h
    ·split at h
     ·rename_i e s1 h1
      exact .inl (Hz ba cy bD h1 (hQ _ _ h))
     ·cases h
    ·cases h
   |seq x y=>
    have h:run P bX md j b rd n x st (An (run P bX md j) b rd n y kt)=some a:=h
    simp only[qU]
    refine bD _ _ _ _ _ _ _ h _ fun e s1 he=> ?_
    unfold An at he
    cases e with
    |normal=>exact bD _ _ _ _ _ _ _ he _ hQ
    |_=>exact hQ _ _ he
   |cond c x y=>
    have h:(match st.S.ev c with| .d (.bool true)=>run P bX md j b rd n x st kt| .d (.bool false)=>run P bX md j b rd n y st kt| .eO=>Bz (run P bX md j b rd n x st kt) (run P bX md j b rd n y st kt)|_=>none)=some a:=h
    simp only[qU]
    split at h
    ·rename_i hv
     simp only[hv]
     exact(rT _ _).mpr (bD _ _ _ _ _ _ _ h _ hQ)
    ·rename_i hv
     simp only[hv]
     exact(qj _ _).mpr (bD _ _ _ _ _ _ _ h _ hQ)
    ·rename_i hv
     simp only[hv]
     obtain⟨h1,h2⟩:=Fm h
     exact⟨bD _ _ _ _ _ _ _ h1 _ hQ,bD _ _ _ _ _ _ _ h2 _ hQ⟩
    ·cases h
   |block id x=>
    have h:run P bX md j b rd n x st (Ao id kt)=some a:=h
    simp only[qU]
    refine bD _ _ _ _ _ _ _ h _ fun e s1 he=> ?_
    unfold Ao at he
    cases e with
    |exit j'=>
     simp only at he
     split at he
     ·rename_i hb
      simp only[eW,Nat.eq_of_beq_eq_true hb,if_true];exact hQ _ _ he
     ·rename_i hb
      simp only[eW,Nat.ne_of_beq_eq_false hb,if_false];exact hQ _ _ he
    |_=>exact hQ _ _ he
   |loop x=>
    have Tt:∀m Jf,run P bX md (m+1) b rd n (.loop x) Jf kt=some a->b<=Jf.nx/\run P bX md m b rd n x Jf (An (run P bX md m) b rd n (.loop x) kt)=some a:=by
     intro m Jf h
     have h:(match Nat.ble b Jf.nx with|true=>run P bX md m b rd n x Jf (An (run P bX md m) b rd n (.loop x) kt)|false=>none)=some a:=h
     split at h
     ·rename_i hb;exact⟨Nat.le_of_ble_eq_true hb,h⟩
     ·cases h
    have h:run P bX md (j+1) b rd n (.loop x) st kt=some a:=h
    refine⟨fun m s=>m<=k+1/\∃st,s=st.S/\run P bX md m b rd n (.loop x) st kt=some a,⟨j+1,st.S,cq.same (Tt j st h).1,hj,st,rfl,h⟩, ?_⟩
    rintro m s0 ⟨hm,Jf,rfl,h0⟩
    cases m with
    |zero=>cases h0
    |succ m=>
     have OQ:eu P (run P bX md m):=ih m (by omega)
     refine OQ _ _ _ _ _ _ _ (Tt m Jf h0).2 _ fun e s1 he=> ?_
     unfold An at he
     cases e with
     |normal=>
      refine⟨m,s1.S,Nat.lt_succ_self _,cq.same ?_,by omega,s1,rfl,he⟩
      cases m with
      |zero=>cases he
      |succ m=>exact(Tt m s1 he).1
     |_=>exact hQ _ _ he
   |B4 g ps x y=>
    cases rd with
    |true=>
     have h:(none:Option eh)=some a:=h
     cases h
    |false=>
     have h:Hv P bX (run P bX md j) n g ps x y st kt=some a:=h
     exact⟨rfl,HA ba cy bD h hQ⟩
noncomputable def Lf(P:Program)(bX:Nat->FD)(md:qO P)(k:Nat)(g:Nat)(ds:List D):Option R:=
 match E6 P bX (run P bX md k) g (ds.map .d) (.e fun _=> .no) 0 yd with
 |some (.r x)=>some x
 |_=>none
theorem cj.Lg (ba:P.follows .mixedOrders=true)(cy:∀g,(bX g).Ok P g){k g:Nat}{ds:List D}{out:R}(h:Lf P bX md k g ds=some out):cj P g ds out:=by
 unfold Lf at h
 split at h
 ·rename_i x hr;injection h with h;subst h;exact ye ba cy (Le ba cy k k (Nat.le_refl _)) hr
 ·cases h
end
end Go.Proofs.YtealblliddhgiaaGreat
namespace Go.Proofs.YtealblliddhgiaaGreat
def Tr.Fo {α:Type}(p:Nat->α->Prop):Tr α->(Nat->Nat)->Prop
 | .e g,f=>∀i,p (f i) (g i)
 | .n x l r,f=>p (f 0) x/\Fo p l (fun i=>f (2*i+1))/\Fo p r (fun i=>f (2*i+2))
theorem Tr.we {α:Type}{p:Nat->α->Prop}:∀ {f:Nat->Nat} (t:Tr α),t.Fo p f->∀k,p (f k) (t.get k)
 |f, .e g,h,k=>h k
 |f, .n x l r,h,k=>by
  obtain⟨h1,h2,h3⟩:=h
  rw[Tr.sw]
  split
  ·rename_i e;subst e;exact h1
  ·split
   ·have:=Tr.we l h2 (k/2)
    rwa [show 2*(k/2)+1=k by omega]at this
   ·have:=Tr.we r h3 (k/2 - 1)
    rwa [show 2*(k/2 - 1)+2=k by omega]at this
end Go.Proofs.YtealblliddhgiaaGreat
namespace Go.Proofs.YtealblliddhgiaaGreat
@[reducible] def mv (d s:Nat):b7:=⟨some d, .move (.tmp s),none⟩
@[reducible] def zk (d:Nat) (n:Int):b7:=⟨some d, .move (.const (.int .i64 n)),none⟩
@[reducible] def sg (d s:Nat):b7:=⟨some d, .assign (.tmp s),none⟩
@[reducible] def bQ (d:Nat) (n:Int):b7:=⟨some d, .assign (.const (.int .i64 n)),none⟩
@[reducible] def br (d:Nat) (b:Bool):b7:=⟨some d, .assign (.const (.bool b)),none⟩
@[reducible] def ld (d t s:Nat):b7:=⟨some d, .load t (.tmp s),none⟩
@[reducible] def st (t a b:Nat):b7:=⟨none, .store t (.tmp a) (.tmp b),none⟩
@[reducible] def fa (d t s f:Nat):b7:=⟨some d, .fieldAddr t (.tmp s) f,none⟩
@[reducible] def ex (d s i:Nat):b7:=⟨some d, .extract (.tmp s) i,none⟩
@[reducible] def bG (d c a:Nat):b7:=⟨some d, .pick (.tmp c) (.tmp a) (.const (.bool false)),none⟩
@[reducible] def cA (d c a:Nat):b7:=⟨some d, .pick (.tmp c) (.const (.bool true)) (.tmp a),none⟩
@[reducible] def ia (d t x i:Nat):b7:=⟨some d, .indexAddr t (.tmp x) (.tmp i),none⟩
@[reducible] def bx (d t s:Nat):b7:=⟨some d, .box t (.tmp s),none⟩
@[reducible] def al (d t:Nat):b7:=⟨some d, .alloc t,none⟩
@[reducible] def ln (d s t:Nat):b7:=⟨some d, .call {callee:= .builtin .len,args:=#[.tmp s],argTypes:=#[t]},none⟩
@[reducible] def k0 (d f:Nat):b7:=⟨some d, .call {callee:= .value (.func f),args:=#[],argTypes:=#[]},none⟩
@[reducible] def k1 (d f a t:Nat):b7:=⟨some d, .call {callee:= .value (.func f),args:=#[.tmp a],argTypes:=#[t]},none⟩
@[reducible] def k2 (d f a b t u:Nat):b7:=⟨some d, .call {callee:= .value (.func f),args:=#[.tmp a, .tmp b],argTypes:=#[t,u]},none⟩
@[reducible] def k3 (d f a b c t u v:Nat):b7:=⟨some d, .call {callee:= .value (.func f),args:=#[.tmp a, .tmp b, .tmp c],argTypes:=#[t,u,v]},none⟩
@[reducible] def bo (op:BinOp) (d t x y u:Nat):b7:=⟨some d, .binOp op t (.tmp x) (.tmp y) u,none⟩
@[reducible] def bk (op:BinOp) (d t x:Nat) (n:Int) (u:Nat):b7:=⟨some d, .binOp op t (.tmp x) (.const (.int .i64 n)) u,none⟩
@[reducible] def nt (d t s:Nat):b7:=⟨some d, .unOp .not t (.tmp s),none⟩
@[reducible] def nc (d s:Nat):b7:=⟨some d, .nilCheck (.tmp s),none⟩
@[reducible] def gT (o:b7) (g:Nat):b7:=⟨o.dst,o.op,some (g,true)⟩
@[reducible] def gF (o:b7) (g:Nat):b7:=⟨o.dst,o.op,some (g,false)⟩
attribute [go_sem] mv zk sg bQ br ld st fa ex bG cA ia bx al ln k0 k1 k2 k3 bo bk nt nc gT gF
end Go.Proofs.YtealblliddhgiaaGreat
