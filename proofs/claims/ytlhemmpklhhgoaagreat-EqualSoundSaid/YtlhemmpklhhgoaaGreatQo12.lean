/-
  A PART OF THE PROOF. Conditions: none.
-/
import Derived.Test.YtlhemmpklhhgoaaGreatQo11
set_option linter.unusedSimpArgs false
set_option linter.unusedVariables false
namespace Go.Proofs.YtlhemmpklhhgoaaGreat
section
mutual
def V.same:V->V->Bool
 | .d x, .d y=>x.same y
 | .ax, .ax=>true
 | .ab, .ab=>true
 | .agg a, .agg b=>V.gz a b
 | .ptr i o, .ptr j p=>Nat.beq i j&&Nat.beq o p
 | .osl i o, .osl j p=>Nat.beq i j&&Nat.beq o p
 | .pb a, .pb b=>D.gz a b
 | .iface t x, .iface u y=>Nat.beq t u&&x.same y
 | .mp i, .mp j=>Nat.beq i j
 |_,_=>false
def V.gz:List V->List V->Bool
 |[],[]=>true
 |a::ct,b::bs=>a.same b&&V.gz ct bs
 |_,_=>false
end
mutual
theorem V.ei:∀ (x y:V),x.same y=true->x=y
 | .d x,y,h=>by cases y<;>simp only[V.same,Bool.false_eq_true]at h;rw[D.ei _ _ h]
 | .ax,y,h=>by cases y<;>simp_all[V.same]
 | .ab,y,h=>by cases y<;>simp_all[V.same]
 | .agg a,y,h=>by cases y<;>simp only[V.same,Bool.false_eq_true]at h;rw[V.dK _ _ h]
 | .ptr i o,y,h=>by
   exact abv
 | .osl i o,y,h=>by
   exact abv
 | .pb a,y,h=>by cases y<;>simp only[V.same,Bool.false_eq_true]at h;rw[D.dK _ _ h]
 | .iface t x,y,h=>by
   cases y<;>simp only[V.same,Bool.false_eq_true,Bool.and_eq_true]at h
   rw[Nat.eq_of_beq_eq_true h.1,V.ei _ _ h.2]
 | .mp i,y,h=>by
   cases y<;>simp only[V.same,Bool.false_eq_true]at h
   rw[Nat.eq_of_beq_eq_true h]
 | .bY _,y,h| .pe _ _ _ _ _,y,h| .pp _ _,y,h| .func _ _ _,y,h| .yq _ _ _,y,h| .fH,y,h| .kH _,y,h=>by simp[V.same]at h
theorem V.dK:∀ (x y:List V),V.gz x y=true->x=y
 |[],y,h=>by cases y<;>simp_all[V.gz]
 |a::ct,y,h=>by
  cases y<;>simp only[V.gz,Bool.false_eq_true,Bool.and_eq_true]at h
  rw[V.ei _ _ h.1,V.dK _ _ h.2]
end
def wB:List (D×D)->List (D×D)->Bool
 |[],[]=>true
 |(a,b)::l,(c,d)::m=>a.same c&&(b.same d&&wB l m)
 |_,_=>false
theorem wC:∀ (l m:List (D×D)),wB l m=true->l=m
 |[],m,h=>by cases m<;>simp_all[wB]
 |(a,b)::l,m,h=>by
  cases m with
  |nil=>simp[wB]at h
  |cons p m=>
   obtain⟨c,d⟩:=p
   simp only[wB,Bool.and_eq_true]at h
   rw[D.ei _ _ h.1,D.ei _ _ h.2.1,wC l m h.2.2]
noncomputable def ad.same:ad->ad->Bool
 | .no, .no=>true
 | .row a, .row b=>V.gz a b
 | .arr e t s a, .arr f u r b=>Nat.beq e f&&Nat.beq t u&&Nat.beq s r&&D.gz a b
 | .uI e a, .uI f b=>Nat.beq e f&&D.gz a b
 | .map k v a, .map k' v' b=>Nat.beq k k'&&Nat.beq v v'&&wB a b
 | .cc a, .cc b=>wB a b
 | .z7 a i, .z7 b j=>a==b&&Nat.beq i j
 |_,_=>false
theorem ad.ei {x y:ad}(h:x.same y=true):x=y:=by
 cases x<;>cases y<;>simp only[ad.same,Bool.false_eq_true,Bool.and_eq_true]at h
 ·rfl
 ·rw[V.dK _ _ h]
 ·rw[Nat.eq_of_beq_eq_true h.1.1.1,Nat.eq_of_beq_eq_true h.1.1.2,Nat.eq_of_beq_eq_true h.1.2,D.dK _ _ h.2]
 ·rw[Nat.eq_of_beq_eq_true h.1,D.dK _ _ h.2]
 ·rw[Nat.eq_of_beq_eq_true h.1.1,Nat.eq_of_beq_eq_true h.1.2,wC _ _ h.2]
 ·rw[wC _ _ h]
 ·rw[eq_of_beq h.1,Nat.eq_of_beq_eq_true h.2]
noncomputable def reach(o:Nat->ad):Nat->List Nat->List Nat->List Nat
 |0,_,seen=>seen
 |_+1,[],seen=>seen
 |n+1,id::todo,seen=>match seen.contains id with
  |true=>reach o n todo seen
  |false=>reach o n ((o id).refs++todo) (id::seen)
noncomputable def eR(o o1:Nat->ad):List Nat->List (Nat×ad)
 |[]=>[]
 |id::l=>match(o id).same (o1 id)with
  |true=>eR o o1 l
  |false=>(id,o1 id)::eR o o1 l
theorem ja{o o1:Nat->ad}:∀ (l:List Nat) (x:Nat×ad),x∈eR o o1 l->x.1∈l/\x.2=o1 x.1
 |[],x,h=>by simp[eR]at h
 |id::l,x,h=>by
  simp only[eR]at h
  split at h
  ·obtain⟨h1,h2⟩:=ja l x h;exact⟨List.mem_cons_of_mem _ h1,h2⟩
  ·rcases List.mem_cons.1 h with rfl|h
   ·exact⟨aE,rfl⟩
   ·obtain⟨h1,h2⟩:=ja l x h;exact⟨List.mem_cons_of_mem _ h1,h2⟩
theorem nN{o o1:Nat->ad}:∀ (l:List Nat) (id:Nat),id∈l->id∉(eR o o1 l).map (·.1)->o1 id=o id
 |[],id,h,_=>by simp at h
 |j::l,id,h,hn=>by
  simp only[eR]at hn
  split at hn
  ·rename_i hs
   rcases List.mem_cons.1 h with rfl|h
   ·exact(ad.ei hs).symm
   ·exact nN l id h hn
  ·simp only[List.map_cons,List.mem_cons,not_or]at hn
   rcases List.mem_cons.1 h with rfl|h
   ·exact absurd rfl hn.1
   ·exact nN l id h hn.2
theorem Dp{o1:Nat->ad}:∀ (Δ:List (Nat×ad)) (o:Nat->ad),(∀x∈Δ,x.2=o1 x.1)->∀id,id∈Δ.map (·.1)\/o id=o1 id->put o Δ id=o1 id
 |[],o,_,id,h=>by rcases h with h|h;· simp at h
                  ·exact h
 |x::Δ,o,hv,id,h=>by
  simp only[put,List.foldl_cons]
  refine Dp Δ (ay o x.1 x.2) (fun y hy=>hv y (List.mem_cons_of_mem _ hy)) id ?_
  simp only[List.map_cons,List.mem_cons]at h
  simp only[aN]
  by_cases e:id=x.1
  ·right;rw[if_pos e,hv x (by simp),e]
  ·rcases h with(h|h)|h
   ·exact absurd h e
   ·exact .inl h
   ·right;rw[if_neg e];exact h
theorem tT{o o1:Nat->ad}{l:List Nat}{id:Nat}(h:id∈l):o1 id=put o (eR o o1 l) id:=by
 by_cases hm:id∈(eR o o1 l).map (·.1)
 ·exact(Dp _ o (fun x hx=>(ja l x hx).2) id (.inl hm)).symm
 ·rw[gE hm];exact nN l id h hm
inductive DR where
 |val (v:V) (Δ:List (Nat×ad)) (rd:List Nat)|bN (v:V) (ws rd:List Nat)
def DR.to (K:V->List (Nat×ad)->List Nat->Prop)(KX:V->List Nat->List Nat->Prop):DR->Prop
 | .val v Δ rd=>K v Δ rd
 | .bN v ws rd=>KX v ws rd
noncomputable def crA(c:CR):Option eE:=some (.c c)
noncomputable def hX(P:Program)(tab:Nat->FD)(rec:dH)(g:Nat)(args:List V)(st:St):Option DR:=
 let rd:=reach st.o.get 2000 (V.aL args) []
 match rd.all (fun id=>Nat.blt id st.nx&&(st.o.get id).refs.all rd.contains)&&(V.aL args).all rd.contains with
 |true=>match MN P tab rec g args (.e (Fc rd st.o.get)) st.nx crA with
  |some (.c (.ret v o1 _))=>match v with
   | .bY [_]=>none
   |v=>match cm o1.get (wz v)with
    |some rs=>match(eR st.o.get o1.get rd).all (fun x=>x.2.refs.all rd.contains)&&(V.bc (wz v)).all (fun id=> !rd.contains id)with
     |true=>some (.val (jf rs) (eR st.o.get o1.get rd) rd)
     |false=>none
    |none=>none
  |some (.c (.bN v o1 _))=>match dM o1.get v with
   |some x=>match(eR st.o.get o1.get rd).all (fun x=>x.2.refs.all rd.contains)&&v.ids.all (fun id=> !rd.contains id)with
    |true=>some (.bN (.d x) ((eR st.o.get o1.get rd).map (·.1)) rd)
    |false=>none
   |none=>none
  |_=>none
 |false=>none
noncomputable def cDX(P:Program)(tab:Nat->FD)(md:rb P)(rec:dH)(g:Nat)(args:List V)(st:St)(rd:List Nat):Option DR:=
 match cm st.o.get args with
 |some ds=>match md.dat g with
  |false=>match MN P tab rec g (ds.map .d) (.e fun _=> .no) 0 crA with
   |some (.c (.ret v _ _))=>match v.refs with
    |[]=>some (.val v (bG st.o.get (V.bc args)) rd)
    |_=>none
   |_=>none
  |true=>match QB P tab md rec g ds with
   |some (.ret rs)=>match D.jZ rs with
    |true=>some (.val (jf rs) [] rd)
    |false=>some (.val (jf rs) (bG st.o.get (V.bc args)) rd)
   |some (.bN x)=>match x.flat with
    |true=>some (.bN (.d x) [] rd)
    |false=>none
   |none=>none
 |none=>hX P tab rec g args st
noncomputable def sDX(P:Program)(st:St)(fr:Nat)(op:Op):Option DR:=
 match QA op P st.S fr with
 |some (v,Δ,_)=>some (.val v Δ (o9 st.S op))
 |none=>none
def V.agf:V->Bool
 | .mp _=>true
 |_=>false
def Xh{P:Program}(md:rb P)(g:Nat)(args:List V):Bool:= !md.dat g&&args.any V.agf
def zi(args:List V):Option (List D):=
 match V.bc args with
 |[]=>cm (fun _=> .no) args
 |_=>none
noncomputable def QE(P:Program)(t:TypeId)(c:CR):Option eE:=
 match c with
 | .ret v o1 _=>match v with
   | .osl j ep=>match o1.get j with
     | .arr fT ty sz es=>match Nat.beq fT ep with
       |true=>rfc (.ret [.sl es, .int .i64 (ty:Nat), .int .i64 (sz:Nat)]) fun x=>some (.r x)
       |false=>none
     |_=>none
   | .ax=>match bV P t with
     |some e=>match Nat.blt 0 (P.cellsOf e)with
      |true=>rfc (.ret [.sl [], .int .i64 (e:Nat), .int .i64 (P.cellsOf e:Nat)]) fun x=>some (.r x)
      |false=>none
     |none=>none
   |_=>none
 |_=>none
noncomputable def Xi(P:Program)(tab:Nat->FD)(rec:dH)(g:Nat)(t:TypeId)(args:List V)(st:St)(fr:Nat):Option DR:=
 match zi args with
 |some ds=>match MN P tab rec g (ds.map .d) (.e fun _=> .no) 0 (QE P t)with
  |some (.r (.ret [.sl es, .int .i64 (.ofNat ty), .int .i64 (.ofNat sz)]))=>some (.val (.osl fr 0) [(fr, .arr 0 ty sz es)] [])
  |_=>none
 |none=>match cm st.o.get args with
  |some ds=>match MN P tab rec g (ds.map .d) (.e fun _=> .no) 0 (QE P t)with
   |some (.r (.ret [.sl es, .int .i64 (.ofNat ty), .int .i64 (.ofNat sz)]))=>match D.jZ es&&(V.bc args).all (fun id=>Nat.blt id st.nx)with
    |true=>some (.val (.osl fr 0) [(fr, .arr 0 ty sz es)] (V.bc args))
    |false=>none
   |_=>none
  |none=>none
noncomputable def QF(P:Program)(tab:Nat->FD)(md:rb P)(rec:dH)(st:St)(fr:Nat)(op:Op):Option DR:=
 match op with
 | .call c=>match c.callee with
   | .value f=>match st.S.ev f with
     | .func (.func g) first cap=>match Xh md g (first++c.args.toList.map st.S.ev++cap)with
       |true=>hX P tab rec g (first++c.args.toList.map st.S.ev++cap) st
       |false=>match cDX P tab md rec g (first++c.args.toList.map st.S.ev++cap) st (o9 st.S (.call c))with
        |some r=>some r
        |none=>Xi P tab rec g (c.argTypes.getD 0 0) (first++c.args.toList.map st.S.ev++cap) st fr
     |_=>none
   |_=>sDX P st fr (.call c)
 |op=>sDX P st fr op
noncomputable def gdX(st:St):Option (Nat×Bool)->Option Bool
 |none=>some true
 |some (d,want)=>match st.env.get d with
  | .d (.bool b)=>some (b==want)
  | .bY []=>some false
  |_=>none
noncomputable def wD(P:Program)(tab:Nat->FD)(md:rb P)(rec:dH)(pr:List (List Nat)):List b7->Nat->St->Fp->List Nat->List Nat->Option (List Nat×Fp)
 |[],_,_,fp,_,ws=>some (ws,fp)
 |o::l,fr,st,fp,bad,ws=>match(pr.getD fp.length []).any (fun j=>bad.contains j)with
  |true=>wD P tab md rec pr l (fr+1) ⟨tS st.env o.dst .ab,st.o,st.nx⟩ (fp++[([],[])]) (bad++[fp.length]) ws
  |false=>match gdX st o.gd with
   |some true=>match QF P tab md rec st fr o.op with
    |some (.val v Δ rd)=>mC st.env o.dst v fun e=>wy st.o Δ fun ob=>wD P tab md rec pr l (fr+1) ⟨e,ob,st.nx⟩ (fp++[(rd,Δ.map (·.1))]) bad (ws++Δ.map (·.1))
    |_=>none
   |some false=>wD P tab md rec pr l (fr+1) ⟨tS st.env o.dst (.bY []),st.o,st.nx⟩ (fp++[([],[])]) bad ws
   |none=>none
inductive DQ where
 |fin (st:St) (fp:Fp)|bN (v:V) (wl:List Nat) (fp:Fp)
noncomputable def wE(P:Program)(tab:Nat->FD)(md:rb P)(rec:dH)(pr:List (List Nat)):List b7->Nat->St->Fp->Option DQ
 |[],_,st,fp=>some (.fin st fp)
 |o::l,fr,st,fp=>match gdX st o.gd with
  |some true=>match QF P tab md rec st fr o.op with
   |some (.val v Δ rd)=>mC st.env o.dst v fun e=>wy st.o Δ fun ob=>Nat.fc (fr+1) fun fr=>wE P tab md rec pr l fr ⟨e,ob,st.nx⟩ (fp++[(rd,Δ.map (·.1))])
   |some (.bN v ws rd)=>match wD P tab md rec pr l (fr+1) ⟨tS st.env o.dst .ab,st.o,st.nx⟩ (fp++[(rd,[])]) [fp.length] (ws++fp.flatMap (·.2))with
    |some (wl,fp)=>some (.bN v wl fp)
    |none=>none
   |none=>none
  |some false=>mC st.env o.dst (.bY []) fun e=>Nat.fc (fr+1) fun fr=>wE P tab md rec pr l fr ⟨e,st.o,st.nx⟩ (fp++[([],[])])
  |none=>none
noncomputable def quiet(fp:Fp):Bool:=fp.all fun x=>match x.2 with|[]=>true|_=>false
noncomputable def AY(m:Nat)(x:List Nat×List Nat):Nat->Fp->Bool
 |_,[]=>true
 |i,y::l=>(match y.2,x.2 with
  |[],[]=>true
  |_,_=>m.testBit i||(kX y.2 x.1&&kX y.2 x.2&&kX x.2 y.1))&&AY m x (i+1) l
noncomputable def Hz(ms:List Nat)(pre:Fp):Nat->Fp->Bool
 |_,[]=>true
 |j,x::l=>AY (ms.getD j 0) x 0 pre&&Hz ms (pre++[x]) (j+1) l
noncomputable def nfc{β:Type}:List Nat->(List Nat->β)->β
 |[],c=>c []
 |x::xs,c=>Nat.fc x fun x=>nfc xs fun xs=>c (x::xs)
theorem MX{β:Type}:∀ (x:List Nat) (c:List Nat->β),nfc x c=c x
 |[],c=>rfl
 |x::xs,c=>by simp only[nfc,Nat.de,MX xs]
noncomputable def QG{β:Type}:Fp->(Fp->β)->β
 |[],c=>c []
 |(a,b)::l,c=>nfc a fun a=>nfc b fun b=>QG l fun l=>c ((a,b)::l)
theorem HA{β:Type}:∀ (x:Fp) (c:Fp->β),QG x c=c x
 |[],c=>rfl
 |(a,b)::l,c=>by simp only[QG,MX,HA l]
noncomputable def MY(pr:List (List Nat))(fp:Fp):Bool:=match quiet fp with|true=>true|false=>QG fp fun fp=>Hz (eM pr []) [] 0 fp
theorem zj{m:Nat}{x:List Nat×List Nat}:∀ (l:Fp) (i:Nat),AY m x i l=true->∀k,k<l.length->(m.testBit (i+k)||(kX (l.getD k ([],[])).2 x.1&&kX (l.getD k ([],[])).2 x.2&&kX x.2 (l.getD k ([],[])).1))=true
 |[],i,_,k,hk=>by simp at hk
 |y::l,i,h,k,hk=>by
  simp only[AY,Bool.and_eq_true]at h
  cases k with
  |zero=>
   have h1:=h.1
   simp only[List.getD_cons_zero,Nat.add_zero]
   split at h1
   ·rename_i e1 e2
    rw[e1,e2];simp[kX]
   ·exact h1
  |succ k=>
   have:=zj l (i+1) h.2 k (by simpa using hk)
   rw[List.getD_cons_succ,show i+(k+1)=i+1+k by omega]
   exact this
theorem Dq{ms:List Nat}:∀ (l pre:Fp),Hz ms pre pre.length l=true->∀j,pre.length<=j->j<(pre++l).length->∀i,i<j->
 ((ms.getD j 0).testBit i||(kX ((pre++l).getD i ([],[])).2 ((pre++l).getD j ([],[])).1&&kX ((pre++l).getD i ([],[])).2 ((pre++l).getD j ([],[])).2&&kX ((pre++l).getD j ([],[])).2 ((pre++l).getD i ([],[])).1))=true
 |[],pre,_,j,h1,h2,i,_=>by simp at h2;omega
 |x::l,pre,h,j,h1,h2,i,hi=>by
  simp only[Hz,Bool.and_eq_true]at h
  by_cases e:j=pre.length
  ·subst e
   have:=zj pre 0 h.1 i hi
   have e1:(pre++x::l).getD pre.length ([],[])=x:=by simp[List.getD_eq_getElem?_getD]
   have e2:(pre++x::l).getD i ([],[])=pre.getD i ([],[]):=by simp[List.getD_eq_getElem?_getD,List.getElem?_append_left hi]
   rw[e1,e2]
   simpa using this
  ·have h3:=h.2
   have:=Dq l (pre++[x]) (by simpa using h3) j gL vm i hi
   simpa using this
noncomputable def Xj(P:Program)(tab:Nat->FD)(md:rb P)(rec:dH)(l:List b7)(pr:List (List Nat))(st:St):Option (fK×St):=
 match wE P tab md rec pr l st.nx st []with
 |some (.fin s1 fp)=>match MY pr fp with
  |true=>Nat.fc (st.nx+l.length) fun n=>some (.normal,⟨s1.env,s1.o,n⟩)
  |false=>none
 |some (.bN v wl fp)=>match MY pr fp with
  |true=>some (.bN v,⟨.e (vY (dstsOf l) wl l.length st.S).env, .e (vY (dstsOf l) wl l.length st.S).o,st.nx+l.length⟩)
  |false=>none
 |none=>none
noncomputable def ac0(id:Nat)(env:Tr V)(kt:Kt)(c:CR):Option eE:=
 match c with
 | .ret _ o1 BK=>match o1.get id with
   | .loop nf m e p c d Ub pd=>match Ub with
     | .busy=>none
     |_=>match pd with
      |none=>kt .normal ⟨env,o1.set id (.loop nf m e p c d .exhausted pd),BK⟩
      |some .ret=>kt .ret ⟨env,o1.set id (.loop nf m e p c d .exhausted pd),BK⟩
      |some (.exit j)=>kt (.exit j) ⟨env,o1.set id (.loop nf m e p c d .exhausted pd),BK⟩
   |_=>none
 | .bN v o1 BK=>kt (.bN v) ⟨env,o1,BK⟩
noncomputable def QH(P:Program)(tab:Nat->FD)(rec:dH)(n:Nat)(g:Operand)(ps:List Nat)(x y:IC)(st:St)(kt:Kt):Option eE:=
 match st.S.ev g with
 | .func (.func f) first cap=>MN P tab rec f (first++[.kH st.nx]++cap) (st.o.set st.nx (.loop P.funcs.size n ((List.range n).map st.env.get) ps x y .ready none)) (st.nx+1) (ac0 st.nx st.env kt)
 |_=>none
abbrev py:=(P:Program)->(Nat->FD)->rb P->dH->Nat->Bool->Nat->St->Kt->Option eE
noncomputable def roX(kt:Kt):RO->Option eE:=fun r=>match r with| .ok st=>kt .normal st| .bN v st=>kt (.bN v) st
noncomputable def agh(l:List b7):py:=fun P tab md rec _ _ _ st kt=>AW P tab md rec (roX kt) l st
def zk:List Nat->Nat->Nat->Nat
 |[],_,c=>c
 |x::l,k,c=>match Nat.beq x (2^k - 1)with
  |true=>zk l (k+1) c
  |false=>zk l (k+1) (k+1)
def re(pr:List (List Nat)):Nat:=zk (eM pr []) 0 0
noncomputable def Xk(l:List b7)(pr:List (List Nat)):py:=fun P tab md rec _ _ _ st kt=>
 Nat.fc (re pr) fun m=>match wE P tab md rec pr (l.take m) st.nx st []with
 |some (.fin s1 fp)=>match MY pr fp with
  |true=>Nat.fc (st.nx+m) fun n=>match Nat.ble m l.length with
   |true=>AW P tab md rec (roX kt) (l.drop m) ⟨s1.env,s1.o,n⟩
   |false=>none
  |false=>none
 |some (.bN _ _ _)=>match Xj P tab md rec l pr st with
  |some (e,s1)=>kt e s1
  |none=>none
 |none=>none
noncomputable def Fy(rec:dH)(b:Nat)(rd:Bool)(n:Nat)(y:IC)(kt:Kt):Kt:=fun e s1=>match e with| .normal=>rec b rd n y s1 kt|e=>kt e s1
noncomputable def agi(x y:IC):py:=fun _ _ _ rec b rd n st kt=>rec b rd n x st (Fy rec b rd n y kt)
noncomputable def HB(a c:Option eE):Option eE:=
 match a with
 |some (.r x)=>match c with
  |some (.r y)=>match R.same x y with
   |true=>some (.r x)
   |false=>none
  |_=>none
 |_=>none
noncomputable def ac1(c:Operand)(x y:IC):py:=fun _ _ _ rec b rd n st kt=>match st.S.ev c with
 | .d (.bool true)=>rec b rd n x st kt
 | .d (.bool false)=>rec b rd n y st kt
 | .fH=>HB (rec b rd n x st kt) (rec b rd n y st kt)
 |_=>none
noncomputable def Fz(id:Nat)(kt:Kt):Kt:=fun e s1=>match e with
 | .exit j=>match Nat.beq j id with
   |true=>kt .normal s1
   |false=>kt (.exit j) s1
 |e=>kt e s1
noncomputable def Xl(id:Nat)(x:IC):py:=fun _ _ _ rec b rd n st kt=>rec b rd n x st (Fz id kt)
noncomputable def ac2(x:IC):py:=fun _ _ _ rec b rd n st kt=>match Nat.ble b st.nx with
 |true=>rec b rd n x st (Fy rec b rd n (.loop x) kt)
 |false=>none
noncomputable def Xm(e:fK):py:=fun _ _ _ _ _ _ _ st kt=>kt e st
noncomputable def agj:py:=fun _ _ _ _ _ _ _ _ _=>none
noncomputable def agk(g:Operand)(ps:List Nat)(x y:IC):py:=fun P tab _ rec _ rd n st kt=>match rd with
 |true=>none
 |false=>QH P tab rec n g ps x y st kt
noncomputable def Uc(ic:IC):py:=
 match ic with
 | .skip=>Xm .normal
 | .ah l=>agh l
 | .dI l pr=>Xk l pr
 | .seq x y=>agi x y
 | .cond c x y=>ac1 c x y
 | .block id x=>Xl id x
 | .loop x=>ac2 x
 | .exit id=>Xm (.exit id)
 | .ret=>Xm .ret
 | .Ky g ps x y=>agk g ps x y
 | .bad=>agj
noncomputable def run(P:Program)(tab:Nat->FD)(md:rb P)(k:Nat):dH:=
 Nat.rec (motive:=fun _=>dH) (fun _ _ _ _ _ _=>none) (fun _ rec b rd n ic st kt=>Uc ic P tab md rec b rd n st kt) k
theorem MZ{P:Program}{tab:Nat->FD}{md:rb P}{k:Nat}:run P tab md (k+1)=fun b rd n ic st kt=>Uc ic P tab md (run P tab md k) b rd n st kt:=rfl
section
variable {P:Program}{tab:Nat->FD}{md:rb P}
theorem Ud(bf:P.follows .mixedOrders=true)(cN:∀g,(tab g).Ok P g){rec:dH}(bI:eL P rec){fr:Nat}{g:Nat}{args:List V}{st:St}{r:DR}(h:hX P tab rec g args st=some r){K:V->List (Nat×ad)->List Nat->Prop}{KX:V->List Nat->List Nat->Prop}(hr:r.to K KX):
 jh P g args st.S.o st.S.nx fr K KX:=by
 unfold hX at h
 simp only at h
 generalize mV:reach st.o.get 2000 (V.aL args) []=rd at h
 split at h
 ·rename_i hc
  simp only[Bool.and_eq_true,List.all_eq_true]at hc
  obtain⟨Xn,sD⟩:=hc
  have a1:∀id∈rd,id<st.nx:=fun id aw=>Nat.le_of_ble_eq_true (Xn id aw).1
  have a2:∀id∈V.aL args,id∈rd:=fun id aw=>by simpa using sD id aw
  have a3:∀id∈rd,∀j∈(st.o.get id).refs,j∈rd:=fun id aw j hj=>by simpa using(Xn id aw).2 j hj
  have a0:rd.all (fun id=>decide (id<st.S.nx))=true:=List.all_eq_true.2 fun id aw=>decide_eq_true (a1 id aw)
  have key:∀ {r:CR} {a:CR},crA r=some (.c a)->r=a:=fun h=>by unfold crA at h;injection h with h;injection h
  split at h
  ·rename_i v o1 BK hf
   split at h
   ·cases h
   ·rename_i v' qm
    split at h
    ·rename_i rs hrs
     split at h
     ·rename_i M0
      injection h with h;subst h
      simp only[Bool.and_eq_true,List.all_eq_true]at M0
      refine⟨rd,_,a0, .inl ⟨rs,BI.la a1 a2 a3 (fun x hx=>(ja rd x hx).1) (fun x hx j hj=>by simpa using M0.1 x hx j hj) (nM bf cN bI hf fun r yJ=> ?_),hr⟩⟩
      rw[key yJ]
      refine⟨fun id aw=>tT aw,wz v,rs, ?_,hrs,rfl,fun id aw=>by simpa using M0.2 id aw⟩
      cases v with
      |bY vs=>
       match vs,qm with
       |[],_=>rfl
       |[x],hv=>exact absurd rfl (hv x)
       |_::_::_,_=>rfl
      |_=>rfl
     ·cases h
    ·cases h
  ·rename_i v o1 BK hf
   split at h
   ·rename_i x hx
    split at h
    ·rename_i M0
     injection h with h;subst h
     simp only[Bool.and_eq_true,List.all_eq_true]at M0
     refine⟨rd,eR st.o.get o1.get rd,a0, .inr (.inl ⟨x,BI.la a1 a2 a3 (fun x hx=>(ja rd x hx).1) (fun x hx j hj=>by simpa using M0.1 x hx j hj) (nM bf cN bI hf fun r yJ=> ?_),hr⟩)⟩
     rw[key yJ]
     exact⟨fun id aw=>tT aw,x,hx,rfl,fun id aw=>by simpa using M0.2 id aw⟩
    ·cases h
   ·cases h
  ·cases h
 ·cases h
theorem Xo(bf:P.follows .mixedOrders=true)(cN:∀g,(tab g).Ok P g){rec:dH}(bI:eL P rec){g:Nat}{args:List V}{st:St}{rd:List Nat}{ds:List D}(fj:cm st.o.get args=some ds){r:DR}(h:cDX P tab md rec g args st rd=some r)
 {K:V->List (Nat×ad)->List Nat->Prop} {KX:V->List Nat->List Nat->Prop} (hr:r.to K KX):
 tQ P g ds (fun v=>K v (bG st.S.o (V.bc args)) rd) (fun v=>K v [] rd) (fun v=>KX v [] rd):=by
 unfold cDX at h
 simp only[fj]at h
 split at h
 ·split at h
  ·rename_i v o1 BK hr0
   split at h
   ·rename_i hrf
    injection h with h;subst h
    exact .inr (.inr ⟨v,O4.la hrf (nM bf cN bI hr0 fun r yJ=>by unfold crA at yJ;injection yJ with yJ;injection yJ with yJ;rw[yJ];exact rfl),hr⟩)
   ·cases h
  ·cases h
 ·split at h
  ·rename_i rs C9
   have hP:=AX bf cN bI C9
   split at h
   ·rename_i hf
    injection h with h;subst h
    exact .inl ⟨rs,hP, .inr ⟨hf,hr⟩⟩
   ·injection h with h;subst h
    exact .inl ⟨rs,hP, .inl hr⟩
  ·rename_i x C9
   have hP:=AX bf cN bI C9
   split at h
   ·rename_i hf
    injection h with h;subst h
    exact .inr (.inl ⟨x,hP,hf,hr⟩)
   ·cases h
  ·cases h
theorem HC{t ty:TypeId}{sz:Nat}{es:List D}{r:CR}(h:QE P t r=some (.r (.ret [.sl es, .int .i64 (.ofNat ty), .int .i64 (.ofNat sz)]))):
 r.to (fun v o1 _=>(∃j ep,v= .osl j ep/\o1 j= .arr ep ty sz es)\/(v= .ax/\es=[]/\0<sz)) (fun _ _ _=>False):=by
 unfold QE at h
 split at h
 ·rename_i v o1 n1
  split at h
  ·rename_i j ep
   split at h
   ·rename_i fT ty' rX es' ho
    split at h
    ·rename_i he
     have he:=Nat.eq_of_beq_eq_true he
     subst he
     rw[Fx]at h
     simp only[Option.some.injEq,eE.r.injEq,R.ret.injEq,List.cons.injEq,D.sl.injEq,D.int.injEq,true_and,and_true]at h
     obtain⟨rfl,h2,h3⟩:=h
     have h2:ty'=ty:=Int.ofNat.inj h2
     have h3:rX=sz:=Int.ofNat.inj h3
     subst h2;subst h3
     exact .inl ⟨j,fT,rfl,ho⟩
    ·cases h
   ·cases h
  ·split at h
   ·rename_i e he
    split at h
    ·rename_i hp
     rw[Fx]at h
     simp only[Option.some.injEq,eE.r.injEq,R.ret.injEq,List.cons.injEq,D.sl.injEq,D.int.injEq,true_and,and_true]at h
     obtain⟨rfl,h2,h3⟩:=h
     have h3:P.cellsOf e=sz:=Int.ofNat.inj h3
     subst h3
     exact .inr ⟨rfl,rfl,Nat.blt_eq.mp hp⟩
    ·cases h
   ·cases h
  ·cases h
 ·cases h
theorem QI(bf:P.follows .mixedOrders=true)(cN:∀g,(tab g).Ok P g){rec:dH}(bI:eL P rec){fr:Nat}{g:Nat}{t:TypeId}{args:List V}{st:St}{r:DR}(h:Xi P tab rec g t args st fr=some r){K:V->List (Nat×ad)->List Nat->Prop}{KX:V->List Nat->List Nat->Prop}(hr:r.to K KX):
 jh P g args st.S.o st.S.nx fr K KX:=by
 unfold Xi at h
 split at h
 ·rename_i ds fj
  split at h
  ·rename_i es ty sz hr0
   injection h with h;subst h
   unfold zi at fj
   split at fj
   ·rename_i aw
    exact⟨[],_,aE, .inr (.inr ⟨_,BJ.Qy aw fj (BJ.MF (nM bf cN bI hr0 fun r yJ=>HC yJ)),hr⟩)⟩
   ·cases fj
  ·cases h
 ·split at h
  ·rename_i ds fj
   split at h
   ·rename_i es ty sz hr0
    split at h
    ·rename_i hc
     injection h with h;subst h
     simp only[Bool.and_eq_true]at hc
     refine⟨V.bc args,_, ?_, .inr (.inr ⟨_,BJ.Qx fj hc.1 (nM bf cN bI hr0 fun r yJ=>HC yJ),hr⟩)⟩
     exact List.all_eq_true.2 fun id aw=>decide_eq_true (Nat.blt_eq.mp (List.all_eq_true.1 hc.2 id aw))
    ·cases h
   ·cases h
  ·cases h
theorem AZ(bf:P.follows .mixedOrders=true)(cN:∀g,(tab g).Ok P g){rec:dH}(bI:eL P rec){st:St}{fr:Nat}{o:b7}{r:DR}(h:QF P tab md rec st fr o.op=some r){K:V->List (Nat×ad)->List Nat->Prop}{KX:V->List Nat->List Nat->Prop}(hr:r.to K KX):
 BM P st.S fr o K KX:=by
 have hs:sDX P st fr o.op=some r->(match gM P st.S fr o.op with|some (v,Δ,_)=>K v Δ (o9 st.S o.op)|none=>False):=by
  intro h
  unfold sDX at h
  split at h
  ·rename_i v Δ rd he
   injection h with h;subst h
   simp only[Hs he]
   exact hr
  ·cases h
 unfold QF at h
 unfold BM
 split at h
 ·rename_i c hc
  simp only[hc]
  split at h
  ·rename_i f hf
   simp only[hf]
   split at h
   ·rename_i g first cap hv
    simp only[hv]
    split at h
    ·have hh:=Ud bf cN bI h hr (fr:=fr)
     split
     ·exact .inr hh
     ·exact hh
    split at h
    ·rename_i r' V7
     injection h with h;subst h
     cases fj:cm st.S.o (first++List.map st.S.ev c.args.toList++cap)with
     |some ds=>exact .inl (Xo bf cN bI fj V7 hr)
     |none=>
      have Xf:cm st.o.get (first++List.map st.S.ev c.args.toList++cap)=none:=fj
      unfold cDX at V7
      simp only[Xf]at V7
      exact Ud bf cN bI V7 hr
    ·have hh:=QI bf cN bI (st:=st) h hr
     split
     ·exact .inr hh
     ·exact hh
   ·cases h
  ·rename_i fi
   rw[<- hc]at h
   have:=hs h
   rw[hc]at this
   split
   ·rename_i f hf;exact absurd hf (fi f)
   ·exact this
 ·rename_i hc
  have:=hs h
  split
  ·rename_i c hh;exact absurd hh (hc c)
  ·exact this
def gdW(s:S)(gd:Option (Nat×Bool))(A B:Prop):Prop:=
 match gd with
 |none=>A
 |some (d,want)=>match s.env d with
  | .d (.bool b)=>if b=want then A else B
  | .bY []=>B
  |_=>False
theorem A0{st:St}{gd:Option (Nat×Bool)}{t:Bool}(h:gdX st gd=some t){A B:Prop}(hA:t=true->A)(hB:t=false->B):gdW st.S gd A B:=by
 cases gd with
 |none=>simp only[gdX,Option.some.injEq]at h;exact hA h.symm
 |some p=>
  obtain⟨d,want⟩:=p
  have he:st.S.env d=st.env.get d:=rfl
  simp only[gdX]at h
  simp only[gdW,he]
  split at h
  ·rename_i b hb
   injection h with h
   by_cases e:b=want
   ·rw[if_pos e];exact hA (by rw[<- h,e];simp)
   ·rw[if_neg e];exact hB (by rw[<- h];simpa using e)
  ·rename_i hb
   injection h with h
   exact hB h.symm
  ·cases h
theorem QJ{P:Program}{KB:List Nat->Fp->Prop}{pr:List (List Nat)}{o:b7}{l:List b7}{fr:Nat}{s:S}{fp:Fp}{bad ws:List Nat}(hb:(pr.getD fp.length []).any (fun j=>bad.contains j)=false)
 (h:gdW s o.gd (BM P s fr o (fun v Δ rd=>iJ P KB pr l (fr+1) ⟨a8 s.env o.dst v,put s.o Δ,s.nx⟩ (fp++[(rd,Δ.map (·.1))]) bad (ws++Δ.map (·.1))) (fun _ _ _=>False)) (iJ P KB pr l (fr+1) ⟨a8 s.env o.dst (.bY []),s.o,s.nx⟩ (fp++[([],[])]) bad ws)):
 iJ P KB pr (o::l) fr s fp bad ws:=by
 simp only[iJ]
 rw[if_neg (by rw[hb];simp)]
 cases hg:o.gd with
 |none=>rw[hg]at h;exact h
 |some p=>obtain⟨d,want⟩:=p;rw[hg]at h;exact h
theorem QK{P:Program}{K:S->Fp->Prop}{KP:V->List Nat->Fp->Prop}{pr:List (List Nat)}{o:b7}{l:List b7}{fr:Nat}{s:S}{fp:Fp}
 (h:gdW s o.gd (BM P s fr o (fun v Δ rd=>lu P K KP pr l (fr+1) ⟨a8 s.env o.dst v,put s.o Δ,s.nx⟩ (fp++[(rd,Δ.map (·.1))]))
  (fun v ws rd=>iJ P (KP v) pr l (fr+1) ⟨a8 s.env o.dst .ab,s.o,s.nx⟩ (fp++[(rd,[])]) [fp.length] (ws++fp.flatMap (·.2)))) (lu P K KP pr l (fr+1) ⟨a8 s.env o.dst (.bY []),s.o,s.nx⟩ (fp++[([],[])]))):
 lu P K KP pr (o::l) fr s fp:=by
 simp only[lu]
 cases hg:o.gd with
 |none=>rw[hg]at h;exact h
 |some p=>obtain⟨d,want⟩:=p;rw[hg]at h;exact h
theorem rh(bf:P.follows .mixedOrders=true)(cN:∀g,(tab g).Ok P g){rec:dH}(bI:eL P rec){pr:List (List Nat)}{wl:List Nat}{fp':Fp}{KB:List Nat->Fp->Prop}(hK:KB wl fp'):
 ∀ (l:List b7) (fr:Nat) (st:St) (fp:Fp) (bad ws:List Nat),wD P tab md rec pr l fr st fp bad ws=some (wl,fp')->iJ P KB pr l fr st.S fp bad ws
 |[],fr,st,fp,bad,ws,h=>by
  simp only[wD,Option.some.injEq,Prod.mk.injEq]at h
  obtain⟨rfl,rfl⟩:=h;exact hK
 |o::l,fr,st,fp,bad,ws,h=>by
  simp only[wD,jE,nL]at h
  split at h
  ·rename_i hb
   simp only[iJ]
   rw[if_pos hb]
   have:=rh bf cN bI hK l _ _ _ _ _ h
   exact LI
  ·rename_i hb
   refine QJ hb ?_
   split at h
   ·rename_i hg
    refine A0 hg (fun _=> ?_) (fun h=>by cases h)
    split at h
    ·rename_i v Δ rd gy
     refine AZ bf cN bI gy ?_
     have:=rh bf cN bI hK l _ _ _ _ _ h
     simp only[St.S,jw,j9]at this
     exact this
    ·cases h
   ·rename_i hg
    refine A0 hg (fun h=>by cases h) (fun _=> ?_)
    have:=rh bf cN bI hK l _ _ _ _ _ h
    exact LI
   ·cases h
def DQ.to (K:S->Fp->Prop)(KP:V->List Nat->Fp->Prop):DQ->Prop
 | .fin st fp=>K st.S fp
 | .bN v wl fp=>KP v wl fp
theorem nO(bf:P.follows .mixedOrders=true)(cN:∀g,(tab g).Ok P g){rec:dH}(bI:eL P rec){pr:List (List Nat)}{q:DQ}{K:S->Fp->Prop}{KP:V->List Nat->Fp->Prop}(hq:q.to K KP):
 ∀ (l:List b7) (fr:Nat) (st:St) (fp:Fp),wE P tab md rec pr l fr st fp=some q->lu P K KP pr l fr st.S fp
 |[],fr,st,fp,h=>by
  simp only[wE,Option.some.injEq]at h
  subst h;exact hq
 |o::l,fr,st,fp,h=>by
  simp only[wE,jE,nL,Nat.de]at h
  refine QK ?_
  split at h
  ·rename_i hg
   refine A0 hg (fun _=> ?_) (fun h=>by cases h)
   split at h
   ·rename_i v Δ rd gy
    refine AZ bf cN bI gy ?_
    have:=nO bf cN bI hq l _ _ _ h
    simp only[St.S,jw,j9]at this
    exact this
   ·rename_i v ws rd gy
    split at h
    ·rename_i wl fp' hb
     injection h with h;subst h
     refine AZ bf cN bI gy ?_
     have:=rh bf cN bI (KB:=KP v) hq l _ _ _ _ _ hb
     exact LI
    ·cases h
   ·cases h
  ·rename_i hg
   refine A0 hg (fun h=>by cases h) (fun _=> ?_)
   have:=nO bf cN bI hq l _ _ _ h
   exact LI
  ·cases h
theorem A1{pr:List (List Nat)}{fp:Fp}(h:MY pr fp=true):eV pr fp=true:=by
 unfold MY at h
 split at h
 ·rename_i hq
  unfold quiet at hq
  have hz:∀i,(fp.getD i ([],[])).2=[]:=by
   intro i
   rw[List.getD_eq_getElem?_getD]
   cases hx:fp[i]? with
   |none=>rfl
   |some x=>
    have:=List.all_eq_true.1 hq x (List.mem_of_getElem? hx)
    simp only[Option.getD_some]
    split at this
    ·rename_i e;exact e
    ·cases this
  unfold eV
  simp only[hz,kX,List.all_nil,Bool.and_self,Bool.or_true]
  simp
 ·rw[HA]at h
  unfold eV
  rw[List.all_eq_true]
  intro j hj
  rw[List.all_eq_true]
  intro i hi
  exact Dq fp [] h j (Nat.zero_le _) m8 i (by simpa using hi)
theorem wF:∀ (l:List Nat) (k c:Nat),c<=k->c<=zk l k c/\∀i x,l[i]? =some x->zk l k c<=k+i->x=2^(k+i) - 1
 |[],_,c,_=>⟨Nat.le_refl _,fun i x h=>by simp at h⟩
 |y::l,k,c,hc=>by
  simp only[zk]
  split
  ·rename_i he
   obtain⟨h1,h2⟩:=wF l (k+1) c af
   refine⟨h1,fun i x hi hle=> ?_⟩
   cases i with
   |zero=>simp at hi;subst hi;simpa using Nat.eq_of_beq_eq_true he
   |succ i=>
    have:=h2 i x (by simpa using hi) af
    rw[this,show k+(i+1)=k+1+i by omega]
  ·obtain⟨h1,h2⟩:=wF l (k+1) (k+1) (Nat.le_refl _)
   refine⟨af,fun i x hi hle=> ?_⟩
   cases i with
   |zero=>omega
   |succ i=>
    have:=h2 i x (by simpa using hi) af
    rw[this,show k+(i+1)=k+1+i by omega]
theorem zl:∀ (pr:List (List Nat)) (acc:List Nat),(eM pr acc).length=acc.length+pr.length
 |[],acc=>by simp[eM]
 |ps::l,acc=>by simp only[eM,zl l,List.length_append,List.length_cons,List.length_nil];omega
theorem M3(pr:List (List Nat)):Fl pr (re pr)=true:=by
 refine List.all_eq_true.2 fun k hk=> ?_
 have hk:k<pr.length:=by simpa using hk
 by_cases h:k<re pr
 ·simp[Nat.blt_eq.mpr h]
 ·have hl:k<(eM pr []).length:=by rw[zl];simpa using hk
  have:=(wF (eM pr []) 0 0 (Nat.le_refl _)).2 k _ (List.getElem?_eq_getElem hl) (by rw[Nat.zero_add];exact Nat.le_of_not_lt h)
  rw[Nat.zero_add]at this
  rw[List.getD_eq_getElem?_getD,List.getElem?_eq_getElem hl,Option.getD_some,this]
  simp
theorem QL(bf:P.follows .mixedOrders=true)(cN:∀g,(tab g).Ok P g){rec:dH}(bI:eL P rec){l:List b7}{pr:List (List Nat)}{st st':St}{e:fK}(h:Xj P tab md rec l pr st=some (e,st')){Q:fK->S->Prop}(hQ:Q e st'.S):
 lu P (Fk pr (st.S.nx+l.length) Q) (CX pr l st.S Q) pr l st.S.nx st.S []:=by
 unfold Xj at h
 split at h
 ·rename_i s1 fp hd
  split at h
  ·rename_i hf
   simp only[Nat.de,Option.some.injEq,Prod.mk.injEq]at h
   obtain⟨rfl,rfl⟩:=h
   exact nO bf cN bI (q:= .fin s1 fp) (K:=Fk pr (st.S.nx+l.length) Q) (KP:=CX pr l st.S Q) (show Fk pr (st.S.nx+l.length) Q s1.S fp from⟨A1 hf,hQ⟩) l _ _ _ hd
  ·cases h
 ·rename_i v wl fp hd
  split at h
  ·rename_i hf
   simp only[Option.some.injEq,Prod.mk.injEq]at h
   obtain⟨rfl,rfl⟩:=h
   exact nO bf cN bI (q:= .bN v wl fp) (K:=Fk pr (st.S.nx+l.length) Q) (KP:=CX pr l st.S Q) (show CX pr l st.S Q v wl fp from⟨A1 hf,hQ⟩) l _ _ _ hd
  ·cases h
 ·cases h
theorem QM(bf:P.follows .mixedOrders=true)(cN:∀g,(tab g).Ok P g){rec:dH}(bI:eL P rec){n:Nat}{g:Operand}{ps:List Nat}{x y:IC}{st:St}{kt:Kt}{a:eE}(h:QH P tab rec n g ps x y st kt=some a){Q:fK->S->Prop}(hQ:∀e st',kt e st'=some a->Q e st'.S):
 CG P n (st.S.ev g) ps x y Q st.S:=by
 unfold QH at h
 refine⟨(List.range n).map st.env.get,fun i=> ?_, ?_⟩
 ·unfold aX
  simp only[List.getD_eq_getElem?_getD,List.getElem?_map]
  by_cases hi:i<n
  ·right;rw[List.getElem?_range hi];rfl
  ·left;rw[List.getElem?_eq_none (by simp;omega)];rfl
 ·split at h
  ·rename_i f first cap hv
   simp only[hv]
   refine .inl ?_
   have key:=fun {K X} hr=>nM (K:=K) (X:=X) bf cN bI h hr
   simp only[Tr.gZ]at key
   refine key fun r hr=> ?_
   unfold ac0 at hr
   cases r with
   |ret v o1 BK=>
    simp only at hr
    split at hr
    ·rename_i nf m e p c d Ub pd ho
     have hl:Ub≠ .busy:=by
      intro hb;subst hb;cases hr
     refine⟨nf,m,e,p,c,d,Ub,pd,ho,hl, ?_⟩
     split at hr
     ·cases hr
     ·split at hr<;>(have h3:=hQ _ _ hr;simp only[qS];simp only[St.S,Tr.gZ]at h3;exact h3)
    ·cases hr
   |bN v o1 BK=>exact hQ _ _ hr
  ·cases h
theorem bL.same {b:Nat}{s:S}(h:b<=s.nx):bL b s s:=fun _ φ _ _ h1 h2=>⟨φ,h1,h2,fun _ h=>h,h,fun _ _ hr=>⟨hr,rfl⟩,fun _ e' _ he=>⟨e',he,Nat.le_refl _,fun _=>rfl⟩⟩
theorem M4{x y:Option eE}{a:eE}(h:HB x y=some a):x=some a/\y=some a:=by
 unfold HB at h
 split at h
 ·rename_i r
  split at h
  ·rename_i r'
   split at h
   ·rename_i hs
    injection h with h;subst h
    rw[R.ei hs]
    exact⟨rfl,rfl⟩
   ·cases h
  ·cases h
 ·cases h
theorem Xp(bf:P.follows .mixedOrders=true)(cN:∀g,(tab g).Ok P g):∀k,∀j,j<=k->eL P (run P tab md j):=by
 intro k
 induction k with
 |zero=>intro j hj b rd n ic st kt a h;obtain rfl:j=0:=af
        cases h
 |succ k ih=>
  intro j hj b rd n ic st kt a h Q hQ
  cases j with
  |zero=>cases h
  |succ j=>
   have bI:eL P (run P tab md j):=ih j af
   rw[MZ]at h
   cases ic with
   |skip=>exact hQ _ _ h
   |exit id=>exact hQ _ _ h
   |ret=>exact hQ _ _ h
   |bad=>cases h
   |ah l=>
    have h:AW P tab md (run P tab md j) (roX kt) l st=some a:=h
    exact uU bf cN bI (K:=Q .normal) (X:=fun v s=>Q (.bN v) s) (fun r hr=>by
     cases r with
     |ok Xg=>exact hQ .normal _ hr
     |bN v Xg=>exact hQ (.bN v) _ hr) l _ h
   |dI l pr=>
    have h:Xk l pr P tab md (run P tab md j) b rd n st kt=some a:=h
    unfold Xk at h
    rw[Nat.de]at h
    split at h
    ·rename_i s1 fp hd
     split at h
     ·rename_i hf
      rw[Nat.de]at h
      split at h
      ·rename_i KC
       refine .inr ⟨re pr,Nat.le_of_ble_eq_true KC,M3 pr, ?_⟩
       refine nO bf cN bI (q:= .fin s1 fp) (K:=fun s' fp=>eV pr fp=true/\pQ P (fun v s=>Q (.bN v) s) (Q .normal) (l.drop (re pr)) ⟨s'.env,s'.o,st.S.nx+re pr⟩) (KP:=fun _ _ _=>False) (show _/\_ from⟨A1 hf, ?_⟩) (l.take (re pr)) _ _ _ hd
       exact uU bf cN bI (K:=Q .normal) (X:=fun v s=>Q (.bN v) s) (fun r hr=>by
        cases r with
        |ok Xg=>exact hQ .normal _ hr
        |bN v Xg=>exact hQ (.bN v) _ hr) (l.drop (re pr)) ⟨s1.env,s1.o,st.nx+re pr⟩ h
      ·cases h
     ·cases h
    ·split at h
     ·rename_i e s1 h1
      exact .inl (QL bf cN bI h1 (hQ _ _ h))
     ·cases h
    ·cases h
   |seq x y=>
    have h:run P tab md j b rd n x st (Fy (run P tab md j) b rd n y kt)=some a:=h
    simp only[uP]
    refine bI _ _ _ _ _ _ _ h _ fun e s1 he=> ?_
    unfold Fy at he
    cases e with
    |normal=>exact bI _ _ _ _ _ _ _ he _ hQ
    |_=>exact hQ _ _ he
   |cond c x y=>
    have h:(match st.S.ev c with| .d (.bool true)=>run P tab md j b rd n x st kt| .d (.bool false)=>run P tab md j b rd n y st kt| .fH=>HB (run P tab md j b rd n x st kt) (run P tab md j b rd n y st kt)|_=>none)=some a:=h
    simp only[uP]
    split at h
    ·rename_i hv
     simp only[hv]
     exact(vW _ _).mpr (bI _ _ _ _ _ _ _ h _ hQ)
    ·rename_i hv
     simp only[hv]
     exact(tM _ _).mpr (bI _ _ _ _ _ _ _ h _ hQ)
    ·rename_i hv
     simp only[hv]
     obtain⟨h1,h2⟩:=M4 h
     exact⟨bI _ _ _ _ _ _ _ h1 _ hQ,bI _ _ _ _ _ _ _ h2 _ hQ⟩
    ·cases h
   |block id x=>
    have h:run P tab md j b rd n x st (Fz id kt)=some a:=h
    simp only[uP]
    refine bI _ _ _ _ _ _ _ h _ fun e s1 he=> ?_
    unfold Fz at he
    cases e with
    |exit j'=>
     simp only at he
     split at he
     ·rename_i hb
      simp only[fL,Nat.eq_of_beq_eq_true hb,if_true];exact hQ _ _ he
     ·rename_i hb
      simp only[fL,Nat.ne_of_beq_eq_false hb,if_false];exact hQ _ _ he
    |_=>exact hQ _ _ he
   |loop x=>
    have unf:∀m Ue,run P tab md (m+1) b rd n (.loop x) Ue kt=some a->b<=Ue.nx/\run P tab md m b rd n x Ue (Fy (run P tab md m) b rd n (.loop x) kt)=some a:=by
     intro m Ue h
     have h:(match Nat.ble b Ue.nx with|true=>run P tab md m b rd n x Ue (Fy (run P tab md m) b rd n (.loop x) kt)|false=>none)=some a:=h
     split at h
     ·rename_i hb;exact⟨Nat.le_of_ble_eq_true hb,h⟩
     ·cases h
    have h:run P tab md (j+1) b rd n (.loop x) st kt=some a:=h
    refine⟨fun m s=>m<=k+1/\∃st,s=st.S/\run P tab md m b rd n (.loop x) st kt=some a,⟨j+1,st.S,bL.same (unf j st h).1,hj,st,rfl,h⟩, ?_⟩
    rintro m s0 ⟨hm,Ue,rfl,h0⟩
    cases m with
    |zero=>cases h0
    |succ m=>
     have ac3:eL P (run P tab md m):=ih m af
     refine ac3 _ _ _ _ _ _ _ (unf m Ue h0).2 _ fun e s1 he=> ?_
     unfold Fy at he
     cases e with
     |normal=>
      refine⟨m,s1.S,Nat.lt_succ_self _,bL.same ?_,af,s1,rfl,he⟩
      cases m with
      |zero=>cases he
      |succ m=>exact(unf m s1 he).1
     |_=>exact hQ _ _ he
   |Ky g ps x y=>
    cases rd with
    |true=>
     have h:(none:Option eE)=some a:=h
     cases h
    |false=>
     have h:QH P tab (run P tab md j) n g ps x y st kt=some a:=h
     exact⟨rfl,_, .inl rfl,QM bf cN bI h hQ⟩
noncomputable def oZ(P:Program)(tab:Nat->FD)(md:rb P)(k:Nat)(g:Nat)(ds:List D):Option R:=
 match MN P tab (run P tab md k) g (ds.map .d) (.e fun _=> .no) 0 Dl with
 |some (.r x)=>some x
 |_=>none
theorem aW.hO (bf:P.follows .mixedOrders=true)(cN:∀g,(tab g).Ok P g){k g:Nat}{ds:List D}{out:R}(h:oZ P tab md k g ds=some out):aW P g ds out:=by
 unfold oZ at h
 split at h
 ·rename_i x hr;injection h with h;subst h;exact Dm bf cN (Xp bf cN k k (Nat.le_refl _)) hr
 ·cases h
end
end
def Tr.HD {α:Type}(p:Nat->α->Prop):Tr α->(Nat->Nat)->Prop
 | .e g,f=>∀i,p (f i) (g i)
 | .n x l r,f=>p (f 0) x/\HD p l (fun i=>f (2*i+1))/\HD p r (fun i=>f (2*i+2))
theorem Tr.A2 {α:Type}{p:Nat->α->Prop}:∀ {f:Nat->Nat} (t:Tr α),t.HD p f->∀k,p (f k) (t.get k)
 |f, .e g,h,k=>h k
 |f, .n x l r,h,k=>by
  obtain⟨h1,h2,h3⟩:=h
  rw[Tr.wu]
  split
  ·rename_i e;subst e;exact h1
  ·split
   ·have:=Tr.A2 l h2 (k/2)
    rwa [show 2*(k/2)+1=k by omega]at this
   ·have:=Tr.A2 r h3 (k/2 - 1)
    rwa [show 2*(k/2 - 1)+2=k by omega]at this
@[reducible] def mv (d s:Nat):b7:=⟨some d, .move (.tmp s),none⟩
@[reducible] def sa (d:Nat) (n:Int):b7:=⟨some d, .move (.const (.int .i64 n)),none⟩
@[reducible] def sg (d s:Nat):b7:=⟨some d, .assign (.tmp s),none⟩
@[reducible] def c6 (d:Nat) (n:Int):b7:=⟨some d, .assign (.const (.int .i64 n)),none⟩
@[reducible] def bK (d:Nat) (b:Bool):b7:=⟨some d, .assign (.const (.bool b)),none⟩
@[reducible] def ld (d t s:Nat):b7:=⟨some d, .load t (.tmp s),none⟩
@[reducible] def st (t a b:Nat):b7:=⟨none, .store t (.tmp a) (.tmp b),none⟩
@[reducible] def fa (d t s f:Nat):b7:=⟨some d, .fieldAddr t (.tmp s) f,none⟩
@[reducible] def ex (d s i:Nat):b7:=⟨some d, .extract (.tmp s) i,none⟩
@[reducible] def dF (d c a:Nat):b7:=⟨some d, .pick (.tmp c) (.tmp a) (.const (.bool false)),none⟩
@[reducible] def fR (d c a:Nat):b7:=⟨some d, .pick (.tmp c) (.const (.bool true)) (.tmp a),none⟩
@[reducible] def ia (d t x i:Nat):b7:=⟨some d, .indexAddr t (.tmp x) (.tmp i),none⟩
@[reducible] def bx (d t s:Nat):b7:=⟨some d, .box t (.tmp s),none⟩
@[reducible] def al (d t:Nat):b7:=⟨some d, .alloc t,none⟩
@[reducible] def ln (d s t:Nat):b7:=⟨some d, .call {callee:= .builtin .len,args:=#[.tmp s],argTypes:=#[t]},none⟩
@[reducible] def k0 (d f:Nat):b7:=⟨some d, .call {callee:= .value (.func f),args:=#[],argTypes:=#[]},none⟩
@[reducible] def k1 (d f a t:Nat):b7:=⟨some d, .call {callee:= .value (.func f),args:=#[.tmp a],argTypes:=#[t]},none⟩
@[reducible] def k2 (d f a b t u:Nat):b7:=⟨some d, .call {callee:= .value (.func f),args:=#[.tmp a, .tmp b],argTypes:=#[t,u]},none⟩
@[reducible] def k3 (d f a b c t u v:Nat):b7:=⟨some d, .call {callee:= .value (.func f),args:=#[.tmp a, .tmp b, .tmp c],argTypes:=#[t,u,v]},none⟩
@[reducible] def k4 (d f a b c e t u v w:Nat):b7:=⟨some d, .call {callee:= .value (.func f),args:=#[.tmp a, .tmp b, .tmp c, .tmp e],argTypes:=#[t,u,v,w]},none⟩
@[reducible] def kg (d f:Nat) (xs:Array Operand) (ts:Array TypeId):b7:=⟨some d, .call {callee:= .value (.func f),args:=xs,argTypes:=ts},none⟩
@[reducible] def ka (d a b t:Nat):b7:=⟨some d, .call {callee:= .builtin .append,args:=#[.tmp a, .tmp b],argTypes:=#[t,t]},none⟩
@[reducible] def qo (d t x:Nat):b7:=⟨some d, .buildSlice t 1 #[(0, .tmp x)],none⟩
@[reducible] def ri (d:Nat):b7:=⟨some d, .assign (.const (.slice none 0 0)),none⟩
@[reducible] def KO (d t x:Nat) (n:Int):b7:=⟨some d, .indexAddr t (.tmp x) (.const (.int .i64 n)),none⟩
@[reducible] def bo (op:BinOp) (d t x y u:Nat):b7:=⟨some d, .binOp op t (.tmp x) (.tmp y) u,none⟩
@[reducible] def bk (op:BinOp) (d t x:Nat) (n:Int) (u:Nat):b7:=⟨some d, .binOp op t (.tmp x) (.const (.int .i64 n)) u,none⟩
@[reducible] def nt (d t s:Nat):b7:=⟨some d, .unOp .not t (.tmp s),none⟩
@[reducible] def nc (d s:Nat):b7:=⟨some d, .nilCheck (.tmp s),none⟩
@[reducible] def gT (o:b7) (g:Nat):b7:=⟨o.dst,o.op,some (g,true)⟩
@[reducible] def gF (o:b7) (g:Nat):b7:=⟨o.dst,o.op,some (g,false)⟩
attribute [go_sem] mv sa sg c6 bK ld st fa ex dF fR ia bx al ln k0 k1 k2 k3 k4 kg ka qo ri KO bo bk nt nc gT gF
end Go.Proofs.YtlhemmpklhhgoaaGreat
