/-
  A PART OF THE PROOF. Conditions: none.
-/
import Derived.Test.YtpkobkdgcanmjaaGreatLk9
set_option linter.unusedSimpArgs false
set_option linter.unusedVariables false
namespace Go.Proofs.YtpkobkdgcanmjaaGreat
mutual
def V.same:V->V->Bool
 | .d x, .d y=>x.same y
 | .cu, .cu=>true
 | .bO, .bO=>true
 | .agg a, .agg b=>V.cT a b
 | .ptr i o, .ptr j p=>Nat.beq i j&&Nat.beq o p
 | .osl i o, .osl j p=>Nat.beq i j&&Nat.beq o p
 | .ir a, .ir b=>D.cT a b
 | .iface t x, .iface u y=>Nat.beq t u&&x.same y
 | .mp i, .mp j=>Nat.beq i j
 |_,_=>false
def V.cT:List V->List V->Bool
 |[],[]=>true
 |a::aP,b::bs=>a.same b&&V.cT aP bs
 |_,_=>false
end
mutual
theorem V.bY:∀ (x y:V),x.same y=true->x=y
 | .d x,y,h=>by cases y<;>simp only[V.same,Bool.false_eq_true]at h;rw[D.bY _ _ h]
 | .cu,y,h=>by cases y<;>simp_all[V.same]
 | .bO,y,h=>by cases y<;>simp_all[V.same]
 | .agg a,y,h=>by cases y<;>simp only[V.same,Bool.false_eq_true]at h;rw[V.bF _ _ h]
 | .ptr i o,y,h=>by
   cases y<;>simp only[V.same,Bool.false_eq_true,Bool.and_eq_true]at h
   rw[Nat.eq_of_beq_eq_true h.1,Nat.eq_of_beq_eq_true h.2]
 | .osl i o,y,h=>by
   cases y<;>simp only[V.same,Bool.false_eq_true,Bool.and_eq_true]at h
   rw[Nat.eq_of_beq_eq_true h.1,Nat.eq_of_beq_eq_true h.2]
 | .ir a,y,h=>by cases y<;>simp only[V.same,Bool.false_eq_true]at h;rw[D.bF _ _ h]
 | .iface t x,y,h=>by
   cases y<;>simp only[V.same,Bool.false_eq_true,Bool.and_eq_true]at h
   rw[Nat.eq_of_beq_eq_true h.1,V.bY _ _ h.2]
 | .mp i,y,h=>by
   cases y<;>simp only[V.same,Bool.false_eq_true]at h
   rw[Nat.eq_of_beq_eq_true h]
 | .a8 _,y,h| .pe _ _ _ _ _,y,h| .pp _ _,y,h| .func _ _ _,y,h| .mb _ _ _,y,h| .cJ,y,h| .gW _,y,h=>by simp[V.same]at h
theorem V.bF:∀ (x y:List V),V.cT x y=true->x=y
 |[],y,h=>by cases y<;>simp_all[V.cT]
 |a::aP,y,h=>by
  cases y<;>simp only[V.cT,Bool.false_eq_true,Bool.and_eq_true]at h
  rw[V.bY _ _ h.1,V.bF _ _ h.2]
end
def lX:List (D×D)->List (D×D)->Bool
 |[],[]=>true
 |(a,b)::l,(c,d)::m=>a.same c&&(b.same d&&lX l m)
 |_,_=>false
theorem lY:∀ (l m:List (D×D)),lX l m=true->l=m
 |[],m,h=>by cases m<;>simp_all[lX]
 |(a,b)::l,m,h=>by
  cases m with
  |nil=>simp[lX]at h
  |cons p m=>
   obtain⟨c,d⟩:=p
   simp only[lX,Bool.and_eq_true]at h
   rw[D.bY _ _ h.1,D.bY _ _ h.2.1,lY l m h.2.2]
noncomputable def ab.same:ab->ab->Bool
 | .no, .no=>true
 | .row a, .row b=>V.cT a b
 | .arr e t s a, .arr f u r b=>Nat.beq e f&&Nat.beq t u&&Nat.beq s r&&D.cT a b
 | .kf e a, .kf f b=>Nat.beq e f&&D.cT a b
 | .map k v a, .map k' v' b=>Nat.beq k k'&&Nat.beq v v'&&lX a b
 | .dw a, .dw b=>lX a b
 | .oe a i, .oe b j=>a==b&&Nat.beq i j
 |_,_=>false
theorem ab.bY {x y:ab}(h:x.same y=true):x=y:=by
 cases x<;>cases y<;>simp only[ab.same,Bool.false_eq_true,Bool.and_eq_true]at h
 ·rfl
 ·rw[V.bF _ _ h]
 ·rw[Nat.eq_of_beq_eq_true h.1.1.1,Nat.eq_of_beq_eq_true h.1.1.2,Nat.eq_of_beq_eq_true h.1.2,D.bF _ _ h.2]
 ·rw[Nat.eq_of_beq_eq_true h.1,D.bF _ _ h.2]
 ·rw[Nat.eq_of_beq_eq_true h.1.1,Nat.eq_of_beq_eq_true h.1.2,lY _ _ h.2]
 ·rw[lY _ _ h]
 ·rw[eq_of_beq h.1,Nat.eq_of_beq_eq_true h.2]
noncomputable def reach(o:Nat->ab):Nat->List Nat->List Nat->List Nat
 |0,_,seen=>seen
 |_+1,[],seen=>seen
 |n+1,id::todo,seen=>match seen.contains id with
  |true=>reach o n todo seen
  |false=>reach o n ((o id).refs++todo) (id::seen)
noncomputable def ck(o o1:Nat->ab):List Nat->List (Nat×ab)
 |[]=>[]
 |id::l=>match(o id).same (o1 id)with
  |true=>ck o o1 l
  |false=>(id,o1 id)::ck o o1 l
theorem dK{o o1:Nat->ab}:∀ (l:List Nat) (x:Nat×ab),x∈ck o o1 l->x.1∈l/\x.2=o1 x.1
 |[],x,h=>by simp[ck]at h
 |id::l,x,h=>by
  simp only[ck]at h
  split at h
  ·obtain⟨h1,h2⟩:=dK l x h;exact⟨List.mem_cons_of_mem _ h1,h2⟩
  ·rcases List.mem_cons.1 h with rfl|h
   ·exact⟨by simp,rfl⟩
   ·obtain⟨h1,h2⟩:=dK l x h;exact⟨List.mem_cons_of_mem _ h1,h2⟩
theorem gw{o o1:Nat->ab}:∀ (l:List Nat) (id:Nat),id∈l->id∉(ck o o1 l).map (·.1)->o1 id=o id
 |[],id,h,_=>by simp at h
 |j::l,id,h,hn=>by
  simp only[ck]at hn
  split at hn
  ·rename_i hs
   rcases List.mem_cons.1 h with rfl|h
   ·exact(ab.bY hs).symm
   ·exact gw l id h hn
  ·simp only[List.map_cons,List.mem_cons,not_or]at hn
   rcases List.mem_cons.1 h with rfl|h
   ·exact absurd rfl hn.1
   ·exact gw l id h hn.2
theorem pF{o1:Nat->ab}:∀ (Δ:List (Nat×ab)) (o:Nat->ab),(∀x∈Δ,x.2=o1 x.1)->∀id,id∈Δ.map (·.1)\/o id=o1 id->put o Δ id=o1 id
 |[],o,_,id,h=>by rcases h with h|h;· simp at h
                  ·exact h
 |x::Δ,o,hv,id,h=>by
  simp only[put,List.foldl_cons]
  refine pF Δ (cK o x.1 x.2) (fun y hy=>hv y (List.mem_cons_of_mem _ hy)) id ?_
  simp only[List.map_cons,List.mem_cons]at h
  simp only[ao]
  by_cases e:id=x.1
  ·right;rw[if_pos e,hv x (by simp),e]
  ·rcases h with(h|h)|h
   ·exact absurd h e
   ·exact .inl h
   ·right;rw[if_neg e];exact h
theorem ka{o o1:Nat->ab}{l:List Nat}{id:Nat}(h:id∈l):o1 id=put o (ck o o1 l) id:=by
 by_cases hm:id∈(ck o o1 l).map (·.1)
 ·exact(pF _ o (fun x hx=>(dK l x hx).2) id (.inl hm)).symm
 ·rw[da hm];exact gw l id h hm
inductive DR where
 |val (v:V) (Δ:List (Nat×ab)) (rd:List Nat)|aJ (v:V) (ws rd:List Nat)
def DR.to (K:V->List (Nat×ab)->List Nat->Prop)(KX:V->List Nat->List Nat->Prop):DR->Prop
 | .val v Δ rd=>K v Δ rd
 | .aJ v ws rd=>KX v ws rd
noncomputable def BG(c:CR):Option b8:=some (.c c)
noncomputable def hX(P:Program)(aK:Nat->FD)(rec:bM)(g:Nat)(args:List V)(st:St):Option DR:=
 let rd:=reach st.o.get 2000 (V.bq args) []
 match rd.all (fun id=>Nat.blt id st.nx&&(st.o.get id).refs.all rd.contains)&&(V.bq args).all rd.contains with
 |true=>match ui P aK rec g args (.e (w9 rd st.o.get)) st.nx BG with
  |some (.c (.ret v o1 _))=>match v with
   | .a8 [_]=>none
   |v=>match aR o1.get (lV v)with
    |some rs=>match(ck st.o.get o1.get rd).all (fun x=>x.2.refs.all rd.contains)&&(V.aA (lV v)).all (fun id=> !rd.contains id)with
     |true=>some (.val (fM rs) (ck st.o.get o1.get rd) rd)
     |false=>none
    |none=>none
  |some (.c (.aJ v o1 _))=>match cD o1.get v with
   |some x=>match(ck st.o.get o1.get rd).all (fun x=>x.2.refs.all rd.contains)&&v.ids.all (fun id=> !rd.contains id)with
    |true=>some (.aJ (.d x) ((ck st.o.get o1.get rd).map (·.1)) rd)
    |false=>none
   |none=>none
  |_=>none
 |false=>none
noncomputable def F5(P:Program)(aK:Nat->FD)(md:il P)(rec:bM)(g:Nat)(args:List V)(st:St)(rd:List Nat):Option DR:=
 match aR st.o.get args with
 |some ds=>match md.BB g with
  |false=>match ui P aK rec g (ds.map .d) (.e fun _=> .no) 0 BG with
   |some (.c (.ret v _ _))=>match v.refs with
    |[]=>some (.val v (bH st.o.get (V.aA args)) rd)
    |_=>none
   |_=>none
  |true=>match vI P aK md rec g ds with
   |some (.ret rs)=>match D.e8 rs with
    |true=>some (.val (fM rs) [] rd)
    |false=>some (.val (fM rs) (bH st.o.get (V.aA args)) rd)
   |some (.aJ x)=>match x.flat with
    |true=>some (.aJ (.d x) [] rd)
    |false=>none
   |none=>none
 |none=>hX P aK rec g args st
noncomputable def F6(P:Program)(st:St)(fr:Nat)(op:Op):Option DR:=
 match vH op P st.S fr with
 |some (v,Δ,_)=>some (.val v Δ (eb st.S op))
 |none=>none
def V.Ho:V->Bool
 | .mp _=>true
 |_=>false
def yB{P:Program}(md:il P)(g:Nat)(args:List V):Bool:= !md.BB g&&args.any V.Ho
def m8(args:List V):Option (List D):=
 match V.aA args with
 |[]=>aR (fun _=> .no) args
 |_=>none
noncomputable def vN(P:Program)(t:TypeId)(c:CR):Option b8:=
 match c with
 | .ret v o1 _=>match v with
   | .osl j ep=>match o1.get j with
     | .arr dL ty sz es=>match Nat.beq dL ep with
       |true=>BA (.ret [.sl es, .int .i64 (ty:Nat), .int .i64 (sz:Nat)]) fun x=>some (.r x)
       |false=>none
     |_=>none
   | .cu=>match cP P t with
     |some e=>match Nat.blt 0 (P.cellsOf e)with
      |true=>BA (.ret [.sl [], .int .i64 (e:Nat), .int .i64 (P.cellsOf e:Nat)]) fun x=>some (.r x)
      |false=>none
     |none=>none
   |_=>none
 |_=>none
noncomputable def yC(P:Program)(aK:Nat->FD)(rec:bM)(g:Nat)(t:TypeId)(args:List V)(st:St)(fr:Nat):Option DR:=
 match m8 args with
 |some ds=>match ui P aK rec g (ds.map .d) (.e fun _=> .no) 0 (vN P t)with
  |some (.r (.ret [.sl es, .int .i64 (.ofNat ty), .int .i64 (.ofNat sz)]))=>some (.val (.osl fr 0) [(fr, .arr 0 ty sz es)] [])
  |_=>none
 |none=>match aR st.o.get args with
  |some ds=>match ui P aK rec g (ds.map .d) (.e fun _=> .no) 0 (vN P t)with
   |some (.r (.ret [.sl es, .int .i64 (.ofNat ty), .int .i64 (.ofNat sz)]))=>match D.e8 es&&(V.aA args).all (fun id=>Nat.blt id st.nx)with
    |true=>some (.val (.osl fr 0) [(fr, .arr 0 ty sz es)] (V.aA args))
    |false=>none
   |_=>none
  |none=>none
noncomputable def vO(P:Program)(aK:Nat->FD)(md:il P)(rec:bM)(st:St)(fr:Nat)(op:Op):Option DR:=
 match op with
 | .call c=>match c.callee with
   | .value f=>match st.S.ev f with
     | .func (.func g) first cap=>match yB md g (first++c.args.toList.map st.S.ev++cap)with
       |true=>hX P aK rec g (first++c.args.toList.map st.S.ev++cap) st
       |false=>match F5 P aK md rec g (first++c.args.toList.map st.S.ev++cap) st (eb st.S (.call c))with
        |some r=>some r
        |none=>yC P aK rec g (c.argTypes.getD 0 0) (first++c.args.toList.map st.S.ev++cap) st fr
     |_=>none
   |_=>F6 P st fr (.call c)
 |op=>F6 P st fr op
noncomputable def BH(st:St):Option (Nat×Bool)->Option Bool
 |none=>some true
 |some (d,want)=>match st.env.get d with
  | .d (.bool b)=>some (b==want)
  | .a8 []=>some false
  |_=>none
noncomputable def lZ(P:Program)(aK:Nat->FD)(md:il P)(rec:bM)(pr:List (List Nat)):List aV->Nat->St->Fp->List Nat->List Nat->Option (List Nat×Fp)
 |[],_,_,fp,_,ws=>some (ws,fp)
 |o::l,fr,st,fp,bad,ws=>match(pr.getD fp.length []).any (fun j=>bad.contains j)with
  |true=>lZ P aK md rec pr l (fr+1) ⟨j9 st.env o.dst .bO,st.o,st.nx⟩ (fp++[([],[])]) (bad++[fp.length]) ws
  |false=>match BH st o.gd with
   |some true=>match vO P aK md rec st fr o.op with
    |some (.val v Δ rd)=>fH st.env o.dst v fun e=>lU st.o Δ fun ob=>lZ P aK md rec pr l (fr+1) ⟨e,ob,st.nx⟩ (fp++[(rd,Δ.map (·.1))]) bad (ws++Δ.map (·.1))
    |_=>none
   |some false=>lZ P aK md rec pr l (fr+1) ⟨j9 st.env o.dst (.a8 []),st.o,st.nx⟩ (fp++[([],[])]) bad ws
   |none=>none
inductive DQ where
 |fin (st:St) (fp:Fp)|aJ (v:V) (wl:List Nat) (fp:Fp)
noncomputable def l0(P:Program)(aK:Nat->FD)(md:il P)(rec:bM)(pr:List (List Nat)):List aV->Nat->St->Fp->Option DQ
 |[],_,st,fp=>some (.fin st fp)
 |o::l,fr,st,fp=>match BH st o.gd with
  |some true=>match vO P aK md rec st fr o.op with
   |some (.val v Δ rd)=>fH st.env o.dst v fun e=>lU st.o Δ fun ob=>Nat.fc (fr+1) fun fr=>l0 P aK md rec pr l fr ⟨e,ob,st.nx⟩ (fp++[(rd,Δ.map (·.1))])
   |some (.aJ v ws rd)=>match lZ P aK md rec pr l (fr+1) ⟨j9 st.env o.dst .bO,st.o,st.nx⟩ (fp++[(rd,[])]) [fp.length] (ws++fp.flatMap (·.2))with
    |some (wl,fp)=>some (.aJ v wl fp)
    |none=>none
   |none=>none
  |some false=>fH st.env o.dst (.a8 []) fun e=>Nat.fc (fr+1) fun fr=>l0 P aK md rec pr l fr ⟨e,st.o,st.nx⟩ (fp++[([],[])])
  |none=>none
noncomputable def quiet(fp:Fp):Bool:=fp.all fun x=>match x.2 with|[]=>true|_=>false
noncomputable def n3(m:Nat)(x:List Nat×List Nat):Nat->Fp->Bool
 |_,[]=>true
 |i,y::l=>(match y.2,x.2 with
  |[],[]=>true
  |_,_=>m.testBit i||(gK y.2 x.1&&gK y.2 x.2&&gK x.2 y.1))&&n3 m x (i+1) l
noncomputable def ru(ms:List Nat)(pre:Fp):Nat->Fp->Bool
 |_,[]=>true
 |j,x::l=>n3 (ms.getD j 0) x 0 pre&&ru ms (pre++[x]) (j+1) l
noncomputable def BI{β:Type}:List Nat->(List Nat->β)->β
 |[],c=>c []
 |x::xs,c=>Nat.fc x fun x=>BI xs fun xs=>c (x::xs)
theorem uy{β:Type}:∀ (x:List Nat) (c:List Nat->β),BI x c=c x
 |[],c=>rfl
 |x::xs,c=>by simp only[BI,Nat.bd,uy xs]
noncomputable def vP{β:Type}:Fp->(Fp->β)->β
 |[],c=>c []
 |(a,b)::l,c=>BI a fun a=>BI b fun b=>vP l fun l=>c ((a,b)::l)
theorem rv{β:Type}:∀ (x:Fp) (c:Fp->β),vP x c=c x
 |[],c=>rfl
 |(a,b)::l,c=>by simp only[vP,uy,rv l]
noncomputable def uz(pr:List (List Nat))(fp:Fp):Bool:=match quiet fp with|true=>true|false=>vP fp fun fp=>ru (cg pr []) [] 0 fp
theorem m9{m:Nat}{x:List Nat×List Nat}:∀ (l:Fp) (i:Nat),n3 m x i l=true->∀k,k<l.length->(m.testBit (i+k)||(gK (l.getD k ([],[])).2 x.1&&gK (l.getD k ([],[])).2 x.2&&gK x.2 (l.getD k ([],[])).1))=true
 |[],i,_,k,hk=>by simp at hk
 |y::l,i,h,k,hk=>by
  simp only[n3,Bool.and_eq_true]at h
  cases k with
  |zero=>
   have h1:=h.1
   simp only[List.getD_cons_zero,Nat.add_zero]
   split at h1
   ·rename_i e1 e2
    rw[e1,e2];simp[gK]
   ·exact h1
  |succ k=>
   have:=m9 l (i+1) h.2 k (by simpa using hk)
   rw[List.getD_cons_succ,show i+(k+1)=i+1+k by omega]
   exact this
theorem pG{ms:List Nat}:∀ (l pre:Fp),ru ms pre pre.length l=true->∀j,pre.length<=j->j<(pre++l).length->∀i,i<j->
 ((ms.getD j 0).testBit i||(gK ((pre++l).getD i ([],[])).2 ((pre++l).getD j ([],[])).1&&gK ((pre++l).getD i ([],[])).2 ((pre++l).getD j ([],[])).2&&gK ((pre++l).getD j ([],[])).2 ((pre++l).getD i ([],[])).1))=true
 |[],pre,_,j,h1,h2,i,_=>by simp at h2;omega
 |x::l,pre,h,j,h1,h2,i,hi=>by
  simp only[ru,Bool.and_eq_true]at h
  by_cases e:j=pre.length
  ·subst e
   have:=m9 pre 0 h.1 i hi
   have e1:(pre++x::l).getD pre.length ([],[])=x:=by simp[List.getD_eq_getElem?_getD]
   have e2:(pre++x::l).getD i ([],[])=pre.getD i ([],[]):=by simp[List.getD_eq_getElem?_getD,List.getElem?_append_left hi]
   rw[e1,e2]
   simpa using this
  ·have h3:=h.2
   have:=pG l (pre++[x]) (by simpa using h3) j (by simp;omega) (by simpa using h2) i hi
   simpa using this
noncomputable def yD(P:Program)(aK:Nat->FD)(md:il P)(rec:bM)(l:List aV)(pr:List (List Nat))(st:St):Option (eo×St):=
 match l0 P aK md rec pr l st.nx st []with
 |some (.fin s1 fp)=>match uz pr fp with
  |true=>Nat.fc (st.nx+l.length) fun n=>some (.normal,⟨s1.env,s1.o,n⟩)
  |false=>none
 |some (.aJ v wl fp)=>match uz pr fp with
  |true=>some (.aJ v,⟨.e (lI (dstsOf l) wl l.length st.S).env, .e (lI (dstsOf l) wl l.length st.S).o,st.nx+l.length⟩)
  |false=>none
 |none=>none
noncomputable def BJ(id:Nat)(env:Tr V)(kt:Kt)(c:CR):Option b8:=
 match c with
 | .ret _ o1 qp=>match o1.get id with
   | .loop nf m e p c d F7 pd=>match F7 with
     | .busy=>none
     |_=>match pd with
      |none=>kt .normal ⟨env,o1.set id (.loop nf m e p c d .exhausted pd),qp⟩
      |some .ret=>kt .ret ⟨env,o1.set id (.loop nf m e p c d .exhausted pd),qp⟩
      |some (.exit j)=>kt (.exit j) ⟨env,o1.set id (.loop nf m e p c d .exhausted pd),qp⟩
   |_=>none
 | .aJ v o1 qp=>kt (.aJ v) ⟨env,o1,qp⟩
noncomputable def vQ(P:Program)(aK:Nat->FD)(rec:bM)(n:Nat)(g:Operand)(ps:List Nat)(x y:IC)(st:St)(kt:Kt):Option b8:=
 match st.S.ev g with
 | .func (.func f) first cap=>ui P aK rec f (first++[.gW st.nx]++cap) (st.o.set st.nx (.loop P.funcs.size n ((List.range n).map st.env.get) ps x y .ready none)) (st.nx+1) (BJ st.nx st.env kt)
 |_=>none
abbrev gV:=(P:Program)->(Nat->FD)->il P->bM->Nat->Bool->Nat->St->Kt->Option b8
noncomputable def Hq(kt:Kt):RO->Option b8:=fun r=>match r with| .ok st=>kt .normal st| .aJ v st=>kt (.aJ v) st
noncomputable def Hr(l:List aV):gV:=fun P aK md rec _ _ _ st kt=>nY P aK md rec (Hq kt) l st
def na:List Nat->Nat->Nat->Nat
 |[],_,c=>c
 |x::l,k,c=>match Nat.beq x (2^k - 1)with
  |true=>na l (k+1) c
  |false=>na l (k+1) (k+1)
def jn(pr:List (List Nat)):Nat:=na (cg pr []) 0 0
noncomputable def yE(l:List aV)(pr:List (List Nat)):gV:=fun P aK md rec _ _ _ st kt=>
 Nat.fc (jn pr) fun m=>match l0 P aK md rec pr (l.take m) st.nx st []with
 |some (.fin s1 fp)=>match uz pr fp with
  |true=>Nat.fc (st.nx+m) fun n=>match Nat.ble m l.length with
   |true=>nY P aK md rec (Hq kt) (l.drop m) ⟨s1.env,s1.o,n⟩
   |false=>none
  |false=>none
 |some (.aJ _ _ _)=>match yD P aK md rec l pr st with
  |some (e,s1)=>kt e s1
  |none=>none
 |none=>none
noncomputable def qD(rec:bM)(b:Nat)(rd:Bool)(n:Nat)(y:IC)(kt:Kt):Kt:=fun e s1=>match e with| .normal=>rec b rd n y s1 kt|e=>kt e s1
noncomputable def Hs(x y:IC):gV:=fun _ _ _ rec b rd n st kt=>rec b rd n x st (qD rec b rd n y kt)
noncomputable def ry(a c:Option b8):Option b8:=
 match a with
 |some (.r x)=>match c with
  |some (.r y)=>match R.same x y with
   |true=>some (.r x)
   |false=>none
  |_=>none
 |_=>none
noncomputable def BK(c:Operand)(x y:IC):gV:=fun _ _ _ rec b rd n st kt=>match st.S.ev c with
 | .d (.bool true)=>rec b rd n x st kt
 | .d (.bool false)=>rec b rd n y st kt
 | .cJ=>ry (rec b rd n x st kt) (rec b rd n y st kt)
 |_=>none
noncomputable def qE(id:Nat)(kt:Kt):Kt:=fun e s1=>match e with
 | .exit j=>match Nat.beq j id with
   |true=>kt .normal s1
   |false=>kt (.exit j) s1
 |e=>kt e s1
noncomputable def yF(id:Nat)(x:IC):gV:=fun _ _ _ rec b rd n st kt=>rec b rd n x st (qE id kt)
noncomputable def BL(x:IC):gV:=fun _ _ _ rec b rd n st kt=>match Nat.ble b st.nx with
 |true=>rec b rd n x st (qD rec b rd n (.loop x) kt)
 |false=>none
noncomputable def yG(e:eo):gV:=fun _ _ _ _ _ _ _ st kt=>kt e st
noncomputable def Ht:gV:=fun _ _ _ _ _ _ _ _ _=>none
noncomputable def Hu(g:Operand)(ps:List Nat)(x y:IC):gV:=fun P aK _ rec _ rd n st kt=>match rd with
 |true=>none
 |false=>vQ P aK rec n g ps x y st kt
noncomputable def xm(ic:IC):gV:=
 match ic with
 | .skip=>yG .normal
 | .aa l=>Hr l
 | .bb l pr=>yE l pr
 | .seq x y=>Hs x y
 | .cond c x y=>BK c x y
 | .block id x=>yF id x
 | .loop x=>BL x
 | .exit id=>yG (.exit id)
 | .ret=>yG .ret
 | .sI g ps x y=>Hu g ps x y
 | .bad=>Ht
noncomputable def run(P:Program)(aK:Nat->FD)(md:il P)(k:Nat):bM:=
 Nat.rec (motive:=fun _=>bM) (fun _ _ _ _ _ _=>none) (fun _ rec b rd n ic st kt=>xm ic P aK md rec b rd n st kt) k
theorem uA{P:Program}{aK:Nat->FD}{md:il P}{k:Nat}:run P aK md (k+1)=fun b rd n ic st kt=>xm ic P aK md (run P aK md k) b rd n st kt:=rfl
section
variable {P:Program}{aK:Nat->FD}{md:il P}
theorem xn(aC:P.follows .mixedOrders=true)(aZ:∀g,(aK g).Ok P g){rec:bM}(aF:cf P rec){fr:Nat}{g:Nat}{args:List V}{st:St}{r:DR}(h:hX P aK rec g args st=some r){K:V->List (Nat×ab)->List Nat->Prop}{KX:V->List Nat->List Nat->Prop}(hr:r.to K KX):
 gk P g args st.S.o st.S.nx fr K KX:=by
 unfold hX at h
 simp only at h
 generalize gM:reach st.o.get 2000 (V.bq args) []=rd at h
 split at h
 ·rename_i hc
  simp only[Bool.and_eq_true,List.all_eq_true]at hc
  obtain⟨J1,pN⟩:=hc
  have a1:∀id∈rd,id<st.nx:=fun id ai=>Nat.le_of_ble_eq_true (J1 id ai).1
  have a2:∀id∈V.bq args,id∈rd:=fun id ai=>by simpa using pN id ai
  have a3:∀id∈rd,∀j∈(st.o.get id).refs,j∈rd:=fun id ai j hj=>by simpa using(J1 id ai).2 j hj
  have a0:rd.all (fun id=>decide (id<st.S.nx))=true:=List.all_eq_true.2 fun id ai=>decide_eq_true (a1 id ai)
  have key:∀ {r:CR} {a:CR},BG r=some (.c a)->r=a:=fun h=>by unfold BG at h;injection h with h;injection h
  split at h
  ·rename_i v o1 qp hf
   split at h
   ·cases h
   ·rename_i v' l8
    split at h
    ·rename_i rs AJ
     split at h
     ·rename_i yH
      injection h with h;subst h
      simp only[Bool.and_eq_true,List.all_eq_true]at yH
      refine⟨rd,_,a0, .inl ⟨rs,tO.ib a1 a2 a3 (fun x hx=>(dK rd x hx).1) (fun x hx j hj=>by simpa using yH.1 x hx j hj) (gv aC aZ aF hf fun r nr=> ?_),hr⟩⟩
      rw[key nr]
      refine⟨fun id ai=>ka ai,lV v,rs, ?_,AJ,rfl,fun id ai=>by simpa using yH.2 id ai⟩
      cases v with
      |a8 vs=>
       match vs,l8 with
       |[],_=>rfl
       |[x],hv=>exact absurd rfl (hv x)
       |_::_::_,_=>rfl
      |_=>rfl
     ·cases h
    ·cases h
  ·rename_i v o1 qp hf
   split at h
   ·rename_i x hx
    split at h
    ·rename_i yH
     injection h with h;subst h
     simp only[Bool.and_eq_true,List.all_eq_true]at yH
     refine⟨rd,ck st.o.get o1.get rd,a0, .inr (.inl ⟨x,tO.ib a1 a2 a3 (fun x hx=>(dK rd x hx).1) (fun x hx j hj=>by simpa using yH.1 x hx j hj) (gv aC aZ aF hf fun r nr=> ?_),hr⟩)⟩
     rw[key nr]
     exact⟨fun id ai=>ka ai,x,hx,rfl,fun id ai=>by simpa using yH.2 id ai⟩
    ·cases h
   ·cases h
  ·cases h
 ·cases h
theorem yI(aC:P.follows .mixedOrders=true)(aZ:∀g,(aK g).Ok P g){rec:bM}(aF:cf P rec){g:Nat}{args:List V}{st:St}{rd:List Nat}{ds:List D}(dc:aR st.o.get args=some ds){r:DR}(h:F5 P aK md rec g args st rd=some r)
 {K:V->List (Nat×ab)->List Nat->Prop} {KX:V->List Nat->List Nat->Prop} (hr:r.to K KX):
 mY P g ds (fun v=>K v (bH st.S.o (V.aA args)) rd) (fun v=>K v [] rd) (fun v=>KX v [] rd):=by
 unfold F5 at h
 simp only[dc]at h
 split at h
 ·split at h
  ·rename_i v o1 qp BM
   split at h
   ·rename_i MY
    injection h with h;subst h
    exact .inr (.inr ⟨v,A8.ib MY (gv aC aZ aF BM fun r nr=>by unfold BG at nr;injection nr with nr;injection nr with nr;rw[nr];exact rfl),hr⟩)
   ·cases h
  ·cases h
 ·split at h
  ·rename_i rs uw
   have hP:=nZ aC aZ aF uw
   split at h
   ·rename_i hf
    injection h with h;subst h
    exact .inl ⟨rs,hP, .inr ⟨hf,hr⟩⟩
   ·injection h with h;subst h
    exact .inl ⟨rs,hP, .inl hr⟩
  ·rename_i x uw
   have hP:=nZ aC aZ aF uw
   split at h
   ·rename_i hf
    injection h with h;subst h
    exact .inr (.inl ⟨x,hP,hf,hr⟩)
   ·cases h
  ·cases h
theorem rz{t ty:TypeId}{sz:Nat}{es:List D}{r:CR}(h:vN P t r=some (.r (.ret [.sl es, .int .i64 (.ofNat ty), .int .i64 (.ofNat sz)]))):
 r.to (fun v o1 _=>(∃j ep,v= .osl j ep/\o1 j= .arr ep ty sz es)\/(v= .cu/\es=[]/\0<sz)) (fun _ _ _=>False):=by
 unfold vN at h
 split at h
 ·rename_i v o1 n1
  split at h
  ·rename_i j ep
   split at h
   ·rename_i dL Hv gL es' ho
    split at h
    ·rename_i he
     have he:=Nat.eq_of_beq_eq_true he
     subst he
     rw[qC]at h
     simp only[Option.some.injEq,b8.r.injEq,R.ret.injEq,List.cons.injEq,D.sl.injEq,D.int.injEq,true_and,and_true]at h
     obtain⟨rfl,h2,h3⟩:=h
     have h2:Hv=ty:=Int.ofNat.inj h2
     have h3:gL=sz:=Int.ofNat.inj h3
     subst h2;subst h3
     exact .inl ⟨j,dL,rfl,ho⟩
    ·cases h
   ·cases h
  ·split at h
   ·rename_i e he
    split at h
    ·rename_i hp
     rw[qC]at h
     simp only[Option.some.injEq,b8.r.injEq,R.ret.injEq,List.cons.injEq,D.sl.injEq,D.int.injEq,true_and,and_true]at h
     obtain⟨rfl,h2,h3⟩:=h
     have h3:P.cellsOf e=sz:=Int.ofNat.inj h3
     subst h3
     exact .inr ⟨rfl,rfl,Nat.blt_eq.mp hp⟩
    ·cases h
   ·cases h
  ·cases h
 ·cases h
theorem vR(aC:P.follows .mixedOrders=true)(aZ:∀g,(aK g).Ok P g){rec:bM}(aF:cf P rec){fr:Nat}{g:Nat}{t:TypeId}{args:List V}{st:St}{r:DR}(h:yC P aK rec g t args st fr=some r){K:V->List (Nat×ab)->List Nat->Prop}{KX:V->List Nat->List Nat->Prop}(hr:r.to K KX):
 gk P g args st.S.o st.S.nx fr K KX:=by
 unfold yC at h
 split at h
 ·rename_i ds dc
  split at h
  ·rename_i es ty sz BM
   injection h with h;subst h
   unfold m8 at dc
   split at dc
   ·rename_i ai
    exact⟨[],_,by simp, .inr (.inr ⟨_,qn.vM ai dc (qn.yz (gv aC aZ aF BM fun r nr=>rz nr)),hr⟩)⟩
   ·cases dc
  ·cases h
 ·split at h
  ·rename_i ds dc
   split at h
   ·rename_i es ty sz BM
    split at h
    ·rename_i hc
     injection h with h;subst h
     simp only[Bool.and_eq_true]at hc
     refine⟨V.aA args,_, ?_, .inr (.inr ⟨_,qn.vL dc hc.1 (gv aC aZ aF BM fun r nr=>rz nr),hr⟩)⟩
     exact List.all_eq_true.2 fun id ai=>decide_eq_true (Nat.blt_eq.mp (List.all_eq_true.1 hc.2 id ai))
    ·cases h
   ·cases h
  ·cases h
theorem n4(aC:P.follows .mixedOrders=true)(aZ:∀g,(aK g).Ok P g){rec:bM}(aF:cf P rec){st:St}{fr:Nat}{o:aV}{r:DR}(h:vO P aK md rec st fr o.op=some r){K:V->List (Nat×ab)->List Nat->Prop}{KX:V->List Nat->List Nat->Prop}(hr:r.to K KX):
 sN P st.S fr o K KX:=by
 have hs:F6 P st fr o.op=some r->(match dC P st.S fr o.op with|some (v,Δ,_)=>K v Δ (eb st.S o.op)|none=>False):=by
  intro h
  unfold F6 at h
  split at h
  ·rename_i v Δ rd he
   injection h with h;subst h
   simp only[rl he]
   exact hr
  ·cases h
 unfold vO at h
 unfold sN
 split at h
 ·rename_i c hc
  simp only[hc]
  split at h
  ·rename_i f hf
   simp only[hf]
   split at h
   ·rename_i g first cap hv
    simp only[hv]
    split at h
    ·have hh:=xn aC aZ aF h hr (fr:=fr)
     split
     ·exact .inr hh
     ·exact hh
    split at h
    ·rename_i r' xR
     injection h with h;subst h
     cases dc:aR st.S.o (first++List.map st.S.ev c.args.toList++cap)with
     |some ds=>exact .inl (yI aC aZ aF dc xR hr)
     |none=>
      have yx:aR st.o.get (first++List.map st.S.ev c.args.toList++cap)=none:=dc
      unfold F5 at xR
      simp only[yx]at xR
      exact xn aC aZ aF xR hr
    ·have hh:=vR aC aZ aF (st:=st) h hr
     split
     ·exact .inr hh
     ·exact hh
   ·cases h
  ·rename_i bZ
   rw[<- hc]at h
   have:=hs h
   rw[hc]at this
   split
   ·rename_i f hf;exact absurd hf (bZ f)
   ·exact this
 ·rename_i hc
  have:=hs h
  split
  ·rename_i c hh;exact absurd hh (hc c)
  ·exact this
def F8(s:S)(gd:Option (Nat×Bool))(A B:Prop):Prop:=
 match gd with
 |none=>A
 |some (d,want)=>match s.env d with
  | .d (.bool b)=>if b=want then A else B
  | .a8 []=>B
  |_=>False
theorem n5{st:St}{gd:Option (Nat×Bool)}{t:Bool}(h:BH st gd=some t){A B:Prop}(hA:t=true->A)(hB:t=false->B):F8 st.S gd A B:=by
 cases gd with
 |none=>simp only[BH,Option.some.injEq]at h;exact hA h.symm
 |some p=>
  obtain⟨d,want⟩:=p
  have he:st.S.env d=st.env.get d:=rfl
  simp only[BH]at h
  simp only[F8,he]
  split at h
  ·rename_i b hb
   injection h with h
   by_cases e:b=want
   ·rw[if_pos e];exact hA (by rw[<- h,e];simp)
   ·rw[if_neg e];exact hB (by rw[<- h];simpa using e)
  ·rename_i hb
   injection h with h
   exact hB h.symm
  ·cases h
theorem vS{P:Program}{KB:List Nat->Fp->Prop}{pr:List (List Nat)}{o:aV}{l:List aV}{fr:Nat}{s:S}{fp:Fp}{bad ws:List Nat}(hb:(pr.getD fp.length []).any (fun j=>bad.contains j)=false)
 (h:F8 s o.gd (sN P s fr o (fun v Δ rd=>ey P KB pr l (fr+1) ⟨ay s.env o.dst v,put s.o Δ,s.nx⟩ (fp++[(rd,Δ.map (·.1))]) bad (ws++Δ.map (·.1))) (fun _ _ _=>False)) (ey P KB pr l (fr+1) ⟨ay s.env o.dst (.a8 []),s.o,s.nx⟩ (fp++[([],[])]) bad ws)):
 ey P KB pr (o::l) fr s fp bad ws:=by
 simp only[ey]
 rw[if_neg (by rw[hb];simp)]
 cases hg:o.gd with
 |none=>rw[hg]at h;exact h
 |some p=>obtain⟨d,want⟩:=p;rw[hg]at h;exact h
theorem vT{P:Program}{K:S->Fp->Prop}{KP:V->List Nat->Fp->Prop}{pr:List (List Nat)}{o:aV}{l:List aV}{fr:Nat}{s:S}{fp:Fp}
 (h:F8 s o.gd (sN P s fr o (fun v Δ rd=>fG P K KP pr l (fr+1) ⟨ay s.env o.dst v,put s.o Δ,s.nx⟩ (fp++[(rd,Δ.map (·.1))]))
  (fun v ws rd=>ey P (KP v) pr l (fr+1) ⟨ay s.env o.dst .bO,s.o,s.nx⟩ (fp++[(rd,[])]) [fp.length] (ws++fp.flatMap (·.2)))) (fG P K KP pr l (fr+1) ⟨ay s.env o.dst (.a8 []),s.o,s.nx⟩ (fp++[([],[])]))):
 fG P K KP pr (o::l) fr s fp:=by
 simp only[fG]
 cases hg:o.gd with
 |none=>rw[hg]at h;exact h
 |some p=>obtain⟨d,want⟩:=p;rw[hg]at h;exact h
theorem jo(aC:P.follows .mixedOrders=true)(aZ:∀g,(aK g).Ok P g){rec:bM}(aF:cf P rec){pr:List (List Nat)}{wl:List Nat}{Hw:Fp}{KB:List Nat->Fp->Prop}(hK:KB wl Hw):
 ∀ (l:List aV) (fr:Nat) (st:St) (fp:Fp) (bad ws:List Nat),lZ P aK md rec pr l fr st fp bad ws=some (wl,Hw)->ey P KB pr l fr st.S fp bad ws
 |[],fr,st,fp,bad,ws,h=>by
  simp only[lZ,Option.some.injEq,Prod.mk.injEq]at h
  obtain⟨rfl,rfl⟩:=h;exact hK
 |o::l,fr,st,fp,bad,ws,h=>by
  simp only[lZ,ec,gu]at h
  split at h
  ·rename_i hb
   simp only[ey]
   rw[if_pos hb]
   have:=jo aC aZ aF hK l _ _ _ _ _ h
   simp only[St.S,cc]at this
   exact this
  ·rename_i hb
   refine vS hb ?_
   split at h
   ·rename_i hg
    refine n5 hg (fun _=> ?_) (fun h=>by cases h)
    split at h
    ·rename_i v Δ rd bL
     refine n4 aC aZ aF bL ?_
     have:=jo aC aZ aF hK l _ _ _ _ _ h
     simp only[St.S,cc,ez]at this
     exact this
    ·cases h
   ·rename_i hg
    refine n5 hg (fun h=>by cases h) (fun _=> ?_)
    have:=jo aC aZ aF hK l _ _ _ _ _ h
    simp only[St.S,cc]at this
    exact this
   ·cases h
def DQ.to (K:S->Fp->Prop)(KP:V->List Nat->Fp->Prop):DQ->Prop
 | .fin st fp=>K st.S fp
 | .aJ v wl fp=>KP v wl fp
theorem gx(aC:P.follows .mixedOrders=true)(aZ:∀g,(aK g).Ok P g){rec:bM}(aF:cf P rec){pr:List (List Nat)}{q:DQ}{K:S->Fp->Prop}{KP:V->List Nat->Fp->Prop}(hq:q.to K KP):
 ∀ (l:List aV) (fr:Nat) (st:St) (fp:Fp),l0 P aK md rec pr l fr st fp=some q->fG P K KP pr l fr st.S fp
 |[],fr,st,fp,h=>by
  simp only[l0,Option.some.injEq]at h
  subst h;exact hq
 |o::l,fr,st,fp,h=>by
  simp only[l0,ec,gu,Nat.bd]at h
  refine vT ?_
  split at h
  ·rename_i hg
   refine n5 hg (fun _=> ?_) (fun h=>by cases h)
   split at h
   ·rename_i v Δ rd bL
    refine n4 aC aZ aF bL ?_
    have:=gx aC aZ aF hq l _ _ _ h
    simp only[St.S,cc,ez]at this
    exact this
   ·rename_i v ws rd bL
    split at h
    ·rename_i wl Hw hb
     injection h with h;subst h
     refine n4 aC aZ aF bL ?_
     have:=jo aC aZ aF (KB:=KP v) hq l _ _ _ _ _ hb
     simp only[St.S,cc]at this
     exact this
    ·cases h
   ·cases h
  ·rename_i hg
   refine n5 hg (fun h=>by cases h) (fun _=> ?_)
   have:=gx aC aZ aF hq l _ _ _ h
   simp only[St.S,cc]at this
   exact this
  ·cases h
theorem n6{pr:List (List Nat)}{fp:Fp}(h:uz pr fp=true):fO pr fp=true:=by
 unfold uz at h
 split at h
 ·rename_i hq
  unfold quiet at hq
  have hz:∀i,(fp.getD i ([],[])).2=[]:=by
   intro i
   rw[List.getD_eq_getElem?_getD]
   cases hx:fp[i]? with
   |none=>rfl
   |some x=>
    have:=List.all_eq_true.1 hq x (List.mem_of_getElem? hx)
    simp only[Option.getD_some]
    split at this
    ·rename_i e;exact e
    ·cases this
  unfold fO
  simp only[hz,gK,List.all_nil,Bool.and_self,Bool.or_true]
  simp
 ·rw[rv]at h
  unfold fO
  rw[List.all_eq_true]
  intro j hj
  rw[List.all_eq_true]
  intro i hi
  exact pG fp [] h j (Nat.zero_le _) (by simpa using hj) i (by simpa using hi)
theorem l3:∀ (l:List Nat) (k c:Nat),c<=k->c<=na l k c/\∀i x,l[i]? =some x->na l k c<=k+i->x=2^(k+i) - 1
 |[],_,c,_=>⟨Nat.le_refl _,fun i x h=>by simp at h⟩
 |y::l,k,c,hc=>by
  simp only[na]
  split
  ·rename_i he
   obtain⟨h1,h2⟩:=l3 l (k+1) c (by omega)
   refine⟨h1,fun i x hi hle=> ?_⟩
   cases i with
   |zero=>simp at hi;subst hi;simpa using Nat.eq_of_beq_eq_true he
   |succ i=>
    have:=h2 i x (by simpa using hi) (by omega)
    rw[this,show k+(i+1)=k+1+i by omega]
  ·obtain⟨h1,h2⟩:=l3 l (k+1) (k+1) (Nat.le_refl _)
   refine⟨by omega,fun i x hi hle=> ?_⟩
   cases i with
   |zero=>omega
   |succ i=>
    have:=h2 i x (by simpa using hi) (by omega)
    rw[this,show k+(i+1)=k+1+i by omega]
theorem nb:∀ (pr:List (List Nat)) (acc:List Nat),(cg pr acc).length=acc.length+pr.length
 |[],acc=>by simp[cg]
 |ps::l,acc=>by simp only[cg,nb l,List.length_append,List.length_cons,List.length_nil];omega
theorem uB(pr:List (List Nat)):tV pr (jn pr)=true:=by
 refine List.all_eq_true.2 fun k hk=> ?_
 have hk:k<pr.length:=by simpa using hk
 by_cases h:k<jn pr
 ·simp[Nat.blt_eq.mpr h]
 ·have hl:k<(cg pr []).length:=by rw[nb];simpa using hk
  have:=(l3 (cg pr []) 0 0 (Nat.le_refl _)).2 k _ (List.getElem?_eq_getElem hl) (by rw[Nat.zero_add];exact Nat.le_of_not_lt h)
  rw[Nat.zero_add]at this
  rw[List.getD_eq_getElem?_getD,List.getElem?_eq_getElem hl,Option.getD_some,this]
  simp
theorem vU(aC:P.follows .mixedOrders=true)(aZ:∀g,(aK g).Ok P g){rec:bM}(aF:cf P rec){l:List aV}{pr:List (List Nat)}{st st':St}{e:eo}(h:yD P aK md rec l pr st=some (e,st')){Q:eo->S->Prop}(hQ:Q e st'.S):
 fG P (qx pr (st.S.nx+l.length) Q) (pv pr l st.S Q) pr l st.S.nx st.S []:=by
 unfold yD at h
 split at h
 ·rename_i s1 fp hd
  split at h
  ·rename_i hf
   simp only[Nat.bd,Option.some.injEq,Prod.mk.injEq]at h
   obtain⟨rfl,rfl⟩:=h
   exact gx aC aZ aF (q:= .fin s1 fp) (K:=qx pr (st.S.nx+l.length) Q) (KP:=pv pr l st.S Q) (show qx pr (st.S.nx+l.length) Q s1.S fp from⟨n6 hf,hQ⟩) l _ _ _ hd
  ·cases h
 ·rename_i v wl fp hd
  split at h
  ·rename_i hf
   simp only[Option.some.injEq,Prod.mk.injEq]at h
   obtain⟨rfl,rfl⟩:=h
   exact gx aC aZ aF (q:= .aJ v wl fp) (K:=qx pr (st.S.nx+l.length) Q) (KP:=pv pr l st.S Q) (show pv pr l st.S Q v wl fp from⟨n6 hf,hQ⟩) l _ _ _ hd
  ·cases h
 ·cases h
theorem vV(aC:P.follows .mixedOrders=true)(aZ:∀g,(aK g).Ok P g){rec:bM}(aF:cf P rec){n:Nat}{g:Operand}{ps:List Nat}{x y:IC}{st:St}{kt:Kt}{a:b8}(h:vQ P aK rec n g ps x y st kt=some a){Q:eo->S->Prop}(hQ:∀e st',kt e st'=some a->Q e st'.S):
 qd P n (st.S.ev g) ps x y Q st.S:=by
 unfold vQ at h
 refine⟨(List.range n).map st.env.get,fun i=> ?_, ?_⟩
 ·unfold eV
  simp only[List.getD_eq_getElem?_getD,List.getElem?_map]
  by_cases hi:i<n
  ·right;rw[List.getElem?_range hi];rfl
  ·left;rw[List.getElem?_eq_none (by simp;omega)];rfl
 ·split at h
  ·rename_i f first cap hv
   simp only[hv]
   refine .inl ?_
   have key:=fun {K X} hr=>gv (K:=K) (X:=X) aC aZ aF h hr
   simp only[Tr.dX]at key
   refine key fun r hr=> ?_
   unfold BJ at hr
   cases r with
   |ret v o1 qp=>
    simp only at hr
    split at hr
    ·rename_i nf m e p c d F7 pd ho
     have hl:F7≠ .busy:=by
      intro hb;subst hb;cases hr
     refine⟨nf,m,e,p,c,d,F7,pd,ho,hl, ?_⟩
     split at hr
     ·cases hr
     ·split at hr<;>(have h3:=hQ _ _ hr;simp only[xZ];simp only[St.S,Tr.dX]at h3;exact h3)
    ·cases hr
   |aJ v o1 qp=>exact hQ _ _ hr
  ·cases h
theorem pP.same {b:Nat}{s:S}(h:b<=s.nx):pP b s s:=fun _ φ _ _ h1 h2=>⟨φ,h1,h2,fun _ h=>h,h,fun _ _ hr=>⟨hr,rfl⟩,fun _ e' _ he=>⟨e',he,Nat.le_refl _,fun _=>rfl⟩⟩
theorem uC{x y:Option b8}{a:b8}(h:ry x y=some a):x=some a/\y=some a:=by
 unfold ry at h
 split at h
 ·rename_i r
  split at h
  ·rename_i r'
   split at h
   ·rename_i hs
    injection h with h;subst h
    rw[R.bY hs]
    exact⟨rfl,rfl⟩
   ·cases h
  ·cases h
 ·cases h
theorem yJ(aC:P.follows .mixedOrders=true)(aZ:∀g,(aK g).Ok P g):∀k,∀j,j<=k->cf P (run P aK md j):=by
 intro k
 induction k with
 |zero=>intro j hj b rd n ic st kt a h;obtain rfl:j=0:=by omega
        cases h
 |succ k ih=>
  intro j hj b rd n ic st kt a h Q hQ
  cases j with
  |zero=>cases h
  |succ j=>
   have aF:cf P (run P aK md j):=ih j (by omega)
   rw[uA]at h
   cases ic with
   |skip=>exact hQ _ _ h
   |exit id=>exact hQ _ _ h
   |ret=>exact hQ _ _ h
   |bad=>cases h
   |aa l=>
    have h:nY P aK md (run P aK md j) (Hq kt) l st=some a:=h
    exact kN aC aZ aF (K:=Q .normal) (X:=fun v s=>Q (.aJ v) s) (fun r hr=>by
     cases r with
     |ok yy=>exact hQ .normal _ hr
     |aJ v yy=>exact hQ (.aJ v) _ hr) l _ h
   |bb l pr=>
    have h:yE l pr P aK md (run P aK md j) b rd n st kt=some a:=h
    unfold yE at h
    rw[Nat.bd]at h
    split at h
    ·rename_i s1 fp hd
     split at h
     ·rename_i hf
      rw[Nat.bd]at h
      split at h
      ·rename_i vj
       refine .inr ⟨jn pr,Nat.le_of_ble_eq_true vj,uB pr, ?_⟩
       refine gx aC aZ aF (q:= .fin s1 fp) (K:=fun s' fp=>fO pr fp=true/\jJ P (fun v s=>Q (.aJ v) s) (Q .normal) (l.drop (jn pr)) ⟨s'.env,s'.o,st.S.nx+jn pr⟩) (KP:=fun _ _ _=>False) (show _/\_ from⟨n6 hf, ?_⟩) (l.take (jn pr)) _ _ _ hd
       exact kN aC aZ aF (K:=Q .normal) (X:=fun v s=>Q (.aJ v) s) (fun r hr=>by
        cases r with
        |ok yy=>exact hQ .normal _ hr
        |aJ v yy=>exact hQ (.aJ v) _ hr) (l.drop (jn pr)) ⟨s1.env,s1.o,st.nx+jn pr⟩ h
      ·cases h
     ·cases h
    ·split at h
     ·rename_i e s1 h1
      exact .inl (vU aC aZ aF h1 (hQ _ _ h))
     ·cases h
    ·cases h
   |seq x y=>
    have h:run P aK md j b rd n x st (qD (run P aK md j) b rd n y kt)=some a:=h
    simp only[ma]
    refine aF _ _ _ _ _ _ _ h _ fun e s1 he=> ?_
    unfold qD at he
    cases e with
    |normal=>exact aF _ _ _ _ _ _ _ he _ hQ
    |_=>exact hQ _ _ he
   |cond c x y=>
    have h:(match st.S.ev c with| .d (.bool true)=>run P aK md j b rd n x st kt| .d (.bool false)=>run P aK md j b rd n y st kt| .cJ=>ry (run P aK md j b rd n x st kt) (run P aK md j b rd n y st kt)|_=>none)=some a:=h
    simp only[ma]
    split at h
    ·rename_i hv
     simp only[hv]
     exact(lG _ _).mpr (aF _ _ _ _ _ _ _ h _ hQ)
    ·rename_i hv
     simp only[hv]
     exact(jZ _ _).mpr (aF _ _ _ _ _ _ _ h _ hQ)
    ·rename_i hv
     simp only[hv]
     obtain⟨h1,h2⟩:=uC h
     exact⟨aF _ _ _ _ _ _ _ h1 _ hQ,aF _ _ _ _ _ _ _ h2 _ hQ⟩
    ·cases h
   |block id x=>
    have h:run P aK md j b rd n x st (qE id kt)=some a:=h
    simp only[ma]
    refine aF _ _ _ _ _ _ _ h _ fun e s1 he=> ?_
    unfold qE at he
    cases e with
    |exit j'=>
     simp only at he
     split at he
     ·rename_i hb
      simp only[cR,Nat.eq_of_beq_eq_true hb,if_true];exact hQ _ _ he
     ·rename_i hb
      simp only[cR,Nat.ne_of_beq_eq_false hb,if_false];exact hQ _ _ he
    |_=>exact hQ _ _ he
   |loop x=>
    have Hx:∀m xo,run P aK md (m+1) b rd n (.loop x) xo kt=some a->b<=xo.nx/\run P aK md m b rd n x xo (qD (run P aK md m) b rd n (.loop x) kt)=some a:=by
     intro m xo h
     have h:(match Nat.ble b xo.nx with|true=>run P aK md m b rd n x xo (qD (run P aK md m) b rd n (.loop x) kt)|false=>none)=some a:=h
     split at h
     ·rename_i hb;exact⟨Nat.le_of_ble_eq_true hb,h⟩
     ·cases h
    have h:run P aK md (j+1) b rd n (.loop x) st kt=some a:=h
    refine⟨fun m s=>m<=k+1/\∃st,s=st.S/\run P aK md m b rd n (.loop x) st kt=some a,⟨j+1,st.S,pP.same (Hx j st h).1,hj,st,rfl,h⟩, ?_⟩
    rintro m s0 ⟨hm,xo,rfl,h0⟩
    cases m with
    |zero=>cases h0
    |succ m=>
     have BN:cf P (run P aK md m):=ih m (by omega)
     refine BN _ _ _ _ _ _ _ (Hx m xo h0).2 _ fun e s1 he=> ?_
     unfold qD at he
     cases e with
     |normal=>
      refine⟨m,s1.S,Nat.lt_succ_self _,pP.same ?_,by omega,s1,rfl,he⟩
      cases m with
      |zero=>cases he
      |succ m=>exact(Hx m s1 he).1
     |_=>exact hQ _ _ he
   |sI g ps x y=>
    cases rd with
    |true=>
     have h:(none:Option b8)=some a:=h
     cases h
    |false=>
     have h:vQ P aK (run P aK md j) n g ps x y st kt=some a:=h
     exact⟨rfl,vV aC aZ aF h hQ⟩
noncomputable def gP(P:Program)(aK:Nat->FD)(md:il P)(k:Nat)(g:Nat)(ds:List D):Option R:=
 match ui P aK (run P aK md k) g (ds.map .d) (.e fun _=> .no) 0 pC with
 |some (.r x)=>some x
 |_=>none
theorem dN.dt (aC:P.follows .mixedOrders=true)(aZ:∀g,(aK g).Ok P g){k g:Nat}{ds:List D}{out:R}(h:gP P aK md k g ds=some out):dN P g ds out:=by
 unfold gP at h
 split at h
 ·rename_i x hr;injection h with h;subst h;exact pD aC aZ (yJ aC aZ k k (Nat.le_refl _)) hr
 ·cases h
end
end Go.Proofs.YtpkobkdgcanmjaaGreat
namespace Go.Proofs.YtpkobkdgcanmjaaGreat
def Tr.uD {α:Type}(p:Nat->α->Prop):Tr α->(Nat->Nat)->Prop
 | .e g,f=>∀i,p (f i) (g i)
 | .n x l r,f=>p (f 0) x/\uD p l (fun i=>f (2*i+1))/\uD p r (fun i=>f (2*i+2))
theorem Tr.n7 {α:Type}{p:Nat->α->Prop}:∀ {f:Nat->Nat} (t:Tr α),t.uD p f->∀k,p (f k) (t.get k)
 |f, .e g,h,k=>h k
 |f, .n x l r,h,k=>by
  obtain⟨h1,h2,h3⟩:=h
  rw[Tr.lR]
  split
  ·rename_i e;subst e;exact h1
  ·split
   ·have:=Tr.n7 l h2 (k/2)
    rwa [show 2*(k/2)+1=k by omega]at this
   ·have:=Tr.n7 r h3 (k/2 - 1)
    rwa [show 2*(k/2 - 1)+2=k by omega]at this
end Go.Proofs.YtpkobkdgcanmjaaGreat
namespace Go.Proofs.YtpkobkdgcanmjaaGreat
@[reducible] def mv (d s:Nat):aV:=⟨some d, .move (.tmp s),none⟩
@[reducible] def jK (d:Nat) (n:Int):aV:=⟨some d, .move (.const (.int .i64 n)),none⟩
@[reducible] def sg (d s:Nat):aV:=⟨some d, .assign (.tmp s),none⟩
@[reducible] def bc (d:Nat) (n:Int):aV:=⟨some d, .assign (.const (.int .i64 n)),none⟩
@[reducible] def aG (d:Nat) (b:Bool):aV:=⟨some d, .assign (.const (.bool b)),none⟩
@[reducible] def ld (d t s:Nat):aV:=⟨some d, .load t (.tmp s),none⟩
@[reducible] def st (t a b:Nat):aV:=⟨none, .store t (.tmp a) (.tmp b),none⟩
@[reducible] def fa (d t s f:Nat):aV:=⟨some d, .fieldAddr t (.tmp s) f,none⟩
@[reducible] def ex (d s i:Nat):aV:=⟨some d, .extract (.tmp s) i,none⟩
@[reducible] def aH (d c a:Nat):aV:=⟨some d, .pick (.tmp c) (.tmp a) (.const (.bool false)),none⟩
@[reducible] def bw (d c a:Nat):aV:=⟨some d, .pick (.tmp c) (.const (.bool true)) (.tmp a),none⟩
@[reducible] def ia (d t x i:Nat):aV:=⟨some d, .indexAddr t (.tmp x) (.tmp i),none⟩
@[reducible] def bx (d t s:Nat):aV:=⟨some d, .box t (.tmp s),none⟩
@[reducible] def al (d t:Nat):aV:=⟨some d, .alloc t,none⟩
@[reducible] def ln (d s t:Nat):aV:=⟨some d, .call {callee:= .builtin .len,args:=#[.tmp s],argTypes:=#[t]},none⟩
@[reducible] def k0 (d f:Nat):aV:=⟨some d, .call {callee:= .value (.func f),args:=#[],argTypes:=#[]},none⟩
@[reducible] def k1 (d f a t:Nat):aV:=⟨some d, .call {callee:= .value (.func f),args:=#[.tmp a],argTypes:=#[t]},none⟩
@[reducible] def k2 (d f a b t u:Nat):aV:=⟨some d, .call {callee:= .value (.func f),args:=#[.tmp a, .tmp b],argTypes:=#[t,u]},none⟩
@[reducible] def k3 (d f a b c t u v:Nat):aV:=⟨some d, .call {callee:= .value (.func f),args:=#[.tmp a, .tmp b, .tmp c],argTypes:=#[t,u,v]},none⟩
@[reducible] def bo (op:BinOp) (d t x y u:Nat):aV:=⟨some d, .binOp op t (.tmp x) (.tmp y) u,none⟩
@[reducible] def bk (op:BinOp) (d t x:Nat) (n:Int) (u:Nat):aV:=⟨some d, .binOp op t (.tmp x) (.const (.int .i64 n)) u,none⟩
@[reducible] def nt (d t s:Nat):aV:=⟨some d, .unOp .not t (.tmp s),none⟩
@[reducible] def nc (d s:Nat):aV:=⟨some d, .nilCheck (.tmp s),none⟩
@[reducible] def gT (o:aV) (g:Nat):aV:=⟨o.dst,o.op,some (g,true)⟩
@[reducible] def gF (o:aV) (g:Nat):aV:=⟨o.dst,o.op,some (g,false)⟩
attribute [go_sem] mv jK sg bc aG ld st fa ex aH bw ia bx al ln k0 k1 k2 k3 bo bk nt nc gT gF
end Go.Proofs.YtpkobkdgcanmjaaGreat
