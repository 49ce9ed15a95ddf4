/-
  A PART OF THE PROOF. Conditions: none.
-/
import Derived.Test.YtealblliddhgiaaGreatMt10
set_option linter.unusedSimpArgs false
set_option linter.unusedVariables false
namespace Go.Proofs.YtealblliddhgiaaGreat
mutual
def V.same:V->V->Bool
 | .d x, .d y=>x.same y
 | .br, .br=>true
 | .af, .af=>true
 | .agg a, .agg b=>V.fF a b
 | .ptr i o, .ptr j p=>Nat.beq i j&&Nat.beq o p
 | .osl i o, .osl j p=>Nat.beq i j&&Nat.beq o p
 | .nC a, .nC b=>D.fF a b
 | .iface t x, .iface u y=>Nat.beq t u&&x.same y
 | .mp i, .mp j=>Nat.beq i j
 |_,_=>false
def V.fF:List V->List V->Bool
 |[],[]=>true
 |a::bX,b::bs=>a.same b&&V.fF bX bs
 |_,_=>false
end
mutual
theorem V.dM:∀ (x y:V),x.same y=true->x=y
 | .d x,y,h=>by cases y<;>simp only[V.same,Bool.false_eq_true]at h;rw[D.dM _ _ h]
 | .br,y,h=>by cases y<;>simp_all[V.same]
 | .af,y,h=>by cases y<;>simp_all[V.same]
 | .agg a,y,h=>by cases y<;>simp only[V.same,Bool.false_eq_true]at h;rw[V.de _ _ h]
 | .ptr i o,y,h=>by
   cases y<;>simp only[V.same,Bool.false_eq_true,Bool.and_eq_true]at h
   rw[Nat.eq_of_beq_eq_true h.1,Nat.eq_of_beq_eq_true h.2]
 | .osl i o,y,h=>by
   cases y<;>simp only[V.same,Bool.false_eq_true,Bool.and_eq_true]at h
   rw[Nat.eq_of_beq_eq_true h.1,Nat.eq_of_beq_eq_true h.2]
 | .nC a,y,h=>by cases y<;>simp only[V.same,Bool.false_eq_true]at h;rw[D.de _ _ h]
 | .iface t x,y,h=>by
   cases y<;>simp only[V.same,Bool.false_eq_true,Bool.and_eq_true]at h
   rw[Nat.eq_of_beq_eq_true h.1,V.dM _ _ h.2]
 | .mp i,y,h=>by
   cases y<;>simp only[V.same,Bool.false_eq_true]at h
   rw[Nat.eq_of_beq_eq_true h]
 | .bU _,y,h| .pe _ _ _ _ _,y,h| .pp _ _,y,h| .func _ _ _,y,h| .rT _ _ _,y,h| .eK,y,h| .ki _,y,h=>by simp[V.same]at h
theorem V.de:∀ (x y:List V),V.fF x y=true->x=y
 |[],y,h=>by cases y<;>simp_all[V.fF]
 |a::bX,y,h=>by
  cases y<;>simp only[V.fF,Bool.false_eq_true,Bool.and_eq_true]at h
  rw[V.dM _ _ h.1,V.de _ _ h.2]
end
def tc:List (D×D)->List (D×D)->Bool
 |[],[]=>true
 |(a,b)::l,(c,d)::m=>a.same c&&(b.same d&&tc l m)
 |_,_=>false
theorem te:∀ (l m:List (D×D)),tc l m=true->l=m
 |[],m,h=>by cases m<;>simp_all[tc]
 |(a,b)::l,m,h=>by
  cases m with
  |nil=>simp[tc]at h
  |cons p m=>
   obtain⟨c,d⟩:=p
   simp only[tc,Bool.and_eq_true]at h
   rw[D.dM _ _ h.1,D.dM _ _ h.2.1,te l m h.2.2]
noncomputable def ab.same:ab->ab->Bool
 | .no, .no=>true
 | .row a, .row b=>V.fF a b
 | .arr e t s a, .arr f u r b=>Nat.beq e f&&Nat.beq t u&&Nat.beq s r&&D.fF a b
 | .ou e a, .ou f b=>Nat.beq e f&&D.fF a b
 | .map k v a, .map k' v' b=>Nat.beq k k'&&Nat.beq v v'&&tc a b
 | .eY a, .eY b=>tc a b
 | .rU a i, .rU b j=>a==b&&Nat.beq i j
 |_,_=>false
theorem ab.dM {x y:ab}(h:x.same y=true):x=y:=by
 cases x<;>cases y<;>simp only[ab.same,Bool.false_eq_true,Bool.and_eq_true]at h
 ·rfl
 ·rw[V.de _ _ h]
 ·rw[Nat.eq_of_beq_eq_true h.1.1.1,Nat.eq_of_beq_eq_true h.1.1.2,Nat.eq_of_beq_eq_true h.1.2,D.de _ _ h.2]
 ·rw[Nat.eq_of_beq_eq_true h.1,D.de _ _ h.2]
 ·rw[Nat.eq_of_beq_eq_true h.1.1,Nat.eq_of_beq_eq_true h.1.2,te _ _ h.2]
 ·rw[te _ _ h]
 ·rw[eq_of_beq h.1,Nat.eq_of_beq_eq_true h.2]
noncomputable def reach(o:Nat->ab):Nat->List Nat->List Nat->List Nat
 |0,_,seen=>seen
 |_+1,[],seen=>seen
 |n+1,id::todo,seen=>match seen.contains id with
  |true=>reach o n todo seen
  |false=>reach o n ((o id).refs++todo) (id::seen)
noncomputable def ew(o o1:Nat->ab):List Nat->List (Nat×ab)
 |[]=>[]
 |id::l=>match(o id).same (o1 id)with
  |true=>ew o o1 l
  |false=>(id,o1 id)::ew o o1 l
theorem hZ{o o1:Nat->ab}:∀ (l:List Nat) (x:Nat×ab),x∈ew o o1 l->x.1∈l/\x.2=o1 x.1
 |[],x,h=>by simp[ew]at h
 |id::l,x,h=>by
  simp only[ew]at h
  split at h
  ·obtain⟨h1,h2⟩:=hZ l x h;exact⟨List.mem_cons_of_mem _ h1,h2⟩
  ·rcases List.mem_cons.1 h with rfl|h
   ·exact⟨by simp,rfl⟩
   ·obtain⟨h1,h2⟩:=hZ l x h;exact⟨List.mem_cons_of_mem _ h1,h2⟩
theorem my{o o1:Nat->ab}:∀ (l:List Nat) (id:Nat),id∈l->id∉(ew o o1 l).map (·.1)->o1 id=o id
 |[],id,h,_=>by simp at h
 |j::l,id,h,hn=>by
  simp only[ew]at hn
  split at hn
  ·rename_i hs
   rcases List.mem_cons.1 h with rfl|h
   ·exact(ab.dM hs).symm
   ·exact my l id h hn
  ·simp only[List.map_cons,List.mem_cons,not_or]at hn
   rcases List.mem_cons.1 h with rfl|h
   ·exact absurd rfl hn.1
   ·exact my l id h hn.2
theorem zo{o1:Nat->ab}:∀ (Δ:List (Nat×ab)) (o:Nat->ab),(∀x∈Δ,x.2=o1 x.1)->∀id,id∈Δ.map (·.1)\/o id=o1 id->put o Δ id=o1 id
 |[],o,_,id,h=>by rcases h with h|h;· simp at h
                  ·exact h
 |x::Δ,o,hv,id,h=>by
  simp only[put,List.foldl_cons]
  refine zo Δ (ax o x.1 x.2) (fun y hy=>hv y (List.mem_cons_of_mem _ hy)) id ?_
  simp only[List.map_cons,List.mem_cons]at h
  simp only[aK]
  by_cases e:id=x.1
  ·right;rw[if_pos e,hv x (by simp),e]
  ·rcases h with(h|h)|h
   ·exact absurd h e
   ·exact .inl h
   ·right;rw[if_neg e];exact h
theorem qQ{o o1:Nat->ab}{l:List Nat}{id:Nat}(h:id∈l):o1 id=put o (ew o o1 l) id:=by
 by_cases hm:id∈(ew o o1 l).map (·.1)
 ·exact(zo _ o (fun x hx=>(hZ l x hx).2) id (.inl hm)).symm
 ·rw[fN hm];exact my l id h hm
inductive DR where
 |val (v:V) (Δ:List (Nat×ab)) (rd:List Nat)|bJ (v:V) (ws rd:List Nat)
def DR.to (K:V->List (Nat×ab)->List Nat->Prop)(KX:V->List Nat->List Nat->Prop):DR->Prop
 | .val v Δ rd=>K v Δ rd
 | .bJ v ws rd=>KX v ws rd
noncomputable def Qi(c:CR):Option dY:=some (.c c)
noncomputable def hX(P:Program)(bV:Nat->FD)(rec:du)(g:Nat)(args:List V)(st:St):Option DR:=
 let rd:=reach st.o.get 2000 (V.ah args) []
 match rd.all (fun id=>Nat.blt id st.nx&&(st.o.get id).refs.all rd.contains)&&(V.ah args).all rd.contains with
 |true=>match FU P bV rec g args (.e (B2 rd st.o.get)) st.nx Qi with
  |some (.c (.ret v o1 _))=>match v with
   | .bU [_]=>none
   |v=>match bW o1.get (s8 v)with
    |some rs=>match(ew st.o.get o1.get rd).all (fun x=>x.2.refs.all rd.contains)&&(V.bg (s8 v)).all (fun id=> !rd.contains id)with
     |true=>some (.val (gr rs) (ew st.o.get o1.get rd) rd)
     |false=>none
    |none=>none
  |some (.c (.bJ v o1 _))=>match dI o1.get v with
   |some x=>match(ew st.o.get o1.get rd).all (fun x=>x.2.refs.all rd.contains)&&v.ids.all (fun id=> !rd.contains id)with
    |true=>some (.bJ (.d x) ((ew st.o.get o1.get rd).map (·.1)) rd)
    |false=>none
   |none=>none
  |_=>none
 |false=>none
noncomputable def Tk(P:Program)(bV:Nat->FD)(md:ru P)(rec:du)(g:Nat)(args:List V)(st:St)(rd:List Nat):Option DR:=
 match bW st.o.get args with
 |some ds=>match md.Qe g with
  |false=>match FU P bV rec g (ds.map .d) (.e fun _=> .no) 0 Qi with
   |some (.c (.ret v _ _))=>match v.refs with
    |[]=>some (.val v (cH st.o.get (V.bg args)) rd)
    |_=>none
   |_=>none
  |true=>match IA P bV md rec g ds with
   |some (.ret rs)=>match D.je rs with
    |true=>some (.val (gr rs) [] rd)
    |false=>some (.val (gr rs) (cH st.o.get (V.bg args)) rd)
   |some (.bJ x)=>match x.flat with
    |true=>some (.bJ (.d x) [] rd)
    |false=>none
   |none=>none
 |none=>hX P bV rec g args st
noncomputable def Tl(P:Program)(st:St)(fr:Nat)(op:Op):Option DR:=
 match Iz op P st.S fr with
 |some (v,Δ,_)=>some (.val v Δ (iR st.S op))
 |none=>none
def V.UR:V->Bool
 | .mp _=>true
 |_=>false
def Mw{P:Program}(md:ru P)(g:Nat)(args:List V):Bool:= !md.Qe g&&args.any V.UR
def vi(args:List V):Option (List D):=
 match V.bg args with
 |[]=>bW (fun _=> .no) args
 |_=>none
noncomputable def IG(P:Program)(t:TypeId)(c:CR):Option dY:=
 match c with
 | .ret v o1 _=>match v with
   | .osl j ep=>match o1.get j with
     | .arr gw ty sz es=>match Nat.beq gw ep with
       |true=>Qd (.ret [.sl es, .int .i64 (ty:Nat), .int .i64 (sz:Nat)]) fun x=>some (.r x)
       |false=>none
     |_=>none
   | .br=>match aX P t with
     |some e=>match Nat.blt 0 (P.cellsOf e)with
      |true=>Qd (.ret [.sl [], .int .i64 (e:Nat), .int .i64 (P.cellsOf e:Nat)]) fun x=>some (.r x)
      |false=>none
     |none=>none
   |_=>none
 |_=>none
noncomputable def Mx(P:Program)(bV:Nat->FD)(rec:du)(g:Nat)(t:TypeId)(args:List V)(st:St)(fr:Nat):Option DR:=
 match vi args with
 |some ds=>match FU P bV rec g (ds.map .d) (.e fun _=> .no) 0 (IG P t)with
  |some (.r (.ret [.sl es, .int .i64 (.ofNat ty), .int .i64 (.ofNat sz)]))=>some (.val (.osl fr 0) [(fr, .arr 0 ty sz es)] [])
  |_=>none
 |none=>match bW st.o.get args with
  |some ds=>match FU P bV rec g (ds.map .d) (.e fun _=> .no) 0 (IG P t)with
   |some (.r (.ret [.sl es, .int .i64 (.ofNat ty), .int .i64 (.ofNat sz)]))=>match D.je es&&(V.bg args).all (fun id=>Nat.blt id st.nx)with
    |true=>some (.val (.osl fr 0) [(fr, .arr 0 ty sz es)] (V.bg args))
    |false=>none
   |_=>none
  |none=>none
noncomputable def II(P:Program)(bV:Nat->FD)(md:ru P)(rec:du)(st:St)(fr:Nat)(op:Op):Option DR:=
 match op with
 | .call c=>match c.callee with
   | .value f=>match st.S.ev f with
     | .func (.func g) first cap=>match Mw md g (first++c.args.toList.map st.S.ev++cap)with
       |true=>hX P bV rec g (first++c.args.toList.map st.S.ev++cap) st
       |false=>match Tk P bV md rec g (first++c.args.toList.map st.S.ev++cap) st (iR st.S (.call c))with
        |some r=>some r
        |none=>Mx P bV rec g (c.argTypes.getD 0 0) (first++c.args.toList.map st.S.ev++cap) st fr
     |_=>none
   |_=>Tl P st fr (.call c)
 |op=>Tl P st fr op
noncomputable def Qj(st:St):Option (Nat×Bool)->Option Bool
 |none=>some true
 |some (d,want)=>match st.env.get d with
  | .d (.bool b)=>some (b==want)
  | .bU []=>some false
  |_=>none
noncomputable def tf(P:Program)(bV:Nat->FD)(md:ru P)(rec:du)(pr:List (List Nat)):List bZ->Nat->St->Fp->List Nat->List Nat->Option (List Nat×Fp)
 |[],_,_,fp,_,ws=>some (ws,fp)
 |o::l,fr,st,fp,bad,ws=>match(pr.getD fp.length []).any (fun j=>bad.contains j)with
  |true=>tf P bV md rec pr l (fr+1) ⟨qP st.env o.dst .af,st.o,st.nx⟩ (fp++[([],[])]) (bad++[fp.length]) ws
  |false=>match Qj st o.gd with
   |some true=>match II P bV md rec st fr o.op with
    |some (.val v Δ rd)=>lC st.env o.dst v fun e=>s7 st.o Δ fun ob=>tf P bV md rec pr l (fr+1) ⟨e,ob,st.nx⟩ (fp++[(rd,Δ.map (·.1))]) bad (ws++Δ.map (·.1))
    |_=>none
   |some false=>tf P bV md rec pr l (fr+1) ⟨qP st.env o.dst (.bU []),st.o,st.nx⟩ (fp++[([],[])]) bad ws
   |none=>none
inductive DQ where
 |fin (st:St) (fp:Fp)|bJ (v:V) (wl:List Nat) (fp:Fp)
noncomputable def tg(P:Program)(bV:Nat->FD)(md:ru P)(rec:du)(pr:List (List Nat)):List bZ->Nat->St->Fp->Option DQ
 |[],_,st,fp=>some (.fin st fp)
 |o::l,fr,st,fp=>match Qj st o.gd with
  |some true=>match II P bV md rec st fr o.op with
   |some (.val v Δ rd)=>lC st.env o.dst v fun e=>s7 st.o Δ fun ob=>Nat.fc (fr+1) fun fr=>tg P bV md rec pr l fr ⟨e,ob,st.nx⟩ (fp++[(rd,Δ.map (·.1))])
   |some (.bJ v ws rd)=>match tf P bV md rec pr l (fr+1) ⟨qP st.env o.dst .af,st.o,st.nx⟩ (fp++[(rd,[])]) [fp.length] (ws++fp.flatMap (·.2))with
    |some (wl,fp)=>some (.bJ v wl fp)
    |none=>none
   |none=>none
  |some false=>lC st.env o.dst (.bU []) fun e=>Nat.fc (fr+1) fun fr=>tg P bV md rec pr l fr ⟨e,st.o,st.nx⟩ (fp++[([],[])])
  |none=>none
noncomputable def quiet(fp:Fp):Bool:=fp.all fun x=>match x.2 with|[]=>true|_=>false
noncomputable def wQ(m:Nat)(x:List Nat×List Nat):Nat->Fp->Bool
 |_,[]=>true
 |i,y::l=>(match y.2,x.2 with
  |[],[]=>true
  |_,_=>m.testBit i||(jR y.2 x.1&&jR y.2 x.2&&jR x.2 y.1))&&wQ m x (i+1) l
noncomputable def Cp(ms:List Nat)(pre:Fp):Nat->Fp->Bool
 |_,[]=>true
 |j,x::l=>wQ (ms.getD j 0) x 0 pre&&Cp ms (pre++[x]) (j+1) l
noncomputable def Qk{β:Type}:List Nat->(List Nat->β)->β
 |[],c=>c []
 |x::xs,c=>Nat.fc x fun x=>Qk xs fun xs=>c (x::xs)
theorem F5{β:Type}:∀ (x:List Nat) (c:List Nat->β),Qk x c=c x
 |[],c=>rfl
 |x::xs,c=>by simp only[Qk,Nat.cK,F5 xs]
noncomputable def IJ{β:Type}:Fp->(Fp->β)->β
 |[],c=>c []
 |(a,b)::l,c=>Qk a fun a=>Qk b fun b=>IJ l fun l=>c ((a,b)::l)
theorem Cq{β:Type}:∀ (x:Fp) (c:Fp->β),IJ x c=c x
 |[],c=>rfl
 |(a,b)::l,c=>by simp only[IJ,F5,Cq l]
noncomputable def F6(pr:List (List Nat))(fp:Fp):Bool:=match quiet fp with|true=>true|false=>IJ fp fun fp=>Cp (dR pr []) [] 0 fp
theorem vj{m:Nat}{x:List Nat×List Nat}:∀ (l:Fp) (i:Nat),wQ m x i l=true->∀k,k<l.length->(m.testBit (i+k)||(jR (l.getD k ([],[])).2 x.1&&jR (l.getD k ([],[])).2 x.2&&jR x.2 (l.getD k ([],[])).1))=true
 |[],i,_,k,hk=>by simp at hk
 |y::l,i,h,k,hk=>by
  simp only[wQ,Bool.and_eq_true]at h
  cases k with
  |zero=>
   have h1:=h.1
   simp only[List.getD_cons_zero,Nat.add_zero]
   split at h1
   ·rename_i e1 e2
    rw[e1,e2];simp[jR]
   ·exact h1
  |succ k=>
   have:=vj l (i+1) h.2 k (by simpa using hk)
   rw[List.getD_cons_succ,show i+(k+1)=i+1+k by omega]
   exact this
theorem zp{ms:List Nat}:∀ (l pre:Fp),Cp ms pre pre.length l=true->∀j,pre.length<=j->j<(pre++l).length->∀i,i<j->
 ((ms.getD j 0).testBit i||(jR ((pre++l).getD i ([],[])).2 ((pre++l).getD j ([],[])).1&&jR ((pre++l).getD i ([],[])).2 ((pre++l).getD j ([],[])).2&&jR ((pre++l).getD j ([],[])).2 ((pre++l).getD i ([],[])).1))=true
 |[],pre,_,j,h1,h2,i,_=>by simp at h2;omega
 |x::l,pre,h,j,h1,h2,i,hi=>by
  simp only[Cp,Bool.and_eq_true]at h
  by_cases e:j=pre.length
  ·subst e
   have:=vj pre 0 h.1 i hi
   have e1:(pre++x::l).getD pre.length ([],[])=x:=by simp[List.getD_eq_getElem?_getD]
   have e2:(pre++x::l).getD i ([],[])=pre.getD i ([],[]):=by simp[List.getD_eq_getElem?_getD,List.getElem?_append_left hi]
   rw[e1,e2]
   simpa using this
  ·have h3:=h.2
   have:=zp l (pre++[x]) (by simpa using h3) j (by simp;omega) (by simpa using h2) i hi
   simpa using this
noncomputable def My(P:Program)(bV:Nat->FD)(md:ru P)(rec:du)(l:List bZ)(pr:List (List Nat))(st:St):Option (fO×St):=
 match tg P bV md rec pr l st.nx st []with
 |some (.fin s1 fp)=>match F6 pr fp with
  |true=>Nat.fc (st.nx+l.length) fun n=>some (.normal,⟨s1.env,s1.o,n⟩)
  |false=>none
 |some (.bJ v wl fp)=>match F6 pr fp with
  |true=>some (.bJ v,⟨.e (p7 (dstsOf l) wl l.length st.S).env, .e (p7 (dstsOf l) wl l.length st.S).o,st.nx+l.length⟩)
  |false=>none
 |none=>none
noncomputable def Ql(id:Nat)(env:Tr V)(kt:Kt)(c:CR):Option dY:=
 match c with
 | .ret _ o1 xI=>match o1.get id with
   | .loop nf m e p c d Tn pd=>match Tn with
     | .busy=>none
     |_=>match pd with
      |none=>kt .normal ⟨env,o1.set id (.loop nf m e p c d .exhausted pd),xI⟩
      |some .ret=>kt .ret ⟨env,o1.set id (.loop nf m e p c d .exhausted pd),xI⟩
      |some (.exit j)=>kt (.exit j) ⟨env,o1.set id (.loop nf m e p c d .exhausted pd),xI⟩
   |_=>none
 | .bJ v o1 xI=>kt (.bJ v) ⟨env,o1,xI⟩
noncomputable def IK(P:Program)(bV:Nat->FD)(rec:du)(n:Nat)(g:Operand)(ps:List Nat)(x y:IC)(st:St)(kt:Kt):Option dY:=
 match st.S.ev g with
 | .func (.func f) first cap=>FU P bV rec f (first++[.ki st.nx]++cap) (st.o.set st.nx (.loop P.funcs.size n ((List.range n).map st.env.get) ps x y .ready none)) (st.nx+1) (Ql st.nx st.env kt)
 |_=>none
abbrev nw:=(P:Program)->(Nat->FD)->ru P->du->Nat->Bool->Nat->St->Kt->Option dY
noncomputable def US(kt:Kt):RO->Option dY:=fun r=>match r with| .ok st=>kt .normal st| .bJ v st=>kt (.bJ v) st
noncomputable def UT(l:List bZ):nw:=fun P bV md rec _ _ _ st kt=>wO P bV md rec (US kt) l st
def vl:List Nat->Nat->Nat->Nat
 |[],_,c=>c
 |x::l,k,c=>match Nat.beq x (2^k - 1)with
  |true=>vl l (k+1) c
  |false=>vl l (k+1) (k+1)
def pc(pr:List (List Nat)):Nat:=vl (dR pr []) 0 0
noncomputable def Mz(l:List bZ)(pr:List (List Nat)):nw:=fun P bV md rec _ _ _ st kt=>
 Nat.fc (pc pr) fun m=>match tg P bV md rec pr (l.take m) st.nx st []with
 |some (.fin s1 fp)=>match F6 pr fp with
  |true=>Nat.fc (st.nx+m) fun n=>match Nat.ble m l.length with
   |true=>wO P bV md rec (US kt) (l.drop m) ⟨s1.env,s1.o,n⟩
   |false=>none
  |false=>none
 |some (.bJ _ _ _)=>match My P bV md rec l pr st with
  |some (e,s1)=>kt e s1
  |none=>none
 |none=>none
noncomputable def Bd(rec:du)(b:Nat)(rd:Bool)(n:Nat)(y:IC)(kt:Kt):Kt:=fun e s1=>match e with| .normal=>rec b rd n y s1 kt|e=>kt e s1
noncomputable def UU(x y:IC):nw:=fun _ _ _ rec b rd n st kt=>rec b rd n x st (Bd rec b rd n y kt)
noncomputable def Cr(a c:Option dY):Option dY:=
 match a with
 |some (.r x)=>match c with
  |some (.r y)=>match R.same x y with
   |true=>some (.r x)
   |false=>none
  |_=>none
 |_=>none
noncomputable def Qm(c:Operand)(x y:IC):nw:=fun _ _ _ rec b rd n st kt=>match st.S.ev c with
 | .d (.bool true)=>rec b rd n x st kt
 | .d (.bool false)=>rec b rd n y st kt
 | .eK=>Cr (rec b rd n x st kt) (rec b rd n y st kt)
 |_=>none
noncomputable def Be(id:Nat)(kt:Kt):Kt:=fun e s1=>match e with
 | .exit j=>match Nat.beq j id with
   |true=>kt .normal s1
   |false=>kt (.exit j) s1
 |e=>kt e s1
noncomputable def MA(id:Nat)(x:IC):nw:=fun _ _ _ rec b rd n st kt=>rec b rd n x st (Be id kt)
noncomputable def Qn(x:IC):nw:=fun _ _ _ rec b rd n st kt=>match Nat.ble b st.nx with
 |true=>rec b rd n x st (Bd rec b rd n (.loop x) kt)
 |false=>none
noncomputable def MB(e:fO):nw:=fun _ _ _ _ _ _ _ st kt=>kt e st
noncomputable def UW:nw:=fun _ _ _ _ _ _ _ _ _=>none
noncomputable def UX(g:Operand)(ps:List Nat)(x y:IC):nw:=fun P bV _ rec _ rd n st kt=>match rd with
 |true=>none
 |false=>IK P bV rec n g ps x y st kt
noncomputable def Kq(ic:IC):nw:=
 match ic with
 | .skip=>MB .normal
 | .ad l=>UT l
 | .cG l pr=>Mz l pr
 | .seq x y=>UU x y
 | .cond c x y=>Qm c x y
 | .block id x=>MA id x
 | .loop x=>Qn x
 | .exit id=>MB (.exit id)
 | .ret=>MB .ret
 | .C8 g ps x y=>UX g ps x y
 | .bad=>UW
noncomputable def run(P:Program)(bV:Nat->FD)(md:ru P)(k:Nat):du:=
 Nat.rec (motive:=fun _=>du) (fun _ _ _ _ _ _=>none) (fun _ rec b rd n ic st kt=>Kq ic P bV md rec b rd n st kt) k
theorem F7{P:Program}{bV:Nat->FD}{md:ru P}{k:Nat}:run P bV md (k+1)=fun b rd n ic st kt=>Kq ic P bV md (run P bV md k) b rd n st kt:=rfl
section
variable {P:Program}{bV:Nat->FD}{md:ru P}
theorem Kr(bc:P.follows .mixedOrders=true)(cq:∀g,(bV g).Ok P g){rec:du}(aH:ek P rec){fr:Nat}{g:Nat}{args:List V}{st:St}{r:DR}(h:hX P bV rec g args st=some r){K:V->List (Nat×ab)->List Nat->Prop}{KX:V->List Nat->List Nat->Prop}(hr:r.to K KX):
 iy P g args st.S.o st.S.nx fr K KX:=by
 unfold hX at h
 simp only at h
 generalize lS:reach st.o.get 2000 (V.ah args) []=rd at h
 split at h
 ·rename_i hc
  simp only[Bool.and_eq_true,List.all_eq_true]at hc
  obtain⟨MC,sn⟩:=hc
  have a1:∀id∈rd,id<st.nx:=fun id aw=>Nat.le_of_ble_eq_true (MC id aw).1
  have a2:∀id∈V.ah args,id∈rd:=fun id aw=>by simpa using sn id aw
  have a3:∀id∈rd,∀j∈(st.o.get id).refs,j∈rd:=fun id aw j hj=>by simpa using(MC id aw).2 j hj
  have a0:rd.all (fun id=>decide (id<st.S.nx))=true:=List.all_eq_true.2 fun id aw=>decide_eq_true (a1 id aw)
  have key:∀ {r:CR} {a:CR},Qi r=some (.c a)->r=a:=fun h=>by unfold Qi at h;injection h with h;injection h
  split at h
  ·rename_i v o1 xI hf
   split at h
   ·cases h
   ·rename_i v' l5
    split at h
    ·rename_i rs OY
     split at h
     ·rename_i MD
      injection h with h;subst h
      simp only[Bool.and_eq_true,List.all_eq_true]at MD
      refine⟨rd,_,a0, .inl ⟨rs,wA.jT a1 a2 a3 (fun x hx=>(hZ rd x hx).1) (fun x hx j hj=>by simpa using MD.1 x hx j hj) (mw bc cq aH hf fun r su=> ?_),hr⟩⟩
      rw[key su]
      refine⟨fun id aw=>qQ aw,s8 v,rs, ?_,OY,rfl,fun id aw=>by simpa using MD.2 id aw⟩
      cases v with
      |bU vs=>
       match vs,l5 with
       |[],_=>rfl
       |[x],hv=>exact absurd rfl (hv x)
       |_::_::_,_=>rfl
      |_=>rfl
     ·cases h
    ·cases h
  ·rename_i v o1 xI hf
   split at h
   ·rename_i x hx
    split at h
    ·rename_i MD
     injection h with h;subst h
     simp only[Bool.and_eq_true,List.all_eq_true]at MD
     refine⟨rd,ew st.o.get o1.get rd,a0, .inr (.inl ⟨x,wA.jT a1 a2 a3 (fun x hx=>(hZ rd x hx).1) (fun x hx j hj=>by simpa using MD.1 x hx j hj) (mw bc cq aH hf fun r su=> ?_),hr⟩)⟩
     rw[key su]
     exact⟨fun id aw=>qQ aw,x,hx,rfl,fun id aw=>by simpa using MD.2 id aw⟩
    ·cases h
   ·cases h
  ·cases h
 ·cases h
theorem ME(bc:P.follows .mixedOrders=true)(cq:∀g,(bV g).Ok P g){rec:du}(aH:ek P rec){g:Nat}{args:List V}{st:St}{rd:List Nat}{ds:List D}(eC:bW st.o.get args=some ds){r:DR}(h:Tk P bV md rec g args st rd=some r)
 {K:V->List (Nat×ab)->List Nat->Prop} {KX:V->List Nat->List Nat->Prop} (hr:r.to K KX):
 qK P g ds (fun v=>K v (cH st.S.o (V.bg args)) rd) (fun v=>K v [] rd) (fun v=>KX v [] rd):=by
 unfold Tk at h
 simp only[eC]at h
 split at h
 ·split at h
  ·rename_i v o1 xI F8
   split at h
   ·rename_i ZD
    injection h with h;subst h
    exact .inr (.inr ⟨v,Pl.jT ZD (mw bc cq aH F8 fun r su=>by unfold Qi at su;injection su with su;injection su with su;rw[su];exact rfl),hr⟩)
   ·cases h
  ·cases h
 ·split at h
  ·rename_i rs F3
   have hP:=wP bc cq aH F3
   split at h
   ·rename_i hf
    injection h with h;subst h
    exact .inl ⟨rs,hP, .inr ⟨hf,hr⟩⟩
   ·injection h with h;subst h
    exact .inl ⟨rs,hP, .inl hr⟩
  ·rename_i x F3
   have hP:=wP bc cq aH F3
   split at h
   ·rename_i hf
    injection h with h;subst h
    exact .inr (.inl ⟨x,hP,hf,hr⟩)
   ·cases h
  ·cases h
theorem Cs{t ty:TypeId}{sz:Nat}{es:List D}{r:CR}(h:IG P t r=some (.r (.ret [.sl es, .int .i64 (.ofNat ty), .int .i64 (.ofNat sz)]))):
 r.to (fun v o1 _=>(∃j ep,v= .osl j ep/\o1 j= .arr ep ty sz es)\/(v= .br/\es=[]/\0<sz)) (fun _ _ _=>False):=by
 unfold IG at h
 split at h
 ·rename_i v o1 n1
  split at h
  ·rename_i j ep
   split at h
   ·rename_i gw UC m8 es' ho
    split at h
    ·rename_i he
     have he:=Nat.eq_of_beq_eq_true he
     subst he
     rw[Bc]at h
     simp only[Option.some.injEq,dY.r.injEq,R.ret.injEq,List.cons.injEq,D.sl.injEq,D.int.injEq,true_and,and_true]at h
     obtain⟨rfl,h2,h3⟩:=h
     have h2:UC=ty:=Int.ofNat.inj h2
     have h3:m8=sz:=Int.ofNat.inj h3
     subst h2;subst h3
     exact .inl ⟨j,gw,rfl,ho⟩
    ·cases h
   ·cases h
  ·split at h
   ·rename_i e he
    split at h
    ·rename_i hp
     rw[Bc]at h
     simp only[Option.some.injEq,dY.r.injEq,R.ret.injEq,List.cons.injEq,D.sl.injEq,D.int.injEq,true_and,and_true]at h
     obtain⟨rfl,h2,h3⟩:=h
     have h3:P.cellsOf e=sz:=Int.ofNat.inj h3
     subst h3
     exact .inr ⟨rfl,rfl,Nat.blt_eq.mp hp⟩
    ·cases h
   ·cases h
  ·cases h
 ·cases h
theorem IL(bc:P.follows .mixedOrders=true)(cq:∀g,(bV g).Ok P g){rec:du}(aH:ek P rec){fr:Nat}{g:Nat}{t:TypeId}{args:List V}{st:St}{r:DR}(h:Mx P bV rec g t args st fr=some r){K:V->List (Nat×ab)->List Nat->Prop}{KX:V->List Nat->List Nat->Prop}(hr:r.to K KX):
 iy P g args st.S.o st.S.nx fr K KX:=by
 unfold Mx at h
 split at h
 ·rename_i ds eC
  split at h
  ·rename_i es ty sz F8
   injection h with h;subst h
   unfold vi at eC
   split at eC
   ·rename_i aw
    exact⟨[],_,by simp, .inr (.inr ⟨_,AV.IF aw eC (AV.Mu (mw bc cq aH F8 fun r su=>Cs su)),hr⟩)⟩
   ·cases eC
  ·cases h
 ·split at h
  ·rename_i ds eC
   split at h
   ·rename_i es ty sz F8
    split at h
    ·rename_i hc
     injection h with h;subst h
     simp only[Bool.and_eq_true]at hc
     refine⟨V.bg args,_, ?_, .inr (.inr ⟨_,AV.IE eC hc.1 (mw bc cq aH F8 fun r su=>Cs su),hr⟩)⟩
     exact List.all_eq_true.2 fun id aw=>decide_eq_true (Nat.blt_eq.mp (List.all_eq_true.1 hc.2 id aw))
    ·cases h
   ·cases h
  ·cases h
theorem wR(bc:P.follows .mixedOrders=true)(cq:∀g,(bV g).Ok P g){rec:du}(aH:ek P rec){st:St}{fr:Nat}{o:bZ}{r:DR}(h:II P bV md rec st fr o.op=some r){K:V->List (Nat×ab)->List Nat->Prop}{KX:V->List Nat->List Nat->Prop}(hr:r.to K KX):
 xJ P st.S fr o K KX:=by
 have hs:Tl P st fr o.op=some r->(match fP P st.S fr o.op with|some (v,Δ,_)=>K v Δ (iR st.S o.op)|none=>False):=by
  intro h
  unfold Tl at h
  split at h
  ·rename_i v Δ rd he
   injection h with h;subst h
   simp only[Cj he]
   exact hr
  ·cases h
 unfold II at h
 unfold xJ
 split at h
 ·rename_i c hc
  simp only[hc]
  split at h
  ·rename_i f hf
   simp only[hf]
   split at h
   ·rename_i g first cap hv
    simp only[hv]
    split at h
    ·have hh:=Kr bc cq aH h hr (fr:=fr)
     split
     ·exact .inr hh
     ·exact hh
    split at h
    ·rename_i r' Lk
     injection h with h;subst h
     cases eC:bW st.S.o (first++List.map st.S.ev c.args.toList++cap)with
     |some ds=>exact .inl (ME bc cq aH eC Lk hr)
     |none=>
      have Ms:bW st.o.get (first++List.map st.S.ev c.args.toList++cap)=none:=eC
      unfold Tk at Lk
      simp only[Ms]at Lk
      exact Kr bc cq aH Lk hr
    ·have hh:=IL bc cq aH (st:=st) h hr
     split
     ·exact .inr hh
     ·exact hh
   ·cases h
  ·rename_i dN
   rw[<- hc]at h
   have:=hs h
   rw[hc]at this
   split
   ·rename_i f hf;exact absurd hf (dN f)
   ·exact this
 ·rename_i hc
  have:=hs h
  split
  ·rename_i c hh;exact absurd hh (hc c)
  ·exact this
def To(s:S)(gd:Option (Nat×Bool))(A B:Prop):Prop:=
 match gd with
 |none=>A
 |some (d,want)=>match s.env d with
  | .d (.bool b)=>if b=want then A else B
  | .bU []=>B
  |_=>False
theorem wS{st:St}{gd:Option (Nat×Bool)}{t:Bool}(h:Qj st gd=some t){A B:Prop}(hA:t=true->A)(hB:t=false->B):To st.S gd A B:=by
 cases gd with
 |none=>simp only[Qj,Option.some.injEq]at h;exact hA h.symm
 |some p=>
  obtain⟨d,want⟩:=p
  have he:st.S.env d=st.env.get d:=rfl
  simp only[Qj]at h
  simp only[To,he]
  split at h
  ·rename_i b hb
   injection h with h
   by_cases e:b=want
   ·rw[if_pos e];exact hA (by rw[<- h,e];simp)
   ·rw[if_neg e];exact hB (by rw[<- h];simpa using e)
  ·rename_i hb
   injection h with h
   exact hB h.symm
  ·cases h
theorem IM{P:Program}{KB:List Nat->Fp->Prop}{pr:List (List Nat)}{o:bZ}{l:List bZ}{fr:Nat}{s:S}{fp:Fp}{bad ws:List Nat}(hb:(pr.getD fp.length []).any (fun j=>bad.contains j)=false)
 (h:To s o.gd (xJ P s fr o (fun v Δ rd=>gE P KB pr l (fr+1) ⟨a8 s.env o.dst v,put s.o Δ,s.nx⟩ (fp++[(rd,Δ.map (·.1))]) bad (ws++Δ.map (·.1))) (fun _ _ _=>False)) (gE P KB pr l (fr+1) ⟨a8 s.env o.dst (.bU []),s.o,s.nx⟩ (fp++[([],[])]) bad ws)):
 gE P KB pr (o::l) fr s fp bad ws:=by
 simp only[gE]
 rw[if_neg (by rw[hb];simp)]
 cases hg:o.gd with
 |none=>rw[hg]at h;exact h
 |some p=>obtain⟨d,want⟩:=p;rw[hg]at h;exact h
theorem IP{P:Program}{K:S->Fp->Prop}{KP:V->List Nat->Fp->Prop}{pr:List (List Nat)}{o:bZ}{l:List bZ}{fr:Nat}{s:S}{fp:Fp}
 (h:To s o.gd (xJ P s fr o (fun v Δ rd=>jX P K KP pr l (fr+1) ⟨a8 s.env o.dst v,put s.o Δ,s.nx⟩ (fp++[(rd,Δ.map (·.1))]))
  (fun v ws rd=>gE P (KP v) pr l (fr+1) ⟨a8 s.env o.dst .af,s.o,s.nx⟩ (fp++[(rd,[])]) [fp.length] (ws++fp.flatMap (·.2)))) (jX P K KP pr l (fr+1) ⟨a8 s.env o.dst (.bU []),s.o,s.nx⟩ (fp++[([],[])]))):
 jX P K KP pr (o::l) fr s fp:=by
 simp only[jX]
 cases hg:o.gd with
 |none=>rw[hg]at h;exact h
 |some p=>obtain⟨d,want⟩:=p;rw[hg]at h;exact h
theorem pf(bc:P.follows .mixedOrders=true)(cq:∀g,(bV g).Ok P g){rec:du}(aH:ek P rec){pr:List (List Nat)}{wl:List Nat}{UY:Fp}{KB:List Nat->Fp->Prop}(hK:KB wl UY):
 ∀ (l:List bZ) (fr:Nat) (st:St) (fp:Fp) (bad ws:List Nat),tf P bV md rec pr l fr st fp bad ws=some (wl,UY)->gE P KB pr l fr st.S fp bad ws
 |[],fr,st,fp,bad,ws,h=>by
  simp only[tf,Option.some.injEq,Prod.mk.injEq]at h
  obtain⟨rfl,rfl⟩:=h;exact hK
 |o::l,fr,st,fp,bad,ws,h=>by
  simp only[tf,iU,mu]at h
  split at h
  ·rename_i hb
   simp only[gE]
   rw[if_pos hb]
   have:=pf bc cq aH hK l _ _ _ _ _ h
   simp only[St.S,ee]at this
   exact this
  ·rename_i hb
   refine IM hb ?_
   split at h
   ·rename_i hg
    refine wS hg (fun _=> ?_) (fun h=>by cases h)
    split at h
    ·rename_i v Δ rd dt
     refine wR bc cq aH dt ?_
     have:=pf bc cq aH hK l _ _ _ _ _ h
     simp only[St.S,ee,jo]at this
     exact this
    ·cases h
   ·rename_i hg
    refine wS hg (fun h=>by cases h) (fun _=> ?_)
    have:=pf bc cq aH hK l _ _ _ _ _ h
    simp only[St.S,ee]at this
    exact this
   ·cases h
def DQ.to (K:S->Fp->Prop)(KP:V->List Nat->Fp->Prop):DQ->Prop
 | .fin st fp=>K st.S fp
 | .bJ v wl fp=>KP v wl fp
theorem mz(bc:P.follows .mixedOrders=true)(cq:∀g,(bV g).Ok P g){rec:du}(aH:ek P rec){pr:List (List Nat)}{q:DQ}{K:S->Fp->Prop}{KP:V->List Nat->Fp->Prop}(hq:q.to K KP):
 ∀ (l:List bZ) (fr:Nat) (st:St) (fp:Fp),tg P bV md rec pr l fr st fp=some q->jX P K KP pr l fr st.S fp
 |[],fr,st,fp,h=>by
  simp only[tg,Option.some.injEq]at h
  subst h;exact hq
 |o::l,fr,st,fp,h=>by
  simp only[tg,iU,mu,Nat.cK]at h
  refine IP ?_
  split at h
  ·rename_i hg
   refine wS hg (fun _=> ?_) (fun h=>by cases h)
   split at h
   ·rename_i v Δ rd dt
    refine wR bc cq aH dt ?_
    have:=mz bc cq aH hq l _ _ _ h
    simp only[St.S,ee,jo]at this
    exact this
   ·rename_i v ws rd dt
    split at h
    ·rename_i wl UY hb
     injection h with h;subst h
     refine wR bc cq aH dt ?_
     have:=pf bc cq aH (KB:=KP v) hq l _ _ _ _ _ hb
     simp only[St.S,ee]at this
     exact this
    ·cases h
   ·cases h
  ·rename_i hg
   refine wS hg (fun h=>by cases h) (fun _=> ?_)
   have:=mz bc cq aH hq l _ _ _ h
   simp only[St.S,ee]at this
   exact this
  ·cases h
theorem wT{pr:List (List Nat)}{fp:Fp}(h:F6 pr fp=true):eg pr fp=true:=by
 unfold F6 at h
 split at h
 ·rename_i hq
  unfold quiet at hq
  have hz:∀i,(fp.getD i ([],[])).2=[]:=by
   intro i
   rw[List.getD_eq_getElem?_getD]
   cases hx:fp[i]? with
   |none=>rfl
   |some x=>
    have:=List.all_eq_true.1 hq x (List.mem_of_getElem? hx)
    simp only[Option.getD_some]
    split at this
    ·rename_i e;exact e
    ·cases this
  unfold eg
  simp only[hz,jR,List.all_nil,Bool.and_self,Bool.or_true]
  simp
 ·rw[Cq]at h
  unfold eg
  rw[List.all_eq_true]
  intro j hj
  rw[List.all_eq_true]
  intro i hi
  exact zp fp [] h j (Nat.zero_le _) (by simpa using hj) i (by simpa using hi)
theorem th:∀ (l:List Nat) (k c:Nat),c<=k->c<=vl l k c/\∀i x,l[i]? =some x->vl l k c<=k+i->x=2^(k+i) - 1
 |[],_,c,_=>⟨Nat.le_refl _,fun i x h=>by simp at h⟩
 |y::l,k,c,hc=>by
  simp only[vl]
  split
  ·rename_i he
   obtain⟨h1,h2⟩:=th l (k+1) c (by omega)
   refine⟨h1,fun i x hi hle=> ?_⟩
   cases i with
   |zero=>simp at hi;subst hi;simpa using Nat.eq_of_beq_eq_true he
   |succ i=>
    have:=h2 i x (by simpa using hi) (by omega)
    rw[this,show k+(i+1)=k+1+i by omega]
  ·obtain⟨h1,h2⟩:=th l (k+1) (k+1) (Nat.le_refl _)
   refine⟨by omega,fun i x hi hle=> ?_⟩
   cases i with
   |zero=>omega
   |succ i=>
    have:=h2 i x (by simpa using hi) (by omega)
    rw[this,show k+(i+1)=k+1+i by omega]
theorem vm:∀ (pr:List (List Nat)) (acc:List Nat),(dR pr acc).length=acc.length+pr.length
 |[],acc=>by simp[dR]
 |ps::l,acc=>by simp only[dR,vm l,List.length_append,List.length_cons,List.length_nil];omega
theorem F9(pr:List (List Nat)):FB pr (pc pr)=true:=by
 refine List.all_eq_true.2 fun k hk=> ?_
 have hk:k<pr.length:=by simpa using hk
 by_cases h:k<pc pr
 ·simp[Nat.blt_eq.mpr h]
 ·have hl:k<(dR pr []).length:=by rw[vm];simpa using hk
  have:=(th (dR pr []) 0 0 (Nat.le_refl _)).2 k _ (List.getElem?_eq_getElem hl) (by rw[Nat.zero_add];exact Nat.le_of_not_lt h)
  rw[Nat.zero_add]at this
  rw[List.getD_eq_getElem?_getD,List.getElem?_eq_getElem hl,Option.getD_some,this]
  simp
theorem IQ(bc:P.follows .mixedOrders=true)(cq:∀g,(bV g).Ok P g){rec:du}(aH:ek P rec){l:List bZ}{pr:List (List Nat)}{st st':St}{e:fO}(h:My P bV md rec l pr st=some (e,st')){Q:fO->S->Prop}(hQ:Q e st'.S):
 jX P (A3 pr (st.S.nx+l.length) Q) (yN pr l st.S Q) pr l st.S.nx st.S []:=by
 unfold My at h
 split at h
 ·rename_i s1 fp hd
  split at h
  ·rename_i hf
   simp only[Nat.cK,Option.some.injEq,Prod.mk.injEq]at h
   obtain⟨rfl,rfl⟩:=h
   exact mz bc cq aH (q:= .fin s1 fp) (K:=A3 pr (st.S.nx+l.length) Q) (KP:=yN pr l st.S Q) (show A3 pr (st.S.nx+l.length) Q s1.S fp from⟨wT hf,hQ⟩) l _ _ _ hd
  ·cases h
 ·rename_i v wl fp hd
  split at h
  ·rename_i hf
   simp only[Option.some.injEq,Prod.mk.injEq]at h
   obtain⟨rfl,rfl⟩:=h
   exact mz bc cq aH (q:= .bJ v wl fp) (K:=A3 pr (st.S.nx+l.length) Q) (KP:=yN pr l st.S Q) (show yN pr l st.S Q v wl fp from⟨wT hf,hQ⟩) l _ _ _ hd
  ·cases h
 ·cases h
theorem IU(bc:P.follows .mixedOrders=true)(cq:∀g,(bV g).Ok P g){rec:du}(aH:ek P rec){n:Nat}{g:Operand}{ps:List Nat}{x y:IC}{st:St}{kt:Kt}{a:dY}(h:IK P bV rec n g ps x y st kt=some a){Q:fO->S->Prop}(hQ:∀e st',kt e st'=some a->Q e st'.S):
 yr P n (st.S.ev g) ps x y Q st.S:=by
 unfold IK at h
 refine⟨(List.range n).map st.env.get,fun i=> ?_, ?_⟩
 ·unfold bq
  simp only[List.getD_eq_getElem?_getD,List.getElem?_map]
  by_cases hi:i<n
  ·right;rw[List.getElem?_range hi];rfl
  ·left;rw[List.getElem?_eq_none (by simp;omega)];rfl
 ·split at h
  ·rename_i f first cap hv
   simp only[hv]
   refine .inl ?_
   have key:=fun {K X} hr=>mw (K:=K) (X:=X) bc cq aH h hr
   simp only[Tr.iM]at key
   refine key fun r hr=> ?_
   unfold Ql at hr
   cases r with
   |ret v o1 xI=>
    simp only at hr
    split at hr
    ·rename_i nf m e p c d Tn pd ho
     have hl:Tn≠ .busy:=by
      intro hb;subst hb;cases hr
     refine⟨nf,m,e,p,c,d,Tn,pd,ho,hl, ?_⟩
     split at hr
     ·cases hr
     ·split at hr<;>(have h3:=hQ _ _ hr;simp only[uk];simp only[St.S,Tr.iM]at h3;exact h3)
    ·cases hr
   |bJ v o1 xI=>exact hQ _ _ hr
  ·cases h
theorem bP.same {b:Nat}{s:S}(h:b<=s.nx):bP b s s:=fun _ φ _ _ h1 h2=>⟨φ,h1,h2,fun _ h=>h,h,fun _ _ hr=>⟨hr,rfl⟩,fun _ e' _ he=>⟨e',he,Nat.le_refl _,fun _=>rfl⟩⟩
theorem Ga{x y:Option dY}{a:dY}(h:Cr x y=some a):x=some a/\y=some a:=by
 unfold Cr at h
 split at h
 ·rename_i r
  split at h
  ·rename_i r'
   split at h
   ·rename_i hs
    injection h with h;subst h
    rw[R.dM hs]
    exact⟨rfl,rfl⟩
   ·cases h
  ·cases h
 ·cases h
theorem MF(bc:P.follows .mixedOrders=true)(cq:∀g,(bV g).Ok P g):∀k,∀j,j<=k->ek P (run P bV md j):=by
 intro k
 induction k with
 |zero=>intro j hj b rd n ic st kt a h;obtain rfl:j=0:=by omega
        cases h
 |succ k ih=>
  intro j hj b rd n ic st kt a h Q hQ
  cases j with
  |zero=>cases h
  |succ j=>
   have aH:ek P (run P bV md j):=ih j (by omega)
   rw[F7]at h
   cases ic with
   |skip=>exact hQ _ _ h
   |exit id=>exact hQ _ _ h
   |ret=>exact hQ _ _ h
   |bad=>cases h
   |ad l=>
    have h:wO P bV md (run P bV md j) (US kt) l st=some a:=h
    exact rJ bc cq aH (K:=Q .normal) (X:=fun v s=>Q (.bJ v) s) (fun r hr=>by
     cases r with
     |ok Mt=>exact hQ .normal _ hr
     |bJ v Mt=>exact hQ (.bJ v) _ hr) l _ h
   |cG l pr=>
    have h:Mz l pr P bV md (run P bV md j) b rd n st kt=some a:=h
    unfold Mz at h
    rw[Nat.cK]at h
    split at h
    ·rename_i s1 fp hd
     split at h
     ·rename_i hf
      rw[Nat.cK]at h
      split at h
      ·rename_i HO
       refine .inr ⟨pc pr,Nat.le_of_ble_eq_true HO,F9 pr, ?_⟩
       refine mz bc cq aH (q:= .fin s1 fp) (K:=fun s' fp=>eg pr fp=true/\nP P (fun v s=>Q (.bJ v) s) (Q .normal) (l.drop (pc pr)) ⟨s'.env,s'.o,st.S.nx+pc pr⟩) (KP:=fun _ _ _=>False) (show _/\_ from⟨wT hf, ?_⟩) (l.take (pc pr)) _ _ _ hd
       exact rJ bc cq aH (K:=Q .normal) (X:=fun v s=>Q (.bJ v) s) (fun r hr=>by
        cases r with
        |ok Mt=>exact hQ .normal _ hr
        |bJ v Mt=>exact hQ (.bJ v) _ hr) (l.drop (pc pr)) ⟨s1.env,s1.o,st.nx+pc pr⟩ h
      ·cases h
     ·cases h
    ·split at h
     ·rename_i e s1 h1
      exact .inl (IQ bc cq aH h1 (hQ _ _ h))
     ·cases h
    ·cases h
   |seq x y=>
    have h:run P bV md j b rd n x st (Bd (run P bV md j) b rd n y kt)=some a:=h
    simp only[rD]
    refine aH _ _ _ _ _ _ _ h _ fun e s1 he=> ?_
    unfold Bd at he
    cases e with
    |normal=>exact aH _ _ _ _ _ _ _ he _ hQ
    |_=>exact hQ _ _ he
   |cond c x y=>
    have h:(match st.S.ev c with| .d (.bool true)=>run P bV md j b rd n x st kt| .d (.bool false)=>run P bV md j b rd n y st kt| .eK=>Cr (run P bV md j b rd n x st kt) (run P bV md j b rd n y st kt)|_=>none)=some a:=h
    simp only[rD]
    split at h
    ·rename_i hv
     simp only[hv]
     exact(sI _ _).mpr (aH _ _ _ _ _ _ _ h _ hQ)
    ·rename_i hv
     simp only[hv]
     exact(qF _ _).mpr (aH _ _ _ _ _ _ _ h _ hQ)
    ·rename_i hv
     simp only[hv]
     obtain⟨h1,h2⟩:=Ga h
     exact⟨aH _ _ _ _ _ _ _ h1 _ hQ,aH _ _ _ _ _ _ _ h2 _ hQ⟩
    ·cases h
   |block id x=>
    have h:run P bV md j b rd n x st (Be id kt)=some a:=h
    simp only[rD]
    refine aH _ _ _ _ _ _ _ h _ fun e s1 he=> ?_
    unfold Be at he
    cases e with
    |exit j'=>
     simp only at he
     split at he
     ·rename_i hb
      simp only[eZ,Nat.eq_of_beq_eq_true hb,if_true];exact hQ _ _ he
     ·rename_i hb
      simp only[eZ,Nat.ne_of_beq_eq_false hb,if_false];exact hQ _ _ he
    |_=>exact hQ _ _ he
   |loop x=>
    have UZ:∀m Ks,run P bV md (m+1) b rd n (.loop x) Ks kt=some a->b<=Ks.nx/\run P bV md m b rd n x Ks (Bd (run P bV md m) b rd n (.loop x) kt)=some a:=by
     intro m Ks h
     have h:(match Nat.ble b Ks.nx with|true=>run P bV md m b rd n x Ks (Bd (run P bV md m) b rd n (.loop x) kt)|false=>none)=some a:=h
     split at h
     ·rename_i hb;exact⟨Nat.le_of_ble_eq_true hb,h⟩
     ·cases h
    have h:run P bV md (j+1) b rd n (.loop x) st kt=some a:=h
    refine⟨fun m s=>m<=k+1/\∃st,s=st.S/\run P bV md m b rd n (.loop x) st kt=some a,⟨j+1,st.S,bP.same (UZ j st h).1,hj,st,rfl,h⟩, ?_⟩
    rintro m s0 ⟨hm,Ks,rfl,h0⟩
    cases m with
    |zero=>cases h0
    |succ m=>
     have Qo:ek P (run P bV md m):=ih m (by omega)
     refine Qo _ _ _ _ _ _ _ (UZ m Ks h0).2 _ fun e s1 he=> ?_
     unfold Bd at he
     cases e with
     |normal=>
      refine⟨m,s1.S,Nat.lt_succ_self _,bP.same ?_,by omega,s1,rfl,he⟩
      cases m with
      |zero=>cases he
      |succ m=>exact(UZ m s1 he).1
     |_=>exact hQ _ _ he
   |C8 g ps x y=>
    cases rd with
    |true=>
     have h:(none:Option dY)=some a:=h
     cases h
    |false=>
     have h:IK P bV (run P bV md j) n g ps x y st kt=some a:=h
     exact⟨rfl,IU bc cq aH h hQ⟩
noncomputable def MG(P:Program)(bV:Nat->FD)(md:ru P)(k:Nat)(g:Nat)(ds:List D):Option R:=
 match FU P bV (run P bV md k) g (ds.map .d) (.e fun _=> .no) 0 zl with
 |some (.r x)=>some x
 |_=>none
theorem bC.MH (bc:P.follows .mixedOrders=true)(cq:∀g,(bV g).Ok P g){k g:Nat}{ds:List D}{out:R}(h:MG P bV md k g ds=some out):bC P g ds out:=by
 unfold MG at h
 split at h
 ·rename_i x hr;injection h with h;subst h;exact zm bc cq (MF bc cq k k (Nat.le_refl _)) hr
 ·cases h
end
end Go.Proofs.YtealblliddhgiaaGreat
namespace Go.Proofs.YtealblliddhgiaaGreat
def Tr.Gb {α:Type}(p:Nat->α->Prop):Tr α->(Nat->Nat)->Prop
 | .e g,f=>∀i,p (f i) (g i)
 | .n x l r,f=>p (f 0) x/\Gb p l (fun i=>f (2*i+1))/\Gb p r (fun i=>f (2*i+2))
theorem Tr.wU {α:Type}{p:Nat->α->Prop}:∀ {f:Nat->Nat} (t:Tr α),t.Gb p f->∀k,p (f k) (t.get k)
 |f, .e g,h,k=>h k
 |f, .n x l r,h,k=>by
  obtain⟨h1,h2,h3⟩:=h
  rw[Tr.sZ]
  split
  ·rename_i e;subst e;exact h1
  ·split
   ·have:=Tr.wU l h2 (k/2)
    rwa [show 2*(k/2)+1=k by omega]at this
   ·have:=Tr.wU r h3 (k/2 - 1)
    rwa [show 2*(k/2 - 1)+2=k by omega]at this
end Go.Proofs.YtealblliddhgiaaGreat
namespace Go.Proofs.YtealblliddhgiaaGreat
@[reducible] def mv (d s:Nat):bZ:=⟨some d, .move (.tmp s),none⟩
@[reducible] def Ag (d:Nat) (n:Int):bZ:=⟨some d, .move (.const (.int .i64 n)),none⟩
@[reducible] def sg (d s:Nat):bZ:=⟨some d, .assign (.tmp s),none⟩
@[reducible] def bQ (d:Nat) (n:Int):bZ:=⟨some d, .assign (.const (.int .i64 n)),none⟩
@[reducible] def bz (d:Nat) (b:Bool):bZ:=⟨some d, .assign (.const (.bool b)),none⟩
@[reducible] def ld (d t s:Nat):bZ:=⟨some d, .load t (.tmp s),none⟩
@[reducible] def st (t a b:Nat):bZ:=⟨none, .store t (.tmp a) (.tmp b),none⟩
@[reducible] def fa (d t s f:Nat):bZ:=⟨some d, .fieldAddr t (.tmp s) f,none⟩
@[reducible] def ex (d s i:Nat):bZ:=⟨some d, .extract (.tmp s) i,none⟩
@[reducible] def bK (d c a:Nat):bZ:=⟨some d, .pick (.tmp c) (.tmp a) (.const (.bool false)),none⟩
@[reducible] def cw (d c a:Nat):bZ:=⟨some d, .pick (.tmp c) (.const (.bool true)) (.tmp a),none⟩
@[reducible] def ia (d t x i:Nat):bZ:=⟨some d, .indexAddr t (.tmp x) (.tmp i),none⟩
@[reducible] def bx (d t s:Nat):bZ:=⟨some d, .box t (.tmp s),none⟩
@[reducible] def al (d t:Nat):bZ:=⟨some d, .alloc t,none⟩
@[reducible] def ln (d s t:Nat):bZ:=⟨some d, .call {callee:= .builtin .len,args:=#[.tmp s],argTypes:=#[t]},none⟩
@[reducible] def k0 (d f:Nat):bZ:=⟨some d, .call {callee:= .value (.func f),args:=#[],argTypes:=#[]},none⟩
@[reducible] def k1 (d f a t:Nat):bZ:=⟨some d, .call {callee:= .value (.func f),args:=#[.tmp a],argTypes:=#[t]},none⟩
@[reducible] def k2 (d f a b t u:Nat):bZ:=⟨some d, .call {callee:= .value (.func f),args:=#[.tmp a, .tmp b],argTypes:=#[t,u]},none⟩
@[reducible] def k3 (d f a b c t u v:Nat):bZ:=⟨some d, .call {callee:= .value (.func f),args:=#[.tmp a, .tmp b, .tmp c],argTypes:=#[t,u,v]},none⟩
@[reducible] def bo (op:BinOp) (d t x y u:Nat):bZ:=⟨some d, .binOp op t (.tmp x) (.tmp y) u,none⟩
@[reducible] def bk (op:BinOp) (d t x:Nat) (n:Int) (u:Nat):bZ:=⟨some d, .binOp op t (.tmp x) (.const (.int .i64 n)) u,none⟩
@[reducible] def nt (d t s:Nat):bZ:=⟨some d, .unOp .not t (.tmp s),none⟩
@[reducible] def nc (d s:Nat):bZ:=⟨some d, .nilCheck (.tmp s),none⟩
@[reducible] def gT (o:bZ) (g:Nat):bZ:=⟨o.dst,o.op,some (g,true)⟩
@[reducible] def gF (o:bZ) (g:Nat):bZ:=⟨o.dst,o.op,some (g,false)⟩
attribute [go_sem] mv Ag sg bQ bz ld st fa ex bK cw ia bx al ln k0 k1 k2 k3 bo bk nt nc gT gF
end Go.Proofs.YtealblliddhgiaaGreat
