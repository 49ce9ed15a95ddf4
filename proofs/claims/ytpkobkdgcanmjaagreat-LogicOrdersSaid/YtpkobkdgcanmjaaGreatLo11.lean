/-
  A PART OF THE PROOF. Conditions: none.
-/
import Derived.Test.YtpkobkdgcanmjaaGreatLo10
set_option linter.unusedSimpArgs false
set_option linter.unusedVariables false
namespace Go.Proofs.YtpkobkdgcanmjaaGreat
mutual
def V.same:V->V->Bool
 | .d x, .d y=>x.same y
 | .aM, .aM=>true
 | .aw, .aw=>true
 | .agg a, .agg b=>V.ek a b
 | .ptr i o, .ptr j p=>Nat.beq i j&&Nat.beq o p
 | .osl i o, .osl j p=>Nat.beq i j&&Nat.beq o p
 | .kG a, .kG b=>D.ek a b
 | .iface t x, .iface u y=>Nat.beq t u&&x.same y
 | .mp i, .mp j=>Nat.beq i j
 |_,_=>false
def V.ek:List V->List V->Bool
 |[],[]=>true
 |a::bB,b::bs=>a.same b&&V.ek bB bs
 |_,_=>false
end
mutual
theorem V.c0:∀ (x y:V),x.same y=true->x=y
 | .d x,y,h=>by cases y<;>simp only[V.same,Bool.false_eq_true]at h;rw[D.c0 _ _ h]
 | .aM,y,h=>by cases y<;>simp_all[V.same]
 | .aw,y,h=>by cases y<;>simp_all[V.same]
 | .agg a,y,h=>by cases y<;>simp only[V.same,Bool.false_eq_true]at h;rw[V.cH _ _ h]
 | .ptr i o,y,h=>by
   cases y<;>simp only[V.same,Bool.false_eq_true,Bool.and_eq_true]at h
   rw[Nat.eq_of_beq_eq_true h.1,Nat.eq_of_beq_eq_true h.2]
 | .osl i o,y,h=>by
   cases y<;>simp only[V.same,Bool.false_eq_true,Bool.and_eq_true]at h
   rw[Nat.eq_of_beq_eq_true h.1,Nat.eq_of_beq_eq_true h.2]
 | .kG a,y,h=>by cases y<;>simp only[V.same,Bool.false_eq_true]at h;rw[D.cH _ _ h]
 | .iface t x,y,h=>by
   cases y<;>simp only[V.same,Bool.false_eq_true,Bool.and_eq_true]at h
   rw[Nat.eq_of_beq_eq_true h.1,V.c0 _ _ h.2]
 | .mp i,y,h=>by
   cases y<;>simp only[V.same,Bool.false_eq_true]at h
   rw[Nat.eq_of_beq_eq_true h]
 | .bM _,y,h| .pe _ _ _ _ _,y,h| .pp _ _,y,h| .func _ _ _,y,h| .n5 _ _ _,y,h| .dC,y,h| .jT _,y,h=>by simp[V.same]at h
theorem V.cH:∀ (x y:List V),V.ek x y=true->x=y
 |[],y,h=>by cases y<;>simp_all[V.ek]
 |a::bB,y,h=>by
  cases y<;>simp only[V.ek,Bool.false_eq_true,Bool.and_eq_true]at h
  rw[V.c0 _ _ h.1,V.cH _ _ h.2]
end
def pk:List (D×D)->List (D×D)->Bool
 |[],[]=>true
 |(a,b)::l,(c,d)::m=>a.same c&&(b.same d&&pk l m)
 |_,_=>false
theorem pn:∀ (l m:List (D×D)),pk l m=true->l=m
 |[],m,h=>by cases m<;>simp_all[pk]
 |(a,b)::l,m,h=>by
  cases m with
  |nil=>simp[pk]at h
  |cons p m=>
   obtain⟨c,d⟩:=p
   simp only[pk,Bool.and_eq_true]at h
   rw[D.c0 _ _ h.1,D.c0 _ _ h.2.1,pn l m h.2.2]
noncomputable def aa.same:aa->aa->Bool
 | .no, .no=>true
 | .row a, .row b=>V.ek a b
 | .arr e t s a, .arr f u r b=>Nat.beq e f&&Nat.beq t u&&Nat.beq s r&&D.ek a b
 | .lu e a, .lu f b=>Nat.beq e f&&D.ek a b
 | .map k v a, .map k' v' b=>Nat.beq k k'&&Nat.beq v v'&&pk a b
 | .eg a, .eg b=>pk a b
 | .n6 a i, .n6 b j=>a==b&&Nat.beq i j
 |_,_=>false
theorem aa.c0 {x y:aa}(h:x.same y=true):x=y:=by
 cases x<;>cases y<;>simp only[aa.same,Bool.false_eq_true,Bool.and_eq_true]at h
 ·rfl
 ·rw[V.cH _ _ h]
 ·rw[Nat.eq_of_beq_eq_true h.1.1.1,Nat.eq_of_beq_eq_true h.1.1.2,Nat.eq_of_beq_eq_true h.1.2,D.cH _ _ h.2]
 ·rw[Nat.eq_of_beq_eq_true h.1,D.cH _ _ h.2]
 ·rw[Nat.eq_of_beq_eq_true h.1.1,Nat.eq_of_beq_eq_true h.1.2,pn _ _ h.2]
 ·rw[pn _ _ h]
 ·rw[eq_of_beq h.1,Nat.eq_of_beq_eq_true h.2]
noncomputable def reach(o:Nat->aa):Nat->List Nat->List Nat->List Nat
 |0,_,seen=>seen
 |_+1,[],seen=>seen
 |n+1,id::todo,seen=>match seen.contains id with
  |true=>reach o n todo seen
  |false=>reach o n ((o id).refs++todo) (id::seen)
noncomputable def dz(o o1:Nat->aa):List Nat->List (Nat×aa)
 |[]=>[]
 |id::l=>match(o id).same (o1 id)with
  |true=>dz o o1 l
  |false=>(id,o1 id)::dz o o1 l
theorem fi{o o1:Nat->aa}:∀ (l:List Nat) (x:Nat×aa),x∈dz o o1 l->x.1∈l/\x.2=o1 x.1
 |[],x,h=>by simp[dz]at h
 |id::l,x,h=>by
  simp only[dz]at h
  split at h
  ·obtain⟨h1,h2⟩:=fi l x h;exact⟨List.mem_cons_of_mem _ h1,h2⟩
  ·rcases List.mem_cons.1 h with rfl|h
   ·exact⟨by simp,rfl⟩
   ·obtain⟨h1,h2⟩:=fi l x h;exact⟨List.mem_cons_of_mem _ h1,h2⟩
theorem jL{o o1:Nat->aa}:∀ (l:List Nat) (id:Nat),id∈l->id∉(dz o o1 l).map (·.1)->o1 id=o id
 |[],id,h,_=>by simp at h
 |j::l,id,h,hn=>by
  simp only[dz]at hn
  split at hn
  ·rename_i hs
   rcases List.mem_cons.1 h with rfl|h
   ·exact(aa.c0 hs).symm
   ·exact jL l id h hn
  ·simp only[List.map_cons,List.mem_cons,not_or]at hn
   rcases List.mem_cons.1 h with rfl|h
   ·exact absurd rfl hn.1
   ·exact jL l id h hn.2
theorem tZ{o1:Nat->aa}:∀ (Δ:List (Nat×aa)) (o:Nat->aa),(∀x∈Δ,x.2=o1 x.1)->∀id,id∈Δ.map (·.1)\/o id=o1 id->put o Δ id=o1 id
 |[],o,_,id,h=>by rcases h with h|h;· simp at h
                  ·exact h
 |x::Δ,o,hv,id,h=>by
  simp only[put,List.foldl_cons]
  refine tZ Δ (aV o x.1 x.2) (fun y hy=>hv y (List.mem_cons_of_mem _ hy)) id ?_
  simp only[List.map_cons,List.mem_cons]at h
  simp only[aC]
  by_cases e:id=x.1
  ·right;rw[if_pos e,hv x (by simp),e]
  ·rcases h with(h|h)|h
   ·exact absurd h e
   ·exact .inl h
   ·right;rw[if_neg e];exact h
theorem nu{o o1:Nat->aa}{l:List Nat}{id:Nat}(h:id∈l):o1 id=put o (dz o o1 l) id:=by
 by_cases hm:id∈(dz o o1 l).map (·.1)
 ·exact(tZ _ o (fun x hx=>(fi l x hx).2) id (.inl hm)).symm
 ·rw[eC hm];exact jL l id h hm
inductive DR where
 |val (v:V) (Δ:List (Nat×aa)) (rd:List Nat)|ba (v:V) (ws rd:List Nat)
def DR.to (K:V->List (Nat×aa)->List Nat->Prop)(KX:V->List Nat->List Nat->Prop):DR->Prop
 | .val v Δ rd=>K v Δ rd
 | .ba v ws rd=>KX v ws rd
noncomputable def Im(c:CR):Option dk:=some (.c c)
noncomputable def hX(P:Program)(bu:Nat->FD)(rec:cP)(g:Nat)(args:List V)(st:St):Option DR:=
 let rd:=reach st.o.get 2000 (V.ax args) []
 match rd.all (fun id=>Nat.blt id st.nx&&(st.o.get id).refs.all rd.contains)&&(V.ax args).all rd.contains with
 |true=>match z6 P bu rec g args (.e (CY rd st.o.get)) st.nx Im with
  |some (.c (.ret v o1 _))=>match v with
   | .bM [_]=>none
   |v=>match bA o1.get (ph v)with
    |some rs=>match(dz st.o.get o1.get rd).all (fun x=>x.2.refs.all rd.contains)&&(V.aQ (ph v)).all (fun id=> !rd.contains id)with
     |true=>some (.val (fY rs) (dz st.o.get o1.get rd) rd)
     |false=>none
    |none=>none
  |some (.c (.ba v o1 _))=>match dn o1.get v with
   |some x=>match(dz st.o.get o1.get rd).all (fun x=>x.2.refs.all rd.contains)&&v.ids.all (fun id=> !rd.contains id)with
    |true=>some (.ba (.d x) ((dz st.o.get o1.get rd).map (·.1)) rd)
    |false=>none
   |none=>none
  |_=>none
 |false=>none
noncomputable def Nh(P:Program)(bu:Nat->FD)(md:mb P)(rec:cP)(g:Nat)(args:List V)(st:St)(rd:List Nat):Option DR:=
 match bA st.o.get args with
 |some ds=>match md.Ii g with
  |false=>match z6 P bu rec g (ds.map .d) (.e fun _=> .no) 0 Im with
   |some (.c (.ret v _ _))=>match v.refs with
    |[]=>some (.val v (cg st.o.get (V.aQ args)) rd)
    |_=>none
   |_=>none
  |true=>match BZ P bu md rec g ds with
   |some (.ret rs)=>match D.fX rs with
    |true=>some (.val (fY rs) [] rd)
    |false=>some (.val (fY rs) (cg st.o.get (V.aQ args)) rd)
   |some (.ba x)=>match x.flat with
    |true=>some (.ba (.d x) [] rd)
    |false=>none
   |none=>none
 |none=>hX P bu rec g args st
noncomputable def Ni(P:Program)(st:St)(fr:Nat)(op:Op):Option DR:=
 match BX op P st.S fr with
 |some (v,Δ,_)=>some (.val v Δ (fL st.S op))
 |none=>none
def V.OK:V->Bool
 | .mp _=>true
 |_=>false
def E0{P:Program}(md:mb P)(g:Nat)(args:List V):Bool:= !md.Ii g&&args.any V.OK
def qF(args:List V):Option (List D):=
 match V.aQ args with
 |[]=>bA (fun _=> .no) args
 |_=>none
noncomputable def B4(P:Program)(t:TypeId)(c:CR):Option dk:=
 match c with
 | .ret v o1 _=>match v with
   | .osl j ep=>match o1.get j with
     | .arr eQ ty sz es=>match Nat.beq eQ ep with
       |true=>Ih (.ret [.sl es, .int .i64 (ty:Nat), .int .i64 (sz:Nat)]) fun x=>some (.r x)
       |false=>none
     |_=>none
   | .aM=>match aE P t with
     |some e=>match Nat.blt 0 (P.cellsOf e)with
      |true=>Ih (.ret [.sl [], .int .i64 (e:Nat), .int .i64 (P.cellsOf e:Nat)]) fun x=>some (.r x)
      |false=>none
     |none=>none
   |_=>none
 |_=>none
noncomputable def E1(P:Program)(bu:Nat->FD)(rec:cP)(g:Nat)(t:TypeId)(args:List V)(st:St)(fr:Nat):Option DR:=
 match qF args with
 |some ds=>match z6 P bu rec g (ds.map .d) (.e fun _=> .no) 0 (B4 P t)with
  |some (.r (.ret [.sl es, .int .i64 (.ofNat ty), .int .i64 (.ofNat sz)]))=>some (.val (.osl fr 0) [(fr, .arr 0 ty sz es)] [])
  |_=>none
 |none=>match bA st.o.get args with
  |some ds=>match z6 P bu rec g (ds.map .d) (.e fun _=> .no) 0 (B4 P t)with
   |some (.r (.ret [.sl es, .int .i64 (.ofNat ty), .int .i64 (.ofNat sz)]))=>match D.fX es&&(V.aQ args).all (fun id=>Nat.blt id st.nx)with
    |true=>some (.val (.osl fr 0) [(fr, .arr 0 ty sz es)] (V.aQ args))
    |false=>none
   |_=>none
  |none=>none
noncomputable def B5(P:Program)(bu:Nat->FD)(md:mb P)(rec:cP)(st:St)(fr:Nat)(op:Op):Option DR:=
 match op with
 | .call c=>match c.callee with
   | .value f=>match st.S.ev f with
     | .func (.func g) first cap=>match E0 md g (first++c.args.toList.map st.S.ev++cap)with
       |true=>hX P bu rec g (first++c.args.toList.map st.S.ev++cap) st
       |false=>match Nh P bu md rec g (first++c.args.toList.map st.S.ev++cap) st (fL st.S (.call c))with
        |some r=>some r
        |none=>E1 P bu rec g (c.argTypes.getD 0 0) (first++c.args.toList.map st.S.ev++cap) st fr
     |_=>none
   |_=>Ni P st fr (.call c)
 |op=>Ni P st fr op
noncomputable def Io(st:St):Option (Nat×Bool)->Option Bool
 |none=>some true
 |some (d,want)=>match st.env.get d with
  | .d (.bool b)=>some (b==want)
  | .bM []=>some false
  |_=>none
noncomputable def pq(P:Program)(bu:Nat->FD)(md:mb P)(rec:cP)(pr:List (List Nat)):List bE->Nat->St->Fp->List Nat->List Nat->Option (List Nat×Fp)
 |[],_,_,fp,_,ws=>some (ws,fp)
 |o::l,fr,st,fp,bad,ws=>match(pr.getD fp.length []).any (fun j=>bad.contains j)with
  |true=>pq P bu md rec pr l (fr+1) ⟨ns st.env o.dst .aw,st.o,st.nx⟩ (fp++[([],[])]) (bad++[fp.length]) ws
  |false=>match Io st o.gd with
   |some true=>match B5 P bu md rec st fr o.op with
    |some (.val v Δ rd)=>iX st.env o.dst v fun e=>pg st.o Δ fun ob=>pq P bu md rec pr l (fr+1) ⟨e,ob,st.nx⟩ (fp++[(rd,Δ.map (·.1))]) bad (ws++Δ.map (·.1))
    |_=>none
   |some false=>pq P bu md rec pr l (fr+1) ⟨ns st.env o.dst (.bM []),st.o,st.nx⟩ (fp++[([],[])]) bad ws
   |none=>none
inductive DQ where
 |fin (st:St) (fp:Fp)|ba (v:V) (wl:List Nat) (fp:Fp)
noncomputable def pt(P:Program)(bu:Nat->FD)(md:mb P)(rec:cP)(pr:List (List Nat)):List bE->Nat->St->Fp->Option DQ
 |[],_,st,fp=>some (.fin st fp)
 |o::l,fr,st,fp=>match Io st o.gd with
  |some true=>match B5 P bu md rec st fr o.op with
   |some (.val v Δ rd)=>iX st.env o.dst v fun e=>pg st.o Δ fun ob=>Nat.fc (fr+1) fun fr=>pt P bu md rec pr l fr ⟨e,ob,st.nx⟩ (fp++[(rd,Δ.map (·.1))])
   |some (.ba v ws rd)=>match pq P bu md rec pr l (fr+1) ⟨ns st.env o.dst .aw,st.o,st.nx⟩ (fp++[(rd,[])]) [fp.length] (ws++fp.flatMap (·.2))with
    |some (wl,fp)=>some (.ba v wl fp)
    |none=>none
   |none=>none
  |some false=>iX st.env o.dst (.bM []) fun e=>Nat.fc (fr+1) fun fr=>pt P bu md rec pr l fr ⟨e,st.o,st.nx⟩ (fp++[([],[])])
  |none=>none
noncomputable def quiet(fp:Fp):Bool:=fp.all fun x=>match x.2 with|[]=>true|_=>false
noncomputable def rW(m:Nat)(x:List Nat×List Nat):Nat->Fp->Bool
 |_,[]=>true
 |i,y::l=>(match y.2,x.2 with
  |[],[]=>true
  |_,_=>m.testBit i||(ke y.2 x.1&&ke y.2 x.2&&ke x.2 y.1))&&rW m x (i+1) l
noncomputable def wQ(ms:List Nat)(pre:Fp):Nat->Fp->Bool
 |_,[]=>true
 |j,x::l=>rW (ms.getD j 0) x 0 pre&&wQ ms (pre++[x]) (j+1) l
noncomputable def Ip{β:Type}:List Nat->(List Nat->β)->β
 |[],c=>c []
 |x::xs,c=>Nat.fc x fun x=>Ip xs fun xs=>c (x::xs)
theorem Ah{β:Type}:∀ (x:List Nat) (c:List Nat->β),Ip x c=c x
 |[],c=>rfl
 |x::xs,c=>by simp only[Ip,Nat.cj,Ah xs]
noncomputable def B6{β:Type}:Fp->(Fp->β)->β
 |[],c=>c []
 |(a,b)::l,c=>Ip a fun a=>Ip b fun b=>B6 l fun l=>c ((a,b)::l)
theorem wR{β:Type}:∀ (x:Fp) (c:Fp->β),B6 x c=c x
 |[],c=>rfl
 |(a,b)::l,c=>by simp only[B6,Ah,wR l]
noncomputable def Ai(pr:List (List Nat))(fp:Fp):Bool:=match quiet fp with|true=>true|false=>B6 fp fun fp=>wQ (dx pr []) [] 0 fp
theorem qG{m:Nat}{x:List Nat×List Nat}:∀ (l:Fp) (i:Nat),rW m x i l=true->∀k,k<l.length->(m.testBit (i+k)||(ke (l.getD k ([],[])).2 x.1&&ke (l.getD k ([],[])).2 x.2&&ke x.2 (l.getD k ([],[])).1))=true
 |[],i,_,k,hk=>by simp at hk
 |y::l,i,h,k,hk=>by
  simp only[rW,Bool.and_eq_true]at h
  cases k with
  |zero=>
   have h1:=h.1
   simp only[List.getD_cons_zero,Nat.add_zero]
   split at h1
   ·rename_i e1 e2
    rw[e1,e2];simp[ke]
   ·exact h1
  |succ k=>
   have:=qG l (i+1) h.2 k (by simpa using hk)
   rw[List.getD_cons_succ,show i+(k+1)=i+1+k by omega]
   exact this
theorem ua{ms:List Nat}:∀ (l pre:Fp),wQ ms pre pre.length l=true->∀j,pre.length<=j->j<(pre++l).length->∀i,i<j->
 ((ms.getD j 0).testBit i||(ke ((pre++l).getD i ([],[])).2 ((pre++l).getD j ([],[])).1&&ke ((pre++l).getD i ([],[])).2 ((pre++l).getD j ([],[])).2&&ke ((pre++l).getD j ([],[])).2 ((pre++l).getD i ([],[])).1))=true
 |[],pre,_,j,h1,h2,i,_=>by simp at h2;omega
 |x::l,pre,h,j,h1,h2,i,hi=>by
  simp only[wQ,Bool.and_eq_true]at h
  by_cases e:j=pre.length
  ·subst e
   have:=qG pre 0 h.1 i hi
   have e1:(pre++x::l).getD pre.length ([],[])=x:=by simp[List.getD_eq_getElem?_getD]
   have e2:(pre++x::l).getD i ([],[])=pre.getD i ([],[]):=by simp[List.getD_eq_getElem?_getD,List.getElem?_append_left hi]
   rw[e1,e2]
   simpa using this
  ·have h3:=h.2
   have:=ua l (pre++[x]) (by simpa using h3) j (by simp;omega) (by simpa using h2) i hi
   simpa using this
noncomputable def E2(P:Program)(bu:Nat->FD)(md:mb P)(rec:cP)(l:List bE)(pr:List (List Nat))(st:St):Option (fl×St):=
 match pt P bu md rec pr l st.nx st []with
 |some (.fin s1 fp)=>match Ai pr fp with
  |true=>Nat.fc (st.nx+l.length) fun n=>some (.normal,⟨s1.env,s1.o,n⟩)
  |false=>none
 |some (.ba v wl fp)=>match Ai pr fp with
  |true=>some (.ba v,⟨.e (oN (dstsOf l) wl l.length st.S).env, .e (oN (dstsOf l) wl l.length st.S).o,st.nx+l.length⟩)
  |false=>none
 |none=>none
noncomputable def Iq(id:Nat)(env:Tr V)(kt:Kt)(c:CR):Option dk:=
 match c with
 | .ret _ o1 sw=>match o1.get id with
   | .loop nf m e p c d Nj pd=>match Nj with
     | .busy=>none
     |_=>match pd with
      |none=>kt .normal ⟨env,o1.set id (.loop nf m e p c d .exhausted pd),sw⟩
      |some .ret=>kt .ret ⟨env,o1.set id (.loop nf m e p c d .exhausted pd),sw⟩
      |some (.exit j)=>kt (.exit j) ⟨env,o1.set id (.loop nf m e p c d .exhausted pd),sw⟩
   |_=>none
 | .ba v o1 sw=>kt (.ba v) ⟨env,o1,sw⟩
noncomputable def B7(P:Program)(bu:Nat->FD)(rec:cP)(n:Nat)(g:Operand)(ps:List Nat)(x y:IC)(st:St)(kt:Kt):Option dk:=
 match st.S.ev g with
 | .func (.func f) first cap=>z6 P bu rec f (first++[.jT st.nx]++cap) (st.o.set st.nx (.loop P.funcs.size n ((List.range n).map st.env.get) ps x y .ready none)) (st.nx+1) (Iq st.nx st.env kt)
 |_=>none
abbrev kD:=(P:Program)->(Nat->FD)->mb P->cP->Nat->Bool->Nat->St->Kt->Option dk
noncomputable def OL(kt:Kt):RO->Option dk:=fun r=>match r with| .ok st=>kt .normal st| .ba v st=>kt (.ba v) st
noncomputable def OM(l:List bE):kD:=fun P bu md rec _ _ _ st kt=>rU P bu md rec (OL kt) l st
def qH:List Nat->Nat->Nat->Nat
 |[],_,c=>c
 |x::l,k,c=>match Nat.beq x (2^k - 1)with
  |true=>qH l (k+1) c
  |false=>qH l (k+1) (k+1)
def mc(pr:List (List Nat)):Nat:=qH (dx pr []) 0 0
noncomputable def E3(l:List bE)(pr:List (List Nat)):kD:=fun P bu md rec _ _ _ st kt=>
 Nat.fc (mc pr) fun m=>match pt P bu md rec pr (l.take m) st.nx st []with
 |some (.fin s1 fp)=>match Ai pr fp with
  |true=>Nat.fc (st.nx+m) fun n=>match Nat.ble m l.length with
   |true=>rU P bu md rec (OL kt) (l.drop m) ⟨s1.env,s1.o,n⟩
   |false=>none
  |false=>none
 |some (.ba _ _ _)=>match E2 P bu md rec l pr st with
  |some (e,s1)=>kt e s1
  |none=>none
 |none=>none
noncomputable def vH(rec:cP)(b:Nat)(rd:Bool)(n:Nat)(y:IC)(kt:Kt):Kt:=fun e s1=>match e with| .normal=>rec b rd n y s1 kt|e=>kt e s1
noncomputable def ON(x y:IC):kD:=fun _ _ _ rec b rd n st kt=>rec b rd n x st (vH rec b rd n y kt)
noncomputable def wS(a c:Option dk):Option dk:=
 match a with
 |some (.r x)=>match c with
  |some (.r y)=>match R.same x y with
   |true=>some (.r x)
   |false=>none
  |_=>none
 |_=>none
noncomputable def Ir(c:Operand)(x y:IC):kD:=fun _ _ _ rec b rd n st kt=>match st.S.ev c with
 | .d (.bool true)=>rec b rd n x st kt
 | .d (.bool false)=>rec b rd n y st kt
 | .dC=>wS (rec b rd n x st kt) (rec b rd n y st kt)
 |_=>none
noncomputable def vI(id:Nat)(kt:Kt):Kt:=fun e s1=>match e with
 | .exit j=>match Nat.beq j id with
   |true=>kt .normal s1
   |false=>kt (.exit j) s1
 |e=>kt e s1
noncomputable def E4(id:Nat)(x:IC):kD:=fun _ _ _ rec b rd n st kt=>rec b rd n x st (vI id kt)
noncomputable def Is(x:IC):kD:=fun _ _ _ rec b rd n st kt=>match Nat.ble b st.nx with
 |true=>rec b rd n x st (vH rec b rd n (.loop x) kt)
 |false=>none
noncomputable def E5(e:fl):kD:=fun _ _ _ _ _ _ _ st kt=>kt e st
noncomputable def OO:kD:=fun _ _ _ _ _ _ _ _ _=>none
noncomputable def OP(g:Operand)(ps:List Nat)(x y:IC):kD:=fun P bu _ rec _ rd n st kt=>match rd with
 |true=>none
 |false=>B7 P bu rec n g ps x y st kt
noncomputable def Dv(ic:IC):kD:=
 match ic with
 | .skip=>E5 .normal
 | .ab l=>OM l
 | .cc l pr=>E3 l pr
 | .seq x y=>ON x y
 | .cond c x y=>Ir c x y
 | .block id x=>E4 id x
 | .loop x=>Is x
 | .exit id=>E5 (.exit id)
 | .ret=>E5 .ret
 | .xi g ps x y=>OP g ps x y
 | .bad=>OO
noncomputable def run(P:Program)(bu:Nat->FD)(md:mb P)(k:Nat):cP:=
 Nat.rec (motive:=fun _=>cP) (fun _ _ _ _ _ _=>none) (fun _ rec b rd n ic st kt=>Dv ic P bu md rec b rd n st kt) k
theorem Aj{P:Program}{bu:Nat->FD}{md:mb P}{k:Nat}:run P bu md (k+1)=fun b rd n ic st kt=>Dv ic P bu md (run P bu md k) b rd n st kt:=rfl
section
variable {P:Program}{bu:Nat->FD}{md:mb P}
theorem Dw(aR:P.follows .mixedOrders=true)(bR:∀g,(bu g).Ok P g){rec:cP}(a7:dw P rec){fr:Nat}{g:Nat}{args:List V}{st:St}{r:DR}(h:hX P bu rec g args st=some r){K:V->List (Nat×aa)->List Nat->Prop}{KX:V->List Nat->List Nat->Prop}(hr:r.to K KX):
 ft P g args st.S.o st.S.nx fr K KX:=by
 unfold hX at h
 simp only at h
 generalize kn:reach st.o.get 2000 (V.ax args) []=rd at h
 split at h
 ·rename_i hc
  simp only[Bool.and_eq_true,List.all_eq_true]at hc
  obtain⟨Q7,q8⟩:=hc
  have a1:∀id∈rd,id<st.nx:=fun id ag=>Nat.le_of_ble_eq_true (Q7 id ag).1
  have a2:∀id∈V.ax args,id∈rd:=fun id ag=>by simpa using q8 id ag
  have a3:∀id∈rd,∀j∈(st.o.get id).refs,j∈rd:=fun id ag j hj=>by simpa using(Q7 id ag).2 j hj
  have a0:rd.all (fun id=>decide (id<st.S.nx))=true:=List.all_eq_true.2 fun id ag=>decide_eq_true (a1 id ag)
  have key:∀ {r:CR} {a:CR},Im r=some (.c a)->r=a:=fun h=>by unfold Im at h;injection h with h;injection h
  split at h
  ·rename_i v o1 sw hf
   split at h
   ·cases h
   ·rename_i v' pL
    split at h
    ·rename_i rs GQ
     split at h
     ·rename_i E6
      injection h with h;subst h
      simp only[Bool.and_eq_true,List.all_eq_true]at E6
      refine⟨rd,_,a0, .inl ⟨rs,zx.kQ a1 a2 a3 (fun x hx=>(fi rd x hx).1) (fun x hx j hj=>by simpa using E6.1 x hx j hj) (jK aR bR a7 hf fun r rb=> ?_),hr⟩⟩
      rw[key rb]
      refine⟨fun id ag=>nu ag,ph v,rs, ?_,GQ,rfl,fun id ag=>by simpa using E6.2 id ag⟩
      cases v with
      |bM vs=>
       match vs,pL with
       |[],_=>rfl
       |[x],hv=>exact absurd rfl (hv x)
       |_::_::_,_=>rfl
      |_=>rfl
     ·cases h
    ·cases h
  ·rename_i v o1 sw hf
   split at h
   ·rename_i x hx
    split at h
    ·rename_i E6
     injection h with h;subst h
     simp only[Bool.and_eq_true,List.all_eq_true]at E6
     refine⟨rd,dz st.o.get o1.get rd,a0, .inr (.inl ⟨x,zx.kQ a1 a2 a3 (fun x hx=>(fi rd x hx).1) (fun x hx j hj=>by simpa using E6.1 x hx j hj) (jK aR bR a7 hf fun r rb=> ?_),hr⟩)⟩
     rw[key rb]
     exact⟨fun id ag=>nu ag,x,hx,rfl,fun id ag=>by simpa using E6.2 id ag⟩
    ·cases h
   ·cases h
  ·cases h
 ·cases h
theorem E7(aR:P.follows .mixedOrders=true)(bR:∀g,(bu g).Ok P g){rec:cP}(a7:dw P rec){g:Nat}{args:List V}{st:St}{rd:List Nat}{ds:List D}(dB:bA st.o.get args=some ds){r:DR}(h:Nh P bu md rec g args st rd=some r)
 {K:V->List (Nat×aa)->List Nat->Prop} {KX:V->List Nat->List Nat->Prop} (hr:r.to K KX):
 nn P g ds (fun v=>K v (cg st.S.o (V.aQ args)) rd) (fun v=>K v [] rd) (fun v=>KX v [] rd):=by
 unfold Nh at h
 simp only[dB]at h
 split at h
 ·split at h
  ·rename_i v o1 sw Dx
   split at h
   ·rename_i To
    injection h with h;subst h
    exact .inr (.inr ⟨v,He.kQ To (jK aR bR a7 Dx fun r rb=>by unfold Im at rb;injection rb with rb;injection rb with rb;rw[rb];exact rfl),hr⟩)
   ·cases h
  ·cases h
 ·split at h
  ·rename_i rs Af
   have hP:=rV aR bR a7 Af
   split at h
   ·rename_i hf
    injection h with h;subst h
    exact .inl ⟨rs,hP, .inr ⟨hf,hr⟩⟩
   ·injection h with h;subst h
    exact .inl ⟨rs,hP, .inl hr⟩
  ·rename_i x Af
   have hP:=rV aR bR a7 Af
   split at h
   ·rename_i hf
    injection h with h;subst h
    exact .inr (.inl ⟨x,hP,hf,hr⟩)
   ·cases h
  ·cases h
theorem wT{t ty:TypeId}{sz:Nat}{es:List D}{r:CR}(h:B4 P t r=some (.r (.ret [.sl es, .int .i64 (.ofNat ty), .int .i64 (.ofNat sz)]))):
 r.to (fun v o1 _=>(∃j ep,v= .osl j ep/\o1 j= .arr ep ty sz es)\/(v= .aM/\es=[]/\0<sz)) (fun _ _ _=>False):=by
 unfold B4 at h
 split at h
 ·rename_i v o1 n1
  split at h
  ·rename_i j ep
   split at h
   ·rename_i eQ Ot ki es' ho
    split at h
    ·rename_i he
     have he:=Nat.eq_of_beq_eq_true he
     subst he
     rw[vG]at h
     simp only[Option.some.injEq,dk.r.injEq,R.ret.injEq,List.cons.injEq,D.sl.injEq,D.int.injEq,true_and,and_true]at h
     obtain⟨rfl,h2,h3⟩:=h
     have h2:Ot=ty:=Int.ofNat.inj h2
     have h3:ki=sz:=Int.ofNat.inj h3
     subst h2;subst h3
     exact .inl ⟨j,eQ,rfl,ho⟩
    ·cases h
   ·cases h
  ·split at h
   ·rename_i e he
    split at h
    ·rename_i hp
     rw[vG]at h
     simp only[Option.some.injEq,dk.r.injEq,R.ret.injEq,List.cons.injEq,D.sl.injEq,D.int.injEq,true_and,and_true]at h
     obtain⟨rfl,h2,h3⟩:=h
     have h3:P.cellsOf e=sz:=Int.ofNat.inj h3
     subst h3
     exact .inr ⟨rfl,rfl,Nat.blt_eq.mp hp⟩
    ·cases h
   ·cases h
  ·cases h
 ·cases h
theorem B8(aR:P.follows .mixedOrders=true)(bR:∀g,(bu g).Ok P g){rec:cP}(a7:dw P rec){fr:Nat}{g:Nat}{t:TypeId}{args:List V}{st:St}{r:DR}(h:E1 P bu rec g t args st fr=some r){K:V->List (Nat×aa)->List Nat->Prop}{KX:V->List Nat->List Nat->Prop}(hr:r.to K KX):
 ft P g args st.S.o st.S.nx fr K KX:=by
 unfold E1 at h
 split at h
 ·rename_i ds dB
  split at h
  ·rename_i es ty sz Dx
   injection h with h;subst h
   unfold qF at dB
   split at dB
   ·rename_i ag
    exact⟨[],_,by simp, .inr (.inr ⟨_,vk.B3 ag dB (vk.EY (jK aR bR a7 Dx fun r rb=>wT rb)),hr⟩)⟩
   ·cases dB
  ·cases h
 ·split at h
  ·rename_i ds dB
   split at h
   ·rename_i es ty sz Dx
    split at h
    ·rename_i hc
     injection h with h;subst h
     simp only[Bool.and_eq_true]at hc
     refine⟨V.aQ args,_, ?_, .inr (.inr ⟨_,vk.B2 dB hc.1 (jK aR bR a7 Dx fun r rb=>wT rb),hr⟩)⟩
     exact List.all_eq_true.2 fun id ag=>decide_eq_true (Nat.blt_eq.mp (List.all_eq_true.1 hc.2 id ag))
    ·cases h
   ·cases h
  ·cases h
theorem rX(aR:P.follows .mixedOrders=true)(bR:∀g,(bu g).Ok P g){rec:cP}(a7:dw P rec){st:St}{fr:Nat}{o:bE}{r:DR}(h:B5 P bu md rec st fr o.op=some r){K:V->List (Nat×aa)->List Nat->Prop}{KX:V->List Nat->List Nat->Prop}(hr:r.to K KX):
 sx P st.S fr o K KX:=by
 have hs:Ni P st fr o.op=some r->(match eF P st.S fr o.op with|some (v,Δ,_)=>K v Δ (fL st.S o.op)|none=>False):=by
  intro h
  unfold Ni at h
  split at h
  ·rename_i v Δ rd he
   injection h with h;subst h
   simp only[wK he]
   exact hr
  ·cases h
 unfold B5 at h
 unfold sx
 split at h
 ·rename_i c hc
  simp only[hc]
  split at h
  ·rename_i f hf
   simp only[hf]
   split at h
   ·rename_i g first cap hv
    simp only[hv]
    split at h
    ·have hh:=Dw aR bR a7 h hr (fr:=fr)
     split
     ·exact .inr hh
     ·exact hh
    split at h
    ·rename_i r' DK
     injection h with h;subst h
     cases dB:bA st.S.o (first++List.map st.S.ev c.args.toList++cap)with
     |some ds=>exact .inl (E7 aR bR a7 dB DK hr)
     |none=>
      have EW:bA st.o.get (first++List.map st.S.ev c.args.toList++cap)=none:=dB
      unfold Nh at DK
      simp only[EW]at DK
      exact Dw aR bR a7 DK hr
    ·have hh:=B8 aR bR a7 (st:=st) h hr
     split
     ·exact .inr hh
     ·exact hh
   ·cases h
  ·rename_i da
   rw[<- hc]at h
   have:=hs h
   rw[hc]at this
   split
   ·rename_i f hf;exact absurd hf (da f)
   ·exact this
 ·rename_i hc
  have:=hs h
  split
  ·rename_i c hh;exact absurd hh (hc c)
  ·exact this
def Nk(s:S)(gd:Option (Nat×Bool))(A B:Prop):Prop:=
 match gd with
 |none=>A
 |some (d,want)=>match s.env d with
  | .d (.bool b)=>if b=want then A else B
  | .bM []=>B
  |_=>False
theorem rY{st:St}{gd:Option (Nat×Bool)}{t:Bool}(h:Io st gd=some t){A B:Prop}(hA:t=true->A)(hB:t=false->B):Nk st.S gd A B:=by
 cases gd with
 |none=>simp only[Io,Option.some.injEq]at h;exact hA h.symm
 |some p=>
  obtain⟨d,want⟩:=p
  have he:st.S.env d=st.env.get d:=rfl
  simp only[Io]at h
  simp only[Nk,he]
  split at h
  ·rename_i b hb
   injection h with h
   by_cases e:b=want
   ·rw[if_pos e];exact hA (by rw[<- h,e];simp)
   ·rw[if_neg e];exact hB (by rw[<- h];simpa using e)
  ·rename_i hb
   injection h with h
   exact hB h.symm
  ·cases h
theorem B9{P:Program}{KB:List Nat->Fp->Prop}{pr:List (List Nat)}{o:bE}{l:List bE}{fr:Nat}{s:S}{fp:Fp}{bad ws:List Nat}(hb:(pr.getD fp.length []).any (fun j=>bad.contains j)=false)
 (h:Nk s o.gd (sx P s fr o (fun v Δ rd=>e7 P KB pr l (fr+1) ⟨aN s.env o.dst v,put s.o Δ,s.nx⟩ (fp++[(rd,Δ.map (·.1))]) bad (ws++Δ.map (·.1))) (fun _ _ _=>False)) (e7 P KB pr l (fr+1) ⟨aN s.env o.dst (.bM []),s.o,s.nx⟩ (fp++[([],[])]) bad ws)):
 e7 P KB pr (o::l) fr s fp bad ws:=by
 simp only[e7]
 rw[if_neg (by rw[hb];simp)]
 cases hg:o.gd with
 |none=>rw[hg]at h;exact h
 |some p=>obtain⟨d,want⟩:=p;rw[hg]at h;exact h
theorem Ca{P:Program}{K:S->Fp->Prop}{KP:V->List Nat->Fp->Prop}{pr:List (List Nat)}{o:bE}{l:List bE}{fr:Nat}{s:S}{fp:Fp}
 (h:Nk s o.gd (sx P s fr o (fun v Δ rd=>gQ P K KP pr l (fr+1) ⟨aN s.env o.dst v,put s.o Δ,s.nx⟩ (fp++[(rd,Δ.map (·.1))]))
  (fun v ws rd=>e7 P (KP v) pr l (fr+1) ⟨aN s.env o.dst .aw,s.o,s.nx⟩ (fp++[(rd,[])]) [fp.length] (ws++fp.flatMap (·.2)))) (gQ P K KP pr l (fr+1) ⟨aN s.env o.dst (.bM []),s.o,s.nx⟩ (fp++[([],[])]))):
 gQ P K KP pr (o::l) fr s fp:=by
 simp only[gQ]
 cases hg:o.gd with
 |none=>rw[hg]at h;exact h
 |some p=>obtain⟨d,want⟩:=p;rw[hg]at h;exact h
theorem me(aR:P.follows .mixedOrders=true)(bR:∀g,(bu g).Ok P g){rec:cP}(a7:dw P rec){pr:List (List Nat)}{wl:List Nat}{OQ:Fp}{KB:List Nat->Fp->Prop}(hK:KB wl OQ):
 ∀ (l:List bE) (fr:Nat) (st:St) (fp:Fp) (bad ws:List Nat),pq P bu md rec pr l fr st fp bad ws=some (wl,OQ)->e7 P KB pr l fr st.S fp bad ws
 |[],fr,st,fp,bad,ws,h=>by
  simp only[pq,Option.some.injEq,Prod.mk.injEq]at h
  obtain⟨rfl,rfl⟩:=h;exact hK
 |o::l,fr,st,fp,bad,ws,h=>by
  simp only[pq,fO,jJ]at h
  split at h
  ·rename_i hb
   simp only[e7]
   rw[if_pos hb]
   have:=me aR bR a7 hK l _ _ _ _ _ h
   simp only[St.S,dr]at this
   exact this
  ·rename_i hb
   refine B9 hb ?_
   split at h
   ·rename_i hg
    refine rY hg (fun _=> ?_) (fun h=>by cases h)
    split at h
    ·rename_i v Δ rd cO
     refine rX aR bR a7 cO ?_
     have:=me aR bR a7 hK l _ _ _ _ _ h
     simp only[St.S,dr,gr]at this
     exact this
    ·cases h
   ·rename_i hg
    refine rY hg (fun h=>by cases h) (fun _=> ?_)
    have:=me aR bR a7 hK l _ _ _ _ _ h
    simp only[St.S,dr]at this
    exact this
   ·cases h
def DQ.to (K:S->Fp->Prop)(KP:V->List Nat->Fp->Prop):DQ->Prop
 | .fin st fp=>K st.S fp
 | .ba v wl fp=>KP v wl fp
theorem jM(aR:P.follows .mixedOrders=true)(bR:∀g,(bu g).Ok P g){rec:cP}(a7:dw P rec){pr:List (List Nat)}{q:DQ}{K:S->Fp->Prop}{KP:V->List Nat->Fp->Prop}(hq:q.to K KP):
 ∀ (l:List bE) (fr:Nat) (st:St) (fp:Fp),pt P bu md rec pr l fr st fp=some q->gQ P K KP pr l fr st.S fp
 |[],fr,st,fp,h=>by
  simp only[pt,Option.some.injEq]at h
  subst h;exact hq
 |o::l,fr,st,fp,h=>by
  simp only[pt,fO,jJ,Nat.cj]at h
  refine Ca ?_
  split at h
  ·rename_i hg
   refine rY hg (fun _=> ?_) (fun h=>by cases h)
   split at h
   ·rename_i v Δ rd cO
    refine rX aR bR a7 cO ?_
    have:=jM aR bR a7 hq l _ _ _ h
    simp only[St.S,dr,gr]at this
    exact this
   ·rename_i v ws rd cO
    split at h
    ·rename_i wl OQ hb
     injection h with h;subst h
     refine rX aR bR a7 cO ?_
     have:=me aR bR a7 (KB:=KP v) hq l _ _ _ _ _ hb
     simp only[St.S,dr]at this
     exact this
    ·cases h
   ·cases h
  ·rename_i hg
   refine rY hg (fun h=>by cases h) (fun _=> ?_)
   have:=jM aR bR a7 hq l _ _ _ h
   simp only[St.S,dr]at this
   exact this
  ·cases h
theorem rZ{pr:List (List Nat)}{fp:Fp}(h:Ai pr fp=true):iF pr fp=true:=by
 unfold Ai at h
 split at h
 ·rename_i hq
  unfold quiet at hq
  have hz:∀i,(fp.getD i ([],[])).2=[]:=by
   intro i
   rw[List.getD_eq_getElem?_getD]
   cases hx:fp[i]? with
   |none=>rfl
   |some x=>
    have:=List.all_eq_true.1 hq x (List.mem_of_getElem? hx)
    simp only[Option.getD_some]
    split at this
    ·rename_i e;exact e
    ·cases this
  unfold iF
  simp only[hz,ke,List.all_nil,Bool.and_self,Bool.or_true]
  simp
 ·rw[wR]at h
  unfold iF
  rw[List.all_eq_true]
  intro j hj
  rw[List.all_eq_true]
  intro i hi
  exact ua fp [] h j (Nat.zero_le _) (by simpa using hj) i (by simpa using hi)
theorem pv:∀ (l:List Nat) (k c:Nat),c<=k->c<=qH l k c/\∀i x,l[i]? =some x->qH l k c<=k+i->x=2^(k+i) - 1
 |[],_,c,_=>⟨Nat.le_refl _,fun i x h=>by simp at h⟩
 |y::l,k,c,hc=>by
  simp only[qH]
  split
  ·rename_i he
   obtain⟨h1,h2⟩:=pv l (k+1) c (by omega)
   refine⟨h1,fun i x hi hle=> ?_⟩
   cases i with
   |zero=>simp at hi;subst hi;simpa using Nat.eq_of_beq_eq_true he
   |succ i=>
    have:=h2 i x (by simpa using hi) (by omega)
    rw[this,show k+(i+1)=k+1+i by omega]
  ·obtain⟨h1,h2⟩:=pv l (k+1) (k+1) (Nat.le_refl _)
   refine⟨by omega,fun i x hi hle=> ?_⟩
   cases i with
   |zero=>omega
   |succ i=>
    have:=h2 i x (by simpa using hi) (by omega)
    rw[this,show k+(i+1)=k+1+i by omega]
theorem qI:∀ (pr:List (List Nat)) (acc:List Nat),(dx pr acc).length=acc.length+pr.length
 |[],acc=>by simp[dx]
 |ps::l,acc=>by simp only[dx,qI l,List.length_append,List.length_cons,List.length_nil];omega
theorem Ak(pr:List (List Nat)):zF pr (mc pr)=true:=by
 refine List.all_eq_true.2 fun k hk=> ?_
 have hk:k<pr.length:=by simpa using hk
 by_cases h:k<mc pr
 ·simp[Nat.blt_eq.mpr h]
 ·have hl:k<(dx pr []).length:=by rw[qI];simpa using hk
  have:=(pv (dx pr []) 0 0 (Nat.le_refl _)).2 k _ (List.getElem?_eq_getElem hl) (by rw[Nat.zero_add];exact Nat.le_of_not_lt h)
  rw[Nat.zero_add]at this
  rw[List.getD_eq_getElem?_getD,List.getElem?_eq_getElem hl,Option.getD_some,this]
  simp
theorem Cb(aR:P.follows .mixedOrders=true)(bR:∀g,(bu g).Ok P g){rec:cP}(a7:dw P rec){l:List bE}{pr:List (List Nat)}{st st':St}{e:fl}(h:E2 P bu md rec l pr st=some (e,st')){Q:fl->S->Prop}(hQ:Q e st'.S):
 gQ P (vw pr (st.S.nx+l.length) Q) (tE pr l st.S Q) pr l st.S.nx st.S []:=by
 unfold E2 at h
 split at h
 ·rename_i s1 fp hd
  split at h
  ·rename_i hf
   simp only[Nat.cj,Option.some.injEq,Prod.mk.injEq]at h
   obtain⟨rfl,rfl⟩:=h
   exact jM aR bR a7 (q:= .fin s1 fp) (K:=vw pr (st.S.nx+l.length) Q) (KP:=tE pr l st.S Q) (show vw pr (st.S.nx+l.length) Q s1.S fp from⟨rZ hf,hQ⟩) l _ _ _ hd
  ·cases h
 ·rename_i v wl fp hd
  split at h
  ·rename_i hf
   simp only[Option.some.injEq,Prod.mk.injEq]at h
   obtain⟨rfl,rfl⟩:=h
   exact jM aR bR a7 (q:= .ba v wl fp) (K:=vw pr (st.S.nx+l.length) Q) (KP:=tE pr l st.S Q) (show tE pr l st.S Q v wl fp from⟨rZ hf,hQ⟩) l _ _ _ hd
  ·cases h
 ·cases h
theorem Cc(aR:P.follows .mixedOrders=true)(bR:∀g,(bu g).Ok P g){rec:cP}(a7:dw P rec){n:Nat}{g:Operand}{ps:List Nat}{x y:IC}{st:St}{kt:Kt}{a:dk}(h:B7 P bu rec n g ps x y st kt=some a){Q:fl->S->Prop}(hQ:∀e st',kt e st'=some a->Q e st'.S):
 u6 P n (st.S.ev g) ps x y Q st.S:=by
 unfold B7 at h
 refine⟨(List.range n).map st.env.get,fun i=> ?_, ?_⟩
 ·unfold bI
  simp only[List.getD_eq_getElem?_getD,List.getElem?_map]
  by_cases hi:i<n
  ·right;rw[List.getElem?_range hi];rfl
  ·left;rw[List.getElem?_eq_none (by simp;omega)];rfl
 ·split at h
  ·rename_i f first cap hv
   simp only[hv]
   refine .inl ?_
   have key:=fun {K X} hr=>jK (K:=K) (X:=X) aR bR a7 h hr
   simp only[Tr.fH]at key
   refine key fun r hr=> ?_
   unfold Iq at hr
   cases r with
   |ret v o1 sw=>
    simp only at hr
    split at hr
    ·rename_i nf m e p c d Nj pd ho
     have hl:Nj≠ .busy:=by
      intro hb;subst hb;cases hr
     refine⟨nf,m,e,p,c,d,Nj,pd,ho,hl, ?_⟩
     split at hr
     ·cases hr
     ·split at hr<;>(have h3:=hQ _ _ hr;simp only[DS];simp only[St.S,Tr.fH]at h3;exact h3)
    ·cases hr
   |ba v o1 sw=>exact hQ _ _ hr
  ·cases h
theorem dq.same {b:Nat}{s:S}(h:b<=s.nx):dq b s s:=fun _ φ _ _ h1 h2=>⟨φ,h1,h2,fun _ h=>h,h,fun _ _ hr=>⟨hr,rfl⟩,fun _ e' _ he=>⟨e',he,Nat.le_refl _,fun _=>rfl⟩⟩
theorem Al{x y:Option dk}{a:dk}(h:wS x y=some a):x=some a/\y=some a:=by
 unfold wS at h
 split at h
 ·rename_i r
  split at h
  ·rename_i r'
   split at h
   ·rename_i hs
    injection h with h;subst h
    rw[R.c0 hs]
    exact⟨rfl,rfl⟩
   ·cases h
  ·cases h
 ·cases h
theorem E8(aR:P.follows .mixedOrders=true)(bR:∀g,(bu g).Ok P g):∀k,∀j,j<=k->dw P (run P bu md j):=by
 intro k
 induction k with
 |zero=>intro j hj b rd n ic st kt a h;obtain rfl:j=0:=by omega
        cases h
 |succ k ih=>
  intro j hj b rd n ic st kt a h Q hQ
  cases j with
  |zero=>cases h
  |succ j=>
   have a7:dw P (run P bu md j):=ih j (by omega)
   rw[Aj]at h
   cases ic with
   |skip=>exact hQ _ _ h
   |exit id=>exact hQ _ _ h
   |ret=>exact hQ _ _ h
   |bad=>cases h
   |ab l=>
    have h:rU P bu md (run P bu md j) (OL kt) l st=some a:=h
    exact nU aR bR a7 (K:=Q .normal) (X:=fun v s=>Q (.ba v) s) (fun r hr=>by
     cases r with
     |ok EX=>exact hQ .normal _ hr
     |ba v EX=>exact hQ (.ba v) _ hr) l _ h
   |cc l pr=>
    have h:E3 l pr P bu md (run P bu md j) b rd n st kt=some a:=h
    unfold E3 at h
    rw[Nat.cj]at h
    split at h
    ·rename_i s1 fp hd
     split at h
     ·rename_i hf
      rw[Nat.cj]at h
      split at h
      ·rename_i Bl
       refine .inr ⟨mc pr,Nat.le_of_ble_eq_true Bl,Ak pr, ?_⟩
       refine jM aR bR a7 (q:= .fin s1 fp) (K:=fun s' fp=>iF pr fp=true/\kS P (fun v s=>Q (.ba v) s) (Q .normal) (l.drop (mc pr)) ⟨s'.env,s'.o,st.S.nx+mc pr⟩) (KP:=fun _ _ _=>False) (show _/\_ from⟨rZ hf, ?_⟩) (l.take (mc pr)) _ _ _ hd
       exact nU aR bR a7 (K:=Q .normal) (X:=fun v s=>Q (.ba v) s) (fun r hr=>by
        cases r with
        |ok EX=>exact hQ .normal _ hr
        |ba v EX=>exact hQ (.ba v) _ hr) (l.drop (mc pr)) ⟨s1.env,s1.o,st.nx+mc pr⟩ h
      ·cases h
     ·cases h
    ·split at h
     ·rename_i e s1 h1
      exact .inl (Cb aR bR a7 h1 (hQ _ _ h))
     ·cases h
    ·cases h
   |seq x y=>
    have h:run P bu md j b rd n x st (vH (run P bu md j) b rd n y kt)=some a:=h
    simp only[nQ]
    refine a7 _ _ _ _ _ _ _ h _ fun e s1 he=> ?_
    unfold vH at he
    cases e with
    |normal=>exact a7 _ _ _ _ _ _ _ he _ hQ
    |_=>exact hQ _ _ he
   |cond c x y=>
    have h:(match st.S.ev c with| .d (.bool true)=>run P bu md j b rd n x st kt| .d (.bool false)=>run P bu md j b rd n y st kt| .dC=>wS (run P bu md j b rd n x st kt) (run P bu md j b rd n y st kt)|_=>none)=some a:=h
    simp only[nQ]
    split at h
    ·rename_i hv
     simp only[hv]
     exact(oL _ _).mpr (a7 _ _ _ _ _ _ _ h _ hQ)
    ·rename_i hv
     simp only[hv]
     exact(nh _ _).mpr (a7 _ _ _ _ _ _ _ h _ hQ)
    ·rename_i hv
     simp only[hv]
     obtain⟨h1,h2⟩:=Al h
     exact⟨a7 _ _ _ _ _ _ _ h1 _ hQ,a7 _ _ _ _ _ _ _ h2 _ hQ⟩
    ·cases h
   |block id x=>
    have h:run P bu md j b rd n x st (vI id kt)=some a:=h
    simp only[nQ]
    refine a7 _ _ _ _ _ _ _ h _ fun e s1 he=> ?_
    unfold vI at he
    cases e with
    |exit j'=>
     simp only at he
     split at he
     ·rename_i hb
      simp only[dU,Nat.eq_of_beq_eq_true hb,if_true];exact hQ _ _ he
     ·rename_i hb
      simp only[dU,Nat.ne_of_beq_eq_false hb,if_false];exact hQ _ _ he
    |_=>exact hQ _ _ he
   |loop x=>
    have OR:∀m Dy,run P bu md (m+1) b rd n (.loop x) Dy kt=some a->b<=Dy.nx/\run P bu md m b rd n x Dy (vH (run P bu md m) b rd n (.loop x) kt)=some a:=by
     intro m Dy h
     have h:(match Nat.ble b Dy.nx with|true=>run P bu md m b rd n x Dy (vH (run P bu md m) b rd n (.loop x) kt)|false=>none)=some a:=h
     split at h
     ·rename_i hb;exact⟨Nat.le_of_ble_eq_true hb,h⟩
     ·cases h
    have h:run P bu md (j+1) b rd n (.loop x) st kt=some a:=h
    refine⟨fun m s=>m<=k+1/\∃st,s=st.S/\run P bu md m b rd n (.loop x) st kt=some a,⟨j+1,st.S,dq.same (OR j st h).1,hj,st,rfl,h⟩, ?_⟩
    rintro m s0 ⟨hm,Dy,rfl,h0⟩
    cases m with
    |zero=>cases h0
    |succ m=>
     have It:dw P (run P bu md m):=ih m (by omega)
     refine It _ _ _ _ _ _ _ (OR m Dy h0).2 _ fun e s1 he=> ?_
     unfold vH at he
     cases e with
     |normal=>
      refine⟨m,s1.S,Nat.lt_succ_self _,dq.same ?_,by omega,s1,rfl,he⟩
      cases m with
      |zero=>cases he
      |succ m=>exact(OR m s1 he).1
     |_=>exact hQ _ _ he
   |xi g ps x y=>
    cases rd with
    |true=>
     have h:(none:Option dk)=some a:=h
     cases h
    |false=>
     have h:B7 P bu (run P bu md j) n g ps x y st kt=some a:=h
     exact⟨rfl,Cc aR bR a7 h hQ⟩
noncomputable def r8(P:Program)(bu:Nat->FD)(md:mb P)(k:Nat)(g:Nat)(ds:List D):Option R:=
 match z6 P bu (run P bu md k) g (ds.map .d) (.e fun _=> .no) 0 tW with
 |some (.r x)=>some x
 |_=>none
theorem bU.kW (aR:P.follows .mixedOrders=true)(bR:∀g,(bu g).Ok P g){k g:Nat}{ds:List D}{out:R}(h:r8 P bu md k g ds=some out):bU P g ds out:=by
 unfold r8 at h
 split at h
 ·rename_i x hr;injection h with h;subst h;exact tX aR bR (E8 aR bR k k (Nat.le_refl _)) hr
 ·cases h
end
end Go.Proofs.YtpkobkdgcanmjaaGreat
namespace Go.Proofs.YtpkobkdgcanmjaaGreat
def Tr.Am {α:Type}(p:Nat->α->Prop):Tr α->(Nat->Nat)->Prop
 | .e g,f=>∀i,p (f i) (g i)
 | .n x l r,f=>p (f 0) x/\Am p l (fun i=>f (2*i+1))/\Am p r (fun i=>f (2*i+2))
theorem Tr.r9 {α:Type}{p:Nat->α->Prop}:∀ {f:Nat->Nat} (t:Tr α),t.Am p f->∀k,p (f k) (t.get k)
 |f, .e g,h,k=>h k
 |f, .n x l r,h,k=>by
  obtain⟨h1,h2,h3⟩:=h
  rw[Tr.o8]
  split
  ·rename_i e;subst e;exact h1
  ·split
   ·have:=Tr.r9 l h2 (k/2)
    rwa [show 2*(k/2)+1=k by omega]at this
   ·have:=Tr.r9 r h3 (k/2 - 1)
    rwa [show 2*(k/2 - 1)+2=k by omega]at this
end Go.Proofs.YtpkobkdgcanmjaaGreat
namespace Go.Proofs.YtpkobkdgcanmjaaGreat
@[reducible] def mv (d s:Nat):bE:=⟨some d, .move (.tmp s),none⟩
@[reducible] def mS (d:Nat) (n:Int):bE:=⟨some d, .move (.const (.int .i64 n)),none⟩
@[reducible] def sg (d s:Nat):bE:=⟨some d, .assign (.tmp s),none⟩
@[reducible] def cf (d:Nat) (n:Int):bE:=⟨some d, .assign (.const (.int .i64 n)),none⟩
@[reducible] def a9 (d:Nat) (b:Bool):bE:=⟨some d, .assign (.const (.bool b)),none⟩
@[reducible] def ld (d t s:Nat):bE:=⟨some d, .load t (.tmp s),none⟩
@[reducible] def st (t a b:Nat):bE:=⟨none, .store t (.tmp a) (.tmp b),none⟩
@[reducible] def fa (d t s f:Nat):bE:=⟨some d, .fieldAddr t (.tmp s) f,none⟩
@[reducible] def ex (d s i:Nat):bE:=⟨some d, .extract (.tmp s) i,none⟩
@[reducible] def bc (d c a:Nat):bE:=⟨some d, .pick (.tmp c) (.tmp a) (.const (.bool false)),none⟩
@[reducible] def cB (d c a:Nat):bE:=⟨some d, .pick (.tmp c) (.const (.bool true)) (.tmp a),none⟩
@[reducible] def ia (d t x i:Nat):bE:=⟨some d, .indexAddr t (.tmp x) (.tmp i),none⟩
@[reducible] def bx (d t s:Nat):bE:=⟨some d, .box t (.tmp s),none⟩
@[reducible] def al (d t:Nat):bE:=⟨some d, .alloc t,none⟩
@[reducible] def ln (d s t:Nat):bE:=⟨some d, .call {callee:= .builtin .len,args:=#[.tmp s],argTypes:=#[t]},none⟩
@[reducible] def k0 (d f:Nat):bE:=⟨some d, .call {callee:= .value (.func f),args:=#[],argTypes:=#[]},none⟩
@[reducible] def k1 (d f a t:Nat):bE:=⟨some d, .call {callee:= .value (.func f),args:=#[.tmp a],argTypes:=#[t]},none⟩
@[reducible] def k2 (d f a b t u:Nat):bE:=⟨some d, .call {callee:= .value (.func f),args:=#[.tmp a, .tmp b],argTypes:=#[t,u]},none⟩
@[reducible] def k3 (d f a b c t u v:Nat):bE:=⟨some d, .call {callee:= .value (.func f),args:=#[.tmp a, .tmp b, .tmp c],argTypes:=#[t,u,v]},none⟩
@[reducible] def bo (op:BinOp) (d t x y u:Nat):bE:=⟨some d, .binOp op t (.tmp x) (.tmp y) u,none⟩
@[reducible] def bk (op:BinOp) (d t x:Nat) (n:Int) (u:Nat):bE:=⟨some d, .binOp op t (.tmp x) (.const (.int .i64 n)) u,none⟩
@[reducible] def nt (d t s:Nat):bE:=⟨some d, .unOp .not t (.tmp s),none⟩
@[reducible] def nc (d s:Nat):bE:=⟨some d, .nilCheck (.tmp s),none⟩
@[reducible] def gT (o:bE) (g:Nat):bE:=⟨o.dst,o.op,some (g,true)⟩
@[reducible] def gF (o:bE) (g:Nat):bE:=⟨o.dst,o.op,some (g,false)⟩
attribute [go_sem] mv mS sg cf a9 ld st fa ex bc cB ia bx al ln k0 k1 k2 k3 bo bk nt nc gT gF
end Go.Proofs.YtpkobkdgcanmjaaGreat
