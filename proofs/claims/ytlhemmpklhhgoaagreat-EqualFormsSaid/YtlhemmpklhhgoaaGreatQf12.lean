/-
  A PART. Conditions: none.
-/
import Derived.Test.YtlhemmpklhhgoaaGreatQf11
set_option linter.unusedSimpArgs false
set_option linter.unusedVariables false
set_option maxHeartbeats 8000000
namespace Go.Proofs.YtlhemmpklhhgoaaGreat
section
mutual
def V.same:V->V->Bool
 | .d x, .d y=>x.same y
 | .ao, .ao=>true
 | .ai, .ai=>true
 | .agg a, .agg b=>V.gY a b
 | .ptr i o, .ptr j p=>Nat.beq i j&&Nat.beq o p
 | .osl i o, .osl j p=>Nat.beq i j&&Nat.beq o p
 | .pY a, .pY b=>D.gY a b
 | .iface t x, .iface u y=>Nat.beq t u&&x.same y
 | .mp i, .mp j=>Nat.beq i j
 |_,_=>false
def V.gY:List V->List V->Bool
 |[],[]=>true
 |a::cC,b::bs=>a.same b&&V.gY cC bs
 |_,_=>false
end
mutual
theorem V.eK:∀ (x y:V),x.same y=true->x=y
 | .d x,y,h=>by cases y<;>simp only[V.same,Bool.false_eq_true]at h;rw[D.eK _ _ h]
 | .ao,y,h=>by cases y<;>simp_all[V.same]
 | .ai,y,h=>by cases y<;>simp_all[V.same]
 | .agg a,y,h=>by cases y<;>simp only[V.same,Bool.false_eq_true]at h;rw[V.ed _ _ h]
 | .ptr i o,y,h=>by
   exact acA
 | .osl i o,y,h=>by
   exact acA
 | .pY a,y,h=>by cases y<;>simp only[V.same,Bool.false_eq_true]at h;rw[D.ed _ _ h]
 | .iface t x,y,h=>by
   cases y<;>simp only[V.same,Bool.false_eq_true,Bool.and_eq_true]at h
   rw[Nat.eq_of_beq_eq_true h.1,V.eK _ _ h.2]
 | .mp i,y,h=>by
   cases y<;>simp only[V.same,Bool.false_eq_true]at h
   rw[Nat.eq_of_beq_eq_true h]
 | .cf _,y,h| .pe _ _ _ _ _,y,h| .pp _ _,y,h| .func _ _ _,y,h| .zA _ _ _,y,h| .gh,y,h| .lC _,y,h=>by simp[V.same]at h
theorem V.ed:∀ (x y:List V),V.gY x y=true->x=y
 |[],y,h=>by cases y<;>simp_all[V.gY]
 |a::cC,y,h=>by
  cases y<;>simp only[V.gY,Bool.false_eq_true,Bool.and_eq_true]at h
  rw[V.eK _ _ h.1,V.ed _ _ h.2]
end
def xy:List (D×D)->List (D×D)->Bool
 |[],[]=>true
 |(a,b)::l,(c,d)::m=>a.same c&&(b.same d&&xy l m)
 |_,_=>false
theorem xz:∀ (l m:List (D×D)),xy l m=true->l=m
 |[],m,h=>by cases m<;>simp_all[xy]
 |(a,b)::l,m,h=>by
  cases m with
  |nil=>simp[xy]at h
  |cons p m=>
   obtain⟨c,d⟩:=p
   simp only[xy,Bool.and_eq_true]at h
   rw[D.eK _ _ h.1,D.eK _ _ h.2.1,xz l m h.2.2]
noncomputable def aa.same:aa->aa->Bool
 | .no, .no=>true
 | .row a, .row b=>V.gY a b
 | .arr e t s a, .arr f u r b=>Nat.beq e f&&Nat.beq t u&&Nat.beq s r&&D.gY a b
 | .vg e a, .vg f b=>Nat.beq e f&&D.gY a b
 | .map k v a, .map k' v' b=>Nat.beq k k'&&Nat.beq v v'&&xy a b
 | .bZ a, .bZ b=>xy a b
 | .A4 a i, .A4 b j=>a==b&&Nat.beq i j
 |_,_=>false
theorem aa.eK {x y:aa}(h:x.same y=true):x=y:=by
 cases x<;>cases y<;>simp only[aa.same,Bool.false_eq_true,Bool.and_eq_true]at h
 ·rfl
 ·rw[V.ed _ _ h]
 ·rw[Nat.eq_of_beq_eq_true h.1.1.1,Nat.eq_of_beq_eq_true h.1.1.2,Nat.eq_of_beq_eq_true h.1.2,D.ed _ _ h.2]
 ·rw[Nat.eq_of_beq_eq_true h.1,D.ed _ _ h.2]
 ·rw[Nat.eq_of_beq_eq_true h.1.1,Nat.eq_of_beq_eq_true h.1.2,xz _ _ h.2]
 ·rw[xz _ _ h]
 ·rw[eq_of_beq h.1,Nat.eq_of_beq_eq_true h.2]
noncomputable def reach(o:Nat->aa):Nat->List Nat->List Nat->List Nat
 |0,_,seen=>seen
 |_+1,[],seen=>seen
 |n+1,id::todo,seen=>match seen.contains id with
  |true=>reach o n todo seen
  |false=>reach o n ((o id).refs++todo) (id::seen)
noncomputable def fk(o o1:Nat->aa):List Nat->List (Nat×aa)
 |[]=>[]
 |id::l=>match(o id).same (o1 id)with
  |true=>fk o o1 l
  |false=>(id,o1 id)::fk o o1 l
theorem jF{o o1:Nat->aa}:∀ (l:List Nat) (x:Nat×aa),x∈fk o o1 l->x.1∈l/\x.2=o1 x.1
 |[],x,h=>by simp[fk]at h
 |id::l,x,h=>by
  simp only[fk]at h
  split at h
  ·obtain⟨h1,h2⟩:=jF l x h;exact⟨List.mem_cons_of_mem _ h1,h2⟩
  ·rcases List.mem_cons.1 h with rfl|h
   ·exact⟨aF,rfl⟩
   ·obtain⟨h1,h2⟩:=jF l x h;exact⟨List.mem_cons_of_mem _ h1,h2⟩
theorem oK{o o1:Nat->aa}:∀ (l:List Nat) (id:Nat),id∈l->id∉(fk o o1 l).map (·.1)->o1 id=o id
 |[],id,h,_=>by simp at h
 |j::l,id,h,hn=>by
  simp only[fk]at hn
  split at hn
  ·rename_i hs
   rcases List.mem_cons.1 h with rfl|h
   ·exact(aa.eK hs).symm
   ·exact oK l id h hn
  ·simp only[List.map_cons,List.mem_cons,not_or]at hn
   rcases List.mem_cons.1 h with rfl|h
   ·exact absurd rfl hn.1
   ·exact oK l id h hn.2
theorem Eh{o1:Nat->aa}:∀ (Δ:List (Nat×aa)) (o:Nat->aa),(∀x∈Δ,x.2=o1 x.1)->∀id,id∈Δ.map (·.1)\/o id=o1 id->put o Δ id=o1 id
 |[],o,_,id,h=>by rcases h with h|h;· simp at h
                  ·exact h
 |x::Δ,o,hv,id,h=>by
  simp only[put,List.foldl_cons]
  refine Eh Δ (aw o x.1 x.2) (fun y hy=>hv y (List.mem_cons_of_mem _ hy)) id ?_
  simp only[List.map_cons,List.mem_cons]at h
  simp only[aQ]
  by_cases e:id=x.1
  ·right;rw[if_pos e,hv x (by simp),e]
  ·rcases h with(h|h)|h
   ·exact absurd h e
   ·exact .inl h
   ·right;rw[if_neg e];exact h
theorem uU{o o1:Nat->aa}{l:List Nat}{id:Nat}(h:id∈l):o1 id=put o (fk o o1 l) id:=by
 by_cases hm:id∈(fk o o1 l).map (·.1)
 ·exact(Eh _ o (fun x hx=>(jF l x hx).2) id (.inl hm)).symm
 ·rw[ig hm];exact oK l id h hm
inductive DR where
 |val (v:V) (Δ:List (Nat×aa)) (rd:List Nat)|bU (v:V) (ws rd:List Nat)
def DR.to (K:V->List (Nat×aa)->List Nat->Prop)(KX:V->List Nat->List Nat->Prop):DR->Prop
 | .val v Δ rd=>K v Δ rd
 | .bU v ws rd=>KX v ws rd
noncomputable def crA(c:CR):Option eT:=some (.c c)
noncomputable def hX(P:Program)(tab:Nat->FD)(rec:ec)(g:Nat)(args:List V)(st:St):Option DR:=
 let rd:=reach st.o.get 2000 (V.aN args) []
 match rd.all (fun id=>Nat.blt id st.nx&&(st.o.get id).refs.all rd.contains)&&(V.aN args).all rd.contains with
 |true=>match NT P tab rec g args (.e (Gj rd st.o.get)) st.nx crA with
  |some (.c (.ret v o1 _))=>match v with
   | .cf [_]=>none
   |v=>match cA o1.get (xr v)with
    |some rs=>match(fk st.o.get o1.get rd).all (fun x=>x.2.refs.all rd.contains)&&(V.bw (xr v)).all (fun id=> !rd.contains id)with
     |true=>some (.val (jM rs) (fk st.o.get o1.get rd) rd)
     |false=>none
    |none=>none
  |some (.c (.bU v o1 _))=>match ef o1.get v with
   |some x=>match(fk st.o.get o1.get rd).all (fun x=>x.2.refs.all rd.contains)&&v.ids.all (fun id=> !rd.contains id)with
    |true=>some (.bU (.d x) ((fk st.o.get o1.get rd).map (·.1)) rd)
    |false=>none
   |none=>none
  |_=>none
 |false=>none
noncomputable def cDX(P:Program)(tab:Nat->FD)(md:sa P)(rec:ec)(g:Nat)(args:List V)(st:St)(rd:List Nat):Option DR:=
 match cA st.o.get args with
 |some ds=>match md.dat g with
  |false=>match NT P tab rec g (ds.map .d) (.e fun _=> .no) 0 crA with
   |some (.c (.ret v _ _))=>match v.refs with
    |[]=>some (.val v (bK st.o.get (V.bw args)) rd)
    |_=>none
   |_=>none
  |true=>match RH P tab md rec g ds with
   |some (.ret rs)=>match D.kN rs with
    |true=>some (.val (jM rs) [] rd)
    |false=>some (.val (jM rs) (bK st.o.get (V.bw args)) rd)
   |some (.bU x)=>match x.flat with
    |true=>some (.bU (.d x) [] rd)
    |false=>none
   |none=>none
 |none=>hX P tab rec g args st
noncomputable def sDX(P:Program)(st:St)(fr:Nat)(op:Op):Option DR:=
 match RG op P st.S fr with
 |some (v,Δ,_)=>some (.val v Δ (pV st.S op))
 |none=>none
def V.agT:V->Bool
 | .mp _=>true
 |_=>false
def YG{P:Program}(md:sa P)(g:Nat)(args:List V):Bool:= !md.dat g&&args.any V.agT
def Ao(args:List V):Option (List D):=
 match V.bw args with
 |[]=>cA (fun _=> .no) args
 |_=>none
noncomputable def RK(P:Program)(t:TypeId)(c:CR):Option eT:=
 match c with
 | .ret v o1 _=>match v with
   | .osl j ep=>match o1.get j with
     | .arr gM ty sz es=>match Nat.beq gM ep with
       |true=>rfc (.ret [.sl es, .int .i64 (ty:Nat), .int .i64 (sz:Nat)]) fun x=>some (.r x)
       |false=>none
     |_=>none
   | .ao=>match b7 P t with
     |some e=>match Nat.blt 0 (P.cellsOf e)with
      |true=>rfc (.ret [.sl [], .int .i64 (e:Nat), .int .i64 (P.cellsOf e:Nat)]) fun x=>some (.r x)
      |false=>none
     |none=>none
   |_=>none
 |_=>none
noncomputable def YH(P:Program)(tab:Nat->FD)(rec:ec)(g:Nat)(t:TypeId)(args:List V)(st:St)(fr:Nat):Option DR:=
 match Ao args with
 |some ds=>match NT P tab rec g (ds.map .d) (.e fun _=> .no) 0 (RK P t)with
  |some (.r (.ret [.sl es, .int .i64 (.ofNat ty), .int .i64 (.ofNat sz)]))=>some (.val (.osl fr 0) [(fr, .arr 0 ty sz es)] [])
  |_=>none
 |none=>match cA st.o.get args with
  |some ds=>match NT P tab rec g (ds.map .d) (.e fun _=> .no) 0 (RK P t)with
   |some (.r (.ret [.sl es, .int .i64 (.ofNat ty), .int .i64 (.ofNat sz)]))=>match D.kN es&&(V.bw args).all (fun id=>Nat.blt id st.nx)with
    |true=>some (.val (.osl fr 0) [(fr, .arr 0 ty sz es)] (V.bw args))
    |false=>none
   |_=>none
  |none=>none
noncomputable def RL(P:Program)(tab:Nat->FD)(md:sa P)(rec:ec)(st:St)(fr:Nat)(op:Op):Option DR:=
 match op with
 | .call c=>match c.callee with
   | .value f=>match st.S.ev f with
     | .func (.func g) first cap=>match YG md g (first++c.args.toList.map st.S.ev++cap)with
       |true=>hX P tab rec g (first++c.args.toList.map st.S.ev++cap) st
       |false=>match cDX P tab md rec g (first++c.args.toList.map st.S.ev++cap) st (pV st.S (.call c))with
        |some r=>some r
        |none=>YH P tab rec g (c.argTypes.getD 0 0) (first++c.args.toList.map st.S.ev++cap) st fr
     |_=>none
   |_=>sDX P st fr (.call c)
 |op=>sDX P st fr op
noncomputable def gdX(st:St):Option (Nat×Bool)->Option Bool
 |none=>some true
 |some (d,want)=>match st.env.get d with
  | .d (.bool b)=>some (b==want)
  | .cf []=>some false
  |_=>none
noncomputable def xA(P:Program)(tab:Nat->FD)(md:sa P)(rec:ec)(pr:List (List Nat)):List cg->Nat->St->Fp->List Nat->List Nat->Option (List Nat×Fp)
 |[],_,_,fp,_,ws=>some (ws,fp)
 |o::l,fr,st,fp,bad,ws=>match(pr.getD fp.length []).any (fun j=>bad.contains j)with
  |true=>xA P tab md rec pr l (fr+1) ⟨uT st.env o.dst .ai,st.o,st.nx⟩ (fp++[([],[])]) (bad++[fp.length]) ws
  |false=>match gdX st o.gd with
   |some true=>match RL P tab md rec st fr o.op with
    |some (.val v Δ rd)=>ny st.env o.dst v fun e=>xq st.o Δ fun ob=>xA P tab md rec pr l (fr+1) ⟨e,ob,st.nx⟩ (fp++[(rd,Δ.map (·.1))]) bad (ws++Δ.map (·.1))
    |_=>none
   |some false=>xA P tab md rec pr l (fr+1) ⟨uT st.env o.dst (.cf []),st.o,st.nx⟩ (fp++[([],[])]) bad ws
   |none=>none
inductive DQ where
 |fin (st:St) (fp:Fp)|bU (v:V) (wl:List Nat) (fp:Fp)
noncomputable def xB(P:Program)(tab:Nat->FD)(md:sa P)(rec:ec)(pr:List (List Nat)):List cg->Nat->St->Fp->Option DQ
 |[],_,st,fp=>some (.fin st fp)
 |o::l,fr,st,fp=>match gdX st o.gd with
  |some true=>match RL P tab md rec st fr o.op with
   |some (.val v Δ rd)=>ny st.env o.dst v fun e=>xq st.o Δ fun ob=>Nat.fc (fr+1) fun fr=>xB P tab md rec pr l fr ⟨e,ob,st.nx⟩ (fp++[(rd,Δ.map (·.1))])
   |some (.bU v ws rd)=>match xA P tab md rec pr l (fr+1) ⟨uT st.env o.dst .ai,st.o,st.nx⟩ (fp++[(rd,[])]) [fp.length] (ws++fp.flatMap (·.2))with
    |some (wl,fp)=>some (.bU v wl fp)
    |none=>none
   |none=>none
  |some false=>ny st.env o.dst (.cf []) fun e=>Nat.fc (fr+1) fun fr=>xB P tab md rec pr l fr ⟨e,st.o,st.nx⟩ (fp++[([],[])])
  |none=>none
noncomputable def quiet(fp:Fp):Bool:=fp.all fun x=>match x.2 with|[]=>true|_=>false
noncomputable def BN(m:Nat)(x:List Nat×List Nat):Nat->Fp->Bool
 |_,[]=>true
 |i,y::l=>(match y.2,x.2 with
  |[],[]=>true
  |_,_=>m.testBit i||(lY y.2 x.1&&lY y.2 x.2&&lY x.2 y.1))&&BN m x (i+1) l
noncomputable def IV(ms:List Nat)(pre:Fp):Nat->Fp->Bool
 |_,[]=>true
 |j,x::l=>BN (ms.getD j 0) x 0 pre&&IV ms (pre++[x]) (j+1) l
noncomputable def nfc{β:Type}:List Nat->(List Nat->β)->β
 |[],c=>c []
 |x::xs,c=>Nat.fc x fun x=>nfc xs fun xs=>c (x::xs)
theorem N2{β:Type}:∀ (x:List Nat) (c:List Nat->β),nfc x c=c x
 |[],c=>rfl
 |x::xs,c=>by simp only[nfc,Nat.dv,N2 xs]
noncomputable def RM{β:Type}:Fp->(Fp->β)->β
 |[],c=>c []
 |(a,b)::l,c=>nfc a fun a=>nfc b fun b=>RM l fun l=>c ((a,b)::l)
theorem IW{β:Type}:∀ (x:Fp) (c:Fp->β),RM x c=c x
 |[],c=>rfl
 |(a,b)::l,c=>by simp only[RM,N2,IW l]
noncomputable def N3(pr:List (List Nat))(fp:Fp):Bool:=match quiet fp with|true=>true|false=>RM fp fun fp=>IV (ff pr []) [] 0 fp
theorem Ap{m:Nat}{x:List Nat×List Nat}:∀ (l:Fp) (i:Nat),BN m x i l=true->∀k,k<l.length->(m.testBit (i+k)||(lY (l.getD k ([],[])).2 x.1&&lY (l.getD k ([],[])).2 x.2&&lY x.2 (l.getD k ([],[])).1))=true
 |[],i,_,k,hk=>by simp at hk
 |y::l,i,h,k,hk=>by
  simp only[BN,Bool.and_eq_true]at h
  cases k with
  |zero=>
   have h1:=h.1
   simp only[List.getD_cons_zero,Nat.add_zero]
   split at h1
   ·rename_i e1 e2
    rw[e1,e2];simp[lY]
   ·exact h1
  |succ k=>
   have:=Ap l (i+1) h.2 k (by simpa using hk)
   rw[List.getD_cons_succ,show i+(k+1)=i+1+k by omega]
   exact this
theorem Ei{ms:List Nat}:∀ (l pre:Fp),IV ms pre pre.length l=true->∀j,pre.length<=j->j<(pre++l).length->∀i,i<j->
 ((ms.getD j 0).testBit i||(lY ((pre++l).getD i ([],[])).2 ((pre++l).getD j ([],[])).1&&lY ((pre++l).getD i ([],[])).2 ((pre++l).getD j ([],[])).2&&lY ((pre++l).getD j ([],[])).2 ((pre++l).getD i ([],[])).1))=true
 |[],pre,_,j,h1,h2,i,_=>by simp at h2;omega
 |x::l,pre,h,j,h1,h2,i,hi=>by
  simp only[IV,Bool.and_eq_true]at h
  by_cases e:j=pre.length
  ·subst e
   have:=Ap pre 0 h.1 i hi
   have e1:(pre++x::l).getD pre.length ([],[])=x:=by simp[List.getD_eq_getElem?_getD]
   have e2:(pre++x::l).getD i ([],[])=pre.getD i ([],[]):=by simp[List.getD_eq_getElem?_getD,List.getElem?_append_left hi]
   rw[e1,e2]
   simpa using this
  ·have h3:=h.2
   have:=Ei l (pre++[x]) (by simpa using h3) j ir zq i hi
   simpa using this
noncomputable def YI(P:Program)(tab:Nat->FD)(md:sa P)(rec:ec)(l:List cg)(pr:List (List Nat))(st:St):Option (gr×St):=
 match xB P tab md rec pr l st.nx st []with
 |some (.fin s1 fp)=>match N3 pr fp with
  |true=>Nat.fc (st.nx+l.length) fun n=>some (.normal,⟨s1.env,s1.o,n⟩)
  |false=>none
 |some (.bU v wl fp)=>match N3 pr fp with
  |true=>some (.bU v,⟨.e (w7 (dstsOf l) wl l.length st.S).env, .e (w7 (dstsOf l) wl l.length st.S).o,st.nx+l.length⟩)
  |false=>none
 |none=>none
noncomputable def adZ(id:Nat)(env:Tr V)(kt:Kt)(c:CR):Option eT:=
 match c with
 | .ret _ o1 Gl=>match o1.get id with
   | .loop nf m e p c d Vr pd=>match Vr with
     | .busy=>none
     |_=>match pd with
      |none=>kt .normal ⟨env,o1.set id (.loop nf m e p c d .exhausted pd),Gl⟩
      |some .ret=>kt .ret ⟨env,o1.set id (.loop nf m e p c d .exhausted pd),Gl⟩
      |some (.exit j)=>kt (.exit j) ⟨env,o1.set id (.loop nf m e p c d .exhausted pd),Gl⟩
   |_=>none
 | .bU v o1 Gl=>kt (.bU v) ⟨env,o1,Gl⟩
noncomputable def RN(P:Program)(tab:Nat->FD)(rec:ec)(n:Nat)(g:Operand)(ps:List Nat)(x y:IC)(st:St)(kt:Kt):Option eT:=
 match st.S.ev g with
 | .func (.func f) first cap=>NT P tab rec f (first++[.lC st.nx]++cap) (st.o.set st.nx (.loop P.funcs.size n ((List.range n).map st.env.get) ps x y .ready none)) (st.nx+1) (adZ st.nx st.env kt)
 |_=>none
abbrev qi:=(P:Program)->(Nat->FD)->sa P->ec->Nat->Bool->Nat->St->Kt->Option eT
noncomputable def roX(kt:Kt):RO->Option eT:=fun r=>match r with| .ok st=>kt .normal st| .bU v st=>kt (.bU v) st
noncomputable def agU(l:List cg):qi:=fun P tab md rec _ _ _ st kt=>BK P tab md rec (roX kt) l st
def Aq:List Nat->Nat->Nat->Nat
 |[],_,c=>c
 |x::l,k,c=>match Nat.beq x (2^k - 1)with
  |true=>Aq l (k+1) c
  |false=>Aq l (k+1) (k+1)
def sb(pr:List (List Nat)):Nat:=Aq (ff pr []) 0 0
noncomputable def YJ(l:List cg)(pr:List (List Nat)):qi:=fun P tab md rec _ _ _ st kt=>
 Nat.fc (sb pr) fun m=>match xB P tab md rec pr (l.take m) st.nx st []with
 |some (.fin s1 fp)=>match N3 pr fp with
  |true=>Nat.fc (st.nx+m) fun n=>match Nat.ble m l.length with
   |true=>BK P tab md rec (roX kt) (l.drop m) ⟨s1.env,s1.o,n⟩
   |false=>none
  |false=>none
 |some (.bU _ _ _)=>match YI P tab md rec l pr st with
  |some (e,s1)=>kt e s1
  |none=>none
 |none=>none
noncomputable def GG(rec:ec)(b:Nat)(rd:Bool)(n:Nat)(y:IC)(kt:Kt):Kt:=fun e s1=>match e with| .normal=>rec b rd n y s1 kt|e=>kt e s1
noncomputable def agV(x y:IC):qi:=fun _ _ _ rec b rd n st kt=>rec b rd n x st (GG rec b rd n y kt)
noncomputable def IX(a c:Option eT):Option eT:=
 match a with
 |some (.r x)=>match c with
  |some (.r y)=>match R.same x y with
   |true=>some (.r x)
   |false=>none
  |_=>none
 |_=>none
noncomputable def ad0(c:Operand)(x y:IC):qi:=fun _ _ _ rec b rd n st kt=>match st.S.ev c with
 | .d (.bool true)=>rec b rd n x st kt
 | .d (.bool false)=>rec b rd n y st kt
 | .gh=>IX (rec b rd n x st kt) (rec b rd n y st kt)
 |_=>none
noncomputable def GH(id:Nat)(kt:Kt):Kt:=fun e s1=>match e with
 | .exit j=>match Nat.beq j id with
   |true=>kt .normal s1
   |false=>kt (.exit j) s1
 |e=>kt e s1
noncomputable def YK(id:Nat)(x:IC):qi:=fun _ _ _ rec b rd n st kt=>rec b rd n x st (GH id kt)
noncomputable def ad1(x:IC):qi:=fun _ _ _ rec b rd n st kt=>match Nat.ble b st.nx with
 |true=>rec b rd n x st (GG rec b rd n (.loop x) kt)
 |false=>none
noncomputable def YL(e:gr):qi:=fun _ _ _ _ _ _ _ st kt=>kt e st
noncomputable def agW:qi:=fun _ _ _ _ _ _ _ _ _=>none
noncomputable def agX(g:Operand)(ps:List Nat)(x y:IC):qi:=fun P tab _ rec _ rd n st kt=>match rd with
 |true=>none
 |false=>RN P tab rec n g ps x y st kt
noncomputable def Vt(ic:IC):qi:=
 match ic with
 | .skip=>YL .normal
 | .ck l=>agU l
 | .iW l pr=>YJ l pr
 | .seq x y=>agV x y
 | .cond c x y=>ad0 c x y
 | .block id x=>YK id x
 | .loop x=>ad1 x
 | .exit id=>YL (.exit id)
 | .ret=>YL .ret
 | .LU g ps x y=>agX g ps x y
 | .bad=>agW
noncomputable def run(P:Program)(tab:Nat->FD)(md:sa P)(k:Nat):ec:=
 Nat.rec (motive:=fun _=>ec) (fun _ _ _ _ _ _=>none) (fun _ rec b rd n ic st kt=>Vt ic P tab md rec b rd n st kt) k
theorem N4{P:Program}{tab:Nat->FD}{md:sa P}{k:Nat}:run P tab md (k+1)=fun b rd n ic st kt=>Vt ic P tab md (run P tab md k) b rd n st kt:=rfl
section
variable {P:Program}{tab:Nat->FD}{md:sa P}
theorem Vu(bz:P.follows .mixedOrders=true)(cU:∀g,(tab g).Ok P g){rec:ec}(bP:e9 P rec){fr:Nat}{g:Nat}{args:List V}{st:St}{r:DR}(h:hX P tab rec g args st=some r){K:V->List (Nat×aa)->List Nat->Prop}{KX:V->List Nat->List Nat->Prop}(hr:r.to K KX):
 jO P g args st.S.o st.S.nx fr K KX:=by
 unfold hX at h
 simp only at h
 generalize nR:reach st.o.get 2000 (V.aN args) []=rd at h
 split at h
 ·rename_i hc
  simp only[Bool.and_eq_true,List.all_eq_true]at hc
  obtain⟨YM,tC⟩:=hc
  have a1:∀id∈rd,id<st.nx:=fun id ay=>Nat.le_of_ble_eq_true (YM id ay).1
  have a2:∀id∈V.aN args,id∈rd:=fun id ay=>by simpa using tC id ay
  have a3:∀id∈rd,∀j∈(st.o.get id).refs,j∈rd:=fun id ay j hj=>by simpa using(YM id ay).2 j hj
  have a0:rd.all (fun id=>decide (id<st.S.nx))=true:=List.all_eq_true.2 fun id ay=>decide_eq_true (a1 id ay)
  have key:∀ {r:CR} {a:CR},crA r=some (.c a)->r=a:=fun h=>by unfold crA at h;injection h with h;injection h
  split at h
  ·rename_i v o1 Gl hf
   split at h
   ·cases h
   ·rename_i v' oe
    split at h
    ·rename_i rs hrs
     split at h
     ·rename_i N5
      injection h with h;subst h
      simp only[Bool.and_eq_true,List.all_eq_true]at N5
      refine⟨rd,_,a0, .inl ⟨rs,CC.l8 a1 a2 a3 (fun x hx=>(jF rd x hx).1) (fun x hx j hj=>by simpa using N5.1 x hx j hj) (oJ bz cU bP hf fun r uJ=> ?_),hr⟩⟩
      rw[key uJ]
      refine⟨fun id ay=>uU ay,xr v,rs, ?_,hrs,rfl,fun id ay=>by simpa using N5.2 id ay⟩
      cases v with
      |cf vs=>
       match vs,oe with
       |[],_=>rfl
       |[x],hv=>exact absurd rfl (hv x)
       |_::_::_,_=>rfl
      |_=>rfl
     ·cases h
    ·cases h
  ·rename_i v o1 Gl hf
   split at h
   ·rename_i x hx
    split at h
    ·rename_i N5
     injection h with h;subst h
     simp only[Bool.and_eq_true,List.all_eq_true]at N5
     refine⟨rd,fk st.o.get o1.get rd,a0, .inr (.inl ⟨x,CC.l8 a1 a2 a3 (fun x hx=>(jF rd x hx).1) (fun x hx j hj=>by simpa using N5.1 x hx j hj) (oJ bz cU bP hf fun r uJ=> ?_),hr⟩)⟩
     rw[key uJ]
     exact⟨fun id ay=>uU ay,x,hx,rfl,fun id ay=>by simpa using N5.2 id ay⟩
    ·cases h
   ·cases h
  ·cases h
 ·cases h
theorem YN(bz:P.follows .mixedOrders=true)(cU:∀g,(tab g).Ok P g){rec:ec}(bP:e9 P rec){g:Nat}{args:List V}{st:St}{rd:List Nat}{ds:List D}(fT:cA st.o.get args=some ds){r:DR}(h:cDX P tab md rec g args st rd=some r)
 {K:V->List (Nat×aa)->List Nat->Prop} {KX:V->List Nat->List Nat->Prop} (hr:r.to K KX):
 uR P g ds (fun v=>K v (bK st.S.o (V.bw args)) rd) (fun v=>K v [] rd) (fun v=>KX v [] rd):=by
 unfold cDX at h
 simp only[fT]at h
 split at h
 ·split at h
  ·rename_i v o1 Gl hr0
   split at h
   ·rename_i hrf
    injection h with h;subst h
    exact .inr (.inr ⟨v,Qk.l8 hrf (oJ bz cU bP hr0 fun r uJ=>by unfold crA at uJ;injection uJ with uJ;injection uJ with uJ;rw[uJ];exact rfl),hr⟩)
   ·cases h
  ·cases h
 ·split at h
  ·rename_i rs D2
   have hP:=BM bz cU bP D2
   split at h
   ·rename_i hf
    injection h with h;subst h
    exact .inl ⟨rs,hP, .inr ⟨hf,hr⟩⟩
   ·injection h with h;subst h
    exact .inl ⟨rs,hP, .inl hr⟩
  ·rename_i x D2
   have hP:=BM bz cU bP D2
   split at h
   ·rename_i hf
    injection h with h;subst h
    exact .inr (.inl ⟨x,hP,hf,hr⟩)
   ·cases h
  ·cases h
theorem IY{t ty:TypeId}{sz:Nat}{es:List D}{r:CR}(h:RK P t r=some (.r (.ret [.sl es, .int .i64 (.ofNat ty), .int .i64 (.ofNat sz)]))):
 r.to (fun v o1 _=>(∃j ep,v= .osl j ep/\o1 j= .arr ep ty sz es)\/(v= .ao/\es=[]/\0<sz)) (fun _ _ _=>False):=by
 unfold RK at h
 split at h
 ·rename_i v o1 n1
  split at h
  ·rename_i j ep
   split at h
   ·rename_i gM ty' s9 es' ho
    split at h
    ·rename_i he
     have he:=Nat.eq_of_beq_eq_true he
     subst he
     rw[GF]at h
     simp only[Option.some.injEq,eT.r.injEq,R.ret.injEq,List.cons.injEq,D.sl.injEq,D.int.injEq,true_and,and_true]at h
     obtain⟨rfl,h2,h3⟩:=h
     have h2:ty'=ty:=Int.ofNat.inj h2
     have h3:s9=sz:=Int.ofNat.inj h3
     subst h2;subst h3
     exact .inl ⟨j,gM,rfl,ho⟩
    ·cases h
   ·cases h
  ·split at h
   ·rename_i e he
    split at h
    ·rename_i hp
     rw[GF]at h
     simp only[Option.some.injEq,eT.r.injEq,R.ret.injEq,List.cons.injEq,D.sl.injEq,D.int.injEq,true_and,and_true]at h
     obtain⟨rfl,h2,h3⟩:=h
     have h3:P.cellsOf e=sz:=Int.ofNat.inj h3
     subst h3
     exact .inr ⟨rfl,rfl,Nat.blt_eq.mp hp⟩
    ·cases h
   ·cases h
  ·cases h
 ·cases h
theorem RP(bz:P.follows .mixedOrders=true)(cU:∀g,(tab g).Ok P g){rec:ec}(bP:e9 P rec){fr:Nat}{g:Nat}{t:TypeId}{args:List V}{st:St}{r:DR}(h:YH P tab rec g t args st fr=some r){K:V->List (Nat×aa)->List Nat->Prop}{KX:V->List Nat->List Nat->Prop}(hr:r.to K KX):
 jO P g args st.S.o st.S.nx fr K KX:=by
 unfold YH at h
 split at h
 ·rename_i ds fT
  split at h
  ·rename_i es ty sz hr0
   injection h with h;subst h
   unfold Ao at fT
   split at fT
   ·rename_i ay
    exact⟨[],_,aF, .inr (.inr ⟨_,CD.RE ay fT (CD.NN (oJ bz cU bP hr0 fun r uJ=>IY uJ)),hr⟩)⟩
   ·cases fT
  ·cases h
 ·split at h
  ·rename_i ds fT
   split at h
   ·rename_i es ty sz hr0
    split at h
    ·rename_i hc
     injection h with h;subst h
     simp only[Bool.and_eq_true]at hc
     refine⟨V.bw args,_, ?_, .inr (.inr ⟨_,CD.RD fT hc.1 (oJ bz cU bP hr0 fun r uJ=>IY uJ),hr⟩)⟩
     exact List.all_eq_true.2 fun id ay=>decide_eq_true (Nat.blt_eq.mp (List.all_eq_true.1 hc.2 id ay))
    ·cases h
   ·cases h
  ·cases h
theorem BO(bz:P.follows .mixedOrders=true)(cU:∀g,(tab g).Ok P g){rec:ec}(bP:e9 P rec){st:St}{fr:Nat}{o:cg}{r:DR}(h:RL P tab md rec st fr o.op=some r){K:V->List (Nat×aa)->List Nat->Prop}{KX:V->List Nat->List Nat->Prop}(hr:r.to K KX):
 CE P st.S fr o K KX:=by
 have hs:sDX P st fr o.op=some r->(match iu P st.S fr o.op with|some (v,Δ,_)=>K v Δ (pV st.S o.op)|none=>False):=by
  intro h
  unfold sDX at h
  split at h
  ·rename_i v Δ rd he
   injection h with h;subst h
   simp only[IK he]
   exact hr
  ·cases h
 unfold RL at h
 unfold CE
 split at h
 ·rename_i c hc
  simp only[hc]
  split at h
  ·rename_i f hf
   simp only[hf]
   split at h
   ·rename_i g first cap hv
    simp only[hv]
    split at h
    ·have hh:=Vu bz cU bP h hr (fr:=fr)
     split
     ·exact .inr hh
     ·exact hh
    split at h
    ·rename_i r' Xt
     injection h with h;subst h
     cases fT:cA st.S.o (first++List.map st.S.ev c.args.toList++cap)with
     |some ds=>exact .inl (YN bz cU bP fT Xt hr)
     |none=>
      have YE:cA st.o.get (first++List.map st.S.ev c.args.toList++cap)=none:=fT
      unfold cDX at Xt
      simp only[YE]at Xt
      exact Vu bz cU bP Xt hr
    ·have hh:=RP bz cU bP (st:=st) h hr
     split
     ·exact .inr hh
     ·exact hh
   ·cases h
  ·rename_i fQ
   rw[<- hc]at h
   have:=hs h
   rw[hc]at this
   split
   ·rename_i f hf;exact absurd hf (fQ f)
   ·exact this
 ·rename_i hc
  have:=hs h
  split
  ·rename_i c hh;exact absurd hh (hc c)
  ·exact this
def gdW(s:S)(gd:Option (Nat×Bool))(A B:Prop):Prop:=
 match gd with
 |none=>A
 |some (d,want)=>match s.env d with
  | .d (.bool b)=>if b=want then A else B
  | .cf []=>B
  |_=>False
theorem BP{st:St}{gd:Option (Nat×Bool)}{t:Bool}(h:gdX st gd=some t){A B:Prop}(hA:t=true->A)(hB:t=false->B):gdW st.S gd A B:=by
 cases gd with
 |none=>simp only[gdX,Option.some.injEq]at h;exact hA h.symm
 |some p=>
  obtain⟨d,want⟩:=p
  have he:st.S.env d=st.env.get d:=rfl
  simp only[gdX]at h
  simp only[gdW,he]
  split at h
  ·rename_i b hb
   injection h with h
   by_cases e:b=want
   ·rw[if_pos e];exact hA (by rw[<- h,e];simp)
   ·rw[if_neg e];exact hB (by rw[<- h];simpa using e)
  ·rename_i hb
   injection h with h
   exact hB h.symm
  ·cases h
theorem RQ{P:Program}{KB:List Nat->Fp->Prop}{pr:List (List Nat)}{o:cg}{l:List cg}{fr:Nat}{s:S}{fp:Fp}{bad ws:List Nat}(hb:(pr.getD fp.length []).any (fun j=>bad.contains j)=false)
 (h:gdW s o.gd (CE P s fr o (fun v Δ rd=>ji P KB pr l (fr+1) ⟨ba s.env o.dst v,put s.o Δ,s.nx⟩ (fp++[(rd,Δ.map (·.1))]) bad (ws++Δ.map (·.1))) (fun _ _ _=>False)) (ji P KB pr l (fr+1) ⟨ba s.env o.dst (.cf []),s.o,s.nx⟩ (fp++[([],[])]) bad ws)):
 ji P KB pr (o::l) fr s fp bad ws:=by
 simp only[ji]
 rw[if_neg (by rw[hb];simp)]
 cases hg:o.gd with
 |none=>rw[hg]at h;exact h
 |some p=>obtain⟨d,want⟩:=p;rw[hg]at h;exact h
theorem RR{P:Program}{K:S->Fp->Prop}{KP:V->List Nat->Fp->Prop}{pr:List (List Nat)}{o:cg}{l:List cg}{fr:Nat}{s:S}{fp:Fp}
 (h:gdW s o.gd (CE P s fr o (fun v Δ rd=>me P K KP pr l (fr+1) ⟨ba s.env o.dst v,put s.o Δ,s.nx⟩ (fp++[(rd,Δ.map (·.1))]))
  (fun v ws rd=>ji P (KP v) pr l (fr+1) ⟨ba s.env o.dst .ai,s.o,s.nx⟩ (fp++[(rd,[])]) [fp.length] (ws++fp.flatMap (·.2)))) (me P K KP pr l (fr+1) ⟨ba s.env o.dst (.cf []),s.o,s.nx⟩ (fp++[([],[])]))):
 me P K KP pr (o::l) fr s fp:=by
 simp only[me]
 cases hg:o.gd with
 |none=>rw[hg]at h;exact h
 |some p=>obtain⟨d,want⟩:=p;rw[hg]at h;exact h
theorem se(bz:P.follows .mixedOrders=true)(cU:∀g,(tab g).Ok P g){rec:ec}(bP:e9 P rec){pr:List (List Nat)}{wl:List Nat}{fp':Fp}{KB:List Nat->Fp->Prop}(hK:KB wl fp'):
 ∀ (l:List cg) (fr:Nat) (st:St) (fp:Fp) (bad ws:List Nat),xA P tab md rec pr l fr st fp bad ws=some (wl,fp')->ji P KB pr l fr st.S fp bad ws
 |[],fr,st,fp,bad,ws,h=>by
  simp only[xA,Option.some.injEq,Prod.mk.injEq]at h
  obtain⟨rfl,rfl⟩:=h;exact hK
 |o::l,fr,st,fp,bad,ws,h=>by
  simp only[xA,kn,oI]at h
  split at h
  ·rename_i hb
   simp only[ji]
   rw[if_pos hb]
   have:=se bz cU bP hK l _ _ _ _ _ h
   exact MI
  ·rename_i hb
   refine RQ hb ?_
   split at h
   ·rename_i hg
    refine BP hg (fun _=> ?_) (fun h=>by cases h)
    split at h
    ·rename_i v Δ rd gX
     refine BO bz cU bP gX ?_
     have:=se bz cU bP hK l _ _ _ _ _ h
     simp only[St.S,j8,kT]at this
     exact this
    ·cases h
   ·rename_i hg
    refine BP hg (fun h=>by cases h) (fun _=> ?_)
    have:=se bz cU bP hK l _ _ _ _ _ h
    exact MI
   ·cases h
def DQ.to (K:S->Fp->Prop)(KP:V->List Nat->Fp->Prop):DQ->Prop
 | .fin st fp=>K st.S fp
 | .bU v wl fp=>KP v wl fp
theorem oL(bz:P.follows .mixedOrders=true)(cU:∀g,(tab g).Ok P g){rec:ec}(bP:e9 P rec){pr:List (List Nat)}{q:DQ}{K:S->Fp->Prop}{KP:V->List Nat->Fp->Prop}(hq:q.to K KP):
 ∀ (l:List cg) (fr:Nat) (st:St) (fp:Fp),xB P tab md rec pr l fr st fp=some q->me P K KP pr l fr st.S fp
 |[],fr,st,fp,h=>by
  simp only[xB,Option.some.injEq]at h
  subst h;exact hq
 |o::l,fr,st,fp,h=>by
  simp only[xB,kn,oI,Nat.dv]at h
  refine RR ?_
  split at h
  ·rename_i hg
   refine BP hg (fun _=> ?_) (fun h=>by cases h)
   split at h
   ·rename_i v Δ rd gX
    refine BO bz cU bP gX ?_
    have:=oL bz cU bP hq l _ _ _ h
    simp only[St.S,j8,kT]at this
    exact this
   ·rename_i v ws rd gX
    split at h
    ·rename_i wl fp' hb
     injection h with h;subst h
     refine BO bz cU bP gX ?_
     have:=se bz cU bP (KB:=KP v) hq l _ _ _ _ _ hb
     exact MI
    ·cases h
   ·cases h
  ·rename_i hg
   refine BP hg (fun h=>by cases h) (fun _=> ?_)
   have:=oL bz cU bP hq l _ _ _ h
   exact MI
  ·cases h
theorem BQ{pr:List (List Nat)}{fp:Fp}(h:N3 pr fp=true):fD pr fp=true:=by
 unfold N3 at h
 split at h
 ·rename_i hq
  unfold quiet at hq
  have hz:∀i,(fp.getD i ([],[])).2=[]:=by
   intro i
   rw[List.getD_eq_getElem?_getD]
   cases hx:fp[i]? with
   |none=>rfl
   |some x=>
    have:=List.all_eq_true.1 hq x (List.mem_of_getElem? hx)
    simp only[Option.getD_some]
    split at this
    ·rename_i e;exact e
    ·cases this
  unfold fD
  simp only[hz,lY,List.all_nil,Bool.and_self,Bool.or_true]
  simp
 ·rw[IW]at h
  unfold fD
  rw[List.all_eq_true]
  intro j hj
  rw[List.all_eq_true]
  intro i hi
  exact Ei fp [] h j (Nat.zero_le _) nU i (by simpa using hi)
theorem xC:∀ (l:List Nat) (k c:Nat),c<=k->c<=Aq l k c/\∀i x,l[i]? =some x->Aq l k c<=k+i->x=2^(k+i) - 1
 |[],_,c,_=>⟨Nat.le_refl _,fun i x h=>by simp at h⟩
 |y::l,k,c,hc=>by
  simp only[Aq]
  split
  ·rename_i he
   obtain⟨h1,h2⟩:=xC l (k+1) c ad
   refine⟨h1,fun i x hi hle=> ?_⟩
   cases i with
   |zero=>simp at hi;subst hi;simpa using Nat.eq_of_beq_eq_true he
   |succ i=>
    have:=h2 i x (by simpa using hi) ad
    rw[this,show k+(i+1)=k+1+i by omega]
  ·obtain⟨h1,h2⟩:=xC l (k+1) (k+1) (Nat.le_refl _)
   refine⟨ad,fun i x hi hle=> ?_⟩
   cases i with
   |zero=>omega
   |succ i=>
    have:=h2 i x (by simpa using hi) ad
    rw[this,show k+(i+1)=k+1+i by omega]
theorem Ar:∀ (pr:List (List Nat)) (acc:List Nat),(ff pr acc).length=acc.length+pr.length
 |[],acc=>by simp[ff]
 |ps::l,acc=>by simp only[ff,Ar l,List.length_append,List.length_cons,List.length_nil];omega
theorem N6(pr:List (List Nat)):Gu pr (sb pr)=true:=by
 refine List.all_eq_true.2 fun k hk=> ?_
 have hk:k<pr.length:=by simpa using hk
 by_cases h:k<sb pr
 ·simp[Nat.blt_eq.mpr h]
 ·have hl:k<(ff pr []).length:=by rw[Ar];simpa using hk
  have:=(xC (ff pr []) 0 0 (Nat.le_refl _)).2 k _ (List.getElem?_eq_getElem hl) (by rw[Nat.zero_add];exact Nat.le_of_not_lt h)
  rw[Nat.zero_add]at this
  rw[List.getD_eq_getElem?_getD,List.getElem?_eq_getElem hl,Option.getD_some,this]
  simp
theorem RS(bz:P.follows .mixedOrders=true)(cU:∀g,(tab g).Ok P g){rec:ec}(bP:e9 P rec){l:List cg}{pr:List (List Nat)}{st st':St}{e:gr}(h:YI P tab md rec l pr st=some (e,st')){Q:gr->S->Prop}(hQ:Q e st'.S):
 me P (Gt pr (st.S.nx+l.length) Q) (DO pr l st.S Q) pr l st.S.nx st.S []:=by
 unfold YI at h
 split at h
 ·rename_i s1 fp hd
  split at h
  ·rename_i hf
   simp only[Nat.dv,Option.some.injEq,Prod.mk.injEq]at h
   obtain⟨rfl,rfl⟩:=h
   exact oL bz cU bP (q:= .fin s1 fp) (K:=Gt pr (st.S.nx+l.length) Q) (KP:=DO pr l st.S Q) (show Gt pr (st.S.nx+l.length) Q s1.S fp from⟨BQ hf,hQ⟩) l _ _ _ hd
  ·cases h
 ·rename_i v wl fp hd
  split at h
  ·rename_i hf
   simp only[Option.some.injEq,Prod.mk.injEq]at h
   obtain⟨rfl,rfl⟩:=h
   exact oL bz cU bP (q:= .bU v wl fp) (K:=Gt pr (st.S.nx+l.length) Q) (KP:=DO pr l st.S Q) (show DO pr l st.S Q v wl fp from⟨BQ hf,hQ⟩) l _ _ _ hd
  ·cases h
 ·cases h
theorem RT(bz:P.follows .mixedOrders=true)(cU:∀g,(tab g).Ok P g){rec:ec}(bP:e9 P rec){n:Nat}{g:Operand}{ps:List Nat}{x y:IC}{st:St}{kt:Kt}{a:eT}(h:RN P tab rec n g ps x y st kt=some a){Q:gr->S->Prop}(hQ:∀e st',kt e st'=some a->Q e st'.S):
 Dx P n (st.S.ev g) ps x y Q st.S:=by
 unfold RN at h
 refine⟨(List.range n).map st.env.get,fun i=> ?_, ?_⟩
 ·unfold aY
  simp only[List.getD_eq_getElem?_getD,List.getElem?_map]
  by_cases hi:i<n
  ·right;rw[List.getElem?_range hi];rfl
  ·left;rw[List.getElem?_eq_none (by simp;omega)];rfl
 ·split at h
  ·rename_i f first cap hv
   simp only[hv]
   refine .inl ?_
   have key:=fun {K X} hr=>oJ (K:=K) (X:=X) bz cU bP h hr
   simp only[Tr.iI]at key
   refine key fun r hr=> ?_
   unfold adZ at hr
   cases r with
   |ret v o1 Gl=>
    simp only at hr
    split at hr
    ·rename_i nf m e p c d Vr pd ho
     have hl:Vr≠ .busy:=by
      intro hb;subst hb;cases hr
     refine⟨nf,m,e,p,c,d,Vr,pd,ho,hl, ?_⟩
     split at hr
     ·cases hr
     ·split at hr<;>(have h3:=hQ _ _ hr;simp only[rS];simp only[St.S,Tr.iI]at h3;exact h3)
    ·cases hr
   |bU v o1 Gl=>exact hQ _ _ hr
  ·cases h
theorem bM.same {b:Nat}{s:S}(h:b<=s.nx):bM b s s:=fun _ φ _ _ h1 h2=>⟨φ,h1,h2,fun _ h=>h,h,fun _ _ hr=>⟨hr,rfl⟩,fun _ e' _ he=>⟨e',he,Nat.le_refl _,fun _=>rfl⟩⟩
theorem N7{x y:Option eT}{a:eT}(h:IX x y=some a):x=some a/\y=some a:=by
 unfold IX at h
 split at h
 ·rename_i r
  split at h
  ·rename_i r'
   split at h
   ·rename_i hs
    injection h with h;subst h
    rw[R.eK hs]
    exact⟨rfl,rfl⟩
   ·cases h
  ·cases h
 ·cases h
theorem YO(bz:P.follows .mixedOrders=true)(cU:∀g,(tab g).Ok P g):∀k,∀j,j<=k->e9 P (run P tab md j):=by
 intro k
 induction k with
 |zero=>intro j hj b rd n ic st kt a h;obtain rfl:j=0:=ad
        cases h
 |succ k ih=>
  intro j hj b rd n ic st kt a h Q hQ
  cases j with
  |zero=>cases h
  |succ j=>
   have bP:e9 P (run P tab md j):=ih j ad
   rw[N4]at h
   cases ic with
   |skip=>exact hQ _ _ h
   |exit id=>exact hQ _ _ h
   |ret=>exact hQ _ _ h
   |bad=>cases h
   |ck l=>
    have h:BK P tab md (run P tab md j) (roX kt) l st=some a:=h
    exact vT bz cU bP (K:=Q .normal) (X:=fun v s=>Q (.bU v) s) (fun r hr=>by
     cases r with
     |ok YF=>exact hQ .normal _ hr
     |bU v YF=>exact hQ (.bU v) _ hr) l _ h
   |iW l pr=>
    have h:YJ l pr P tab md (run P tab md j) b rd n st kt=some a:=h
    unfold YJ at h
    rw[Nat.dv]at h
    split at h
    ·rename_i s1 fp hd
     split at h
     ·rename_i hf
      rw[Nat.dv]at h
      split at h
      ·rename_i Fq
       refine .inr ⟨sb pr,Nat.le_of_ble_eq_true Fq,N6 pr, ?_⟩
       refine oL bz cU bP (q:= .fin s1 fp) (K:=fun s' fp=>fD pr fp=true/\qF P (fun v s=>Q (.bU v) s) (Q .normal) (l.drop (sb pr)) ⟨s'.env,s'.o,st.S.nx+sb pr⟩) (KP:=fun _ _ _=>False) (show _/\_ from⟨BQ hf, ?_⟩) (l.take (sb pr)) _ _ _ hd
       exact vT bz cU bP (K:=Q .normal) (X:=fun v s=>Q (.bU v) s) (fun r hr=>by
        cases r with
        |ok YF=>exact hQ .normal _ hr
        |bU v YF=>exact hQ (.bU v) _ hr) (l.drop (sb pr)) ⟨s1.env,s1.o,st.nx+sb pr⟩ h
      ·cases h
     ·cases h
    ·split at h
     ·rename_i e s1 h1
      exact .inl (RS bz cU bP h1 (hQ _ _ h))
     ·cases h
    ·cases h
   |seq x y=>
    have h:run P tab md j b rd n x st (GG (run P tab md j) b rd n y kt)=some a:=h
    simp only[vN]
    refine bP _ _ _ _ _ _ _ h _ fun e s1 he=> ?_
    unfold GG at he
    cases e with
    |normal=>exact bP _ _ _ _ _ _ _ he _ hQ
    |_=>exact hQ _ _ he
   |cond c x y=>
    have h:(match st.S.ev c with| .d (.bool true)=>run P tab md j b rd n x st kt| .d (.bool false)=>run P tab md j b rd n y st kt| .gh=>IX (run P tab md j b rd n x st kt) (run P tab md j b rd n y st kt)|_=>none)=some a:=h
    simp only[vN]
    split at h
    ·rename_i hv
     simp only[hv]
     exact(wZ _ _).mpr (bP _ _ _ _ _ _ _ h _ hQ)
    ·rename_i hv
     simp only[hv]
     exact(uN _ _).mpr (bP _ _ _ _ _ _ _ h _ hQ)
    ·rename_i hv
     simp only[hv]
     obtain⟨h1,h2⟩:=N7 h
     exact⟨bP _ _ _ _ _ _ _ h1 _ hQ,bP _ _ _ _ _ _ _ h2 _ hQ⟩
    ·cases h
   |block id x=>
    have h:run P tab md j b rd n x st (GH id kt)=some a:=h
    simp only[vN]
    refine bP _ _ _ _ _ _ _ h _ fun e s1 he=> ?_
    unfold GH at he
    cases e with
    |exit j'=>
     simp only at he
     split at he
     ·rename_i hb
      simp only[gu,Nat.eq_of_beq_eq_true hb,if_true];exact hQ _ _ he
     ·rename_i hb
      simp only[gu,Nat.ne_of_beq_eq_false hb,if_false];exact hQ _ _ he
    |_=>exact hQ _ _ he
   |loop x=>
    have unf:∀m Vv,run P tab md (m+1) b rd n (.loop x) Vv kt=some a->b<=Vv.nx/\run P tab md m b rd n x Vv (GG (run P tab md m) b rd n (.loop x) kt)=some a:=by
     intro m Vv h
     have h:(match Nat.ble b Vv.nx with|true=>run P tab md m b rd n x Vv (GG (run P tab md m) b rd n (.loop x) kt)|false=>none)=some a:=h
     split at h
     ·rename_i hb;exact⟨Nat.le_of_ble_eq_true hb,h⟩
     ·cases h
    have h:run P tab md (j+1) b rd n (.loop x) st kt=some a:=h
    refine⟨fun m s=>m<=k+1/\∃st,s=st.S/\run P tab md m b rd n (.loop x) st kt=some a,⟨j+1,st.S,bM.same (unf j st h).1,hj,st,rfl,h⟩, ?_⟩
    rintro m s0 ⟨hm,Vv,rfl,h0⟩
    cases m with
    |zero=>cases h0
    |succ m=>
     have ad2:e9 P (run P tab md m):=ih m ad
     refine ad2 _ _ _ _ _ _ _ (unf m Vv h0).2 _ fun e s1 he=> ?_
     unfold GG at he
     cases e with
     |normal=>
      refine⟨m,s1.S,Nat.lt_succ_self _,bM.same ?_,ad,s1,rfl,he⟩
      cases m with
      |zero=>cases he
      |succ m=>exact(unf m s1 he).1
     |_=>exact hQ _ _ he
   |LU g ps x y=>
    cases rd with
    |true=>
     have h:(none:Option eT)=some a:=h
     cases h
    |false=>
     have h:RN P tab (run P tab md j) n g ps x y st kt=some a:=h
     exact⟨rfl,_, .inl rfl,RT bz cU bP h hQ⟩
noncomputable def pR(P:Program)(tab:Nat->FD)(md:sa P)(k:Nat)(g:Nat)(ds:List D):Option R:=
 match NT P tab (run P tab md k) g (ds.map .d) (.e fun _=> .no) 0 Ed with
 |some (.r x)=>some x
 |_=>none
theorem a7.iJ (bz:P.follows .mixedOrders=true)(cU:∀g,(tab g).Ok P g){k g:Nat}{ds:List D}{out:R}(h:pR P tab md k g ds=some out):a7 P g ds out:=by
 unfold pR at h
 split at h
 ·rename_i x hr;injection h with h;subst h;exact Ee bz cU (YO bz cU k k (Nat.le_refl _)) hr
 ·cases h
end
end
def Tr.IZ {α:Type}(p:Nat->α->Prop):Tr α->(Nat->Nat)->Prop
 | .e g,f=>∀i,p (f i) (g i)
 | .n x l r,f=>p (f 0) x/\IZ p l (fun i=>f (2*i+1))/\IZ p r (fun i=>f (2*i+2))
theorem Tr.BR {α:Type}{p:Nat->α->Prop}:∀ {f:Nat->Nat} (t:Tr α),t.IZ p f->∀k,p (f k) (t.get k)
 |f, .e g,h,k=>h k
 |f, .n x l r,h,k=>by
  obtain⟨h1,h2,h3⟩:=h
  rw[Tr.xn]
  split
  ·rename_i e;subst e;exact h1
  ·split
   ·have:=Tr.BR l h2 (k/2)
    rwa [show 2*(k/2)+1=k by omega]at this
   ·have:=Tr.BR r h3 (k/2 - 1)
    rwa [show 2*(k/2 - 1)+2=k by omega]at this
@[reducible] def mv (d s:Nat):cg:=⟨some d, .move (.tmp s),none⟩
@[reducible] def pt (d:Nat) (n:Int):cg:=⟨some d, .move (.const (.int .i64 n)),none⟩
@[reducible] def sg (d s:Nat):cg:=⟨some d, .assign (.tmp s),none⟩
@[reducible] def dE (d:Nat) (n:Int):cg:=⟨some d, .assign (.const (.int .i64 n)),none⟩
@[reducible] def bL (d:Nat) (b:Bool):cg:=⟨some d, .assign (.const (.bool b)),none⟩
@[reducible] def ld (d t s:Nat):cg:=⟨some d, .load t (.tmp s),none⟩
@[reducible] def st (t a b:Nat):cg:=⟨none, .store t (.tmp a) (.tmp b),none⟩
@[reducible] def fa (d t s f:Nat):cg:=⟨some d, .fieldAddr t (.tmp s) f,none⟩
@[reducible] def ex (d s i:Nat):cg:=⟨some d, .extract (.tmp s) i,none⟩
@[reducible] def eA (d c a:Nat):cg:=⟨some d, .pick (.tmp c) (.tmp a) (.const (.bool false)),none⟩
@[reducible] def fM (d c a:Nat):cg:=⟨some d, .pick (.tmp c) (.const (.bool true)) (.tmp a),none⟩
@[reducible] def ia (d t x i:Nat):cg:=⟨some d, .indexAddr t (.tmp x) (.tmp i),none⟩
@[reducible] def bx (d t s:Nat):cg:=⟨some d, .box t (.tmp s),none⟩
@[reducible] def al (d t:Nat):cg:=⟨some d, .alloc t,none⟩
@[reducible] def ln (d s t:Nat):cg:=⟨some d, .call {callee:= .builtin .len,args:=#[.tmp s],argTypes:=#[t]},none⟩
@[reducible] def k0 (d f:Nat):cg:=⟨some d, .call {callee:= .value (.func f),args:=#[],argTypes:=#[]},none⟩
@[reducible] def k1 (d f a t:Nat):cg:=⟨some d, .call {callee:= .value (.func f),args:=#[.tmp a],argTypes:=#[t]},none⟩
@[reducible] def k2 (d f a b t u:Nat):cg:=⟨some d, .call {callee:= .value (.func f),args:=#[.tmp a, .tmp b],argTypes:=#[t,u]},none⟩
@[reducible] def k3 (d f a b c t u v:Nat):cg:=⟨some d, .call {callee:= .value (.func f),args:=#[.tmp a, .tmp b, .tmp c],argTypes:=#[t,u,v]},none⟩
@[reducible] def k4 (d f a b c e t u v w:Nat):cg:=⟨some d, .call {callee:= .value (.func f),args:=#[.tmp a, .tmp b, .tmp c, .tmp e],argTypes:=#[t,u,v,w]},none⟩
@[reducible] def kg (d f:Nat) (xs:Array Operand) (ts:Array TypeId):cg:=⟨some d, .call {callee:= .value (.func f),args:=xs,argTypes:=ts},none⟩
@[reducible] def ka (d a b t:Nat):cg:=⟨some d, .call {callee:= .builtin .append,args:=#[.tmp a, .tmp b],argTypes:=#[t,t]},none⟩
@[reducible] def qj (d t x:Nat):cg:=⟨some d, .buildSlice t 1 #[(0, .tmp x)],none⟩
@[reducible] def pv (d:Nat):cg:=⟨some d, .assign (.const (.slice none 0 0)),none⟩
@[reducible] def L1 (d t x:Nat) (n:Int):cg:=⟨some d, .indexAddr t (.tmp x) (.const (.int .i64 n)),none⟩
@[reducible] def bo (op:BinOp) (d t x y u:Nat):cg:=⟨some d, .binOp op t (.tmp x) (.tmp y) u,none⟩
@[reducible] def bk (op:BinOp) (d t x:Nat) (n:Int) (u:Nat):cg:=⟨some d, .binOp op t (.tmp x) (.const (.int .i64 n)) u,none⟩
@[reducible] def nt (d t s:Nat):cg:=⟨some d, .unOp .not t (.tmp s),none⟩
@[reducible] def nc (d s:Nat):cg:=⟨some d, .nilCheck (.tmp s),none⟩
@[reducible] def gT (o:cg) (g:Nat):cg:=⟨o.dst,o.op,some (g,true)⟩
@[reducible] def gF (o:cg) (g:Nat):cg:=⟨o.dst,o.op,some (g,false)⟩
attribute [go_sem] mv pt sg dE bL ld st fa ex eA fM ia bx al ln k0 k1 k2 k3 k4 kg ka qj pv L1 bo bk nt nc gT gF
end Go.Proofs.YtlhemmpklhhgoaaGreat
