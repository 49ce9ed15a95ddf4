/-
  A PART OF THE PROOF. Conditions: none.
-/
import Derived.Test.YtlhemmpklhhgoaaGreatQn11
set_option linter.unusedSimpArgs false
set_option linter.unusedVariables false
namespace Go.Proofs.YtlhemmpklhhgoaaGreat
section
mutual
def V.same:V->V->Bool
 | .d x, .d y=>x.same y
 | .aw, .aw=>true
 | .ad, .ad=>true
 | .agg a, .agg b=>V.gD a b
 | .ptr i o, .ptr j p=>Nat.beq i j&&Nat.beq o p
 | .osl i o, .osl j p=>Nat.beq i j&&Nat.beq o p
 | .pF a, .pF b=>D.gD a b
 | .iface t x, .iface u y=>Nat.beq t u&&x.same y
 | .mp i, .mp j=>Nat.beq i j
 |_,_=>false
def V.gD:List V->List V->Bool
 |[],[]=>true
 |a::ct,b::bs=>a.same b&&V.gD ct bs
 |_,_=>false
end
mutual
theorem V.eg:∀ (x y:V),x.same y=true->x=y
 | .d x,y,h=>by cases y<;>simp only[V.same,Bool.false_eq_true]at h;rw[D.eg _ _ h]
 | .aw,y,h=>by cases y<;>simp_all[V.same]
 | .ad,y,h=>by cases y<;>simp_all[V.same]
 | .agg a,y,h=>by cases y<;>simp only[V.same,Bool.false_eq_true]at h;rw[V.dK _ _ h]
 | .ptr i o,y,h=>by
   exact abx
 | .osl i o,y,h=>by
   exact abx
 | .pF a,y,h=>by cases y<;>simp only[V.same,Bool.false_eq_true]at h;rw[D.dK _ _ h]
 | .iface t x,y,h=>by
   cases y<;>simp only[V.same,Bool.false_eq_true,Bool.and_eq_true]at h
   rw[Nat.eq_of_beq_eq_true h.1,V.eg _ _ h.2]
 | .mp i,y,h=>by
   cases y<;>simp only[V.same,Bool.false_eq_true]at h
   rw[Nat.eq_of_beq_eq_true h]
 | .bW _,y,h| .pe _ _ _ _ _,y,h| .pp _ _,y,h| .func _ _ _,y,h| .yA _ _ _,y,h| .fF,y,h| .kM _,y,h=>by simp[V.same]at h
theorem V.dK:∀ (x y:List V),V.gD x y=true->x=y
 |[],y,h=>by cases y<;>simp_all[V.gD]
 |a::ct,y,h=>by
  cases y<;>simp only[V.gD,Bool.false_eq_true,Bool.and_eq_true]at h
  rw[V.eg _ _ h.1,V.dK _ _ h.2]
end
def wD:List (D×D)->List (D×D)->Bool
 |[],[]=>true
 |(a,b)::l,(c,d)::m=>a.same c&&(b.same d&&wD l m)
 |_,_=>false
theorem wE:∀ (l m:List (D×D)),wD l m=true->l=m
 |[],m,h=>by cases m<;>simp_all[wD]
 |(a,b)::l,m,h=>by
  cases m with
  |nil=>simp[wD]at h
  |cons p m=>
   obtain⟨c,d⟩:=p
   simp only[wD,Bool.and_eq_true]at h
   rw[D.eg _ _ h.1,D.eg _ _ h.2.1,wE l m h.2.2]
noncomputable def ab.same:ab->ab->Bool
 | .no, .no=>true
 | .row a, .row b=>V.gD a b
 | .arr e t s a, .arr f u r b=>Nat.beq e f&&Nat.beq t u&&Nat.beq s r&&D.gD a b
 | .uO e a, .uO f b=>Nat.beq e f&&D.gD a b
 | .map k v a, .map k' v' b=>Nat.beq k k'&&Nat.beq v v'&&wD a b
 | .cj a, .cj b=>wD a b
 | .Am a i, .Am b j=>a==b&&Nat.beq i j
 |_,_=>false
theorem ab.eg {x y:ab}(h:x.same y=true):x=y:=by
 cases x<;>cases y<;>simp only[ab.same,Bool.false_eq_true,Bool.and_eq_true]at h
 ·rfl
 ·rw[V.dK _ _ h]
 ·rw[Nat.eq_of_beq_eq_true h.1.1.1,Nat.eq_of_beq_eq_true h.1.1.2,Nat.eq_of_beq_eq_true h.1.2,D.dK _ _ h.2]
 ·rw[Nat.eq_of_beq_eq_true h.1,D.dK _ _ h.2]
 ·rw[Nat.eq_of_beq_eq_true h.1.1,Nat.eq_of_beq_eq_true h.1.2,wE _ _ h.2]
 ·rw[wE _ _ h]
 ·rw[eq_of_beq h.1,Nat.eq_of_beq_eq_true h.2]
noncomputable def reach(o:Nat->ab):Nat->List Nat->List Nat->List Nat
 |0,_,seen=>seen
 |_+1,[],seen=>seen
 |n+1,id::todo,seen=>match seen.contains id with
  |true=>reach o n todo seen
  |false=>reach o n ((o id).refs++todo) (id::seen)
noncomputable def eU(o o1:Nat->ab):List Nat->List (Nat×ab)
 |[]=>[]
 |id::l=>match(o id).same (o1 id)with
  |true=>eU o o1 l
  |false=>(id,o1 id)::eU o o1 l
theorem ji{o o1:Nat->ab}:∀ (l:List Nat) (x:Nat×ab),x∈eU o o1 l->x.1∈l/\x.2=o1 x.1
 |[],x,h=>by simp[eU]at h
 |id::l,x,h=>by
  simp only[eU]at h
  split at h
  ·obtain⟨h1,h2⟩:=ji l x h;exact⟨List.mem_cons_of_mem _ h1,h2⟩
  ·rcases List.mem_cons.1 h with rfl|h
   ·exact⟨aE,rfl⟩
   ·obtain⟨h1,h2⟩:=ji l x h;exact⟨List.mem_cons_of_mem _ h1,h2⟩
theorem nW{o o1:Nat->ab}:∀ (l:List Nat) (id:Nat),id∈l->id∉(eU o o1 l).map (·.1)->o1 id=o id
 |[],id,h,_=>by simp at h
 |j::l,id,h,hn=>by
  simp only[eU]at hn
  split at hn
  ·rename_i hs
   rcases List.mem_cons.1 h with rfl|h
   ·exact(ab.eg hs).symm
   ·exact nW l id h hn
  ·simp only[List.map_cons,List.mem_cons,not_or]at hn
   rcases List.mem_cons.1 h with rfl|h
   ·exact absurd rfl hn.1
   ·exact nW l id h hn.2
theorem Dt{o1:Nat->ab}:∀ (Δ:List (Nat×ab)) (o:Nat->ab),(∀x∈Δ,x.2=o1 x.1)->∀id,id∈Δ.map (·.1)\/o id=o1 id->put o Δ id=o1 id
 |[],o,_,id,h=>by rcases h with h|h;· simp at h
                  ·exact h
 |x::Δ,o,hv,id,h=>by
  simp only[put,List.foldl_cons]
  refine Dt Δ (ay o x.1 x.2) (fun y hy=>hv y (List.mem_cons_of_mem _ hy)) id ?_
  simp only[List.map_cons,List.mem_cons]at h
  simp only[aN]
  by_cases e:id=x.1
  ·right;rw[if_pos e,hv x (by simp),e]
  ·rcases h with(h|h)|h
   ·exact absurd h e
   ·exact .inl h
   ·right;rw[if_neg e];exact h
theorem uc{o o1:Nat->ab}{l:List Nat}{id:Nat}(h:id∈l):o1 id=put o (eU o o1 l) id:=by
 by_cases hm:id∈(eU o o1 l).map (·.1)
 ·exact(Dt _ o (fun x hx=>(ji l x hx).2) id (.inl hm)).symm
 ·rw[gJ hm];exact nW l id h hm
inductive DR where
 |val (v:V) (Δ:List (Nat×ab)) (rd:List Nat)|bN (v:V) (ws rd:List Nat)
def DR.to (K:V->List (Nat×ab)->List Nat->Prop)(KX:V->List Nat->List Nat->Prop):DR->Prop
 | .val v Δ rd=>K v Δ rd
 | .bN v ws rd=>KX v ws rd
noncomputable def crA(c:CR):Option eF:=some (.c c)
noncomputable def hX(P:Program)(bX:Nat->FD)(rec:dJ)(g:Nat)(args:List V)(st:St):Option DR:=
 let rd:=reach st.o.get 2000 (V.aL args) []
 match rd.all (fun id=>Nat.blt id st.nx&&(st.o.get id).refs.all rd.contains)&&(V.aL args).all rd.contains with
 |true=>match MQ P bX rec g args (.e (Ft rd st.o.get)) st.nx crA with
  |some (.c (.ret v o1 _))=>match v with
   | .bW [_]=>none
   |v=>match cn o1.get (wB v)with
    |some rs=>match(eU st.o.get o1.get rd).all (fun x=>x.2.refs.all rd.contains)&&(V.bg (wB v)).all (fun id=> !rd.contains id)with
     |true=>some (.val (jq rs) (eU st.o.get o1.get rd) rd)
     |false=>none
    |none=>none
  |some (.c (.bN v o1 _))=>match dM o1.get v with
   |some x=>match(eU st.o.get o1.get rd).all (fun x=>x.2.refs.all rd.contains)&&v.ids.all (fun id=> !rd.contains id)with
    |true=>some (.bN (.d x) ((eU st.o.get o1.get rd).map (·.1)) rd)
    |false=>none
   |none=>none
  |_=>none
 |false=>none
noncomputable def cDX(P:Program)(bX:Nat->FD)(md:rC P)(rec:dJ)(g:Nat)(args:List V)(st:St)(rd:List Nat):Option DR:=
 match cn st.o.get args with
 |some ds=>match md.dat g with
  |false=>match MQ P bX rec g (ds.map .d) (.e fun _=> .no) 0 crA with
   |some (.c (.ret v _ _))=>match v.refs with
    |[]=>some (.val v (bG st.o.get (V.bg args)) rd)
    |_=>none
   |_=>none
  |true=>match Qw P bX md rec g ds with
   |some (.ret rs)=>match D.j7 rs with
    |true=>some (.val (jq rs) [] rd)
    |false=>some (.val (jq rs) (bG st.o.get (V.bg args)) rd)
   |some (.bN x)=>match x.flat with
    |true=>some (.bN (.d x) [] rd)
    |false=>none
   |none=>none
 |none=>hX P bX rec g args st
noncomputable def sDX(P:Program)(st:St)(fr:Nat)(op:Op):Option DR:=
 match Qv op P st.S fr with
 |some (v,Δ,_)=>some (.val v Δ (pC st.S op))
 |none=>none
def V.agi:V->Bool
 | .mp _=>true
 |_=>false
def Xh{P:Program}(md:rC P)(g:Nat)(args:List V):Bool:= !md.dat g&&args.any V.agi
def zB(args:List V):Option (List D):=
 match V.bg args with
 |[]=>cn (fun _=> .no) args
 |_=>none
noncomputable def Qz(P:Program)(t:TypeId)(c:CR):Option eF:=
 match c with
 | .ret v o1 _=>match v with
   | .osl j ep=>match o1.get j with
     | .arr gr ty sz es=>match Nat.beq gr ep with
       |true=>rfc (.ret [.sl es, .int .i64 (ty:Nat), .int .i64 (sz:Nat)]) fun x=>some (.r x)
       |false=>none
     |_=>none
   | .aw=>match b8 P t with
     |some e=>match Nat.blt 0 (P.cellsOf e)with
      |true=>rfc (.ret [.sl [], .int .i64 (e:Nat), .int .i64 (P.cellsOf e:Nat)]) fun x=>some (.r x)
      |false=>none
     |none=>none
   |_=>none
 |_=>none
noncomputable def Xi(P:Program)(bX:Nat->FD)(rec:dJ)(g:Nat)(t:TypeId)(args:List V)(st:St)(fr:Nat):Option DR:=
 match zB args with
 |some ds=>match MQ P bX rec g (ds.map .d) (.e fun _=> .no) 0 (Qz P t)with
  |some (.r (.ret [.sl es, .int .i64 (.ofNat ty), .int .i64 (.ofNat sz)]))=>some (.val (.osl fr 0) [(fr, .arr 0 ty sz es)] [])
  |_=>none
 |none=>match cn st.o.get args with
  |some ds=>match MQ P bX rec g (ds.map .d) (.e fun _=> .no) 0 (Qz P t)with
   |some (.r (.ret [.sl es, .int .i64 (.ofNat ty), .int .i64 (.ofNat sz)]))=>match D.j7 es&&(V.bg args).all (fun id=>Nat.blt id st.nx)with
    |true=>some (.val (.osl fr 0) [(fr, .arr 0 ty sz es)] (V.bg args))
    |false=>none
   |_=>none
  |none=>none
noncomputable def QA(P:Program)(bX:Nat->FD)(md:rC P)(rec:dJ)(st:St)(fr:Nat)(op:Op):Option DR:=
 match op with
 | .call c=>match c.callee with
   | .value f=>match st.S.ev f with
     | .func (.func g) first cap=>match Xh md g (first++c.args.toList.map st.S.ev++cap)with
       |true=>hX P bX rec g (first++c.args.toList.map st.S.ev++cap) st
       |false=>match cDX P bX md rec g (first++c.args.toList.map st.S.ev++cap) st (pC st.S (.call c))with
        |some r=>some r
        |none=>Xi P bX rec g (c.argTypes.getD 0 0) (first++c.args.toList.map st.S.ev++cap) st fr
     |_=>none
   |_=>sDX P st fr (.call c)
 |op=>sDX P st fr op
noncomputable def gdX(st:St):Option (Nat×Bool)->Option Bool
 |none=>some true
 |some (d,want)=>match st.env.get d with
  | .d (.bool b)=>some (b==want)
  | .bW []=>some false
  |_=>none
noncomputable def wF(P:Program)(bX:Nat->FD)(md:rC P)(rec:dJ)(pr:List (List Nat)):List bZ->Nat->St->Fp->List Nat->List Nat->Option (List Nat×Fp)
 |[],_,_,fp,_,ws=>some (ws,fp)
 |o::l,fr,st,fp,bad,ws=>match(pr.getD fp.length []).any (fun j=>bad.contains j)with
  |true=>wF P bX md rec pr l (fr+1) ⟨tZ st.env o.dst .ad,st.o,st.nx⟩ (fp++[([],[])]) (bad++[fp.length]) ws
  |false=>match gdX st o.gd with
   |some true=>match QA P bX md rec st fr o.op with
    |some (.val v Δ rd)=>mL st.env o.dst v fun e=>wA st.o Δ fun ob=>wF P bX md rec pr l (fr+1) ⟨e,ob,st.nx⟩ (fp++[(rd,Δ.map (·.1))]) bad (ws++Δ.map (·.1))
    |_=>none
   |some false=>wF P bX md rec pr l (fr+1) ⟨tZ st.env o.dst (.bW []),st.o,st.nx⟩ (fp++[([],[])]) bad ws
   |none=>none
inductive DQ where
 |fin (st:St) (fp:Fp)|bN (v:V) (wl:List Nat) (fp:Fp)
noncomputable def wG(P:Program)(bX:Nat->FD)(md:rC P)(rec:dJ)(pr:List (List Nat)):List bZ->Nat->St->Fp->Option DQ
 |[],_,st,fp=>some (.fin st fp)
 |o::l,fr,st,fp=>match gdX st o.gd with
  |some true=>match QA P bX md rec st fr o.op with
   |some (.val v Δ rd)=>mL st.env o.dst v fun e=>wA st.o Δ fun ob=>Nat.fc (fr+1) fun fr=>wG P bX md rec pr l fr ⟨e,ob,st.nx⟩ (fp++[(rd,Δ.map (·.1))])
   |some (.bN v ws rd)=>match wF P bX md rec pr l (fr+1) ⟨tZ st.env o.dst .ad,st.o,st.nx⟩ (fp++[(rd,[])]) [fp.length] (ws++fp.flatMap (·.2))with
    |some (wl,fp)=>some (.bN v wl fp)
    |none=>none
   |none=>none
  |some false=>mL st.env o.dst (.bW []) fun e=>Nat.fc (fr+1) fun fr=>wG P bX md rec pr l fr ⟨e,st.o,st.nx⟩ (fp++[([],[])])
  |none=>none
noncomputable def quiet(fp:Fp):Bool:=fp.all fun x=>match x.2 with|[]=>true|_=>false
noncomputable def Ba(m:Nat)(x:List Nat×List Nat):Nat->Fp->Bool
 |_,[]=>true
 |i,y::l=>(match y.2,x.2 with
  |[],[]=>true
  |_,_=>m.testBit i||(lu y.2 x.1&&lu y.2 x.2&&lu x.2 y.1))&&Ba m x (i+1) l
noncomputable def HL(ms:List Nat)(pre:Fp):Nat->Fp->Bool
 |_,[]=>true
 |j,x::l=>Ba (ms.getD j 0) x 0 pre&&HL ms (pre++[x]) (j+1) l
noncomputable def nfc{β:Type}:List Nat->(List Nat->β)->β
 |[],c=>c []
 |x::xs,c=>Nat.fc x fun x=>nfc xs fun xs=>c (x::xs)
theorem M0{β:Type}:∀ (x:List Nat) (c:List Nat->β),nfc x c=c x
 |[],c=>rfl
 |x::xs,c=>by simp only[nfc,Nat.dh,M0 xs]
noncomputable def QB{β:Type}:Fp->(Fp->β)->β
 |[],c=>c []
 |(a,b)::l,c=>nfc a fun a=>nfc b fun b=>QB l fun l=>c ((a,b)::l)
theorem HM{β:Type}:∀ (x:Fp) (c:Fp->β),QB x c=c x
 |[],c=>rfl
 |(a,b)::l,c=>by simp only[QB,M0,HM l]
noncomputable def M3(pr:List (List Nat))(fp:Fp):Bool:=match quiet fp with|true=>true|false=>QB fp fun fp=>HL (eP pr []) [] 0 fp
theorem zD{m:Nat}{x:List Nat×List Nat}:∀ (l:Fp) (i:Nat),Ba m x i l=true->∀k,k<l.length->(m.testBit (i+k)||(lu (l.getD k ([],[])).2 x.1&&lu (l.getD k ([],[])).2 x.2&&lu x.2 (l.getD k ([],[])).1))=true
 |[],i,_,k,hk=>by simp at hk
 |y::l,i,h,k,hk=>by
  simp only[Ba,Bool.and_eq_true]at h
  cases k with
  |zero=>
   have h1:=h.1
   simp only[List.getD_cons_zero,Nat.add_zero]
   split at h1
   ·rename_i e1 e2
    rw[e1,e2];simp[lu]
   ·exact h1
  |succ k=>
   have:=zD l (i+1) h.2 k (by simpa using hk)
   rw[List.getD_cons_succ,show i+(k+1)=i+1+k by omega]
   exact this
theorem Du{ms:List Nat}:∀ (l pre:Fp),HL ms pre pre.length l=true->∀j,pre.length<=j->j<(pre++l).length->∀i,i<j->
 ((ms.getD j 0).testBit i||(lu ((pre++l).getD i ([],[])).2 ((pre++l).getD j ([],[])).1&&lu ((pre++l).getD i ([],[])).2 ((pre++l).getD j ([],[])).2&&lu ((pre++l).getD j ([],[])).2 ((pre++l).getD i ([],[])).1))=true
 |[],pre,_,j,h1,h2,i,_=>by simp at h2;omega
 |x::l,pre,h,j,h1,h2,i,hi=>by
  simp only[HL,Bool.and_eq_true]at h
  by_cases e:j=pre.length
  ·subst e
   have:=zD pre 0 h.1 i hi
   have e1:(pre++x::l).getD pre.length ([],[])=x:=by simp[List.getD_eq_getElem?_getD]
   have e2:(pre++x::l).getD i ([],[])=pre.getD i ([],[]):=by simp[List.getD_eq_getElem?_getD,List.getElem?_append_left hi]
   rw[e1,e2]
   simpa using this
  ·have h3:=h.2
   have:=Du l (pre++[x]) (by simpa using h3) j gP yr i hi
   simpa using this
noncomputable def Xj(P:Program)(bX:Nat->FD)(md:rC P)(rec:dJ)(l:List bZ)(pr:List (List Nat))(st:St):Option (fS×St):=
 match wG P bX md rec pr l st.nx st []with
 |some (.fin s1 fp)=>match M3 pr fp with
  |true=>Nat.fc (st.nx+l.length) fun n=>some (.normal,⟨s1.env,s1.o,n⟩)
  |false=>none
 |some (.bN v wl fp)=>match M3 pr fp with
  |true=>some (.bN v,⟨.e (vZ (dstsOf l) wl l.length st.S).env, .e (vZ (dstsOf l) wl l.length st.S).o,st.nx+l.length⟩)
  |false=>none
 |none=>none
noncomputable def ac0(id:Nat)(env:Tr V)(kt:Kt)(c:CR):Option eF:=
 match c with
 | .ret _ o1 BR=>match o1.get id with
   | .loop nf m e p c d T7 pd=>match T7 with
     | .busy=>none
     |_=>match pd with
      |none=>kt .normal ⟨env,o1.set id (.loop nf m e p c d .exhausted pd),BR⟩
      |some .ret=>kt .ret ⟨env,o1.set id (.loop nf m e p c d .exhausted pd),BR⟩
      |some (.exit j)=>kt (.exit j) ⟨env,o1.set id (.loop nf m e p c d .exhausted pd),BR⟩
   |_=>none
 | .bN v o1 BR=>kt (.bN v) ⟨env,o1,BR⟩
noncomputable def QC(P:Program)(bX:Nat->FD)(rec:dJ)(n:Nat)(g:Operand)(ps:List Nat)(x y:IC)(st:St)(kt:Kt):Option eF:=
 match st.S.ev g with
 | .func (.func f) first cap=>MQ P bX rec f (first++[.kM st.nx]++cap) (st.o.set st.nx (.loop P.funcs.size n ((List.range n).map st.env.get) ps x y .ready none)) (st.nx+1) (ac0 st.nx st.env kt)
 |_=>none
abbrev pQ:=(P:Program)->(Nat->FD)->rC P->dJ->Nat->Bool->Nat->St->Kt->Option eF
noncomputable def roX(kt:Kt):RO->Option eF:=fun r=>match r with| .ok st=>kt .normal st| .bN v st=>kt (.bN v) st
noncomputable def agj(l:List bZ):pQ:=fun P bX md rec _ _ _ st kt=>A8 P bX md rec (roX kt) l st
def zE:List Nat->Nat->Nat->Nat
 |[],_,c=>c
 |x::l,k,c=>match Nat.beq x (2^k - 1)with
  |true=>zE l (k+1) c
  |false=>zE l (k+1) (k+1)
def rD(pr:List (List Nat)):Nat:=zE (eP pr []) 0 0
noncomputable def Xk(l:List bZ)(pr:List (List Nat)):pQ:=fun P bX md rec _ _ _ st kt=>
 Nat.fc (rD pr) fun m=>match wG P bX md rec pr (l.take m) st.nx st []with
 |some (.fin s1 fp)=>match M3 pr fp with
  |true=>Nat.fc (st.nx+m) fun n=>match Nat.ble m l.length with
   |true=>A8 P bX md rec (roX kt) (l.drop m) ⟨s1.env,s1.o,n⟩
   |false=>none
  |false=>none
 |some (.bN _ _ _)=>match Xj P bX md rec l pr st with
  |some (e,s1)=>kt e s1
  |none=>none
 |none=>none
noncomputable def FN(rec:dJ)(b:Nat)(rd:Bool)(n:Nat)(y:IC)(kt:Kt):Kt:=fun e s1=>match e with| .normal=>rec b rd n y s1 kt|e=>kt e s1
noncomputable def agk(x y:IC):pQ:=fun _ _ _ rec b rd n st kt=>rec b rd n x st (FN rec b rd n y kt)
noncomputable def HN(a c:Option eF):Option eF:=
 match a with
 |some (.r x)=>match c with
  |some (.r y)=>match R.same x y with
   |true=>some (.r x)
   |false=>none
  |_=>none
 |_=>none
noncomputable def ac1(c:Operand)(x y:IC):pQ:=fun _ _ _ rec b rd n st kt=>match st.S.ev c with
 | .d (.bool true)=>rec b rd n x st kt
 | .d (.bool false)=>rec b rd n y st kt
 | .fF=>HN (rec b rd n x st kt) (rec b rd n y st kt)
 |_=>none
noncomputable def FO(id:Nat)(kt:Kt):Kt:=fun e s1=>match e with
 | .exit j=>match Nat.beq j id with
   |true=>kt .normal s1
   |false=>kt (.exit j) s1
 |e=>kt e s1
noncomputable def Xl(id:Nat)(x:IC):pQ:=fun _ _ _ rec b rd n st kt=>rec b rd n x st (FO id kt)
noncomputable def ac2(x:IC):pQ:=fun _ _ _ rec b rd n st kt=>match Nat.ble b st.nx with
 |true=>rec b rd n x st (FN rec b rd n (.loop x) kt)
 |false=>none
noncomputable def Xm(e:fS):pQ:=fun _ _ _ _ _ _ _ st kt=>kt e st
noncomputable def agl:pQ:=fun _ _ _ _ _ _ _ _ _=>none
noncomputable def agm(g:Operand)(ps:List Nat)(x y:IC):pQ:=fun P bX _ rec _ rd n st kt=>match rd with
 |true=>none
 |false=>QC P bX rec n g ps x y st kt
noncomputable def T8(ic:IC):pQ:=
 match ic with
 | .skip=>Xm .normal
 | .ag l=>agj l
 | .dH l pr=>Xk l pr
 | .seq x y=>agk x y
 | .cond c x y=>ac1 c x y
 | .block id x=>Xl id x
 | .loop x=>ac2 x
 | .exit id=>Xm (.exit id)
 | .ret=>Xm .ret
 | .KJ g ps x y=>agm g ps x y
 | .bad=>agl
noncomputable def run(P:Program)(bX:Nat->FD)(md:rC P)(k:Nat):dJ:=
 Nat.rec (motive:=fun _=>dJ) (fun _ _ _ _ _ _=>none) (fun _ rec b rd n ic st kt=>T8 ic P bX md rec b rd n st kt) k
theorem M4{P:Program}{bX:Nat->FD}{md:rC P}{k:Nat}:run P bX md (k+1)=fun b rd n ic st kt=>T8 ic P bX md (run P bX md k) b rd n st kt:=rfl
section
variable {P:Program}{bX:Nat->FD}{md:rC P}
theorem T9(bn:P.follows .mixedOrders=true)(cP:∀g,(bX g).Ok P g){rec:dJ}(bJ:eO P rec){fr:Nat}{g:Nat}{args:List V}{st:St}{r:DR}(h:hX P bX rec g args st=some r){K:V->List (Nat×ab)->List Nat->Prop}{KX:V->List Nat->List Nat->Prop}(hr:r.to K KX):
 js P g args st.S.o st.S.nx fr K KX:=by
 unfold hX at h
 simp only at h
 generalize m9:reach st.o.get 2000 (V.aL args) []=rd at h
 split at h
 ·rename_i hc
  simp only[Bool.and_eq_true,List.all_eq_true]at hc
  obtain⟨Xn,sN⟩:=hc
  have a1:∀id∈rd,id<st.nx:=fun id ax=>Nat.le_of_ble_eq_true (Xn id ax).1
  have a2:∀id∈V.aL args,id∈rd:=fun id ax=>by simpa using sN id ax
  have a3:∀id∈rd,∀j∈(st.o.get id).refs,j∈rd:=fun id ax j hj=>by simpa using(Xn id ax).2 j hj
  have a0:rd.all (fun id=>decide (id<st.S.nx))=true:=List.all_eq_true.2 fun id ax=>decide_eq_true (a1 id ax)
  have key:∀ {r:CR} {a:CR},crA r=some (.c a)->r=a:=fun h=>by unfold crA at h;injection h with h;injection h
  split at h
  ·rename_i v o1 BR hf
   split at h
   ·cases h
   ·rename_i v' qH
    split at h
    ·rename_i rs hrs
     split at h
     ·rename_i M5
      injection h with h;subst h
      simp only[Bool.and_eq_true,List.all_eq_true]at M5
      refine⟨rd,_,a0, .inl ⟨rs,BQ.lA a1 a2 a3 (fun x hx=>(ji rd x hx).1) (fun x hx j hj=>by simpa using M5.1 x hx j hj) (nV bn cP bJ hf fun r yS=> ?_),hr⟩⟩
      rw[key yS]
      refine⟨fun id ax=>uc ax,wB v,rs, ?_,hrs,rfl,fun id ax=>by simpa using M5.2 id ax⟩
      cases v with
      |bW vs=>
       match vs,qH with
       |[],_=>rfl
       |[x],hv=>exact absurd rfl (hv x)
       |_::_::_,_=>rfl
      |_=>rfl
     ·cases h
    ·cases h
  ·rename_i v o1 BR hf
   split at h
   ·rename_i x hx
    split at h
    ·rename_i M5
     injection h with h;subst h
     simp only[Bool.and_eq_true,List.all_eq_true]at M5
     refine⟨rd,eU st.o.get o1.get rd,a0, .inr (.inl ⟨x,BQ.lA a1 a2 a3 (fun x hx=>(ji rd x hx).1) (fun x hx j hj=>by simpa using M5.1 x hx j hj) (nV bn cP bJ hf fun r yS=> ?_),hr⟩)⟩
     rw[key yS]
     exact⟨fun id ax=>uc ax,x,hx,rfl,fun id ax=>by simpa using M5.2 id ax⟩
    ·cases h
   ·cases h
  ·cases h
 ·cases h
theorem Xo(bn:P.follows .mixedOrders=true)(cP:∀g,(bX g).Ok P g){rec:dJ}(bJ:eO P rec){g:Nat}{args:List V}{st:St}{rd:List Nat}{ds:List D}(fD:cn st.o.get args=some ds){r:DR}(h:cDX P bX md rec g args st rd=some r)
 {K:V->List (Nat×ab)->List Nat->Prop} {KX:V->List Nat->List Nat->Prop} (hr:r.to K KX):
 tX P g ds (fun v=>K v (bG st.S.o (V.bg args)) rd) (fun v=>K v [] rd) (fun v=>KX v [] rd):=by
 unfold cDX at h
 simp only[fD]at h
 split at h
 ·split at h
  ·rename_i v o1 BR hr0
   split at h
   ·rename_i hrf
    injection h with h;subst h
    exact .inr (.inr ⟨v,O4.lA hrf (nV bn cP bJ hr0 fun r yS=>by unfold crA at yS;injection yS with yS;injection yS with yS;rw[yS];exact rfl),hr⟩)
   ·cases h
  ·cases h
 ·split at h
  ·rename_i rs Dd
   have hP:=A9 bn cP bJ Dd
   split at h
   ·rename_i hf
    injection h with h;subst h
    exact .inl ⟨rs,hP, .inr ⟨hf,hr⟩⟩
   ·injection h with h;subst h
    exact .inl ⟨rs,hP, .inl hr⟩
  ·rename_i x Dd
   have hP:=A9 bn cP bJ Dd
   split at h
   ·rename_i hf
    injection h with h;subst h
    exact .inr (.inl ⟨x,hP,hf,hr⟩)
   ·cases h
  ·cases h
theorem HO{t ty:TypeId}{sz:Nat}{es:List D}{r:CR}(h:Qz P t r=some (.r (.ret [.sl es, .int .i64 (.ofNat ty), .int .i64 (.ofNat sz)]))):
 r.to (fun v o1 _=>(∃j ep,v= .osl j ep/\o1 j= .arr ep ty sz es)\/(v= .aw/\es=[]/\0<sz)) (fun _ _ _=>False):=by
 unfold Qz at h
 split at h
 ·rename_i v o1 n1
  split at h
  ·rename_i j ep
   split at h
   ·rename_i gr ty' sq es' ho
    split at h
    ·rename_i he
     have he:=Nat.eq_of_beq_eq_true he
     subst he
     rw[FM]at h
     simp only[Option.some.injEq,eF.r.injEq,R.ret.injEq,List.cons.injEq,D.sl.injEq,D.int.injEq,true_and,and_true]at h
     obtain⟨rfl,h2,h3⟩:=h
     have h2:ty'=ty:=Int.ofNat.inj h2
     have h3:sq=sz:=Int.ofNat.inj h3
     subst h2;subst h3
     exact .inl ⟨j,gr,rfl,ho⟩
    ·cases h
   ·cases h
  ·split at h
   ·rename_i e he
    split at h
    ·rename_i hp
     rw[FM]at h
     simp only[Option.some.injEq,eF.r.injEq,R.ret.injEq,List.cons.injEq,D.sl.injEq,D.int.injEq,true_and,and_true]at h
     obtain⟨rfl,h2,h3⟩:=h
     have h3:P.cellsOf e=sz:=Int.ofNat.inj h3
     subst h3
     exact .inr ⟨rfl,rfl,Nat.blt_eq.mp hp⟩
    ·cases h
   ·cases h
  ·cases h
 ·cases h
theorem QD(bn:P.follows .mixedOrders=true)(cP:∀g,(bX g).Ok P g){rec:dJ}(bJ:eO P rec){fr:Nat}{g:Nat}{t:TypeId}{args:List V}{st:St}{r:DR}(h:Xi P bX rec g t args st fr=some r){K:V->List (Nat×ab)->List Nat->Prop}{KX:V->List Nat->List Nat->Prop}(hr:r.to K KX):
 js P g args st.S.o st.S.nx fr K KX:=by
 unfold Xi at h
 split at h
 ·rename_i ds fD
  split at h
  ·rename_i es ty sz hr0
   injection h with h;subst h
   unfold zB at fD
   split at fD
   ·rename_i ax
    exact⟨[],_,aE, .inr (.inr ⟨_,zd.Qt ax fD (zd.FI (nV bn cP bJ hr0 fun r yS=>HO yS)),hr⟩)⟩
   ·cases fD
  ·cases h
 ·split at h
  ·rename_i ds fD
   split at h
   ·rename_i es ty sz hr0
    split at h
    ·rename_i hc
     injection h with h;subst h
     simp only[Bool.and_eq_true]at hc
     refine⟨V.bg args,_, ?_, .inr (.inr ⟨_,zd.Qs fD hc.1 (nV bn cP bJ hr0 fun r yS=>HO yS),hr⟩)⟩
     exact List.all_eq_true.2 fun id ax=>decide_eq_true (Nat.blt_eq.mp (List.all_eq_true.1 hc.2 id ax))
    ·cases h
   ·cases h
  ·cases h
theorem Bb(bn:P.follows .mixedOrders=true)(cP:∀g,(bX g).Ok P g){rec:dJ}(bJ:eO P rec){st:St}{fr:Nat}{o:bZ}{r:DR}(h:QA P bX md rec st fr o.op=some r){K:V->List (Nat×ab)->List Nat->Prop}{KX:V->List Nat->List Nat->Prop}(hr:r.to K KX):
 BS P st.S fr o K KX:=by
 have hs:sDX P st fr o.op=some r->(match gQ P st.S fr o.op with|some (v,Δ,_)=>K v Δ (pC st.S o.op)|none=>False):=by
  intro h
  unfold sDX at h
  split at h
  ·rename_i v Δ rd he
   injection h with h;subst h
   simp only[HE he]
   exact hr
  ·cases h
 unfold QA at h
 unfold BS
 split at h
 ·rename_i c hc
  simp only[hc]
  split at h
  ·rename_i f hf
   simp only[hf]
   split at h
   ·rename_i g first cap hv
    simp only[hv]
    split at h
    ·have hh:=T9 bn cP bJ h hr (fr:=fr)
     split
     ·exact .inr hh
     ·exact hh
    split at h
    ·rename_i r' V7
     injection h with h;subst h
     cases fD:cn st.S.o (first++List.map st.S.ev c.args.toList++cap)with
     |some ds=>exact .inl (Xo bn cP bJ fD V7 hr)
     |none=>
      have Xf:cn st.o.get (first++List.map st.S.ev c.args.toList++cap)=none:=fD
      unfold cDX at V7
      simp only[Xf]at V7
      exact T9 bn cP bJ V7 hr
    ·have hh:=QD bn cP bJ (st:=st) h hr
     split
     ·exact .inr hh
     ·exact hh
   ·cases h
  ·rename_i fC
   rw[<- hc]at h
   have:=hs h
   rw[hc]at this
   split
   ·rename_i f hf;exact absurd hf (fC f)
   ·exact this
 ·rename_i hc
  have:=hs h
  split
  ·rename_i c hh;exact absurd hh (hc c)
  ·exact this
def gdW(s:S)(gd:Option (Nat×Bool))(A B:Prop):Prop:=
 match gd with
 |none=>A
 |some (d,want)=>match s.env d with
  | .d (.bool b)=>if b=want then A else B
  | .bW []=>B
  |_=>False
theorem Bc{st:St}{gd:Option (Nat×Bool)}{t:Bool}(h:gdX st gd=some t){A B:Prop}(hA:t=true->A)(hB:t=false->B):gdW st.S gd A B:=by
 cases gd with
 |none=>simp only[gdX,Option.some.injEq]at h;exact hA h.symm
 |some p=>
  obtain⟨d,want⟩:=p
  have he:st.S.env d=st.env.get d:=rfl
  simp only[gdX]at h
  simp only[gdW,he]
  split at h
  ·rename_i b hb
   injection h with h
   by_cases e:b=want
   ·rw[if_pos e];exact hA (by rw[<- h,e];simp)
   ·rw[if_neg e];exact hB (by rw[<- h];simpa using e)
  ·rename_i hb
   injection h with h
   exact hB h.symm
  ·cases h
theorem QE{P:Program}{KB:List Nat->Fp->Prop}{pr:List (List Nat)}{o:bZ}{l:List bZ}{fr:Nat}{s:S}{fp:Fp}{bad ws:List Nat}(hb:(pr.getD fp.length []).any (fun j=>bad.contains j)=false)
 (h:gdW s o.gd (BS P s fr o (fun v Δ rd=>iP P KB pr l (fr+1) ⟨ba s.env o.dst v,put s.o Δ,s.nx⟩ (fp++[(rd,Δ.map (·.1))]) bad (ws++Δ.map (·.1))) (fun _ _ _=>False)) (iP P KB pr l (fr+1) ⟨ba s.env o.dst (.bW []),s.o,s.nx⟩ (fp++[([],[])]) bad ws)):
 iP P KB pr (o::l) fr s fp bad ws:=by
 simp only[iP]
 rw[if_neg (by rw[hb];simp)]
 cases hg:o.gd with
 |none=>rw[hg]at h;exact h
 |some p=>obtain⟨d,want⟩:=p;rw[hg]at h;exact h
theorem QF{P:Program}{K:S->Fp->Prop}{KP:V->List Nat->Fp->Prop}{pr:List (List Nat)}{o:bZ}{l:List bZ}{fr:Nat}{s:S}{fp:Fp}
 (h:gdW s o.gd (BS P s fr o (fun v Δ rd=>lE P K KP pr l (fr+1) ⟨ba s.env o.dst v,put s.o Δ,s.nx⟩ (fp++[(rd,Δ.map (·.1))]))
  (fun v ws rd=>iP P (KP v) pr l (fr+1) ⟨ba s.env o.dst .ad,s.o,s.nx⟩ (fp++[(rd,[])]) [fp.length] (ws++fp.flatMap (·.2)))) (lE P K KP pr l (fr+1) ⟨ba s.env o.dst (.bW []),s.o,s.nx⟩ (fp++[([],[])]))):
 lE P K KP pr (o::l) fr s fp:=by
 simp only[lE]
 cases hg:o.gd with
 |none=>rw[hg]at h;exact h
 |some p=>obtain⟨d,want⟩:=p;rw[hg]at h;exact h
theorem rE(bn:P.follows .mixedOrders=true)(cP:∀g,(bX g).Ok P g){rec:dJ}(bJ:eO P rec){pr:List (List Nat)}{wl:List Nat}{fp':Fp}{KB:List Nat->Fp->Prop}(hK:KB wl fp'):
 ∀ (l:List bZ) (fr:Nat) (st:St) (fp:Fp) (bad ws:List Nat),wF P bX md rec pr l fr st fp bad ws=some (wl,fp')->iP P KB pr l fr st.S fp bad ws
 |[],fr,st,fp,bad,ws,h=>by
  simp only[wF,Option.some.injEq,Prod.mk.injEq]at h
  obtain⟨rfl,rfl⟩:=h;exact hK
 |o::l,fr,st,fp,bad,ws,h=>by
  simp only[wF,jM,nU]at h
  split at h
  ·rename_i hb
   simp only[iP]
   rw[if_pos hb]
   have:=rE bn cP bJ hK l _ _ _ _ _ h
   exact LO
  ·rename_i hb
   refine QE hb ?_
   split at h
   ·rename_i hg
    refine Bc hg (fun _=> ?_) (fun h=>by cases h)
    split at h
    ·rename_i v Δ rd gC
     refine Bb bn cP bJ gC ?_
     have:=rE bn cP bJ hK l _ _ _ _ _ h
     simp only[St.S,jH,kj]at this
     exact this
    ·cases h
   ·rename_i hg
    refine Bc hg (fun h=>by cases h) (fun _=> ?_)
    have:=rE bn cP bJ hK l _ _ _ _ _ h
    exact LO
   ·cases h
def DQ.to (K:S->Fp->Prop)(KP:V->List Nat->Fp->Prop):DQ->Prop
 | .fin st fp=>K st.S fp
 | .bN v wl fp=>KP v wl fp
theorem nX(bn:P.follows .mixedOrders=true)(cP:∀g,(bX g).Ok P g){rec:dJ}(bJ:eO P rec){pr:List (List Nat)}{q:DQ}{K:S->Fp->Prop}{KP:V->List Nat->Fp->Prop}(hq:q.to K KP):
 ∀ (l:List bZ) (fr:Nat) (st:St) (fp:Fp),wG P bX md rec pr l fr st fp=some q->lE P K KP pr l fr st.S fp
 |[],fr,st,fp,h=>by
  simp only[wG,Option.some.injEq]at h
  subst h;exact hq
 |o::l,fr,st,fp,h=>by
  simp only[wG,jM,nU,Nat.dh]at h
  refine QF ?_
  split at h
  ·rename_i hg
   refine Bc hg (fun _=> ?_) (fun h=>by cases h)
   split at h
   ·rename_i v Δ rd gC
    refine Bb bn cP bJ gC ?_
    have:=nX bn cP bJ hq l _ _ _ h
    simp only[St.S,jH,kj]at this
    exact this
   ·rename_i v ws rd gC
    split at h
    ·rename_i wl fp' hb
     injection h with h;subst h
     refine Bb bn cP bJ gC ?_
     have:=rE bn cP bJ (KB:=KP v) hq l _ _ _ _ _ hb
     exact LO
    ·cases h
   ·cases h
  ·rename_i hg
   refine Bc hg (fun h=>by cases h) (fun _=> ?_)
   have:=nX bn cP bJ hq l _ _ _ h
   exact LO
  ·cases h
theorem Bd{pr:List (List Nat)}{fp:Fp}(h:M3 pr fp=true):ff pr fp=true:=by
 unfold M3 at h
 split at h
 ·rename_i hq
  unfold quiet at hq
  have hz:∀i,(fp.getD i ([],[])).2=[]:=by
   intro i
   rw[List.getD_eq_getElem?_getD]
   cases hx:fp[i]? with
   |none=>rfl
   |some x=>
    have:=List.all_eq_true.1 hq x (List.mem_of_getElem? hx)
    simp only[Option.getD_some]
    split at this
    ·rename_i e;exact e
    ·cases this
  unfold ff
  simp only[hz,lu,List.all_nil,Bool.and_self,Bool.or_true]
  simp
 ·rw[HM]at h
  unfold ff
  rw[List.all_eq_true]
  intro j hj
  rw[List.all_eq_true]
  intro i hi
  exact Du fp [] h j (Nat.zero_le _) nq i (by simpa using hi)
theorem wH:∀ (l:List Nat) (k c:Nat),c<=k->c<=zE l k c/\∀i x,l[i]? =some x->zE l k c<=k+i->x=2^(k+i) - 1
 |[],_,c,_=>⟨Nat.le_refl _,fun i x h=>by simp at h⟩
 |y::l,k,c,hc=>by
  simp only[zE]
  split
  ·rename_i he
   obtain⟨h1,h2⟩:=wH l (k+1) c af
   refine⟨h1,fun i x hi hle=> ?_⟩
   cases i with
   |zero=>simp at hi;subst hi;simpa using Nat.eq_of_beq_eq_true he
   |succ i=>
    have:=h2 i x (by simpa using hi) af
    rw[this,show k+(i+1)=k+1+i by omega]
  ·obtain⟨h1,h2⟩:=wH l (k+1) (k+1) (Nat.le_refl _)
   refine⟨af,fun i x hi hle=> ?_⟩
   cases i with
   |zero=>omega
   |succ i=>
    have:=h2 i x (by simpa using hi) af
    rw[this,show k+(i+1)=k+1+i by omega]
theorem zG:∀ (pr:List (List Nat)) (acc:List Nat),(eP pr acc).length=acc.length+pr.length
 |[],acc=>by simp[eP]
 |ps::l,acc=>by simp only[eP,zG l,List.length_append,List.length_cons,List.length_nil];omega
theorem M6(pr:List (List Nat)):FB pr (rD pr)=true:=by
 refine List.all_eq_true.2 fun k hk=> ?_
 have hk:k<pr.length:=by simpa using hk
 by_cases h:k<rD pr
 ·simp[Nat.blt_eq.mpr h]
 ·have hl:k<(eP pr []).length:=by rw[zG];simpa using hk
  have:=(wH (eP pr []) 0 0 (Nat.le_refl _)).2 k _ (List.getElem?_eq_getElem hl) (by rw[Nat.zero_add];exact Nat.le_of_not_lt h)
  rw[Nat.zero_add]at this
  rw[List.getD_eq_getElem?_getD,List.getElem?_eq_getElem hl,Option.getD_some,this]
  simp
theorem QG(bn:P.follows .mixedOrders=true)(cP:∀g,(bX g).Ok P g){rec:dJ}(bJ:eO P rec){l:List bZ}{pr:List (List Nat)}{st st':St}{e:fS}(h:Xj P bX md rec l pr st=some (e,st')){Q:fS->S->Prop}(hQ:Q e st'.S):
 lE P (FA pr (st.S.nx+l.length) Q) (C1 pr l st.S Q) pr l st.S.nx st.S []:=by
 unfold Xj at h
 split at h
 ·rename_i s1 fp hd
  split at h
  ·rename_i hf
   simp only[Nat.dh,Option.some.injEq,Prod.mk.injEq]at h
   obtain⟨rfl,rfl⟩:=h
   exact nX bn cP bJ (q:= .fin s1 fp) (K:=FA pr (st.S.nx+l.length) Q) (KP:=C1 pr l st.S Q) (show FA pr (st.S.nx+l.length) Q s1.S fp from⟨Bd hf,hQ⟩) l _ _ _ hd
  ·cases h
 ·rename_i v wl fp hd
  split at h
  ·rename_i hf
   simp only[Option.some.injEq,Prod.mk.injEq]at h
   obtain⟨rfl,rfl⟩:=h
   exact nX bn cP bJ (q:= .bN v wl fp) (K:=FA pr (st.S.nx+l.length) Q) (KP:=C1 pr l st.S Q) (show C1 pr l st.S Q v wl fp from⟨Bd hf,hQ⟩) l _ _ _ hd
  ·cases h
 ·cases h
theorem QH(bn:P.follows .mixedOrders=true)(cP:∀g,(bX g).Ok P g){rec:dJ}(bJ:eO P rec){n:Nat}{g:Operand}{ps:List Nat}{x y:IC}{st:St}{kt:Kt}{a:eF}(h:QC P bX rec n g ps x y st kt=some a){Q:fS->S->Prop}(hQ:∀e st',kt e st'=some a->Q e st'.S):
 CK P n (st.S.ev g) ps x y Q st.S:=by
 unfold QC at h
 refine⟨(List.range n).map st.env.get,fun i=> ?_, ?_⟩
 ·unfold aZ
  simp only[List.getD_eq_getElem?_getD,List.getElem?_map]
  by_cases hi:i<n
  ·right;rw[List.getElem?_range hi];rfl
  ·left;rw[List.getElem?_eq_none (by simp;omega)];rfl
 ·split at h
  ·rename_i f first cap hv
   simp only[hv]
   refine .inl ?_
   have key:=fun {K X} hr=>nV (K:=K) (X:=X) bn cP bJ h hr
   simp only[Tr.hZ]at key
   refine key fun r hr=> ?_
   unfold ac0 at hr
   cases r with
   |ret v o1 BR=>
    simp only at hr
    split at hr
    ·rename_i nf m e p c d T7 pd ho
     have hl:T7≠ .busy:=by
      intro hb;subst hb;cases hr
     refine⟨nf,m,e,p,c,d,T7,pd,ho,hl, ?_⟩
     split at hr
     ·cases hr
     ·split at hr<;>(have h3:=hQ _ _ hr;simp only[rk];simp only[St.S,Tr.hZ]at h3;exact h3)
    ·cases hr
   |bN v o1 BR=>exact hQ _ _ hr
  ·cases h
theorem bO.same {b:Nat}{s:S}(h:b<=s.nx):bO b s s:=fun _ φ _ _ h1 h2=>⟨φ,h1,h2,fun _ h=>h,h,fun _ _ hr=>⟨hr,rfl⟩,fun _ e' _ he=>⟨e',he,Nat.le_refl _,fun _=>rfl⟩⟩
theorem M7{x y:Option eF}{a:eF}(h:HN x y=some a):x=some a/\y=some a:=by
 unfold HN at h
 split at h
 ·rename_i r
  split at h
  ·rename_i r'
   split at h
   ·rename_i hs
    injection h with h;subst h
    rw[R.eg hs]
    exact⟨rfl,rfl⟩
   ·cases h
  ·cases h
 ·cases h
theorem Xp(bn:P.follows .mixedOrders=true)(cP:∀g,(bX g).Ok P g):∀k,∀j,j<=k->eO P (run P bX md j):=by
 intro k
 induction k with
 |zero=>intro j hj b rd n ic st kt a h;obtain rfl:j=0:=af
        cases h
 |succ k ih=>
  intro j hj b rd n ic st kt a h Q hQ
  cases j with
  |zero=>cases h
  |succ j=>
   have bJ:eO P (run P bX md j):=ih j af
   rw[M4]at h
   cases ic with
   |skip=>exact hQ _ _ h
   |exit id=>exact hQ _ _ h
   |ret=>exact hQ _ _ h
   |bad=>cases h
   |ag l=>
    have h:A8 P bX md (run P bX md j) (roX kt) l st=some a:=h
    exact uZ bn cP bJ (K:=Q .normal) (X:=fun v s=>Q (.bN v) s) (fun r hr=>by
     cases r with
     |ok Xg=>exact hQ .normal _ hr
     |bN v Xg=>exact hQ (.bN v) _ hr) l _ h
   |dH l pr=>
    have h:Xk l pr P bX md (run P bX md j) b rd n st kt=some a:=h
    unfold Xk at h
    rw[Nat.dh]at h
    split at h
    ·rename_i s1 fp hd
     split at h
     ·rename_i hf
      rw[Nat.dh]at h
      split at h
      ·rename_i KN
       refine .inr ⟨rD pr,Nat.le_of_ble_eq_true KN,M6 pr, ?_⟩
       refine nX bn cP bJ (q:= .fin s1 fp) (K:=fun s' fp=>ff pr fp=true/\qi P (fun v s=>Q (.bN v) s) (Q .normal) (l.drop (rD pr)) ⟨s'.env,s'.o,st.S.nx+rD pr⟩) (KP:=fun _ _ _=>False) (show _/\_ from⟨Bd hf, ?_⟩) (l.take (rD pr)) _ _ _ hd
       exact uZ bn cP bJ (K:=Q .normal) (X:=fun v s=>Q (.bN v) s) (fun r hr=>by
        cases r with
        |ok Xg=>exact hQ .normal _ hr
        |bN v Xg=>exact hQ (.bN v) _ hr) (l.drop (rD pr)) ⟨s1.env,s1.o,st.nx+rD pr⟩ h
      ·cases h
     ·cases h
    ·split at h
     ·rename_i e s1 h1
      exact .inl (QG bn cP bJ h1 (hQ _ _ h))
     ·cases h
    ·cases h
   |seq x y=>
    have h:run P bX md j b rd n x st (FN (run P bX md j) b rd n y kt)=some a:=h
    simp only[uU]
    refine bJ _ _ _ _ _ _ _ h _ fun e s1 he=> ?_
    unfold FN at he
    cases e with
    |normal=>exact bJ _ _ _ _ _ _ _ he _ hQ
    |_=>exact hQ _ _ he
   |cond c x y=>
    have h:(match st.S.ev c with| .d (.bool true)=>run P bX md j b rd n x st kt| .d (.bool false)=>run P bX md j b rd n y st kt| .fF=>HN (run P bX md j b rd n x st kt) (run P bX md j b rd n y st kt)|_=>none)=some a:=h
    simp only[uU]
    split at h
    ·rename_i hv
     simp only[hv]
     exact(vX _ _).mpr (bJ _ _ _ _ _ _ _ h _ hQ)
    ·rename_i hv
     simp only[hv]
     exact(tT _ _).mpr (bJ _ _ _ _ _ _ _ h _ hQ)
    ·rename_i hv
     simp only[hv]
     obtain⟨h1,h2⟩:=M7 h
     exact⟨bJ _ _ _ _ _ _ _ h1 _ hQ,bJ _ _ _ _ _ _ _ h2 _ hQ⟩
    ·cases h
   |block id x=>
    have h:run P bX md j b rd n x st (FO id kt)=some a:=h
    simp only[uU]
    refine bJ _ _ _ _ _ _ _ h _ fun e s1 he=> ?_
    unfold FO at he
    cases e with
    |exit j'=>
     simp only at he
     split at he
     ·rename_i hb
      simp only[fU,Nat.eq_of_beq_eq_true hb,if_true];exact hQ _ _ he
     ·rename_i hb
      simp only[fU,Nat.ne_of_beq_eq_false hb,if_false];exact hQ _ _ he
    |_=>exact hQ _ _ he
   |loop x=>
    have unf:∀m Ua,run P bX md (m+1) b rd n (.loop x) Ua kt=some a->b<=Ua.nx/\run P bX md m b rd n x Ua (FN (run P bX md m) b rd n (.loop x) kt)=some a:=by
     intro m Ua h
     have h:(match Nat.ble b Ua.nx with|true=>run P bX md m b rd n x Ua (FN (run P bX md m) b rd n (.loop x) kt)|false=>none)=some a:=h
     split at h
     ·rename_i hb;exact⟨Nat.le_of_ble_eq_true hb,h⟩
     ·cases h
    have h:run P bX md (j+1) b rd n (.loop x) st kt=some a:=h
    refine⟨fun m s=>m<=k+1/\∃st,s=st.S/\run P bX md m b rd n (.loop x) st kt=some a,⟨j+1,st.S,bO.same (unf j st h).1,hj,st,rfl,h⟩, ?_⟩
    rintro m s0 ⟨hm,Ua,rfl,h0⟩
    cases m with
    |zero=>cases h0
    |succ m=>
     have ac3:eO P (run P bX md m):=ih m af
     refine ac3 _ _ _ _ _ _ _ (unf m Ua h0).2 _ fun e s1 he=> ?_
     unfold FN at he
     cases e with
     |normal=>
      refine⟨m,s1.S,Nat.lt_succ_self _,bO.same ?_,af,s1,rfl,he⟩
      cases m with
      |zero=>cases he
      |succ m=>exact(unf m s1 he).1
     |_=>exact hQ _ _ he
   |KJ g ps x y=>
    cases rd with
    |true=>
     have h:(none:Option eF)=some a:=h
     cases h
    |false=>
     have h:QC P bX (run P bX md j) n g ps x y st kt=some a:=h
     exact⟨rfl,_, .inl rfl,QH bn cP bJ h hQ⟩
noncomputable def pv(P:Program)(bX:Nat->FD)(md:rC P)(k:Nat)(g:Nat)(ds:List D):Option R:=
 match MQ P bX (run P bX md k) g (ds.map .d) (.e fun _=> .no) 0 Dq with
 |some (.r x)=>some x
 |_=>none
theorem aX.ig (bn:P.follows .mixedOrders=true)(cP:∀g,(bX g).Ok P g){k g:Nat}{ds:List D}{out:R}(h:pv P bX md k g ds=some out):aX P g ds out:=by
 unfold pv at h
 split at h
 ·rename_i x hr;injection h with h;subst h;exact Dr bn cP (Xp bn cP k k (Nat.le_refl _)) hr
 ·cases h
end
end
def Tr.HP {α:Type}(p:Nat->α->Prop):Tr α->(Nat->Nat)->Prop
 | .e g,f=>∀i,p (f i) (g i)
 | .n x l r,f=>p (f 0) x/\HP p l (fun i=>f (2*i+1))/\HP p r (fun i=>f (2*i+2))
theorem Tr.Be {α:Type}{p:Nat->α->Prop}:∀ {f:Nat->Nat} (t:Tr α),t.HP p f->∀k,p (f k) (t.get k)
 |f, .e g,h,k=>h k
 |f, .n x l r,h,k=>by
  obtain⟨h1,h2,h3⟩:=h
  rw[Tr.wx]
  split
  ·rename_i e;subst e;exact h1
  ·split
   ·have:=Tr.Be l h2 (k/2)
    rwa [show 2*(k/2)+1=k by omega]at this
   ·have:=Tr.Be r h3 (k/2 - 1)
    rwa [show 2*(k/2 - 1)+2=k by omega]at this
@[reducible] def mv (d s:Nat):bZ:=⟨some d, .move (.tmp s),none⟩
@[reducible] def rF (d:Nat) (n:Int):bZ:=⟨some d, .move (.const (.int .i64 n)),none⟩
@[reducible] def sg (d s:Nat):bZ:=⟨some d, .assign (.tmp s),none⟩
@[reducible] def c8 (d:Nat) (n:Int):bZ:=⟨some d, .assign (.const (.int .i64 n)),none⟩
@[reducible] def bH (d:Nat) (b:Bool):bZ:=⟨some d, .assign (.const (.bool b)),none⟩
@[reducible] def ld (d t s:Nat):bZ:=⟨some d, .load t (.tmp s),none⟩
@[reducible] def st (t a b:Nat):bZ:=⟨none, .store t (.tmp a) (.tmp b),none⟩
@[reducible] def fa (d t s f:Nat):bZ:=⟨some d, .fieldAddr t (.tmp s) f,none⟩
@[reducible] def ex (d s i:Nat):bZ:=⟨some d, .extract (.tmp s) i,none⟩
@[reducible] def db (d c a:Nat):bZ:=⟨some d, .pick (.tmp c) (.tmp a) (.const (.bool false)),none⟩
@[reducible] def eZ (d c a:Nat):bZ:=⟨some d, .pick (.tmp c) (.const (.bool true)) (.tmp a),none⟩
@[reducible] def ia (d t x i:Nat):bZ:=⟨some d, .indexAddr t (.tmp x) (.tmp i),none⟩
@[reducible] def bx (d t s:Nat):bZ:=⟨some d, .box t (.tmp s),none⟩
@[reducible] def al (d t:Nat):bZ:=⟨some d, .alloc t,none⟩
@[reducible] def ln (d s t:Nat):bZ:=⟨some d, .call {callee:= .builtin .len,args:=#[.tmp s],argTypes:=#[t]},none⟩
@[reducible] def k0 (d f:Nat):bZ:=⟨some d, .call {callee:= .value (.func f),args:=#[],argTypes:=#[]},none⟩
@[reducible] def k1 (d f a t:Nat):bZ:=⟨some d, .call {callee:= .value (.func f),args:=#[.tmp a],argTypes:=#[t]},none⟩
@[reducible] def k2 (d f a b t u:Nat):bZ:=⟨some d, .call {callee:= .value (.func f),args:=#[.tmp a, .tmp b],argTypes:=#[t,u]},none⟩
@[reducible] def k3 (d f a b c t u v:Nat):bZ:=⟨some d, .call {callee:= .value (.func f),args:=#[.tmp a, .tmp b, .tmp c],argTypes:=#[t,u,v]},none⟩
@[reducible] def k4 (d f a b c e t u v w:Nat):bZ:=⟨some d, .call {callee:= .value (.func f),args:=#[.tmp a, .tmp b, .tmp c, .tmp e],argTypes:=#[t,u,v,w]},none⟩
@[reducible] def kg (d f:Nat) (xs:Array Operand) (ts:Array TypeId):bZ:=⟨some d, .call {callee:= .value (.func f),args:=xs,argTypes:=ts},none⟩
@[reducible] def ka (d a b t:Nat):bZ:=⟨some d, .call {callee:= .builtin .append,args:=#[.tmp a, .tmp b],argTypes:=#[t,t]},none⟩
@[reducible] def pR (d t x:Nat):bZ:=⟨some d, .buildSlice t 1 #[(0, .tmp x)],none⟩
@[reducible] def nY (d:Nat):bZ:=⟨some d, .assign (.const (.slice none 0 0)),none⟩
@[reducible] def K1 (d t x:Nat) (n:Int):bZ:=⟨some d, .indexAddr t (.tmp x) (.const (.int .i64 n)),none⟩
@[reducible] def bo (op:BinOp) (d t x y u:Nat):bZ:=⟨some d, .binOp op t (.tmp x) (.tmp y) u,none⟩
@[reducible] def bk (op:BinOp) (d t x:Nat) (n:Int) (u:Nat):bZ:=⟨some d, .binOp op t (.tmp x) (.const (.int .i64 n)) u,none⟩
@[reducible] def nt (d t s:Nat):bZ:=⟨some d, .unOp .not t (.tmp s),none⟩
@[reducible] def nc (d s:Nat):bZ:=⟨some d, .nilCheck (.tmp s),none⟩
@[reducible] def gT (o:bZ) (g:Nat):bZ:=⟨o.dst,o.op,some (g,true)⟩
@[reducible] def gF (o:bZ) (g:Nat):bZ:=⟨o.dst,o.op,some (g,false)⟩
attribute [go_sem] mv rF sg c8 bH ld st fa ex db eZ ia bx al ln k0 k1 k2 k3 k4 kg ka pR nY K1 bo bk nt nc gT gF
end Go.Proofs.YtlhemmpklhhgoaaGreat
