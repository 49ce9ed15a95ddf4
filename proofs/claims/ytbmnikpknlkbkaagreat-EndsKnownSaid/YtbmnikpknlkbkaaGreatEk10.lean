/-
  A PART OF THE PROOF. Conditions: none.
-/
import Derived.Test.YtbmnikpknlkbkaaGreatEk9
set_option linter.unusedSimpArgs false
set_option linter.unusedVariables false
namespace Go.Proofs.YtbmnikpknlkbkaaGreat
mutual
def V.same:V->V->Bool
 | .d x, .d y=>x.same y
 | .b6, .b6=>true
 | .bL, .bL=>true
 | .agg a, .agg b=>V.cX a b
 | .ptr i o, .ptr j p=>Nat.beq i j&&Nat.beq o p
 | .osl i o, .osl j p=>Nat.beq i j&&Nat.beq o p
 | .iA a, .iA b=>D.cX a b
 | .iface t x, .iface u y=>Nat.beq t u&&x.same y
 | .mp i, .mp j=>Nat.beq i j
 |_,_=>false
def V.cX:List V->List V->Bool
 |[],[]=>true
 |a::aO,b::bs=>a.same b&&V.cX aO bs
 |_,_=>false
end
mutual
theorem V.bX:∀ (x y:V),x.same y=true->x=y
 | .d x,y,h=>by cases y<;>simp only[V.same,Bool.false_eq_true]at h;rw[D.bX _ _ h]
 | .b6,y,h=>by cases y<;>simp_all[V.same]
 | .bL,y,h=>by cases y<;>simp_all[V.same]
 | .agg a,y,h=>by cases y<;>simp only[V.same,Bool.false_eq_true]at h;rw[V.bB _ _ h]
 | .ptr i o,y,h=>by
   cases y<;>simp only[V.same,Bool.false_eq_true,Bool.and_eq_true]at h
   rw[Nat.eq_of_beq_eq_true h.1,Nat.eq_of_beq_eq_true h.2]
 | .osl i o,y,h=>by
   cases y<;>simp only[V.same,Bool.false_eq_true,Bool.and_eq_true]at h
   rw[Nat.eq_of_beq_eq_true h.1,Nat.eq_of_beq_eq_true h.2]
 | .iA a,y,h=>by cases y<;>simp only[V.same,Bool.false_eq_true]at h;rw[D.bB _ _ h]
 | .iface t x,y,h=>by
   cases y<;>simp only[V.same,Bool.false_eq_true,Bool.and_eq_true]at h
   rw[Nat.eq_of_beq_eq_true h.1,V.bX _ _ h.2]
 | .mp i,y,h=>by
   cases y<;>simp only[V.same,Bool.false_eq_true]at h
   rw[Nat.eq_of_beq_eq_true h]
 | .a8 _,y,h| .pe _ _ _ _ _,y,h| .pp _ _,y,h| .func _ _ _,y,h| .mg _ _ _,y,h| .cM,y,h| .g8 _,y,h=>by simp[V.same]at h
theorem V.bB:∀ (x y:List V),V.cX x y=true->x=y
 |[],y,h=>by cases y<;>simp_all[V.cX]
 |a::aO,y,h=>by
  cases y<;>simp only[V.cX,Bool.false_eq_true,Bool.and_eq_true]at h
  rw[V.bX _ _ h.1,V.bB _ _ h.2]
end
def l4:List (D×D)->List (D×D)->Bool
 |[],[]=>true
 |(a,b)::l,(c,d)::m=>a.same c&&(b.same d&&l4 l m)
 |_,_=>false
theorem l5:∀ (l m:List (D×D)),l4 l m=true->l=m
 |[],m,h=>by cases m<;>simp_all[l4]
 |(a,b)::l,m,h=>by
  cases m with
  |nil=>simp[l4]at h
  |cons p m=>
   obtain⟨c,d⟩:=p
   simp only[l4,Bool.and_eq_true]at h
   rw[D.bX _ _ h.1,D.bX _ _ h.2.1,l5 l m h.2.2]
noncomputable def aa.same:aa->aa->Bool
 | .no, .no=>true
 | .row a, .row b=>V.cX a b
 | .arr e t s a, .arr f u r b=>Nat.beq e f&&Nat.beq t u&&Nat.beq s r&&D.cX a b
 | .ko e a, .ko f b=>Nat.beq e f&&D.cX a b
 | .map k v a, .map k' v' b=>Nat.beq k k'&&Nat.beq v v'&&l4 a b
 | .dA a, .dA b=>l4 a b
 | .ot a i, .ot b j=>a==b&&Nat.beq i j
 |_,_=>false
theorem aa.bX {x y:aa}(h:x.same y=true):x=y:=by
 cases x<;>cases y<;>simp only[aa.same,Bool.false_eq_true,Bool.and_eq_true]at h
 ·rfl
 ·rw[V.bB _ _ h]
 ·rw[Nat.eq_of_beq_eq_true h.1.1.1,Nat.eq_of_beq_eq_true h.1.1.2,Nat.eq_of_beq_eq_true h.1.2,D.bB _ _ h.2]
 ·rw[Nat.eq_of_beq_eq_true h.1,D.bB _ _ h.2]
 ·rw[Nat.eq_of_beq_eq_true h.1.1,Nat.eq_of_beq_eq_true h.1.2,l5 _ _ h.2]
 ·rw[l5 _ _ h]
 ·rw[eq_of_beq h.1,Nat.eq_of_beq_eq_true h.2]
noncomputable def reach(o:Nat->aa):Nat->List Nat->List Nat->List Nat
 |0,_,seen=>seen
 |_+1,[],seen=>seen
 |n+1,id::todo,seen=>match seen.contains id with
  |true=>reach o n todo seen
  |false=>reach o n ((o id).refs++todo) (id::seen)
noncomputable def cn(o o1:Nat->aa):List Nat->List (Nat×aa)
 |[]=>[]
 |id::l=>match(o id).same (o1 id)with
  |true=>cn o o1 l
  |false=>(id,o1 id)::cn o o1 l
theorem dN{o o1:Nat->aa}:∀ (l:List Nat) (x:Nat×aa),x∈cn o o1 l->x.1∈l/\x.2=o1 x.1
 |[],x,h=>by simp[cn]at h
 |id::l,x,h=>by
  simp only[cn]at h
  split at h
  ·obtain⟨h1,h2⟩:=dN l x h;exact⟨List.mem_cons_of_mem _ h1,h2⟩
  ·rcases List.mem_cons.1 h with rfl|h
   ·exact⟨by simp,rfl⟩
   ·obtain⟨h1,h2⟩:=dN l x h;exact⟨List.mem_cons_of_mem _ h1,h2⟩
theorem gB{o o1:Nat->aa}:∀ (l:List Nat) (id:Nat),id∈l->id∉(cn o o1 l).map (·.1)->o1 id=o id
 |[],id,h,_=>by simp at h
 |j::l,id,h,hn=>by
  simp only[cn]at hn
  split at hn
  ·rename_i hs
   rcases List.mem_cons.1 h with rfl|h
   ·exact(aa.bX hs).symm
   ·exact gB l id h hn
  ·simp only[List.map_cons,List.mem_cons,not_or]at hn
   rcases List.mem_cons.1 h with rfl|h
   ·exact absurd rfl hn.1
   ·exact gB l id h hn.2
theorem pP{o1:Nat->aa}:∀ (Δ:List (Nat×aa)) (o:Nat->aa),(∀x∈Δ,x.2=o1 x.1)->∀id,id∈Δ.map (·.1)\/o id=o1 id->put o Δ id=o1 id
 |[],o,_,id,h=>by rcases h with h|h;· simp at h
                  ·exact h
 |x::Δ,o,hv,id,h=>by
  simp only[put,List.foldl_cons]
  refine pP Δ (cN o x.1 x.2) (fun y hy=>hv y (List.mem_cons_of_mem _ hy)) id ?_
  simp only[List.map_cons,List.mem_cons]at h
  simp only[ak]
  by_cases e:id=x.1
  ·right;rw[if_pos e,hv x (by simp),e]
  ·rcases h with(h|h)|h
   ·exact absurd h e
   ·exact .inl h
   ·right;rw[if_neg e];exact h
theorem ki{o o1:Nat->aa}{l:List Nat}{id:Nat}(h:id∈l):o1 id=put o (cn o o1 l) id:=by
 by_cases hm:id∈(cn o o1 l).map (·.1)
 ·exact(pP _ o (fun x hx=>(dN l x hx).2) id (.inl hm)).symm
 ·rw[df hm];exact gB l id h hm
inductive DR where
 |val (v:V) (Δ:List (Nat×aa)) (rd:List Nat)|aH (v:V) (ws rd:List Nat)
def DR.to (K:V->List (Nat×aa)->List Nat->Prop)(KX:V->List Nat->List Nat->Prop):DR->Prop
 | .val v Δ rd=>K v Δ rd
 | .aH v ws rd=>KX v ws rd
noncomputable def B5(c:CR):Option b9:=some (.c c)
noncomputable def hX(P:Program)(aI:Nat->FD)(rec:bJ)(g:Nat)(args:List V)(st:St):Option DR:=
 let rd:=reach st.o.get 2000 (V.bn args) []
 match rd.all (fun id=>Nat.blt id st.nx&&(st.o.get id).refs.all rd.contains)&&(V.bn args).all rd.contains with
 |true=>match uz P aI rec g args (.e (xy rd st.o.get)) st.nx B5 with
  |some (.c (.ret v o1 _))=>match v with
   | .a8 [_]=>none
   |v=>match aQ o1.get (l0 v)with
    |some rs=>match(cn st.o.get o1.get rd).all (fun x=>x.2.refs.all rd.contains)&&(V.aB (l0 v)).all (fun id=> !rd.contains id)with
     |true=>some (.val (fP rs) (cn st.o.get o1.get rd) rd)
     |false=>none
    |none=>none
  |some (.c (.aH v o1 _))=>match cJ o1.get v with
   |some x=>match(cn st.o.get o1.get rd).all (fun x=>x.2.refs.all rd.contains)&&v.ids.all (fun id=> !rd.contains id)with
    |true=>some (.aH (.d x) ((cn st.o.get o1.get rd).map (·.1)) rd)
    |false=>none
   |none=>none
  |_=>none
 |false=>none
noncomputable def DP(P:Program)(aI:Nat->FD)(md:iw P)(rec:bJ)(g:Nat)(args:List V)(st:St)(rd:List Nat):Option DR:=
 match aQ st.o.get args with
 |some ds=>match md.B0 g with
  |false=>match uz P aI rec g (ds.map .d) (.e fun _=> .no) 0 B5 with
   |some (.c (.ret v _ _))=>match v.refs with
    |[]=>some (.val v (bD st.o.get (V.aB args)) rd)
    |_=>none
   |_=>none
  |true=>match v7 P aI md rec g ds with
   |some (.ret rs)=>match D.fb rs with
    |true=>some (.val (fP rs) [] rd)
    |false=>some (.val (fP rs) (bD st.o.get (V.aB args)) rd)
   |some (.aH x)=>match x.flat with
    |true=>some (.aH (.d x) [] rd)
    |false=>none
   |none=>none
 |none=>hX P aI rec g args st
noncomputable def DS(P:Program)(st:St)(fr:Nat)(op:Op):Option DR:=
 match v5 op P st.S fr with
 |some (v,Δ,_)=>some (.val v Δ (ec st.S op))
 |none=>none
def V.Fe:V->Bool
 | .mp _=>true
 |_=>false
def y6{P:Program}(md:iw P)(g:Nat)(args:List V):Bool:= !md.B0 g&&args.any V.Fe
def nk(args:List V):Option (List D):=
 match V.aB args with
 |[]=>aQ (fun _=> .no) args
 |_=>none
noncomputable def wc(P:Program)(t:TypeId)(c:CR):Option b9:=
 match c with
 | .ret v o1 _=>match v with
   | .osl j ep=>match o1.get j with
     | .arr dB ty sz es=>match Nat.beq dB ep with
       |true=>BZ (.ret [.sl es, .int .i64 (ty:Nat), .int .i64 (sz:Nat)]) fun x=>some (.r x)
       |false=>none
     |_=>none
   | .b6=>match bM P t with
     |some e=>match Nat.blt 0 (P.cellsOf e)with
      |true=>BZ (.ret [.sl [], .int .i64 (e:Nat), .int .i64 (P.cellsOf e:Nat)]) fun x=>some (.r x)
      |false=>none
     |none=>none
   |_=>none
 |_=>none
noncomputable def y7(P:Program)(aI:Nat->FD)(rec:bJ)(g:Nat)(t:TypeId)(args:List V)(st:St)(fr:Nat):Option DR:=
 match nk args with
 |some ds=>match uz P aI rec g (ds.map .d) (.e fun _=> .no) 0 (wc P t)with
  |some (.r (.ret [.sl es, .int .i64 (.ofNat ty), .int .i64 (.ofNat sz)]))=>some (.val (.osl fr 0) [(fr, .arr 0 ty sz es)] [])
  |_=>none
 |none=>match aQ st.o.get args with
  |some ds=>match uz P aI rec g (ds.map .d) (.e fun _=> .no) 0 (wc P t)with
   |some (.r (.ret [.sl es, .int .i64 (.ofNat ty), .int .i64 (.ofNat sz)]))=>match D.fb es&&(V.aB args).all (fun id=>Nat.blt id st.nx)with
    |true=>some (.val (.osl fr 0) [(fr, .arr 0 ty sz es)] (V.aB args))
    |false=>none
   |_=>none
  |none=>none
noncomputable def we(P:Program)(aI:Nat->FD)(md:iw P)(rec:bJ)(st:St)(fr:Nat)(op:Op):Option DR:=
 match op with
 | .call c=>match c.callee with
   | .value f=>match st.S.ev f with
     | .func (.func g) first cap=>match y6 md g (first++c.args.toList.map st.S.ev++cap)with
       |true=>hX P aI rec g (first++c.args.toList.map st.S.ev++cap) st
       |false=>match DP P aI md rec g (first++c.args.toList.map st.S.ev++cap) st (ec st.S (.call c))with
        |some r=>some r
        |none=>y7 P aI rec g (c.argTypes.getD 0 0) (first++c.args.toList.map st.S.ev++cap) st fr
     |_=>none
   |_=>DS P st fr (.call c)
 |op=>DS P st fr op
noncomputable def B6(st:St):Option (Nat×Bool)->Option Bool
 |none=>some true
 |some (d,want)=>match st.env.get d with
  | .d (.bool b)=>some (b==want)
  | .a8 []=>some false
  |_=>none
noncomputable def l6(P:Program)(aI:Nat->FD)(md:iw P)(rec:bJ)(pr:List (List Nat)):List aT->Nat->St->Fp->List Nat->List Nat->Option (List Nat×Fp)
 |[],_,_,fp,_,ws=>some (ws,fp)
 |o::l,fr,st,fp,bad,ws=>match(pr.getD fp.length []).any (fun j=>bad.contains j)with
  |true=>l6 P aI md rec pr l (fr+1) ⟨kg st.env o.dst .bL,st.o,st.nx⟩ (fp++[([],[])]) (bad++[fp.length]) ws
  |false=>match B6 st o.gd with
   |some true=>match we P aI md rec st fr o.op with
    |some (.val v Δ rd)=>fK st.env o.dst v fun e=>lZ st.o Δ fun ob=>l6 P aI md rec pr l (fr+1) ⟨e,ob,st.nx⟩ (fp++[(rd,Δ.map (·.1))]) bad (ws++Δ.map (·.1))
    |_=>none
   |some false=>l6 P aI md rec pr l (fr+1) ⟨kg st.env o.dst (.a8 []),st.o,st.nx⟩ (fp++[([],[])]) bad ws
   |none=>none
inductive DQ where
 |fin (st:St) (fp:Fp)|aH (v:V) (wl:List Nat) (fp:Fp)
noncomputable def l7(P:Program)(aI:Nat->FD)(md:iw P)(rec:bJ)(pr:List (List Nat)):List aT->Nat->St->Fp->Option DQ
 |[],_,st,fp=>some (.fin st fp)
 |o::l,fr,st,fp=>match B6 st o.gd with
  |some true=>match we P aI md rec st fr o.op with
   |some (.val v Δ rd)=>fK st.env o.dst v fun e=>lZ st.o Δ fun ob=>Nat.fc (fr+1) fun fr=>l7 P aI md rec pr l fr ⟨e,ob,st.nx⟩ (fp++[(rd,Δ.map (·.1))])
   |some (.aH v ws rd)=>match l6 P aI md rec pr l (fr+1) ⟨kg st.env o.dst .bL,st.o,st.nx⟩ (fp++[(rd,[])]) [fp.length] (ws++fp.flatMap (·.2))with
    |some (wl,fp)=>some (.aH v wl fp)
    |none=>none
   |none=>none
  |some false=>fK st.env o.dst (.a8 []) fun e=>Nat.fc (fr+1) fun fr=>l7 P aI md rec pr l fr ⟨e,st.o,st.nx⟩ (fp++[([],[])])
  |none=>none
noncomputable def quiet(fp:Fp):Bool:=fp.all fun x=>match x.2 with|[]=>true|_=>false
noncomputable def og(m:Nat)(x:List Nat×List Nat):Nat->Fp->Bool
 |_,[]=>true
 |i,y::l=>(match y.2,x.2 with
  |[],[]=>true
  |_,_=>m.testBit i||(gQ y.2 x.1&&gQ y.2 x.2&&gQ x.2 y.1))&&og m x (i+1) l
noncomputable def rJ(ms:List Nat)(pre:Fp):Nat->Fp->Bool
 |_,[]=>true
 |j,x::l=>og (ms.getD j 0) x 0 pre&&rJ ms (pre++[x]) (j+1) l
noncomputable def B7{β:Type}:List Nat->(List Nat->β)->β
 |[],c=>c []
 |x::xs,c=>Nat.fc x fun x=>B7 xs fun xs=>c (x::xs)
theorem uK{β:Type}:∀ (x:List Nat) (c:List Nat->β),B7 x c=c x
 |[],c=>rfl
 |x::xs,c=>by simp only[B7,Nat.bb,uK xs]
noncomputable def wg{β:Type}:Fp->(Fp->β)->β
 |[],c=>c []
 |(a,b)::l,c=>B7 a fun a=>B7 b fun b=>wg l fun l=>c ((a,b)::l)
theorem rK{β:Type}:∀ (x:Fp) (c:Fp->β),wg x c=c x
 |[],c=>rfl
 |(a,b)::l,c=>by simp only[wg,uK,rK l]
noncomputable def uL(pr:List (List Nat))(fp:Fp):Bool:=match quiet fp with|true=>true|false=>wg fp fun fp=>rJ (ck pr []) [] 0 fp
theorem nm{m:Nat}{x:List Nat×List Nat}:∀ (l:Fp) (i:Nat),og m x i l=true->∀k,k<l.length->(m.testBit (i+k)||(gQ (l.getD k ([],[])).2 x.1&&gQ (l.getD k ([],[])).2 x.2&&gQ x.2 (l.getD k ([],[])).1))=true
 |[],i,_,k,hk=>by simp at hk
 |y::l,i,h,k,hk=>by
  simp only[og,Bool.and_eq_true]at h
  cases k with
  |zero=>
   have h1:=h.1
   simp only[List.getD_cons_zero,Nat.add_zero]
   split at h1
   ·rename_i e1 e2
    rw[e1,e2];simp[gQ]
   ·exact h1
  |succ k=>
   have:=nm l (i+1) h.2 k (by simpa using hk)
   rw[List.getD_cons_succ,show i+(k+1)=i+1+k by omega]
   exact this
theorem pQ{ms:List Nat}:∀ (l pre:Fp),rJ ms pre pre.length l=true->∀j,pre.length<=j->j<(pre++l).length->∀i,i<j->
 ((ms.getD j 0).testBit i||(gQ ((pre++l).getD i ([],[])).2 ((pre++l).getD j ([],[])).1&&gQ ((pre++l).getD i ([],[])).2 ((pre++l).getD j ([],[])).2&&gQ ((pre++l).getD j ([],[])).2 ((pre++l).getD i ([],[])).1))=true
 |[],pre,_,j,h1,h2,i,_=>by simp at h2;omega
 |x::l,pre,h,j,h1,h2,i,hi=>by
  simp only[rJ,Bool.and_eq_true]at h
  by_cases e:j=pre.length
  ·subst e
   have:=nm pre 0 h.1 i hi
   have e1:(pre++x::l).getD pre.length ([],[])=x:=by simp[List.getD_eq_getElem?_getD]
   have e2:(pre++x::l).getD i ([],[])=pre.getD i ([],[]):=by simp[List.getD_eq_getElem?_getD,List.getElem?_append_left hi]
   rw[e1,e2]
   simpa using this
  ·have h3:=h.2
   have:=pQ l (pre++[x]) (by simpa using h3) j (by simp;omega) (by simpa using h2) i hi
   simpa using this
noncomputable def y8(P:Program)(aI:Nat->FD)(md:iw P)(rec:bJ)(l:List aT)(pr:List (List Nat))(st:St):Option (et×St):=
 match l7 P aI md rec pr l st.nx st []with
 |some (.fin s1 fp)=>match uL pr fp with
  |true=>Nat.fc (st.nx+l.length) fun n=>some (.normal,⟨s1.env,s1.o,n⟩)
  |false=>none
 |some (.aH v wl fp)=>match uL pr fp with
  |true=>some (.aH v,⟨.e (lN (dstsOf l) wl l.length st.S).env, .e (lN (dstsOf l) wl l.length st.S).o,st.nx+l.length⟩)
  |false=>none
 |none=>none
noncomputable def B8(id:Nat)(env:Tr V)(kt:Kt)(c:CR):Option b9:=
 match c with
 | .ret _ o1 qE=>match o1.get id with
   | .loop nf m e p c d DT pd=>match DT with
     | .busy=>none
     |_=>match pd with
      |none=>kt .normal ⟨env,o1.set id (.loop nf m e p c d .exhausted pd),qE⟩
      |some .ret=>kt .ret ⟨env,o1.set id (.loop nf m e p c d .exhausted pd),qE⟩
      |some (.exit j)=>kt (.exit j) ⟨env,o1.set id (.loop nf m e p c d .exhausted pd),qE⟩
   |_=>none
 | .aH v o1 qE=>kt (.aH v) ⟨env,o1,qE⟩
noncomputable def wh(P:Program)(aI:Nat->FD)(rec:bJ)(n:Nat)(g:Operand)(ps:List Nat)(x y:IC)(st:St)(kt:Kt):Option b9:=
 match st.S.ev g with
 | .func (.func f) first cap=>uz P aI rec f (first++[.g8 st.nx]++cap) (st.o.set st.nx (.loop P.funcs.size n ((List.range n).map st.env.get) ps x y .ready none)) (st.nx+1) (B8 st.nx st.env kt)
 |_=>none
abbrev gZ:=(P:Program)->(Nat->FD)->iw P->bJ->Nat->Bool->Nat->St->Kt->Option b9
noncomputable def Ff(kt:Kt):RO->Option b9:=fun r=>match r with| .ok st=>kt .normal st| .aH v st=>kt (.aH v) st
noncomputable def Fg(l:List aT):gZ:=fun P aI md rec _ _ _ st kt=>od P aI md rec (Ff kt) l st
def nn:List Nat->Nat->Nat->Nat
 |[],_,c=>c
 |x::l,k,c=>match Nat.beq x (2^k - 1)with
  |true=>nn l (k+1) c
  |false=>nn l (k+1) (k+1)
def ju(pr:List (List Nat)):Nat:=nn (ck pr []) 0 0
noncomputable def y9(l:List aT)(pr:List (List Nat)):gZ:=fun P aI md rec _ _ _ st kt=>
 Nat.fc (ju pr) fun m=>match l7 P aI md rec pr (l.take m) st.nx st []with
 |some (.fin s1 fp)=>match uL pr fp with
  |true=>Nat.fc (st.nx+m) fun n=>match Nat.ble m l.length with
   |true=>od P aI md rec (Ff kt) (l.drop m) ⟨s1.env,s1.o,n⟩
   |false=>none
  |false=>none
 |some (.aH _ _ _)=>match y8 P aI md rec l pr st with
  |some (e,s1)=>kt e s1
  |none=>none
 |none=>none
noncomputable def qR(rec:bJ)(b:Nat)(rd:Bool)(n:Nat)(y:IC)(kt:Kt):Kt:=fun e s1=>match e with| .normal=>rec b rd n y s1 kt|e=>kt e s1
noncomputable def Fh(x y:IC):gZ:=fun _ _ _ rec b rd n st kt=>rec b rd n x st (qR rec b rd n y kt)
noncomputable def rL(a c:Option b9):Option b9:=
 match a with
 |some (.r x)=>match c with
  |some (.r y)=>match R.same x y with
   |true=>some (.r x)
   |false=>none
  |_=>none
 |_=>none
noncomputable def B9(c:Operand)(x y:IC):gZ:=fun _ _ _ rec b rd n st kt=>match st.S.ev c with
 | .d (.bool true)=>rec b rd n x st kt
 | .d (.bool false)=>rec b rd n y st kt
 | .cM=>rL (rec b rd n x st kt) (rec b rd n y st kt)
 |_=>none
noncomputable def qS(id:Nat)(kt:Kt):Kt:=fun e s1=>match e with
 | .exit j=>match Nat.beq j id with
   |true=>kt .normal s1
   |false=>kt (.exit j) s1
 |e=>kt e s1
noncomputable def za(id:Nat)(x:IC):gZ:=fun _ _ _ rec b rd n st kt=>rec b rd n x st (qS id kt)
noncomputable def Ca(x:IC):gZ:=fun _ _ _ rec b rd n st kt=>match Nat.ble b st.nx with
 |true=>rec b rd n x st (qR rec b rd n (.loop x) kt)
 |false=>none
noncomputable def zb(e:et):gZ:=fun _ _ _ _ _ _ _ st kt=>kt e st
noncomputable def Fi:gZ:=fun _ _ _ _ _ _ _ _ _=>none
noncomputable def Fj(g:Operand)(ps:List Nat)(x y:IC):gZ:=fun P aI _ rec _ rd n st kt=>match rd with
 |true=>none
 |false=>wh P aI rec n g ps x y st kt
noncomputable def xL(ic:IC):gZ:=
 match ic with
 | .skip=>zb .normal
 | .ab l=>Fg l
 | .ct l pr=>y9 l pr
 | .seq x y=>Fh x y
 | .cond c x y=>B9 c x y
 | .block id x=>za id x
 | .loop x=>Ca x
 | .exit id=>zb (.exit id)
 | .ret=>zb .ret
 | .sV g ps x y=>Fj g ps x y
 | .bad=>Fi
noncomputable def run(P:Program)(aI:Nat->FD)(md:iw P)(k:Nat):bJ:=
 Nat.rec (motive:=fun _=>bJ) (fun _ _ _ _ _ _=>none) (fun _ rec b rd n ic st kt=>xL ic P aI md rec b rd n st kt) k
theorem uM{P:Program}{aI:Nat->FD}{md:iw P}{k:Nat}:run P aI md (k+1)=fun b rd n ic st kt=>xL ic P aI md (run P aI md k) b rd n st kt:=rfl
section
variable {P:Program}{aI:Nat->FD}{md:iw P}
theorem xM(aD:P.follows .mixedOrders=true)(aX:∀g,(aI g).Ok P g){rec:bJ}(aF:cj P rec){fr:Nat}{g:Nat}{args:List V}{st:St}{r:DR}(h:hX P aI rec g args st=some r){K:V->List (Nat×aa)->List Nat->Prop}{KX:V->List Nat->List Nat->Prop}(hr:r.to K KX):
 gv P g args st.S.o st.S.nx fr K KX:=by
 unfold hX at h
 simp only at h
 generalize gM:reach st.o.get 2000 (V.bn args) []=rd at h
 split at h
 ·rename_i hc
  simp only[Bool.and_eq_true,List.all_eq_true]at hc
  obtain⟨HO,pZ⟩:=hc
  have a1:∀id∈rd,id<st.nx:=fun id ah=>Nat.le_of_ble_eq_true (HO id ah).1
  have a2:∀id∈V.bn args,id∈rd:=fun id ah=>by simpa using pZ id ah
  have a3:∀id∈rd,∀j∈(st.o.get id).refs,j∈rd:=fun id ah j hj=>by simpa using(HO id ah).2 j hj
  have a0:rd.all (fun id=>decide (id<st.S.nx))=true:=List.all_eq_true.2 fun id ah=>decide_eq_true (a1 id ah)
  have key:∀ {r:CR} {a:CR},B5 r=some (.c a)->r=a:=fun h=>by unfold B5 at h;injection h with h;injection h
  split at h
  ·rename_i v o1 qE hf
   split at h
   ·cases h
   ·rename_i v' mc
    split at h
    ·rename_i rs A9
     split at h
     ·rename_i zc
      injection h with h;subst h
      simp only[Bool.and_eq_true,List.all_eq_true]at zc
      refine⟨rd,_,a0, .inl ⟨rs,ua.im a1 a2 a3 (fun x hx=>(dN rd x hx).1) (fun x hx j hj=>by simpa using zc.1 x hx j hj) (gA aD aX aF hf fun r nC=> ?_),hr⟩⟩
      rw[key nC]
      refine⟨fun id ah=>ki ah,l0 v,rs, ?_,A9,rfl,fun id ah=>by simpa using zc.2 id ah⟩
      cases v with
      |a8 vs=>
       match vs,mc with
       |[],_=>rfl
       |[x],hv=>exact absurd rfl (hv x)
       |_::_::_,_=>rfl
      |_=>rfl
     ·cases h
    ·cases h
  ·rename_i v o1 qE hf
   split at h
   ·rename_i x hx
    split at h
    ·rename_i zc
     injection h with h;subst h
     simp only[Bool.and_eq_true,List.all_eq_true]at zc
     refine⟨rd,cn st.o.get o1.get rd,a0, .inr (.inl ⟨x,ua.im a1 a2 a3 (fun x hx=>(dN rd x hx).1) (fun x hx j hj=>by simpa using zc.1 x hx j hj) (gA aD aX aF hf fun r nC=> ?_),hr⟩)⟩
     rw[key nC]
     exact⟨fun id ah=>ki ah,x,hx,rfl,fun id ah=>by simpa using zc.2 id ah⟩
    ·cases h
   ·cases h
  ·cases h
 ·cases h
theorem zd(aD:P.follows .mixedOrders=true)(aX:∀g,(aI g).Ok P g){rec:bJ}(aF:cj P rec){g:Nat}{args:List V}{st:St}{rd:List Nat}{ds:List D}(dg:aQ st.o.get args=some ds){r:DR}(h:DP P aI md rec g args st rd=some r)
 {K:V->List (Nat×aa)->List Nat->Prop} {KX:V->List Nat->List Nat->Prop} (hr:r.to K KX):
 nb P g ds (fun v=>K v (bD st.S.o (V.aB args)) rd) (fun v=>K v [] rd) (fun v=>KX v [] rd):=by
 unfold DP at h
 simp only[dg]at h
 split at h
 ·split at h
  ·rename_i v o1 qE Cb
   split at h
   ·rename_i KZ
    injection h with h;subst h
    exact .inr (.inr ⟨v,Bw.im KZ (gA aD aX aF Cb fun r nC=>by unfold B5 at nC;injection nC with nC;injection nC with nC;rw[nC];exact rfl),hr⟩)
   ·cases h
  ·cases h
 ·split at h
  ·rename_i rs uI
   have hP:=oe aD aX aF uI
   split at h
   ·rename_i hf
    injection h with h;subst h
    exact .inl ⟨rs,hP, .inr ⟨hf,hr⟩⟩
   ·injection h with h;subst h
    exact .inl ⟨rs,hP, .inl hr⟩
  ·rename_i x uI
   have hP:=oe aD aX aF uI
   split at h
   ·rename_i hf
    injection h with h;subst h
    exact .inr (.inl ⟨x,hP,hf,hr⟩)
   ·cases h
  ·cases h
theorem rM{t ty:TypeId}{sz:Nat}{es:List D}{r:CR}(h:wc P t r=some (.r (.ret [.sl es, .int .i64 (.ofNat ty), .int .i64 (.ofNat sz)]))):
 r.to (fun v o1 _=>(∃j ep,v= .osl j ep/\o1 j= .arr ep ty sz es)\/(v= .b6/\es=[]/\0<sz)) (fun _ _ _=>False):=by
 unfold wc at h
 split at h
 ·rename_i v o1 n1
  split at h
  ·rename_i j ep
   split at h
   ·rename_i dB Fk gR es' ho
    split at h
    ·rename_i he
     have he:=Nat.eq_of_beq_eq_true he
     subst he
     rw[qQ]at h
     simp only[Option.some.injEq,b9.r.injEq,R.ret.injEq,List.cons.injEq,D.sl.injEq,D.int.injEq,true_and,and_true]at h
     obtain⟨rfl,h2,h3⟩:=h
     have h2:Fk=ty:=Int.ofNat.inj h2
     have h3:gR=sz:=Int.ofNat.inj h3
     subst h2;subst h3
     exact .inl ⟨j,dB,rfl,ho⟩
    ·cases h
   ·cases h
  ·split at h
   ·rename_i e he
    split at h
    ·rename_i hp
     rw[qQ]at h
     simp only[Option.some.injEq,b9.r.injEq,R.ret.injEq,List.cons.injEq,D.sl.injEq,D.int.injEq,true_and,and_true]at h
     obtain⟨rfl,h2,h3⟩:=h
     have h3:P.cellsOf e=sz:=Int.ofNat.inj h3
     subst h3
     exact .inr ⟨rfl,rfl,Nat.blt_eq.mp hp⟩
    ·cases h
   ·cases h
  ·cases h
 ·cases h
theorem wk(aD:P.follows .mixedOrders=true)(aX:∀g,(aI g).Ok P g){rec:bJ}(aF:cj P rec){fr:Nat}{g:Nat}{t:TypeId}{args:List V}{st:St}{r:DR}(h:y7 P aI rec g t args st fr=some r){K:V->List (Nat×aa)->List Nat->Prop}{KX:V->List Nat->List Nat->Prop}(hr:r.to K KX):
 gv P g args st.S.o st.S.nx fr K KX:=by
 unfold y7 at h
 split at h
 ·rename_i ds dg
  split at h
  ·rename_i es ty sz Cb
   injection h with h;subst h
   unfold nk at dg
   split at dg
   ·rename_i ah
    exact⟨[],_,by simp, .inr (.inr ⟨_,qC.wb ah dg (qC.y0 (gA aD aX aF Cb fun r nC=>rM nC)),hr⟩)⟩
   ·cases dg
  ·cases h
 ·split at h
  ·rename_i ds dg
   split at h
   ·rename_i es ty sz Cb
    split at h
    ·rename_i hc
     injection h with h;subst h
     simp only[Bool.and_eq_true]at hc
     refine⟨V.aB args,_, ?_, .inr (.inr ⟨_,qC.wa dg hc.1 (gA aD aX aF Cb fun r nC=>rM nC),hr⟩)⟩
     exact List.all_eq_true.2 fun id ah=>decide_eq_true (Nat.blt_eq.mp (List.all_eq_true.1 hc.2 id ah))
    ·cases h
   ·cases h
  ·cases h
theorem oh(aD:P.follows .mixedOrders=true)(aX:∀g,(aI g).Ok P g){rec:bJ}(aF:cj P rec){st:St}{fr:Nat}{o:aT}{r:DR}(h:we P aI md rec st fr o.op=some r){K:V->List (Nat×aa)->List Nat->Prop}{KX:V->List Nat->List Nat->Prop}(hr:r.to K KX):
 s5 P st.S fr o K KX:=by
 have hs:DS P st fr o.op=some r->(match dG P st.S fr o.op with|some (v,Δ,_)=>K v Δ (ec st.S o.op)|none=>False):=by
  intro h
  unfold DS at h
  split at h
  ·rename_i v Δ rd he
   injection h with h;subst h
   simp only[rD he]
   exact hr
  ·cases h
 unfold we at h
 unfold s5
 split at h
 ·rename_i c hc
  simp only[hc]
  split at h
  ·rename_i f hf
   simp only[hf]
   split at h
   ·rename_i g first cap hv
    simp only[hv]
    split at h
    ·have hh:=xM aD aX aF h hr (fr:=fr)
     split
     ·exact .inr hh
     ·exact hh
    split at h
    ·rename_i r' ye
     injection h with h;subst h
     cases dg:aQ st.S.o (first++List.map st.S.ev c.args.toList++cap)with
     |some ds=>exact .inl (zd aD aX aF dg ye hr)
     |none=>
      have yY:aQ st.o.get (first++List.map st.S.ev c.args.toList++cap)=none:=dg
      unfold DP at ye
      simp only[yY]at ye
      exact xM aD aX aF ye hr
    ·have hh:=wk aD aX aF (st:=st) h hr
     split
     ·exact .inr hh
     ·exact hh
   ·cases h
  ·rename_i bY
   rw[<- hc]at h
   have:=hs h
   rw[hc]at this
   split
   ·rename_i f hf;exact absurd hf (bY f)
   ·exact this
 ·rename_i hc
  have:=hs h
  split
  ·rename_i c hh;exact absurd hh (hc c)
  ·exact this
def DU(s:S)(gd:Option (Nat×Bool))(A B:Prop):Prop:=
 match gd with
 |none=>A
 |some (d,want)=>match s.env d with
  | .d (.bool b)=>if b=want then A else B
  | .a8 []=>B
  |_=>False
theorem oi{st:St}{gd:Option (Nat×Bool)}{t:Bool}(h:B6 st gd=some t){A B:Prop}(hA:t=true->A)(hB:t=false->B):DU st.S gd A B:=by
 cases gd with
 |none=>simp only[B6,Option.some.injEq]at h;exact hA h.symm
 |some p=>
  obtain⟨d,want⟩:=p
  have he:st.S.env d=st.env.get d:=rfl
  simp only[B6]at h
  simp only[DU,he]
  split at h
  ·rename_i b hb
   injection h with h
   by_cases e:b=want
   ·rw[if_pos e];exact hA (by rw[<- h,e];simp)
   ·rw[if_neg e];exact hB (by rw[<- h];simpa using e)
  ·rename_i hb
   injection h with h
   exact hB h.symm
  ·cases h
theorem wm{P:Program}{KB:List Nat->Fp->Prop}{pr:List (List Nat)}{o:aT}{l:List aT}{fr:Nat}{s:S}{fp:Fp}{bad ws:List Nat}(hb:(pr.getD fp.length []).any (fun j=>bad.contains j)=false)
 (h:DU s o.gd (s5 P s fr o (fun v Δ rd=>ez P KB pr l (fr+1) ⟨ay s.env o.dst v,put s.o Δ,s.nx⟩ (fp++[(rd,Δ.map (·.1))]) bad (ws++Δ.map (·.1))) (fun _ _ _=>False)) (ez P KB pr l (fr+1) ⟨ay s.env o.dst (.a8 []),s.o,s.nx⟩ (fp++[([],[])]) bad ws)):
 ez P KB pr (o::l) fr s fp bad ws:=by
 simp only[ez]
 rw[if_neg (by rw[hb];simp)]
 cases hg:o.gd with
 |none=>rw[hg]at h;exact h
 |some p=>obtain⟨d,want⟩:=p;rw[hg]at h;exact h
theorem wo{P:Program}{K:S->Fp->Prop}{KP:V->List Nat->Fp->Prop}{pr:List (List Nat)}{o:aT}{l:List aT}{fr:Nat}{s:S}{fp:Fp}
 (h:DU s o.gd (s5 P s fr o (fun v Δ rd=>fJ P K KP pr l (fr+1) ⟨ay s.env o.dst v,put s.o Δ,s.nx⟩ (fp++[(rd,Δ.map (·.1))]))
  (fun v ws rd=>ez P (KP v) pr l (fr+1) ⟨ay s.env o.dst .bL,s.o,s.nx⟩ (fp++[(rd,[])]) [fp.length] (ws++fp.flatMap (·.2)))) (fJ P K KP pr l (fr+1) ⟨ay s.env o.dst (.a8 []),s.o,s.nx⟩ (fp++[([],[])]))):
 fJ P K KP pr (o::l) fr s fp:=by
 simp only[fJ]
 cases hg:o.gd with
 |none=>rw[hg]at h;exact h
 |some p=>obtain⟨d,want⟩:=p;rw[hg]at h;exact h
theorem jv(aD:P.follows .mixedOrders=true)(aX:∀g,(aI g).Ok P g){rec:bJ}(aF:cj P rec){pr:List (List Nat)}{wl:List Nat}{Fl:Fp}{KB:List Nat->Fp->Prop}(hK:KB wl Fl):
 ∀ (l:List aT) (fr:Nat) (st:St) (fp:Fp) (bad ws:List Nat),l6 P aI md rec pr l fr st fp bad ws=some (wl,Fl)->ez P KB pr l fr st.S fp bad ws
 |[],fr,st,fp,bad,ws,h=>by
  simp only[l6,Option.some.injEq,Prod.mk.injEq]at h
  obtain⟨rfl,rfl⟩:=h;exact hK
 |o::l,fr,st,fp,bad,ws,h=>by
  simp only[l6,ed,gz]at h
  split at h
  ·rename_i hb
   simp only[ez]
   rw[if_pos hb]
   have:=jv aD aX aF hK l _ _ _ _ _ h
   simp only[St.S,cf]at this
   exact this
  ·rename_i hb
   refine wm hb ?_
   split at h
   ·rename_i hg
    refine oi hg (fun _=> ?_) (fun h=>by cases h)
    split at h
    ·rename_i v Δ rd bE
     refine oh aD aX aF bE ?_
     have:=jv aD aX aF hK l _ _ _ _ _ h
     simp only[St.S,cf,eA]at this
     exact this
    ·cases h
   ·rename_i hg
    refine oi hg (fun h=>by cases h) (fun _=> ?_)
    have:=jv aD aX aF hK l _ _ _ _ _ h
    simp only[St.S,cf]at this
    exact this
   ·cases h
def DQ.to (K:S->Fp->Prop)(KP:V->List Nat->Fp->Prop):DQ->Prop
 | .fin st fp=>K st.S fp
 | .aH v wl fp=>KP v wl fp
theorem gC(aD:P.follows .mixedOrders=true)(aX:∀g,(aI g).Ok P g){rec:bJ}(aF:cj P rec){pr:List (List Nat)}{q:DQ}{K:S->Fp->Prop}{KP:V->List Nat->Fp->Prop}(hq:q.to K KP):
 ∀ (l:List aT) (fr:Nat) (st:St) (fp:Fp),l7 P aI md rec pr l fr st fp=some q->fJ P K KP pr l fr st.S fp
 |[],fr,st,fp,h=>by
  simp only[l7,Option.some.injEq]at h
  subst h;exact hq
 |o::l,fr,st,fp,h=>by
  simp only[l7,ed,gz,Nat.bb]at h
  refine wo ?_
  split at h
  ·rename_i hg
   refine oi hg (fun _=> ?_) (fun h=>by cases h)
   split at h
   ·rename_i v Δ rd bE
    refine oh aD aX aF bE ?_
    have:=gC aD aX aF hq l _ _ _ h
    simp only[St.S,cf,eA]at this
    exact this
   ·rename_i v ws rd bE
    split at h
    ·rename_i wl Fl hb
     injection h with h;subst h
     refine oh aD aX aF bE ?_
     have:=jv aD aX aF (KB:=KP v) hq l _ _ _ _ _ hb
     simp only[St.S,cf]at this
     exact this
    ·cases h
   ·cases h
  ·rename_i hg
   refine oi hg (fun h=>by cases h) (fun _=> ?_)
   have:=gC aD aX aF hq l _ _ _ h
   simp only[St.S,cf]at this
   exact this
  ·cases h
theorem oj{pr:List (List Nat)}{fp:Fp}(h:uL pr fp=true):fS pr fp=true:=by
 unfold uL at h
 split at h
 ·rename_i hq
  unfold quiet at hq
  have hz:∀i,(fp.getD i ([],[])).2=[]:=by
   intro i
   rw[List.getD_eq_getElem?_getD]
   cases hx:fp[i]? with
   |none=>rfl
   |some x=>
    have:=List.all_eq_true.1 hq x (List.mem_of_getElem? hx)
    simp only[Option.getD_some]
    split at this
    ·rename_i e;exact e
    ·cases this
  unfold fS
  simp only[hz,gQ,List.all_nil,Bool.and_self,Bool.or_true]
  simp
 ·rw[rK]at h
  unfold fS
  rw[List.all_eq_true]
  intro j hj
  rw[List.all_eq_true]
  intro i hi
  exact pQ fp [] h j (Nat.zero_le _) (by simpa using hj) i (by simpa using hi)
theorem l8:∀ (l:List Nat) (k c:Nat),c<=k->c<=nn l k c/\∀i x,l[i]? =some x->nn l k c<=k+i->x=2^(k+i) - 1
 |[],_,c,_=>⟨Nat.le_refl _,fun i x h=>by simp at h⟩
 |y::l,k,c,hc=>by
  simp only[nn]
  split
  ·rename_i he
   obtain⟨h1,h2⟩:=l8 l (k+1) c (by omega)
   refine⟨h1,fun i x hi hle=> ?_⟩
   cases i with
   |zero=>simp at hi;subst hi;simpa using Nat.eq_of_beq_eq_true he
   |succ i=>
    have:=h2 i x (by simpa using hi) (by omega)
    rw[this,show k+(i+1)=k+1+i by omega]
  ·obtain⟨h1,h2⟩:=l8 l (k+1) (k+1) (Nat.le_refl _)
   refine⟨by omega,fun i x hi hle=> ?_⟩
   cases i with
   |zero=>omega
   |succ i=>
    have:=h2 i x (by simpa using hi) (by omega)
    rw[this,show k+(i+1)=k+1+i by omega]
theorem np:∀ (pr:List (List Nat)) (acc:List Nat),(ck pr acc).length=acc.length+pr.length
 |[],acc=>by simp[ck]
 |ps::l,acc=>by simp only[ck,np l,List.length_append,List.length_cons,List.length_nil];omega
theorem uN(pr:List (List Nat)):uh pr (ju pr)=true:=by
 refine List.all_eq_true.2 fun k hk=> ?_
 have hk:k<pr.length:=by simpa using hk
 by_cases h:k<ju pr
 ·simp[Nat.blt_eq.mpr h]
 ·have hl:k<(ck pr []).length:=by rw[np];simpa using hk
  have:=(l8 (ck pr []) 0 0 (Nat.le_refl _)).2 k _ (List.getElem?_eq_getElem hl) (by rw[Nat.zero_add];exact Nat.le_of_not_lt h)
  rw[Nat.zero_add]at this
  rw[List.getD_eq_getElem?_getD,List.getElem?_eq_getElem hl,Option.getD_some,this]
  simp
theorem wq(aD:P.follows .mixedOrders=true)(aX:∀g,(aI g).Ok P g){rec:bJ}(aF:cj P rec){l:List aT}{pr:List (List Nat)}{st st':St}{e:et}(h:y8 P aI md rec l pr st=some (e,st')){Q:et->S->Prop}(hQ:Q e st'.S):
 fJ P (qL pr (st.S.nx+l.length) Q) (pE pr l st.S Q) pr l st.S.nx st.S []:=by
 unfold y8 at h
 split at h
 ·rename_i s1 fp hd
  split at h
  ·rename_i hf
   simp only[Nat.bb,Option.some.injEq,Prod.mk.injEq]at h
   obtain⟨rfl,rfl⟩:=h
   exact gC aD aX aF (q:= .fin s1 fp) (K:=qL pr (st.S.nx+l.length) Q) (KP:=pE pr l st.S Q) (show qL pr (st.S.nx+l.length) Q s1.S fp from⟨oj hf,hQ⟩) l _ _ _ hd
  ·cases h
 ·rename_i v wl fp hd
  split at h
  ·rename_i hf
   simp only[Option.some.injEq,Prod.mk.injEq]at h
   obtain⟨rfl,rfl⟩:=h
   exact gC aD aX aF (q:= .aH v wl fp) (K:=qL pr (st.S.nx+l.length) Q) (KP:=pE pr l st.S Q) (show pE pr l st.S Q v wl fp from⟨oj hf,hQ⟩) l _ _ _ hd
  ·cases h
 ·cases h
theorem wu(aD:P.follows .mixedOrders=true)(aX:∀g,(aI g).Ok P g){rec:bJ}(aF:cj P rec){n:Nat}{g:Operand}{ps:List Nat}{x y:IC}{st:St}{kt:Kt}{a:b9}(h:wh P aI rec n g ps x y st kt=some a){Q:et->S->Prop}(hQ:∀e st',kt e st'=some a->Q e st'.S):
 qs P n (st.S.ev g) ps x y Q st.S:=by
 unfold wh at h
 refine⟨(List.range n).map st.env.get,fun i=> ?_, ?_⟩
 ·unfold eX
  simp only[List.getD_eq_getElem?_getD,List.getElem?_map]
  by_cases hi:i<n
  ·right;rw[List.getElem?_range hi];rfl
  ·left;rw[List.getElem?_eq_none (by simp;omega)];rfl
 ·split at h
  ·rename_i f first cap hv
   simp only[hv]
   refine .inl ?_
   have key:=fun {K X} hr=>gA (K:=K) (X:=X) aD aX aF h hr
   simp only[Tr.dY]at key
   refine key fun r hr=> ?_
   unfold B8 at hr
   cases r with
   |ret v o1 qE=>
    simp only at hr
    split at hr
    ·rename_i nf m e p c d DT pd ho
     have hl:DT≠ .busy:=by
      intro hb;subst hb;cases hr
     refine⟨nf,m,e,p,c,d,DT,pd,ho,hl, ?_⟩
     split at hr
     ·cases hr
     ·split at hr<;>(have h3:=hQ _ _ hr;simp only[yo];simp only[St.S,Tr.dY]at h3;exact h3)
    ·cases hr
   |aH v o1 qE=>exact hQ _ _ hr
  ·cases h
theorem p4.same {b:Nat}{s:S}(h:b<=s.nx):p4 b s s:=fun _ φ _ _ h1 h2=>⟨φ,h1,h2,fun _ h=>h,h,fun _ _ hr=>⟨hr,rfl⟩,fun _ e' _ he=>⟨e',he,Nat.le_refl _,fun _=>rfl⟩⟩
theorem uO{x y:Option b9}{a:b9}(h:rL x y=some a):x=some a/\y=some a:=by
 unfold rL at h
 split at h
 ·rename_i r
  split at h
  ·rename_i r'
   split at h
   ·rename_i hs
    injection h with h;subst h
    rw[R.bX hs]
    exact⟨rfl,rfl⟩
   ·cases h
  ·cases h
 ·cases h
theorem ze(aD:P.follows .mixedOrders=true)(aX:∀g,(aI g).Ok P g):∀k,∀j,j<=k->cj P (run P aI md j):=by
 intro k
 induction k with
 |zero=>intro j hj b rd n ic st kt a h;obtain rfl:j=0:=by omega
        cases h
 |succ k ih=>
  intro j hj b rd n ic st kt a h Q hQ
  cases j with
  |zero=>cases h
  |succ j=>
   have aF:cj P (run P aI md j):=ih j (by omega)
   rw[uM]at h
   cases ic with
   |skip=>exact hQ _ _ h
   |exit id=>exact hQ _ _ h
   |ret=>exact hQ _ _ h
   |bad=>cases h
   |ab l=>
    have h:od P aI md (run P aI md j) (Ff kt) l st=some a:=h
    exact kU aD aX aF (K:=Q .normal) (X:=fun v s=>Q (.aH v) s) (fun r hr=>by
     cases r with
     |ok yZ=>exact hQ .normal _ hr
     |aH v yZ=>exact hQ (.aH v) _ hr) l _ h
   |ct l pr=>
    have h:y9 l pr P aI md (run P aI md j) b rd n st kt=some a:=h
    unfold y9 at h
    rw[Nat.bb]at h
    split at h
    ·rename_i s1 fp hd
     split at h
     ·rename_i hf
      rw[Nat.bb]at h
      split at h
      ·rename_i vH
       refine .inr ⟨ju pr,Nat.le_of_ble_eq_true vH,uN pr, ?_⟩
       refine gC aD aX aF (q:= .fin s1 fp) (K:=fun s' fp=>fS pr fp=true/\jO P (fun v s=>Q (.aH v) s) (Q .normal) (l.drop (ju pr)) ⟨s'.env,s'.o,st.S.nx+ju pr⟩) (KP:=fun _ _ _=>False) (show _/\_ from⟨oj hf, ?_⟩) (l.take (ju pr)) _ _ _ hd
       exact kU aD aX aF (K:=Q .normal) (X:=fun v s=>Q (.aH v) s) (fun r hr=>by
        cases r with
        |ok yZ=>exact hQ .normal _ hr
        |aH v yZ=>exact hQ (.aH v) _ hr) (l.drop (ju pr)) ⟨s1.env,s1.o,st.nx+ju pr⟩ h
      ·cases h
     ·cases h
    ·split at h
     ·rename_i e s1 h1
      exact .inl (wq aD aX aF h1 (hQ _ _ h))
     ·cases h
    ·cases h
   |seq x y=>
    have h:run P aI md j b rd n x st (qR (run P aI md j) b rd n y kt)=some a:=h
    simp only[mf]
    refine aF _ _ _ _ _ _ _ h _ fun e s1 he=> ?_
    unfold qR at he
    cases e with
    |normal=>exact aF _ _ _ _ _ _ _ he _ hQ
    |_=>exact hQ _ _ he
   |cond c x y=>
    have h:(match st.S.ev c with| .d (.bool true)=>run P aI md j b rd n x st kt| .d (.bool false)=>run P aI md j b rd n y st kt| .cM=>rL (run P aI md j b rd n x st kt) (run P aI md j b rd n y st kt)|_=>none)=some a:=h
    simp only[mf]
    split at h
    ·rename_i hv
     simp only[hv]
     exact(lL _ _).mpr (aF _ _ _ _ _ _ _ h _ hQ)
    ·rename_i hv
     simp only[hv]
     exact(j9 _ _).mpr (aF _ _ _ _ _ _ _ h _ hQ)
    ·rename_i hv
     simp only[hv]
     obtain⟨h1,h2⟩:=uO h
     exact⟨aF _ _ _ _ _ _ _ h1 _ hQ,aF _ _ _ _ _ _ _ h2 _ hQ⟩
    ·cases h
   |block id x=>
    have h:run P aI md j b rd n x st (qS id kt)=some a:=h
    simp only[mf]
    refine aF _ _ _ _ _ _ _ h _ fun e s1 he=> ?_
    unfold qS at he
    cases e with
    |exit j'=>
     simp only at he
     split at he
     ·rename_i hb
      simp only[cV,Nat.eq_of_beq_eq_true hb,if_true];exact hQ _ _ he
     ·rename_i hb
      simp only[cV,Nat.ne_of_beq_eq_false hb,if_false];exact hQ _ _ he
    |_=>exact hQ _ _ he
   |loop x=>
    have Fm:∀m xN,run P aI md (m+1) b rd n (.loop x) xN kt=some a->b<=xN.nx/\run P aI md m b rd n x xN (qR (run P aI md m) b rd n (.loop x) kt)=some a:=by
     intro m xN h
     have h:(match Nat.ble b xN.nx with|true=>run P aI md m b rd n x xN (qR (run P aI md m) b rd n (.loop x) kt)|false=>none)=some a:=h
     split at h
     ·rename_i hb;exact⟨Nat.le_of_ble_eq_true hb,h⟩
     ·cases h
    have h:run P aI md (j+1) b rd n (.loop x) st kt=some a:=h
    refine⟨fun m s=>m<=k+1/\∃st,s=st.S/\run P aI md m b rd n (.loop x) st kt=some a,⟨j+1,st.S,p4.same (Fm j st h).1,hj,st,rfl,h⟩, ?_⟩
    rintro m s0 ⟨hm,xN,rfl,h0⟩
    cases m with
    |zero=>cases h0
    |succ m=>
     have Cc:cj P (run P aI md m):=ih m (by omega)
     refine Cc _ _ _ _ _ _ _ (Fm m xN h0).2 _ fun e s1 he=> ?_
     unfold qR at he
     cases e with
     |normal=>
      refine⟨m,s1.S,Nat.lt_succ_self _,p4.same ?_,by omega,s1,rfl,he⟩
      cases m with
      |zero=>cases he
      |succ m=>exact(Fm m s1 he).1
     |_=>exact hQ _ _ he
   |sV g ps x y=>
    cases rd with
    |true=>
     have h:(none:Option b9)=some a:=h
     cases h
    |false=>
     have h:wh P aI (run P aI md j) n g ps x y st kt=some a:=h
     exact⟨rfl,wu aD aX aF h hQ⟩
noncomputable def eU(P:Program)(aI:Nat->FD)(md:iw P)(k:Nat)(g:Nat)(ds:List D):Option R:=
 match uz P aI (run P aI md k) g (ds.map .d) (.e fun _=> .no) 0 pM with
 |some (.r x)=>some x
 |_=>none
theorem c0.bZ (aD:P.follows .mixedOrders=true)(aX:∀g,(aI g).Ok P g){k g:Nat}{ds:List D}{out:R}(h:eU P aI md k g ds=some out):c0 P g ds out:=by
 unfold eU at h
 split at h
 ·rename_i x hr;injection h with h;subst h;exact pN aD aX (ze aD aX k k (Nat.le_refl _)) hr
 ·cases h
end
end Go.Proofs.YtbmnikpknlkbkaaGreat
namespace Go.Proofs.YtbmnikpknlkbkaaGreat
def Tr.uP {α:Type}(p:Nat->α->Prop):Tr α->(Nat->Nat)->Prop
 | .e g,f=>∀i,p (f i) (g i)
 | .n x l r,f=>p (f 0) x/\uP p l (fun i=>f (2*i+1))/\uP p r (fun i=>f (2*i+2))
theorem Tr.om {α:Type}{p:Nat->α->Prop}:∀ {f:Nat->Nat} (t:Tr α),t.uP p f->∀k,p (f k) (t.get k)
 |f, .e g,h,k=>h k
 |f, .n x l r,h,k=>by
  obtain⟨h1,h2,h3⟩:=h
  rw[Tr.lW]
  split
  ·rename_i e;subst e;exact h1
  ·split
   ·have:=Tr.om l h2 (k/2)
    rwa [show 2*(k/2)+1=k by omega]at this
   ·have:=Tr.om r h3 (k/2 - 1)
    rwa [show 2*(k/2 - 1)+2=k by omega]at this
end Go.Proofs.YtbmnikpknlkbkaaGreat
namespace Go.Proofs.YtbmnikpknlkbkaaGreat
@[reducible] def mv (d s:Nat):aT:=⟨some d, .move (.tmp s),none⟩
@[reducible] def fQ (d:Nat) (n:Int):aT:=⟨some d, .move (.const (.int .i64 n)),none⟩
@[reducible] def sg (d s:Nat):aT:=⟨some d, .assign (.tmp s),none⟩
@[reducible] def cC (d:Nat) (n:Int):aT:=⟨some d, .assign (.const (.int .i64 n)),none⟩
@[reducible] def a7 (d:Nat) (b:Bool):aT:=⟨some d, .assign (.const (.bool b)),none⟩
@[reducible] def ld (d t s:Nat):aT:=⟨some d, .load t (.tmp s),none⟩
@[reducible] def st (t a b:Nat):aT:=⟨none, .store t (.tmp a) (.tmp b),none⟩
@[reducible] def fa (d t s f:Nat):aT:=⟨some d, .fieldAddr t (.tmp s) f,none⟩
@[reducible] def ex (d s i:Nat):aT:=⟨some d, .extract (.tmp s) i,none⟩
@[reducible] def cR (d c a:Nat):aT:=⟨some d, .pick (.tmp c) (.tmp a) (.const (.bool false)),none⟩
@[reducible] def dz (d c a:Nat):aT:=⟨some d, .pick (.tmp c) (.const (.bool true)) (.tmp a),none⟩
@[reducible] def ia (d t x i:Nat):aT:=⟨some d, .indexAddr t (.tmp x) (.tmp i),none⟩
@[reducible] def bx (d t s:Nat):aT:=⟨some d, .box t (.tmp s),none⟩
@[reducible] def al (d t:Nat):aT:=⟨some d, .alloc t,none⟩
@[reducible] def ln (d s t:Nat):aT:=⟨some d, .call {callee:= .builtin .len,args:=#[.tmp s],argTypes:=#[t]},none⟩
@[reducible] def k0 (d f:Nat):aT:=⟨some d, .call {callee:= .value (.func f),args:=#[],argTypes:=#[]},none⟩
@[reducible] def k1 (d f a t:Nat):aT:=⟨some d, .call {callee:= .value (.func f),args:=#[.tmp a],argTypes:=#[t]},none⟩
@[reducible] def k2 (d f a b t u:Nat):aT:=⟨some d, .call {callee:= .value (.func f),args:=#[.tmp a, .tmp b],argTypes:=#[t,u]},none⟩
@[reducible] def k3 (d f a b c t u v:Nat):aT:=⟨some d, .call {callee:= .value (.func f),args:=#[.tmp a, .tmp b, .tmp c],argTypes:=#[t,u,v]},none⟩
@[reducible] def bo (op:BinOp) (d t x y u:Nat):aT:=⟨some d, .binOp op t (.tmp x) (.tmp y) u,none⟩
@[reducible] def bk (op:BinOp) (d t x:Nat) (n:Int) (u:Nat):aT:=⟨some d, .binOp op t (.tmp x) (.const (.int .i64 n)) u,none⟩
@[reducible] def nt (d t s:Nat):aT:=⟨some d, .unOp .not t (.tmp s),none⟩
@[reducible] def nc (d s:Nat):aT:=⟨some d, .nilCheck (.tmp s),none⟩
@[reducible] def gT (o:aT) (g:Nat):aT:=⟨o.dst,o.op,some (g,true)⟩
@[reducible] def gF (o:aT) (g:Nat):aT:=⟨o.dst,o.op,some (g,false)⟩
attribute [go_sem] mv fQ sg cC a7 ld st fa ex cR dz ia bx al ln k0 k1 k2 k3 bo bk nt nc gT gF
end Go.Proofs.YtbmnikpknlkbkaaGreat
