/-
  A PART OF THE PROOF. Conditions: none.
-/
import Derived.Test.YtpkobkdgcanmjaaGreatLv10
set_option linter.unusedSimpArgs false
set_option linter.unusedVariables false
namespace Go.Proofs.YtpkobkdgcanmjaaGreat
mutual
def V.same:V->V->Bool
 | .d x, .d y=>x.same y
 | .aM, .aM=>true
 | .ak, .ak=>true
 | .agg a, .agg b=>V.ek a b
 | .ptr i o, .ptr j p=>Nat.beq i j&&Nat.beq o p
 | .osl i o, .osl j p=>Nat.beq i j&&Nat.beq o p
 | .kQ a, .kQ b=>D.ek a b
 | .iface t x, .iface u y=>Nat.beq t u&&x.same y
 | .mp i, .mp j=>Nat.beq i j
 |_,_=>false
def V.ek:List V->List V->Bool
 |[],[]=>true
 |a::bH,b::bs=>a.same b&&V.ek bH bs
 |_,_=>false
end
mutual
theorem V.da:∀ (x y:V),x.same y=true->x=y
 | .d x,y,h=>by cases y<;>simp only[V.same,Bool.false_eq_true]at h;rw[D.da _ _ h]
 | .aM,y,h=>by cases y<;>simp_all[V.same]
 | .ak,y,h=>by cases y<;>simp_all[V.same]
 | .agg a,y,h=>by cases y<;>simp only[V.same,Bool.false_eq_true]at h;rw[V.cK _ _ h]
 | .ptr i o,y,h=>by
   cases y<;>simp only[V.same,Bool.false_eq_true,Bool.and_eq_true]at h
   rw[Nat.eq_of_beq_eq_true h.1,Nat.eq_of_beq_eq_true h.2]
 | .osl i o,y,h=>by
   cases y<;>simp only[V.same,Bool.false_eq_true,Bool.and_eq_true]at h
   rw[Nat.eq_of_beq_eq_true h.1,Nat.eq_of_beq_eq_true h.2]
 | .kQ a,y,h=>by cases y<;>simp only[V.same,Bool.false_eq_true]at h;rw[D.cK _ _ h]
 | .iface t x,y,h=>by
   cases y<;>simp only[V.same,Bool.false_eq_true,Bool.and_eq_true]at h
   rw[Nat.eq_of_beq_eq_true h.1,V.da _ _ h.2]
 | .mp i,y,h=>by
   cases y<;>simp only[V.same,Bool.false_eq_true]at h
   rw[Nat.eq_of_beq_eq_true h]
 | .bQ _,y,h| .pe _ _ _ _ _,y,h| .pp _ _,y,h| .func _ _ _,y,h| .oo _ _ _,y,h| .dB,y,h| .j7 _,y,h=>by simp[V.same]at h
theorem V.cK:∀ (x y:List V),V.ek x y=true->x=y
 |[],y,h=>by cases y<;>simp_all[V.ek]
 |a::bH,y,h=>by
  cases y<;>simp only[V.ek,Bool.false_eq_true,Bool.and_eq_true]at h
  rw[V.da _ _ h.1,V.cK _ _ h.2]
end
def pE:List (D×D)->List (D×D)->Bool
 |[],[]=>true
 |(a,b)::l,(c,d)::m=>a.same c&&(b.same d&&pE l m)
 |_,_=>false
theorem pF:∀ (l m:List (D×D)),pE l m=true->l=m
 |[],m,h=>by cases m<;>simp_all[pE]
 |(a,b)::l,m,h=>by
  cases m with
  |nil=>simp[pE]at h
  |cons p m=>
   obtain⟨c,d⟩:=p
   simp only[pE,Bool.and_eq_true]at h
   rw[D.da _ _ h.1,D.da _ _ h.2.1,pF l m h.2.2]
noncomputable def aa.same:aa->aa->Bool
 | .no, .no=>true
 | .row a, .row b=>V.ek a b
 | .arr e t s a, .arr f u r b=>Nat.beq e f&&Nat.beq t u&&Nat.beq s r&&D.ek a b
 | .lG e a, .lG f b=>Nat.beq e f&&D.ek a b
 | .map k v a, .map k' v' b=>Nat.beq k k'&&Nat.beq v v'&&pE a b
 | .ef a, .ef b=>pE a b
 | .oq a i, .oq b j=>a==b&&Nat.beq i j
 |_,_=>false
theorem aa.da {x y:aa}(h:x.same y=true):x=y:=by
 cases x<;>cases y<;>simp only[aa.same,Bool.false_eq_true,Bool.and_eq_true]at h
 ·rfl
 ·rw[V.cK _ _ h]
 ·rw[Nat.eq_of_beq_eq_true h.1.1.1,Nat.eq_of_beq_eq_true h.1.1.2,Nat.eq_of_beq_eq_true h.1.2,D.cK _ _ h.2]
 ·rw[Nat.eq_of_beq_eq_true h.1,D.cK _ _ h.2]
 ·rw[Nat.eq_of_beq_eq_true h.1.1,Nat.eq_of_beq_eq_true h.1.2,pF _ _ h.2]
 ·rw[pF _ _ h]
 ·rw[eq_of_beq h.1,Nat.eq_of_beq_eq_true h.2]
noncomputable def reach(o:Nat->aa):Nat->List Nat->List Nat->List Nat
 |0,_,seen=>seen
 |_+1,[],seen=>seen
 |n+1,id::todo,seen=>match seen.contains id with
  |true=>reach o n todo seen
  |false=>reach o n ((o id).refs++todo) (id::seen)
noncomputable def dy(o o1:Nat->aa):List Nat->List (Nat×aa)
 |[]=>[]
 |id::l=>match(o id).same (o1 id)with
  |true=>dy o o1 l
  |false=>(id,o1 id)::dy o o1 l
theorem fj{o o1:Nat->aa}:∀ (l:List Nat) (x:Nat×aa),x∈dy o o1 l->x.1∈l/\x.2=o1 x.1
 |[],x,h=>by simp[dy]at h
 |id::l,x,h=>by
  simp only[dy]at h
  split at h
  ·obtain⟨h1,h2⟩:=fj l x h;exact⟨List.mem_cons_of_mem _ h1,h2⟩
  ·rcases List.mem_cons.1 h with rfl|h
   ·exact⟨by simp,rfl⟩
   ·obtain⟨h1,h2⟩:=fj l x h;exact⟨List.mem_cons_of_mem _ h1,h2⟩
theorem jT{o o1:Nat->aa}:∀ (l:List Nat) (id:Nat),id∈l->id∉(dy o o1 l).map (·.1)->o1 id=o id
 |[],id,h,_=>by simp at h
 |j::l,id,h,hn=>by
  simp only[dy]at hn
  split at hn
  ·rename_i hs
   rcases List.mem_cons.1 h with rfl|h
   ·exact(aa.da hs).symm
   ·exact jT l id h hn
  ·simp only[List.map_cons,List.mem_cons,not_or]at hn
   rcases List.mem_cons.1 h with rfl|h
   ·exact absurd rfl hn.1
   ·exact jT l id h hn.2
theorem uv{o1:Nat->aa}:∀ (Δ:List (Nat×aa)) (o:Nat->aa),(∀x∈Δ,x.2=o1 x.1)->∀id,id∈Δ.map (·.1)\/o id=o1 id->put o Δ id=o1 id
 |[],o,_,id,h=>by rcases h with h|h;· simp at h
                  ·exact h
 |x::Δ,o,hv,id,h=>by
  simp only[put,List.foldl_cons]
  refine uv Δ (aQ o x.1 x.2) (fun y hy=>hv y (List.mem_cons_of_mem _ hy)) id ?_
  simp only[List.map_cons,List.mem_cons]at h
  simp only[aE]
  by_cases e:id=x.1
  ·right;rw[if_pos e,hv x (by simp),e]
  ·rcases h with(h|h)|h
   ·exact absurd h e
   ·exact .inl h
   ·right;rw[if_neg e];exact h
theorem nE{o o1:Nat->aa}{l:List Nat}{id:Nat}(h:id∈l):o1 id=put o (dy o o1 l) id:=by
 by_cases hm:id∈(dy o o1 l).map (·.1)
 ·exact(uv _ o (fun x hx=>(fj l x hx).2) id (.inl hm)).symm
 ·rw[eC hm];exact jT l id h hm
inductive DR where
 |val (v:V) (Δ:List (Nat×aa)) (rd:List Nat)|bf (v:V) (ws rd:List Nat)
def DR.to (K:V->List (Nat×aa)->List Nat->Prop)(KX:V->List Nat->List Nat->Prop):DR->Prop
 | .val v Δ rd=>K v Δ rd
 | .bf v ws rd=>KX v ws rd
noncomputable def Ir(c:CR):Option dm:=some (.c c)
noncomputable def hX(P:Program)(bB:Nat->FD)(rec:cQ)(g:Nat)(args:List V)(st:St):Option DR:=
 let rd:=reach st.o.get 2000 (V.aw args) []
 match rd.all (fun id=>Nat.blt id st.nx&&(st.o.get id).refs.all rd.contains)&&(V.aw args).all rd.contains with
 |true=>match Ab P bB rec g args (.e (C2 rd st.o.get)) st.nx Ir with
  |some (.c (.ret v o1 _))=>match v with
   | .bQ [_]=>none
   |v=>match bG o1.get (pC v)with
    |some rs=>match(dy st.o.get o1.get rd).all (fun x=>x.2.refs.all rd.contains)&&(V.aR (pC v)).all (fun id=> !rd.contains id)with
     |true=>some (.val (gh rs) (dy st.o.get o1.get rd) rd)
     |false=>none
    |none=>none
  |some (.c (.bf v o1 _))=>match dn o1.get v with
   |some x=>match(dy st.o.get o1.get rd).all (fun x=>x.2.refs.all rd.contains)&&v.ids.all (fun id=> !rd.contains id)with
    |true=>some (.bf (.d x) ((dy st.o.get o1.get rd).map (·.1)) rd)
    |false=>none
   |none=>none
  |_=>none
 |false=>none
noncomputable def Nu(P:Program)(bB:Nat->FD)(md:mn P)(rec:cQ)(g:Nat)(args:List V)(st:St)(rd:List Nat):Option DR:=
 match bG st.o.get args with
 |some ds=>match md.Im g with
  |false=>match Ab P bB rec g (ds.map .d) (.e fun _=> .no) 0 Ir with
   |some (.c (.ret v _ _))=>match v.refs with
    |[]=>some (.val v (cn st.o.get (V.aR args)) rd)
    |_=>none
   |_=>none
  |true=>match BZ P bB md rec g ds with
   |some (.ret rs)=>match D.gf rs with
    |true=>some (.val (gh rs) [] rd)
    |false=>some (.val (gh rs) (cn st.o.get (V.aR args)) rd)
   |some (.bf x)=>match x.flat with
    |true=>some (.bf (.d x) [] rd)
    |false=>none
   |none=>none
 |none=>hX P bB rec g args st
noncomputable def Nv(P:Program)(st:St)(fr:Nat)(op:Op):Option DR:=
 match BX op P st.S fr with
 |some (v,Δ,_)=>some (.val v Δ (fO st.S op))
 |none=>none
def V.OV:V->Bool
 | .mp _=>true
 |_=>false
def E4{P:Program}(md:mn P)(g:Nat)(args:List V):Bool:= !md.Im g&&args.any V.OV
def qU(args:List V):Option (List D):=
 match V.aR args with
 |[]=>bG (fun _=> .no) args
 |_=>none
noncomputable def B4(P:Program)(t:TypeId)(c:CR):Option dm:=
 match c with
 | .ret v o1 _=>match v with
   | .osl j ep=>match o1.get j with
     | .arr eR ty sz es=>match Nat.beq eR ep with
       |true=>Il (.ret [.sl es, .int .i64 (ty:Nat), .int .i64 (sz:Nat)]) fun x=>some (.r x)
       |false=>none
     |_=>none
   | .aM=>match aI P t with
     |some e=>match Nat.blt 0 (P.cellsOf e)with
      |true=>Il (.ret [.sl [], .int .i64 (e:Nat), .int .i64 (P.cellsOf e:Nat)]) fun x=>some (.r x)
      |false=>none
     |none=>none
   |_=>none
 |_=>none
noncomputable def E5(P:Program)(bB:Nat->FD)(rec:cQ)(g:Nat)(t:TypeId)(args:List V)(st:St)(fr:Nat):Option DR:=
 match qU args with
 |some ds=>match Ab P bB rec g (ds.map .d) (.e fun _=> .no) 0 (B4 P t)with
  |some (.r (.ret [.sl es, .int .i64 (.ofNat ty), .int .i64 (.ofNat sz)]))=>some (.val (.osl fr 0) [(fr, .arr 0 ty sz es)] [])
  |_=>none
 |none=>match bG st.o.get args with
  |some ds=>match Ab P bB rec g (ds.map .d) (.e fun _=> .no) 0 (B4 P t)with
   |some (.r (.ret [.sl es, .int .i64 (.ofNat ty), .int .i64 (.ofNat sz)]))=>match D.gf es&&(V.aR args).all (fun id=>Nat.blt id st.nx)with
    |true=>some (.val (.osl fr 0) [(fr, .arr 0 ty sz es)] (V.aR args))
    |false=>none
   |_=>none
  |none=>none
noncomputable def B5(P:Program)(bB:Nat->FD)(md:mn P)(rec:cQ)(st:St)(fr:Nat)(op:Op):Option DR:=
 match op with
 | .call c=>match c.callee with
   | .value f=>match st.S.ev f with
     | .func (.func g) first cap=>match E4 md g (first++c.args.toList.map st.S.ev++cap)with
       |true=>hX P bB rec g (first++c.args.toList.map st.S.ev++cap) st
       |false=>match Nu P bB md rec g (first++c.args.toList.map st.S.ev++cap) st (fO st.S (.call c))with
        |some r=>some r
        |none=>E5 P bB rec g (c.argTypes.getD 0 0) (first++c.args.toList.map st.S.ev++cap) st fr
     |_=>none
   |_=>Nv P st fr (.call c)
 |op=>Nv P st fr op
noncomputable def Is(st:St):Option (Nat×Bool)->Option Bool
 |none=>some true
 |some (d,want)=>match st.env.get d with
  | .d (.bool b)=>some (b==want)
  | .bQ []=>some false
  |_=>none
noncomputable def pG(P:Program)(bB:Nat->FD)(md:mn P)(rec:cQ)(pr:List (List Nat)):List bK->Nat->St->Fp->List Nat->List Nat->Option (List Nat×Fp)
 |[],_,_,fp,_,ws=>some (ws,fp)
 |o::l,fr,st,fp,bad,ws=>match(pr.getD fp.length []).any (fun j=>bad.contains j)with
  |true=>pG P bB md rec pr l (fr+1) ⟨nD st.env o.dst .ak,st.o,st.nx⟩ (fp++[([],[])]) (bad++[fp.length]) ws
  |false=>match Is st o.gd with
   |some true=>match B5 P bB md rec st fr o.op with
    |some (.val v Δ rd)=>jc st.env o.dst v fun e=>pB st.o Δ fun ob=>pG P bB md rec pr l (fr+1) ⟨e,ob,st.nx⟩ (fp++[(rd,Δ.map (·.1))]) bad (ws++Δ.map (·.1))
    |_=>none
   |some false=>pG P bB md rec pr l (fr+1) ⟨nD st.env o.dst (.bQ []),st.o,st.nx⟩ (fp++[([],[])]) bad ws
   |none=>none
inductive DQ where
 |fin (st:St) (fp:Fp)|bf (v:V) (wl:List Nat) (fp:Fp)
noncomputable def pH(P:Program)(bB:Nat->FD)(md:mn P)(rec:cQ)(pr:List (List Nat)):List bK->Nat->St->Fp->Option DQ
 |[],_,st,fp=>some (.fin st fp)
 |o::l,fr,st,fp=>match Is st o.gd with
  |some true=>match B5 P bB md rec st fr o.op with
   |some (.val v Δ rd)=>jc st.env o.dst v fun e=>pB st.o Δ fun ob=>Nat.fc (fr+1) fun fr=>pH P bB md rec pr l fr ⟨e,ob,st.nx⟩ (fp++[(rd,Δ.map (·.1))])
   |some (.bf v ws rd)=>match pG P bB md rec pr l (fr+1) ⟨nD st.env o.dst .ak,st.o,st.nx⟩ (fp++[(rd,[])]) [fp.length] (ws++fp.flatMap (·.2))with
    |some (wl,fp)=>some (.bf v wl fp)
    |none=>none
   |none=>none
  |some false=>jc st.env o.dst (.bQ []) fun e=>Nat.fc (fr+1) fun fr=>pH P bB md rec pr l fr ⟨e,st.o,st.nx⟩ (fp++[([],[])])
  |none=>none
noncomputable def quiet(fp:Fp):Bool:=fp.all fun x=>match x.2 with|[]=>true|_=>false
noncomputable def sm(m:Nat)(x:List Nat×List Nat):Nat->Fp->Bool
 |_,[]=>true
 |i,y::l=>(match y.2,x.2 with
  |[],[]=>true
  |_,_=>m.testBit i||(kz y.2 x.1&&kz y.2 x.2&&kz x.2 y.1))&&sm m x (i+1) l
noncomputable def wY(ms:List Nat)(pre:Fp):Nat->Fp->Bool
 |_,[]=>true
 |j,x::l=>sm (ms.getD j 0) x 0 pre&&wY ms (pre++[x]) (j+1) l
noncomputable def It{β:Type}:List Nat->(List Nat->β)->β
 |[],c=>c []
 |x::xs,c=>Nat.fc x fun x=>It xs fun xs=>c (x::xs)
theorem Am{β:Type}:∀ (x:List Nat) (c:List Nat->β),It x c=c x
 |[],c=>rfl
 |x::xs,c=>by simp only[It,Nat.cp,Am xs]
noncomputable def B6{β:Type}:Fp->(Fp->β)->β
 |[],c=>c []
 |(a,b)::l,c=>It a fun a=>It b fun b=>B6 l fun l=>c ((a,b)::l)
theorem wZ{β:Type}:∀ (x:Fp) (c:Fp->β),B6 x c=c x
 |[],c=>rfl
 |(a,b)::l,c=>by simp only[B6,Am,wZ l]
noncomputable def An(pr:List (List Nat))(fp:Fp):Bool:=match quiet fp with|true=>true|false=>B6 fp fun fp=>wY (dw pr []) [] 0 fp
theorem qV{m:Nat}{x:List Nat×List Nat}:∀ (l:Fp) (i:Nat),sm m x i l=true->∀k,k<l.length->(m.testBit (i+k)||(kz (l.getD k ([],[])).2 x.1&&kz (l.getD k ([],[])).2 x.2&&kz x.2 (l.getD k ([],[])).1))=true
 |[],i,_,k,hk=>by simp at hk
 |y::l,i,h,k,hk=>by
  simp only[sm,Bool.and_eq_true]at h
  cases k with
  |zero=>
   have h1:=h.1
   simp only[List.getD_cons_zero,Nat.add_zero]
   split at h1
   ·rename_i e1 e2
    rw[e1,e2];simp[kz]
   ·exact h1
  |succ k=>
   have:=qV l (i+1) h.2 k (by simpa using hk)
   rw[List.getD_cons_succ,show i+(k+1)=i+1+k by omega]
   exact this
theorem uw{ms:List Nat}:∀ (l pre:Fp),wY ms pre pre.length l=true->∀j,pre.length<=j->j<(pre++l).length->∀i,i<j->
 ((ms.getD j 0).testBit i||(kz ((pre++l).getD i ([],[])).2 ((pre++l).getD j ([],[])).1&&kz ((pre++l).getD i ([],[])).2 ((pre++l).getD j ([],[])).2&&kz ((pre++l).getD j ([],[])).2 ((pre++l).getD i ([],[])).1))=true
 |[],pre,_,j,h1,h2,i,_=>by simp at h2;omega
 |x::l,pre,h,j,h1,h2,i,hi=>by
  simp only[wY,Bool.and_eq_true]at h
  by_cases e:j=pre.length
  ·subst e
   have:=qV pre 0 h.1 i hi
   have e1:(pre++x::l).getD pre.length ([],[])=x:=by simp[List.getD_eq_getElem?_getD]
   have e2:(pre++x::l).getD i ([],[])=pre.getD i ([],[]):=by simp[List.getD_eq_getElem?_getD,List.getElem?_append_left hi]
   rw[e1,e2]
   simpa using this
  ·have h3:=h.2
   have:=uw l (pre++[x]) (by simpa using h3) j (by simp;omega) (by simpa using h2) i hi
   simpa using this
noncomputable def E6(P:Program)(bB:Nat->FD)(md:mn P)(rec:cQ)(l:List bK)(pr:List (List Nat))(st:St):Option (fq×St):=
 match pH P bB md rec pr l st.nx st []with
 |some (.fin s1 fp)=>match An pr fp with
  |true=>Nat.fc (st.nx+l.length) fun n=>some (.normal,⟨s1.env,s1.o,n⟩)
  |false=>none
 |some (.bf v wl fp)=>match An pr fp with
  |true=>some (.bf v,⟨.e (oZ (dstsOf l) wl l.length st.S).env, .e (oZ (dstsOf l) wl l.length st.S).o,st.nx+l.length⟩)
  |false=>none
 |none=>none
noncomputable def Iu(id:Nat)(env:Tr V)(kt:Kt)(c:CR):Option dm:=
 match c with
 | .ret _ o1 sK=>match o1.get id with
   | .loop nf m e p c d Nw pd=>match Nw with
     | .busy=>none
     |_=>match pd with
      |none=>kt .normal ⟨env,o1.set id (.loop nf m e p c d .exhausted pd),sK⟩
      |some .ret=>kt .ret ⟨env,o1.set id (.loop nf m e p c d .exhausted pd),sK⟩
      |some (.exit j)=>kt (.exit j) ⟨env,o1.set id (.loop nf m e p c d .exhausted pd),sK⟩
   |_=>none
 | .bf v o1 sK=>kt (.bf v) ⟨env,o1,sK⟩
noncomputable def B7(P:Program)(bB:Nat->FD)(rec:cQ)(n:Nat)(g:Operand)(ps:List Nat)(x y:IC)(st:St)(kt:Kt):Option dm:=
 match st.S.ev g with
 | .func (.func f) first cap=>Ab P bB rec f (first++[.j7 st.nx]++cap) (st.o.set st.nx (.loop P.funcs.size n ((List.range n).map st.env.get) ps x y .ready none)) (st.nx+1) (Iu st.nx st.env kt)
 |_=>none
abbrev kN:=(P:Program)->(Nat->FD)->mn P->cQ->Nat->Bool->Nat->St->Kt->Option dm
noncomputable def OW(kt:Kt):RO->Option dm:=fun r=>match r with| .ok st=>kt .normal st| .bf v st=>kt (.bf v) st
noncomputable def OX(l:List bK):kN:=fun P bB md rec _ _ _ st kt=>si P bB md rec (OW kt) l st
def qW:List Nat->Nat->Nat->Nat
 |[],_,c=>c
 |x::l,k,c=>match Nat.beq x (2^k - 1)with
  |true=>qW l (k+1) c
  |false=>qW l (k+1) (k+1)
def mo(pr:List (List Nat)):Nat:=qW (dw pr []) 0 0
noncomputable def E7(l:List bK)(pr:List (List Nat)):kN:=fun P bB md rec _ _ _ st kt=>
 Nat.fc (mo pr) fun m=>match pH P bB md rec pr (l.take m) st.nx st []with
 |some (.fin s1 fp)=>match An pr fp with
  |true=>Nat.fc (st.nx+m) fun n=>match Nat.ble m l.length with
   |true=>si P bB md rec (OW kt) (l.drop m) ⟨s1.env,s1.o,n⟩
   |false=>none
  |false=>none
 |some (.bf _ _ _)=>match E6 P bB md rec l pr st with
  |some (e,s1)=>kt e s1
  |none=>none
 |none=>none
noncomputable def vS(rec:cQ)(b:Nat)(rd:Bool)(n:Nat)(y:IC)(kt:Kt):Kt:=fun e s1=>match e with| .normal=>rec b rd n y s1 kt|e=>kt e s1
noncomputable def OY(x y:IC):kN:=fun _ _ _ rec b rd n st kt=>rec b rd n x st (vS rec b rd n y kt)
noncomputable def w6(a c:Option dm):Option dm:=
 match a with
 |some (.r x)=>match c with
  |some (.r y)=>match R.same x y with
   |true=>some (.r x)
   |false=>none
  |_=>none
 |_=>none
noncomputable def Iv(c:Operand)(x y:IC):kN:=fun _ _ _ rec b rd n st kt=>match st.S.ev c with
 | .d (.bool true)=>rec b rd n x st kt
 | .d (.bool false)=>rec b rd n y st kt
 | .dB=>w6 (rec b rd n x st kt) (rec b rd n y st kt)
 |_=>none
noncomputable def vT(id:Nat)(kt:Kt):Kt:=fun e s1=>match e with
 | .exit j=>match Nat.beq j id with
   |true=>kt .normal s1
   |false=>kt (.exit j) s1
 |e=>kt e s1
noncomputable def E8(id:Nat)(x:IC):kN:=fun _ _ _ rec b rd n st kt=>rec b rd n x st (vT id kt)
noncomputable def Iw(x:IC):kN:=fun _ _ _ rec b rd n st kt=>match Nat.ble b st.nx with
 |true=>rec b rd n x st (vS rec b rd n (.loop x) kt)
 |false=>none
noncomputable def E9(e:fq):kN:=fun _ _ _ _ _ _ _ st kt=>kt e st
noncomputable def OZ:kN:=fun _ _ _ _ _ _ _ _ _=>none
noncomputable def O0(g:Operand)(ps:List Nat)(x y:IC):kN:=fun P bB _ rec _ rd n st kt=>match rd with
 |true=>none
 |false=>B7 P bB rec n g ps x y st kt
noncomputable def Dz(ic:IC):kN:=
 match ic with
 | .skip=>E9 .normal
 | .ab l=>OX l
 | .ck l pr=>E7 l pr
 | .seq x y=>OY x y
 | .cond c x y=>Iv c x y
 | .block id x=>E8 id x
 | .loop x=>Iw x
 | .exit id=>E9 (.exit id)
 | .ret=>E9 .ret
 | .xo g ps x y=>O0 g ps x y
 | .bad=>OZ
noncomputable def run(P:Program)(bB:Nat->FD)(md:mn P)(k:Nat):cQ:=
 Nat.rec (motive:=fun _=>cQ) (fun _ _ _ _ _ _=>none) (fun _ rec b rd n ic st kt=>Dz ic P bB md rec b rd n st kt) k
theorem Ao{P:Program}{bB:Nat->FD}{md:mn P}{k:Nat}:run P bB md (k+1)=fun b rd n ic st kt=>Dz ic P bB md (run P bB md k) b rd n st kt:=rfl
section
variable {P:Program}{bB:Nat->FD}{md:mn P}
theorem DA(aS:P.follows .mixedOrders=true)(bY:∀g,(bB g).Ok P g){rec:cQ}(a9:dv P rec){fr:Nat}{g:Nat}{args:List V}{st:St}{r:DR}(h:hX P bB rec g args st=some r){K:V->List (Nat×aa)->List Nat->Prop}{KX:V->List Nat->List Nat->Prop}(hr:r.to K KX):
 fw P g args st.S.o st.S.nx fr K KX:=by
 unfold hX at h
 simp only at h
 generalize kD:reach st.o.get 2000 (V.aw args) []=rd at h
 split at h
 ·rename_i hc
  simp only[Bool.and_eq_true,List.all_eq_true]at hc
  obtain⟨Rj,rq⟩:=hc
  have a1:∀id∈rd,id<st.nx:=fun id ah=>Nat.le_of_ble_eq_true (Rj id ah).1
  have a2:∀id∈V.aw args,id∈rd:=fun id ah=>by simpa using rq id ah
  have a3:∀id∈rd,∀j∈(st.o.get id).refs,j∈rd:=fun id ah j hj=>by simpa using(Rj id ah).2 j hj
  have a0:rd.all (fun id=>decide (id<st.S.nx))=true:=List.all_eq_true.2 fun id ah=>decide_eq_true (a1 id ah)
  have key:∀ {r:CR} {a:CR},Ir r=some (.c a)->r=a:=fun h=>by unfold Ir at h;injection h with h;injection h
  split at h
  ·rename_i v o1 sK hf
   split at h
   ·cases h
   ·rename_i v' pZ
    split at h
    ·rename_i rs GV
     split at h
     ·rename_i Fa
      injection h with h;subst h
      simp only[Bool.and_eq_true,List.all_eq_true]at Fa
      refine⟨rd,_,a0, .inl ⟨rs,zC.la a1 a2 a3 (fun x hx=>(fj rd x hx).1) (fun x hx j hj=>by simpa using Fa.1 x hx j hj) (jS aS bY a9 hf fun r rv=> ?_),hr⟩⟩
      rw[key rv]
      refine⟨fun id ah=>nE ah,pC v,rs, ?_,GV,rfl,fun id ah=>by simpa using Fa.2 id ah⟩
      cases v with
      |bQ vs=>
       match vs,pZ with
       |[],_=>rfl
       |[x],hv=>exact absurd rfl (hv x)
       |_::_::_,_=>rfl
      |_=>rfl
     ·cases h
    ·cases h
  ·rename_i v o1 sK hf
   split at h
   ·rename_i x hx
    split at h
    ·rename_i Fa
     injection h with h;subst h
     simp only[Bool.and_eq_true,List.all_eq_true]at Fa
     refine⟨rd,dy st.o.get o1.get rd,a0, .inr (.inl ⟨x,zC.la a1 a2 a3 (fun x hx=>(fj rd x hx).1) (fun x hx j hj=>by simpa using Fa.1 x hx j hj) (jS aS bY a9 hf fun r rv=> ?_),hr⟩)⟩
     rw[key rv]
     exact⟨fun id ah=>nE ah,x,hx,rfl,fun id ah=>by simpa using Fa.2 id ah⟩
    ·cases h
   ·cases h
  ·cases h
 ·cases h
theorem Fb(aS:P.follows .mixedOrders=true)(bY:∀g,(bB g).Ok P g){rec:cQ}(a9:dv P rec){g:Nat}{args:List V}{st:St}{rd:List Nat}{ds:List D}(dA:bG st.o.get args=some ds){r:DR}(h:Nu P bB md rec g args st rd=some r)
 {K:V->List (Nat×aa)->List Nat->Prop} {KX:V->List Nat->List Nat->Prop} (hr:r.to K KX):
 nz P g ds (fun v=>K v (cn st.S.o (V.aR args)) rd) (fun v=>K v [] rd) (fun v=>KX v [] rd):=by
 unfold Nu at h
 simp only[dA]at h
 split at h
 ·split at h
  ·rename_i v o1 sK DB
   split at h
   ·rename_i Tu
    injection h with h;subst h
    exact .inr (.inr ⟨v,Hi.la Tu (jS aS bY a9 DB fun r rv=>by unfold Ir at rv;injection rv with rv;injection rv with rv;rw[rv];exact rfl),hr⟩)
   ·cases h
  ·cases h
 ·split at h
  ·rename_i rs Ak
   have hP:=sj aS bY a9 Ak
   split at h
   ·rename_i hf
    injection h with h;subst h
    exact .inl ⟨rs,hP, .inr ⟨hf,hr⟩⟩
   ·injection h with h;subst h
    exact .inl ⟨rs,hP, .inl hr⟩
  ·rename_i x Ak
   have hP:=sj aS bY a9 Ak
   split at h
   ·rename_i hf
    injection h with h;subst h
    exact .inr (.inl ⟨x,hP,hf,hr⟩)
   ·cases h
  ·cases h
theorem w7{t ty:TypeId}{sz:Nat}{es:List D}{r:CR}(h:B4 P t r=some (.r (.ret [.sl es, .int .i64 (.ofNat ty), .int .i64 (.ofNat sz)]))):
 r.to (fun v o1 _=>(∃j ep,v= .osl j ep/\o1 j= .arr ep ty sz es)\/(v= .aM/\es=[]/\0<sz)) (fun _ _ _=>False):=by
 unfold B4 at h
 split at h
 ·rename_i v o1 n1
  split at h
  ·rename_i j ep
   split at h
   ·rename_i eR OE kB es' ho
    split at h
    ·rename_i he
     have he:=Nat.eq_of_beq_eq_true he
     subst he
     rw[vR]at h
     simp only[Option.some.injEq,dm.r.injEq,R.ret.injEq,List.cons.injEq,D.sl.injEq,D.int.injEq,true_and,and_true]at h
     obtain⟨rfl,h2,h3⟩:=h
     have h2:OE=ty:=Int.ofNat.inj h2
     have h3:kB=sz:=Int.ofNat.inj h3
     subst h2;subst h3
     exact .inl ⟨j,eR,rfl,ho⟩
    ·cases h
   ·cases h
  ·split at h
   ·rename_i e he
    split at h
    ·rename_i hp
     rw[vR]at h
     simp only[Option.some.injEq,dm.r.injEq,R.ret.injEq,List.cons.injEq,D.sl.injEq,D.int.injEq,true_and,and_true]at h
     obtain⟨rfl,h2,h3⟩:=h
     have h3:P.cellsOf e=sz:=Int.ofNat.inj h3
     subst h3
     exact .inr ⟨rfl,rfl,Nat.blt_eq.mp hp⟩
    ·cases h
   ·cases h
  ·cases h
 ·cases h
theorem B8(aS:P.follows .mixedOrders=true)(bY:∀g,(bB g).Ok P g){rec:cQ}(a9:dv P rec){fr:Nat}{g:Nat}{t:TypeId}{args:List V}{st:St}{r:DR}(h:E5 P bB rec g t args st fr=some r){K:V->List (Nat×aa)->List Nat->Prop}{KX:V->List Nat->List Nat->Prop}(hr:r.to K KX):
 fw P g args st.S.o st.S.nx fr K KX:=by
 unfold E5 at h
 split at h
 ·rename_i ds dA
  split at h
  ·rename_i es ty sz DB
   injection h with h;subst h
   unfold qU at dA
   split at dA
   ·rename_i ah
    exact⟨[],_,by simp, .inr (.inr ⟨_,vA.B3 ah dA (vA.E2 (jS aS bY a9 DB fun r rv=>w7 rv)),hr⟩)⟩
   ·cases dA
  ·cases h
 ·split at h
  ·rename_i ds dA
   split at h
   ·rename_i es ty sz DB
    split at h
    ·rename_i hc
     injection h with h;subst h
     simp only[Bool.and_eq_true]at hc
     refine⟨V.aR args,_, ?_, .inr (.inr ⟨_,vA.B2 dA hc.1 (jS aS bY a9 DB fun r rv=>w7 rv),hr⟩)⟩
     exact List.all_eq_true.2 fun id ah=>decide_eq_true (Nat.blt_eq.mp (List.all_eq_true.1 hc.2 id ah))
    ·cases h
   ·cases h
  ·cases h
theorem sn(aS:P.follows .mixedOrders=true)(bY:∀g,(bB g).Ok P g){rec:cQ}(a9:dv P rec){st:St}{fr:Nat}{o:bK}{r:DR}(h:B5 P bB md rec st fr o.op=some r){K:V->List (Nat×aa)->List Nat->Prop}{KX:V->List Nat->List Nat->Prop}(hr:r.to K KX):
 sL P st.S fr o K KX:=by
 have hs:Nv P st fr o.op=some r->(match eG P st.S fr o.op with|some (v,Δ,_)=>K v Δ (fO st.S o.op)|none=>False):=by
  intro h
  unfold Nv at h
  split at h
  ·rename_i v Δ rd he
   injection h with h;subst h
   simp only[wS he]
   exact hr
  ·cases h
 unfold B5 at h
 unfold sL
 split at h
 ·rename_i c hc
  simp only[hc]
  split at h
  ·rename_i f hf
   simp only[hf]
   split at h
   ·rename_i g first cap hv
    simp only[hv]
    split at h
    ·have hh:=DA aS bY a9 h hr (fr:=fr)
     split
     ·exact .inr hh
     ·exact hh
    split at h
    ·rename_i r' DO
     injection h with h;subst h
     cases dA:bG st.S.o (first++List.map st.S.ev c.args.toList++cap)with
     |some ds=>exact .inl (Fb aS bY a9 dA DO hr)
     |none=>
      have E0:bG st.o.get (first++List.map st.S.ev c.args.toList++cap)=none:=dA
      unfold Nu at DO
      simp only[E0]at DO
      exact DA aS bY a9 DO hr
    ·have hh:=B8 aS bY a9 (st:=st) h hr
     split
     ·exact .inr hh
     ·exact hh
   ·cases h
  ·rename_i db
   rw[<- hc]at h
   have:=hs h
   rw[hc]at this
   split
   ·rename_i f hf;exact absurd hf (db f)
   ·exact this
 ·rename_i hc
  have:=hs h
  split
  ·rename_i c hh;exact absurd hh (hc c)
  ·exact this
def Nx(s:S)(gd:Option (Nat×Bool))(A B:Prop):Prop:=
 match gd with
 |none=>A
 |some (d,want)=>match s.env d with
  | .d (.bool b)=>if b=want then A else B
  | .bQ []=>B
  |_=>False
theorem sq{st:St}{gd:Option (Nat×Bool)}{t:Bool}(h:Is st gd=some t){A B:Prop}(hA:t=true->A)(hB:t=false->B):Nx st.S gd A B:=by
 cases gd with
 |none=>simp only[Is,Option.some.injEq]at h;exact hA h.symm
 |some p=>
  obtain⟨d,want⟩:=p
  have he:st.S.env d=st.env.get d:=rfl
  simp only[Is]at h
  simp only[Nx,he]
  split at h
  ·rename_i b hb
   injection h with h
   by_cases e:b=want
   ·rw[if_pos e];exact hA (by rw[<- h,e];simp)
   ·rw[if_neg e];exact hB (by rw[<- h];simpa using e)
  ·rename_i hb
   injection h with h
   exact hB h.symm
  ·cases h
theorem B9{P:Program}{KB:List Nat->Fp->Prop}{pr:List (List Nat)}{o:bK}{l:List bK}{fr:Nat}{s:S}{fp:Fp}{bad ws:List Nat}(hb:(pr.getD fp.length []).any (fun j=>bad.contains j)=false)
 (h:Nx s o.gd (sL P s fr o (fun v Δ rd=>e8 P KB pr l (fr+1) ⟨aO s.env o.dst v,put s.o Δ,s.nx⟩ (fp++[(rd,Δ.map (·.1))]) bad (ws++Δ.map (·.1))) (fun _ _ _=>False)) (e8 P KB pr l (fr+1) ⟨aO s.env o.dst (.bQ []),s.o,s.nx⟩ (fp++[([],[])]) bad ws)):
 e8 P KB pr (o::l) fr s fp bad ws:=by
 simp only[e8]
 rw[if_neg (by rw[hb];simp)]
 cases hg:o.gd with
 |none=>rw[hg]at h;exact h
 |some p=>obtain⟨d,want⟩:=p;rw[hg]at h;exact h
theorem Ca{P:Program}{K:S->Fp->Prop}{KP:V->List Nat->Fp->Prop}{pr:List (List Nat)}{o:bK}{l:List bK}{fr:Nat}{s:S}{fp:Fp}
 (h:Nx s o.gd (sL P s fr o (fun v Δ rd=>gW P K KP pr l (fr+1) ⟨aO s.env o.dst v,put s.o Δ,s.nx⟩ (fp++[(rd,Δ.map (·.1))]))
  (fun v ws rd=>e8 P (KP v) pr l (fr+1) ⟨aO s.env o.dst .ak,s.o,s.nx⟩ (fp++[(rd,[])]) [fp.length] (ws++fp.flatMap (·.2)))) (gW P K KP pr l (fr+1) ⟨aO s.env o.dst (.bQ []),s.o,s.nx⟩ (fp++[([],[])]))):
 gW P K KP pr (o::l) fr s fp:=by
 simp only[gW]
 cases hg:o.gd with
 |none=>rw[hg]at h;exact h
 |some p=>obtain⟨d,want⟩:=p;rw[hg]at h;exact h
theorem mq(aS:P.follows .mixedOrders=true)(bY:∀g,(bB g).Ok P g){rec:cQ}(a9:dv P rec){pr:List (List Nat)}{wl:List Nat}{O1:Fp}{KB:List Nat->Fp->Prop}(hK:KB wl O1):
 ∀ (l:List bK) (fr:Nat) (st:St) (fp:Fp) (bad ws:List Nat),pG P bB md rec pr l fr st fp bad ws=some (wl,O1)->e8 P KB pr l fr st.S fp bad ws
 |[],fr,st,fp,bad,ws,h=>by
  simp only[pG,Option.some.injEq,Prod.mk.injEq]at h
  obtain⟨rfl,rfl⟩:=h;exact hK
 |o::l,fr,st,fp,bad,ws,h=>by
  simp only[pG,fR,jR]at h
  split at h
  ·rename_i hb
   simp only[e8]
   rw[if_pos hb]
   have:=mq aS bY a9 hK l _ _ _ _ _ h
   simp only[St.S,dq]at this
   exact this
  ·rename_i hb
   refine B9 hb ?_
   split at h
   ·rename_i hg
    refine sq hg (fun _=> ?_) (fun h=>by cases h)
    split at h
    ·rename_i v Δ rd cP
     refine sn aS bY a9 cP ?_
     have:=mq aS bY a9 hK l _ _ _ _ _ h
     simp only[St.S,dq,gw]at this
     exact this
    ·cases h
   ·rename_i hg
    refine sq hg (fun h=>by cases h) (fun _=> ?_)
    have:=mq aS bY a9 hK l _ _ _ _ _ h
    simp only[St.S,dq]at this
    exact this
   ·cases h
def DQ.to (K:S->Fp->Prop)(KP:V->List Nat->Fp->Prop):DQ->Prop
 | .fin st fp=>K st.S fp
 | .bf v wl fp=>KP v wl fp
theorem jU(aS:P.follows .mixedOrders=true)(bY:∀g,(bB g).Ok P g){rec:cQ}(a9:dv P rec){pr:List (List Nat)}{q:DQ}{K:S->Fp->Prop}{KP:V->List Nat->Fp->Prop}(hq:q.to K KP):
 ∀ (l:List bK) (fr:Nat) (st:St) (fp:Fp),pH P bB md rec pr l fr st fp=some q->gW P K KP pr l fr st.S fp
 |[],fr,st,fp,h=>by
  simp only[pH,Option.some.injEq]at h
  subst h;exact hq
 |o::l,fr,st,fp,h=>by
  simp only[pH,fR,jR,Nat.cp]at h
  refine Ca ?_
  split at h
  ·rename_i hg
   refine sq hg (fun _=> ?_) (fun h=>by cases h)
   split at h
   ·rename_i v Δ rd cP
    refine sn aS bY a9 cP ?_
    have:=jU aS bY a9 hq l _ _ _ h
    simp only[St.S,dq,gw]at this
    exact this
   ·rename_i v ws rd cP
    split at h
    ·rename_i wl O1 hb
     injection h with h;subst h
     refine sn aS bY a9 cP ?_
     have:=mq aS bY a9 (KB:=KP v) hq l _ _ _ _ _ hb
     simp only[St.S,dq]at this
     exact this
    ·cases h
   ·cases h
  ·rename_i hg
   refine sq hg (fun h=>by cases h) (fun _=> ?_)
   have:=jU aS bY a9 hq l _ _ _ h
   simp only[St.S,dq]at this
   exact this
  ·cases h
theorem sr{pr:List (List Nat)}{fp:Fp}(h:An pr fp=true):iK pr fp=true:=by
 unfold An at h
 split at h
 ·rename_i hq
  unfold quiet at hq
  have hz:∀i,(fp.getD i ([],[])).2=[]:=by
   intro i
   rw[List.getD_eq_getElem?_getD]
   cases hx:fp[i]? with
   |none=>rfl
   |some x=>
    have:=List.all_eq_true.1 hq x (List.mem_of_getElem? hx)
    simp only[Option.getD_some]
    split at this
    ·rename_i e;exact e
    ·cases this
  unfold iK
  simp only[hz,kz,List.all_nil,Bool.and_self,Bool.or_true]
  simp
 ·rw[wZ]at h
  unfold iK
  rw[List.all_eq_true]
  intro j hj
  rw[List.all_eq_true]
  intro i hi
  exact uw fp [] h j (Nat.zero_le _) (by simpa using hj) i (by simpa using hi)
theorem pI:∀ (l:List Nat) (k c:Nat),c<=k->c<=qW l k c/\∀i x,l[i]? =some x->qW l k c<=k+i->x=2^(k+i) - 1
 |[],_,c,_=>⟨Nat.le_refl _,fun i x h=>by simp at h⟩
 |y::l,k,c,hc=>by
  simp only[qW]
  split
  ·rename_i he
   obtain⟨h1,h2⟩:=pI l (k+1) c (by omega)
   refine⟨h1,fun i x hi hle=> ?_⟩
   cases i with
   |zero=>simp at hi;subst hi;simpa using Nat.eq_of_beq_eq_true he
   |succ i=>
    have:=h2 i x (by simpa using hi) (by omega)
    rw[this,show k+(i+1)=k+1+i by omega]
  ·obtain⟨h1,h2⟩:=pI l (k+1) (k+1) (Nat.le_refl _)
   refine⟨by omega,fun i x hi hle=> ?_⟩
   cases i with
   |zero=>omega
   |succ i=>
    have:=h2 i x (by simpa using hi) (by omega)
    rw[this,show k+(i+1)=k+1+i by omega]
theorem qX:∀ (pr:List (List Nat)) (acc:List Nat),(dw pr acc).length=acc.length+pr.length
 |[],acc=>by simp[dw]
 |ps::l,acc=>by simp only[dw,qX l,List.length_append,List.length_cons,List.length_nil];omega
theorem Ap(pr:List (List Nat)):zJ pr (mo pr)=true:=by
 refine List.all_eq_true.2 fun k hk=> ?_
 have hk:k<pr.length:=by simpa using hk
 by_cases h:k<mo pr
 ·simp[Nat.blt_eq.mpr h]
 ·have hl:k<(dw pr []).length:=by rw[qX];simpa using hk
  have:=(pI (dw pr []) 0 0 (Nat.le_refl _)).2 k _ (List.getElem?_eq_getElem hl) (by rw[Nat.zero_add];exact Nat.le_of_not_lt h)
  rw[Nat.zero_add]at this
  rw[List.getD_eq_getElem?_getD,List.getElem?_eq_getElem hl,Option.getD_some,this]
  simp
theorem Cb(aS:P.follows .mixedOrders=true)(bY:∀g,(bB g).Ok P g){rec:cQ}(a9:dv P rec){l:List bK}{pr:List (List Nat)}{st st':St}{e:fq}(h:E6 P bB md rec l pr st=some (e,st')){Q:fq->S->Prop}(hQ:Q e st'.S):
 gW P (vJ pr (st.S.nx+l.length) Q) (tW pr l st.S Q) pr l st.S.nx st.S []:=by
 unfold E6 at h
 split at h
 ·rename_i s1 fp hd
  split at h
  ·rename_i hf
   simp only[Nat.cp,Option.some.injEq,Prod.mk.injEq]at h
   obtain⟨rfl,rfl⟩:=h
   exact jU aS bY a9 (q:= .fin s1 fp) (K:=vJ pr (st.S.nx+l.length) Q) (KP:=tW pr l st.S Q) (show vJ pr (st.S.nx+l.length) Q s1.S fp from⟨sr hf,hQ⟩) l _ _ _ hd
  ·cases h
 ·rename_i v wl fp hd
  split at h
  ·rename_i hf
   simp only[Option.some.injEq,Prod.mk.injEq]at h
   obtain⟨rfl,rfl⟩:=h
   exact jU aS bY a9 (q:= .bf v wl fp) (K:=vJ pr (st.S.nx+l.length) Q) (KP:=tW pr l st.S Q) (show tW pr l st.S Q v wl fp from⟨sr hf,hQ⟩) l _ _ _ hd
  ·cases h
 ·cases h
theorem Cc(aS:P.follows .mixedOrders=true)(bY:∀g,(bB g).Ok P g){rec:cQ}(a9:dv P rec){n:Nat}{g:Operand}{ps:List Nat}{x y:IC}{st:St}{kt:Kt}{a:dm}(h:B7 P bB rec n g ps x y st kt=some a){Q:fq->S->Prop}(hQ:∀e st',kt e st'=some a->Q e st'.S):
 vn P n (st.S.ev g) ps x y Q st.S:=by
 unfold B7 at h
 refine⟨(List.range n).map st.env.get,fun i=> ?_, ?_⟩
 ·unfold bD
  simp only[List.getD_eq_getElem?_getD,List.getElem?_map]
  by_cases hi:i<n
  ·right;rw[List.getElem?_range hi];rfl
  ·left;rw[List.getElem?_eq_none (by simp;omega)];rfl
 ·split at h
  ·rename_i f first cap hv
   simp only[hv]
   refine .inl ?_
   have key:=fun {K X} hr=>jS (K:=K) (X:=X) aS bY a9 h hr
   simp only[Tr.fJ]at key
   refine key fun r hr=> ?_
   unfold Iu at hr
   cases r with
   |ret v o1 sK=>
    simp only at hr
    split at hr
    ·rename_i nf m e p c d Nw pd ho
     have hl:Nw≠ .busy:=by
      intro hb;subst hb;cases hr
     refine⟨nf,m,e,p,c,d,Nw,pd,ho,hl, ?_⟩
     split at hr
     ·cases hr
     ·split at hr<;>(have h3:=hQ _ _ hr;simp only[DW];simp only[St.S,Tr.fJ]at h3;exact h3)
    ·cases hr
   |bf v o1 sK=>exact hQ _ _ hr
  ·cases h
theorem cR.same {b:Nat}{s:S}(h:b<=s.nx):cR b s s:=fun _ φ _ _ h1 h2=>⟨φ,h1,h2,fun _ h=>h,h,fun _ _ hr=>⟨hr,rfl⟩,fun _ e' _ he=>⟨e',he,Nat.le_refl _,fun _=>rfl⟩⟩
theorem Aq{x y:Option dm}{a:dm}(h:w6 x y=some a):x=some a/\y=some a:=by
 unfold w6 at h
 split at h
 ·rename_i r
  split at h
  ·rename_i r'
   split at h
   ·rename_i hs
    injection h with h;subst h
    rw[R.da hs]
    exact⟨rfl,rfl⟩
   ·cases h
  ·cases h
 ·cases h
theorem Fc(aS:P.follows .mixedOrders=true)(bY:∀g,(bB g).Ok P g):∀k,∀j,j<=k->dv P (run P bB md j):=by
 intro k
 induction k with
 |zero=>intro j hj b rd n ic st kt a h;obtain rfl:j=0:=by omega
        cases h
 |succ k ih=>
  intro j hj b rd n ic st kt a h Q hQ
  cases j with
  |zero=>cases h
  |succ j=>
   have a9:dv P (run P bB md j):=ih j (by omega)
   rw[Ao]at h
   cases ic with
   |skip=>exact hQ _ _ h
   |exit id=>exact hQ _ _ h
   |ret=>exact hQ _ _ h
   |bad=>cases h
   |ab l=>
    have h:si P bB md (run P bB md j) (OW kt) l st=some a:=h
    exact n9 aS bY a9 (K:=Q .normal) (X:=fun v s=>Q (.bf v) s) (fun r hr=>by
     cases r with
     |ok E1=>exact hQ .normal _ hr
     |bf v E1=>exact hQ (.bf v) _ hr) l _ h
   |ck l pr=>
    have h:E7 l pr P bB md (run P bB md j) b rd n st kt=some a:=h
    unfold E7 at h
    rw[Nat.cp]at h
    split at h
    ·rename_i s1 fp hd
     split at h
     ·rename_i hf
      rw[Nat.cp]at h
      split at h
      ·rename_i Bm
       refine .inr ⟨mo pr,Nat.le_of_ble_eq_true Bm,Ap pr, ?_⟩
       refine jU aS bY a9 (q:= .fin s1 fp) (K:=fun s' fp=>iK pr fp=true/\lg P (fun v s=>Q (.bf v) s) (Q .normal) (l.drop (mo pr)) ⟨s'.env,s'.o,st.S.nx+mo pr⟩) (KP:=fun _ _ _=>False) (show _/\_ from⟨sr hf, ?_⟩) (l.take (mo pr)) _ _ _ hd
       exact n9 aS bY a9 (K:=Q .normal) (X:=fun v s=>Q (.bf v) s) (fun r hr=>by
        cases r with
        |ok E1=>exact hQ .normal _ hr
        |bf v E1=>exact hQ (.bf v) _ hr) (l.drop (mo pr)) ⟨s1.env,s1.o,st.nx+mo pr⟩ h
      ·cases h
     ·cases h
    ·split at h
     ·rename_i e s1 h1
      exact .inl (Cb aS bY a9 h1 (hQ _ _ h))
     ·cases h
    ·cases h
   |seq x y=>
    have h:run P bB md j b rd n x st (vS (run P bB md j) b rd n y kt)=some a:=h
    simp only[n5]
    refine a9 _ _ _ _ _ _ _ h _ fun e s1 he=> ?_
    unfold vS at he
    cases e with
    |normal=>exact a9 _ _ _ _ _ _ _ he _ hQ
    |_=>exact hQ _ _ he
   |cond c x y=>
    have h:(match st.S.ev c with| .d (.bool true)=>run P bB md j b rd n x st kt| .d (.bool false)=>run P bB md j b rd n y st kt| .dB=>w6 (run P bB md j b rd n x st kt) (run P bB md j b rd n y st kt)|_=>none)=some a:=h
    simp only[n5]
    split at h
    ·rename_i hv
     simp only[hv]
     exact(oX _ _).mpr (a9 _ _ _ _ _ _ _ h _ hQ)
    ·rename_i hv
     simp only[hv]
     exact(ns _ _).mpr (a9 _ _ _ _ _ _ _ h _ hQ)
    ·rename_i hv
     simp only[hv]
     obtain⟨h1,h2⟩:=Aq h
     exact⟨a9 _ _ _ _ _ _ _ h1 _ hQ,a9 _ _ _ _ _ _ _ h2 _ hQ⟩
    ·cases h
   |block id x=>
    have h:run P bB md j b rd n x st (vT id kt)=some a:=h
    simp only[n5]
    refine a9 _ _ _ _ _ _ _ h _ fun e s1 he=> ?_
    unfold vT at he
    cases e with
    |exit j'=>
     simp only at he
     split at he
     ·rename_i hb
      simp only[dT,Nat.eq_of_beq_eq_true hb,if_true];exact hQ _ _ he
     ·rename_i hb
      simp only[dT,Nat.ne_of_beq_eq_false hb,if_false];exact hQ _ _ he
    |_=>exact hQ _ _ he
   |loop x=>
    have O2:∀m DC,run P bB md (m+1) b rd n (.loop x) DC kt=some a->b<=DC.nx/\run P bB md m b rd n x DC (vS (run P bB md m) b rd n (.loop x) kt)=some a:=by
     intro m DC h
     have h:(match Nat.ble b DC.nx with|true=>run P bB md m b rd n x DC (vS (run P bB md m) b rd n (.loop x) kt)|false=>none)=some a:=h
     split at h
     ·rename_i hb;exact⟨Nat.le_of_ble_eq_true hb,h⟩
     ·cases h
    have h:run P bB md (j+1) b rd n (.loop x) st kt=some a:=h
    refine⟨fun m s=>m<=k+1/\∃st,s=st.S/\run P bB md m b rd n (.loop x) st kt=some a,⟨j+1,st.S,cR.same (O2 j st h).1,hj,st,rfl,h⟩, ?_⟩
    rintro m s0 ⟨hm,DC,rfl,h0⟩
    cases m with
    |zero=>cases h0
    |succ m=>
     have Ix:dv P (run P bB md m):=ih m (by omega)
     refine Ix _ _ _ _ _ _ _ (O2 m DC h0).2 _ fun e s1 he=> ?_
     unfold vS at he
     cases e with
     |normal=>
      refine⟨m,s1.S,Nat.lt_succ_self _,cR.same ?_,by omega,s1,rfl,he⟩
      cases m with
      |zero=>cases he
      |succ m=>exact(O2 m s1 he).1
     |_=>exact hQ _ _ he
   |xo g ps x y=>
    cases rd with
    |true=>
     have h:(none:Option dm)=some a:=h
     cases h
    |false=>
     have h:B7 P bB (run P bB md j) n g ps x y st kt=some a:=h
     exact⟨rfl,Cc aS bY a9 h hQ⟩
noncomputable def ss(P:Program)(bB:Nat->FD)(md:mn P)(k:Nat)(g:Nat)(ds:List D):Option R:=
 match Ab P bB (run P bB md k) g (ds.map .d) (.e fun _=> .no) 0 uq with
 |some (.r x)=>some x
 |_=>none
theorem bJ.ll (aS:P.follows .mixedOrders=true)(bY:∀g,(bB g).Ok P g){k g:Nat}{ds:List D}{out:R}(h:ss P bB md k g ds=some out):bJ P g ds out:=by
 unfold ss at h
 split at h
 ·rename_i x hr;injection h with h;subst h;exact ur aS bY (Fc aS bY k k (Nat.le_refl _)) hr
 ·cases h
end
end Go.Proofs.YtpkobkdgcanmjaaGreat
namespace Go.Proofs.YtpkobkdgcanmjaaGreat
def Tr.Ar {α:Type}(p:Nat->α->Prop):Tr α->(Nat->Nat)->Prop
 | .e g,f=>∀i,p (f i) (g i)
 | .n x l r,f=>p (f 0) x/\Ar p l (fun i=>f (2*i+1))/\Ar p r (fun i=>f (2*i+2))
theorem Tr.su {α:Type}{p:Nat->α->Prop}:∀ {f:Nat->Nat} (t:Tr α),t.Ar p f->∀k,p (f k) (t.get k)
 |f, .e g,h,k=>h k
 |f, .n x l r,h,k=>by
  obtain⟨h1,h2,h3⟩:=h
  rw[Tr.py]
  split
  ·rename_i e;subst e;exact h1
  ·split
   ·have:=Tr.su l h2 (k/2)
    rwa [show 2*(k/2)+1=k by omega]at this
   ·have:=Tr.su r h3 (k/2 - 1)
    rwa [show 2*(k/2 - 1)+2=k by omega]at this
end Go.Proofs.YtpkobkdgcanmjaaGreat
namespace Go.Proofs.YtpkobkdgcanmjaaGreat
@[reducible] def mv (d s:Nat):bK:=⟨some d, .move (.tmp s),none⟩
@[reducible] def m6 (d:Nat) (n:Int):bK:=⟨some d, .move (.const (.int .i64 n)),none⟩
@[reducible] def sg (d s:Nat):bK:=⟨some d, .assign (.tmp s),none⟩
@[reducible] def cm (d:Nat) (n:Int):bK:=⟨some d, .assign (.const (.int .i64 n)),none⟩
@[reducible] def bc (d:Nat) (b:Bool):bK:=⟨some d, .assign (.const (.bool b)),none⟩
@[reducible] def ld (d t s:Nat):bK:=⟨some d, .load t (.tmp s),none⟩
@[reducible] def st (t a b:Nat):bK:=⟨none, .store t (.tmp a) (.tmp b),none⟩
@[reducible] def fa (d t s f:Nat):bK:=⟨some d, .fieldAddr t (.tmp s) f,none⟩
@[reducible] def ex (d s i:Nat):bK:=⟨some d, .extract (.tmp s) i,none⟩
@[reducible] def bn (d c a:Nat):bK:=⟨some d, .pick (.tmp c) (.tmp a) (.const (.bool false)),none⟩
@[reducible] def cE (d c a:Nat):bK:=⟨some d, .pick (.tmp c) (.const (.bool true)) (.tmp a),none⟩
@[reducible] def ia (d t x i:Nat):bK:=⟨some d, .indexAddr t (.tmp x) (.tmp i),none⟩
@[reducible] def bx (d t s:Nat):bK:=⟨some d, .box t (.tmp s),none⟩
@[reducible] def al (d t:Nat):bK:=⟨some d, .alloc t,none⟩
@[reducible] def ln (d s t:Nat):bK:=⟨some d, .call {callee:= .builtin .len,args:=#[.tmp s],argTypes:=#[t]},none⟩
@[reducible] def k0 (d f:Nat):bK:=⟨some d, .call {callee:= .value (.func f),args:=#[],argTypes:=#[]},none⟩
@[reducible] def k1 (d f a t:Nat):bK:=⟨some d, .call {callee:= .value (.func f),args:=#[.tmp a],argTypes:=#[t]},none⟩
@[reducible] def k2 (d f a b t u:Nat):bK:=⟨some d, .call {callee:= .value (.func f),args:=#[.tmp a, .tmp b],argTypes:=#[t,u]},none⟩
@[reducible] def k3 (d f a b c t u v:Nat):bK:=⟨some d, .call {callee:= .value (.func f),args:=#[.tmp a, .tmp b, .tmp c],argTypes:=#[t,u,v]},none⟩
@[reducible] def bo (op:BinOp) (d t x y u:Nat):bK:=⟨some d, .binOp op t (.tmp x) (.tmp y) u,none⟩
@[reducible] def bk (op:BinOp) (d t x:Nat) (n:Int) (u:Nat):bK:=⟨some d, .binOp op t (.tmp x) (.const (.int .i64 n)) u,none⟩
@[reducible] def nt (d t s:Nat):bK:=⟨some d, .unOp .not t (.tmp s),none⟩
@[reducible] def nc (d s:Nat):bK:=⟨some d, .nilCheck (.tmp s),none⟩
@[reducible] def gT (o:bK) (g:Nat):bK:=⟨o.dst,o.op,some (g,true)⟩
@[reducible] def gF (o:bK) (g:Nat):bK:=⟨o.dst,o.op,some (g,false)⟩
attribute [go_sem] mv m6 sg cm bc ld st fa ex bn cE ia bx al ln k0 k1 k2 k3 bo bk nt nc gT gF
end Go.Proofs.YtpkobkdgcanmjaaGreat
