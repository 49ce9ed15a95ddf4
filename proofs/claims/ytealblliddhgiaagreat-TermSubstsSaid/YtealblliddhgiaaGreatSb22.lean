/-
  A PART OF THE PROOF. Conditions: none.
-/
import Derived.Test.YtealblliddhgiaaGreatSb21
set_option linter.unusedSimpArgs false
set_option linter.unusedVariables false
namespace Go.Proofs.YtealblliddhgiaaGreat
def findF (l : List TB) (n : Int) : Int := match l.findIdx? (·.var == n) with | some i => i | none => -1
theorem find_c (l : List TB) (n : Int) (hl : l.length <= 1000000) : PCt Tryz.prog 56 [.sl (l.map TB.d), .i n] (.ret [.i (findF l n)]) := by
 refine PCt.of_ev mix fn56 (by simp) ?_
 rw [c56]
 simp +contextual (disch := first | omega | simp only [go_sem, false_implies]) only [go_sem, wrap64, if_pos, and_self]
 refine loop_fam (fun k : Nat => ⟨envJ [.d (.sl (l.map TB.d)), .d (.i n), .junk, .junk, .junk, .d (.i k)], fun _ => .no, 0⟩)
  (fun k => k <= l.length /\ ∀ j x, j < k -> l[j]? = some x -> x.var ≠ n) (fun k => l.length - k) 0 ⟨Nat.zero_le _, fun _ _ h => absurd h (by omega)⟩ (SLe.d0 _ ?_) (fun k hk => ?_)
 ·(repeat (first | exact backE_nil | refine backE_junk ?_ | refine backE_d rfl ?_ | refine backE_d (d_int (wrapN (by omega))) ?_ | refine backE_v rfl (by simp [V.refs, V.refss] <;> first | omega | assumption) ?_))
 simp +contextual (disch := first | omega | simp only [go_sem, false_implies]) only [go_sem, wrap64, if_pos, List.length_map]
 refine cond_intro (fun h2 => ?_) (fun h2 => ?_)
 ·simp at h2
  obtain ⟨x, hx⟩ := get_of_lt h2
  simp +contextual (disch := first | omega | simp only [go_sem, false_implies]) only [go_sem, wrap64, if_pos, List.length_map, hx]
  refine cond_intro (fun h3 => ?_) (fun h3 => ?_)
  ·have h3' : x.var = n := by simpa using h3
   have : findF l n = k := by
    have : l.findIdx? (·.var == n) = some k := by
     rw [List.findIdx?_eq_some_iff_getElem]
     obtain ⟨hkl, e⟩ := List.getElem?_eq_some_iff.1 hx
     refine ⟨hkl, by rw [e]; simpa using h3', fun j hj => ?_⟩
     have := hk.2 j _ hj (List.getElem?_eq_getElem (by omega))
     simpa using this
    rw [findF, this]
   rw [this]
   simp +contextual (disch := first | omega | simp only [go_sem, false_implies]) only [go_sem, wrap64, if_pos, and_self]
  ·have h3' : x.var ≠ n := by simpa using h3
   simp +contextual (disch := first | omega | simp only [go_sem, false_implies]) only [go_sem, wrap64, if_pos, and_self]
   refine nextS_intro (k + 1) ⟨h2, fun j y hj hy => ?_⟩ (by omega) (SLe.d0 _ ?_)
   ·by_cases e : j = k
    ·subst e; rw [hx] at hy; injection hy with hy; rw [<- hy]; exact h3'
    ·exact hk.2 j y (by omega) hy
   ·(repeat (first | exact backE_nil | refine backE_junk ?_ | refine backE_d rfl ?_ | refine backE_d (d_int (wrapN (by omega))) ?_ | refine backE_v rfl (by simp [V.refs, V.refss] <;> first | omega | assumption) ?_))
 ·simp at h2
  have : findF l n = -1 := by
   have : l.findIdx? (·.var == n) = none := by
    rw [List.findIdx?_eq_none_iff]
    intro x hx
    obtain ⟨j, hj, e⟩ := List.getElem_of_mem hx
    have := hk.2 j x (by omega) (by rw [List.getElem?_eq_getElem hj, e])
    simpa using this
   rw [findF, this]
  rw [this]
  simp +contextual (disch := first | omega | simp only [go_sem, false_implies]) only [go_sem, wrap64, if_pos, and_self]
theorem find_lk (l : List TB) (n : Int) : (findF l n < 0 /\ lkT (bdsF l) n = none) \/ ∃ (k : Nat) (x : TB), findF l n = k /\ l[k]? = some x /\ lkT (bdsF l) n = some x.term := by
 induction l with
 | nil => left; exact ⟨by simp [findF], rfl⟩
 | cons y l ih =>
   by_cases h : y.var = n
   ·right
    refine ⟨0, y, ?_, rfl, ?_⟩
    ·simp [findF, List.findIdx?_cons, h]
    ·simp [bdsF, lkT, h]
   ·have hf : lkT (bdsF (y :: l)) n = lkT (bdsF l) n := by simp [bdsF, lkT, h]
    have h' : (y.var == n) = false := by simpa using h
    rw [hf]
    unfold findF at ih ⊢
    rw [List.findIdx?_cons, h']
    simp only [Bool.false_eq_true, if_false]
    rcases ih with ⟨h1, h2⟩ | ⟨k, x, h1, h2, h3⟩
    ·left
     refine ⟨?_, h2⟩
     cases hi : l.findIdx? (·.var == n) with
     | none => simp
     | some i => rw [hi] at h1; simp at h1; omega
    ·right
     refine ⟨k + 1, x, ?_, h2, h3⟩
     cases hi : l.findIdx? (·.var == n) with
     | none => rw [hi] at h1; simp at h1; try omega
     | some i => rw [hi] at h1; simp at h1 ⊢; try omega
theorem least_c (l : List Int) (hl : l.length <= 1000000) : PCt Tryz.prog 96 [.sl (l.map .i)] (.ret [.i (leastF l)]) := by
 obtain ⟨m, hm1, hm2, hm3, hm4⟩ := leastF_spec l
 refine PCt.of_ev mix fn96 (by simp) ?_
 rw [c96, hm1]
 simp +contextual (disch := first | omega | simp only [go_sem, false_implies]) only [go_sem, wrap64, if_pos, and_self]
 refine loop_fam (fun k : Nat => ⟨envJ [.d (.sl (l.map .i)), .junk, .junk, .d (.i k)], fun _ => .no, 0⟩)
  (fun k => k <= m) (fun k => m - k) 0 (Nat.zero_le _) (SLe.d0 _ ?_) (fun k hk => ?_)
 ·(repeat (first | exact backE_nil | refine backE_junk ?_ | refine backE_d rfl ?_ | refine backE_d (d_int (wrapN (by omega))) ?_ | refine backE_v rfl (by simp [V.refs, V.refss] <;> first | omega | assumption) ?_))
 simp +contextual (disch := first | omega | simp only [go_sem, false_implies]) only [go_sem, wrap64, if_pos, and_self]
 refine call_keep (has_c l k hl) rfl ?_
 simp +contextual (disch := first | omega | simp only [go_sem, false_implies]) only [go_sem, wrap64, if_pos, and_self]
 refine cond_intro (fun h2 => ?_) (fun h2 => ?_)
 ·have hmem : (k : Int) ∈ l := by simpa using h2
  have hlt : k < m := by
   rcases Nat.lt_or_eq_of_le hk with h | h
   ·exact h
   ·subst h; exact absurd hmem hm2
  simp +contextual (disch := first | omega | simp only [go_sem, false_implies]) only [go_sem, wrap64, if_pos, and_self]
  refine nextS_intro (k + 1) hlt (by omega) (SLe.d0 _ ?_)
  (repeat (first | exact backE_nil | refine backE_junk ?_ | refine backE_d rfl ?_ | refine backE_d (d_int (wrapN (by omega))) ?_ | refine backE_v rfl (by simp [V.refs, V.refss] <;> first | omega | assumption) ?_))
 ·have hmem : (k : Int) ∉ l := fun h => by
   have h3 : l.contains (k : Int) = true := List.contains_iff_mem.2 h
   rw [h3] at h2
   cases h2
  have hem : k = m := by
   rcases Nat.lt_or_eq_of_le hk with h | h
   ·exact absurd (hm3 k h) hmem
   ·exact h
  subst hem
  simp +contextual (disch := first | omega | simp only [go_sem, false_implies]) only [go_sem, wrap64, if_pos, and_self]
mutual
def standF : Tm -> List Int -> List Int
 | .mk op n kids, out => standsF kids (if op = 1 \/ op = 8 then putF out n else out)
def standsF : List Tm -> List Int -> List Int
 | [], out => out
 | k :: l, out => standsF l (standF k out)
end
theorem standF_eq (t : Tm) (out : List Int) : standF t out = standsF t.kids (if t.op = 1 \/ t.op = 8 then putF out t.n else out) := by cases t; rfl
theorem len_standF : ∀ (t : Tm) (out : List Int), (standF t out).length <= out.length + t.sz := by
 refine Tm.ind' fun t ih out => ?_
 have hl : ∀ (l : List Tm) (out : List Int), (∀ k ∈ l, k ∈ t.kids) -> (standsF l out).length <= out.length + szs l := by
  intro l
  induction l with
  | nil => intro out _; simp [standsF, szs]
  | cons k l ihl =>
    intro out h
    have h1 := ih k (h k (List.mem_cons_self ..)) out
    have h2 := ihl (standF k out) fun x hx => h x (List.mem_cons_of_mem _ hx)
    rw [szs_cons]
    simp only [standsF]
    omega
 have h1 := hl t.kids (if t.op = 1 \/ t.op = 8 then putF out t.n else out) fun _ h => h
 have h2 := len_putF out t.n
 rw [standF_eq, Tm.sz_eq]
 split at h1 <;> rename_i h <;> simp only [h, if_true, if_false] <;> omega
theorem mem_standF : ∀ (t : Tm) (out : List Int) (v : Int), v ∈ standF t out ↔ v ∈ out \/ v ∈ sdF t := by
 refine Tm.ind' fun t ih out v => ?_
 have hl : ∀ (l : List Tm) (out : List Int), (∀ k ∈ l, k ∈ t.kids) -> (v ∈ standsF l out ↔ v ∈ out \/ v ∈ sdsF l) := by
  intro l
  induction l with
  | nil => intro out _; simp [standsF, sdsF]
  | cons k l ihl =>
    intro out h
    simp only [standsF, sdsF, List.mem_append]
    rw [ihl _ fun x hx => h x (List.mem_cons_of_mem _ hx), ih k (h k (List.mem_cons_self ..)), or_assoc]
 rw [standF_eq, hl _ _ fun _ h => h, sdF_eq, List.mem_append]
 split
 ·rw [mem_putF]
  simp only [List.mem_singleton, or_assoc]
 ·simp
def standB : IC := c95.snd.snd.fst.snd.fst.fst
theorem stand_loop {t : Tm} (hf : t.fits) (ih : ∀ k ∈ t.kids, k.fits -> ∀ out : List Int, out.length + k.sz <= 1000000 -> PCt Tryz.prog 95 [k.d, .sl (out.map .i)] (.ret [.sl ((standF k out).map .i)])) (out : List Int) (hb : out.length + szs t.kids <= 1000000) {e : Nat -> V} {o : Nat -> Obj'} {nx : Nat} {Q : Xit -> S -> Prop}
 (hs : SLe 0 ⟨e, o, nx⟩ ⟨envJ [.junk, .d (.sl (out.map .i)), .ptr 0 0, .junk, .junk, .d (.i 0)], oneRow t.row, 1⟩)
 (hQ : ∀ e' , e' 1 = .d (.sl ((standsF t.kids out).map .i)) -> Q (.exit 0) ⟨e', oneRow t.row, 6⟩) :
 loopS 0 (fun Q s => evW Tryz.prog 33 0 false standB Q s) Q ⟨e, o, nx⟩ := by
 have hf' := (Tm.fits_iff _).1 hf
 refine loop_fam (fun i : Nat × List Int => ⟨envJ [.junk, .d (.sl (i.2.map .i)), .ptr 0 0, .junk, .junk, .d (.i i.1)], oneRow t.row, 1⟩)
  (fun i => i.1 <= t.kids.length /\ standsF t.kids out = standsF (t.kids.drop i.1) i.2 /\ i.2.length + szs (t.kids.drop i.1) <= 1000000) (fun i => t.kids.length - i.1) (0, out) ⟨Nat.zero_le _, rfl, hb⟩ hs ?_
 rintro ⟨k, b'⟩ ⟨hk, hv, hlen⟩
 simp only at hk hv hlen
 simp only [standB, c95, IC.snd, IC.fst]
 simp +contextual (disch := first | omega | simp only [go_sem, false_implies]) only [go_sem, wrap64, if_pos, and_self]
 refine cond_intro (fun h2 => ?_) (fun h2 => ?_)
 ·simp at h2
  obtain ⟨x, hx⟩ := get_of_lt h2
  have hxm := List.mem_of_getElem? hx
  have hdr : t.kids.drop k = x :: t.kids.drop (k + 1) := by
   obtain ⟨h5, h6⟩ := List.getElem?_eq_some_iff.1 hx
   rw [List.drop_eq_getElem_cons h5, h6]
  rw [hdr, szs_cons] at hlen
  simp +contextual (disch := first | omega | simp only [go_sem, false_implies]) only [go_sem, wrap64, if_pos, hx]
  refine call_give (ih x hxm (hf'.2 x hxm) b' (by omega)) ?_
  simp +contextual (disch := first | omega | simp only [go_sem, false_implies]) only [go_sem, wrap64, if_pos, and_self]
  refine nextS_intro (k + 1, standF x b') ⟨h2, by dsimp only; rw [hv, hdr]; simp only [standsF], ?_⟩ (by dsimp only; omega) (SLe.d1 _ (oneRow_good rfl) (by omega) rfl ?_)
  ·dsimp only
   have := len_standF x b'
   omega
  ·(repeat (first | exact backE_nil | refine backE_junk ?_ | refine backE_d rfl ?_ | refine backE_d (d_int (wrapN (by omega))) ?_ | refine backE_v rfl (by simp [V.refs, V.refss] <;> first | omega | assumption) ?_))
 ·simp at h2
  simp +contextual (disch := first | omega | simp only [go_sem, false_implies]) only [go_sem, wrap64, if_pos, and_self]
  have hnil : t.kids.drop k = [] := List.drop_eq_nil_of_le h2
  rw [hnil] at hv
  simp only [standsF] at hv
  rw [hv] at hQ
  exact hQ _ rfl
theorem stand_c : ∀ t : Tm, t.fits -> ∀ out : List Int, out.length + t.sz <= 1000000 -> PCt Tryz.prog 95 [t.d, .sl (out.map .i)] (.ret [.sl ((standF t out).map .i)]) := by
 refine Tm.ind' fun t ih hf out hb => ?_
 refine PCt.of_ev mix fn95 (by simp) ?_
 rw [c95, standF_eq]
 have hts := Tm.sz_eq t
 cases h1 : (t.op == 1 || t.op == 8) with
 | true =>
   have h1' : t.op = 1 \/ t.op = 8 := by simpa using h1
   rw [if_pos h1']
   simp +contextual (disch := first | omega | simp only [go_sem, false_implies]) only [go_sem, wrap64, if_pos, h1]
   have hlp := len_putF out t.n
   refine call_give (put_c out t.n (by omega)) ?_
   simp +contextual (disch := first | omega | simp only [go_sem, false_implies]) only [go_sem, wrap64, if_pos, and_self]
   refine stand_loop hf ih (putF out t.n) (by omega) ?_ fun e' he => ?_
   ·refine SLe.d1 _ (oneRow_good rfl) (by omega) rfl ?_
    (repeat (first | exact backE_nil | refine backE_junk ?_ | refine backE_d rfl ?_ | refine backE_d (d_int (wrapN (by omega))) ?_ | refine backE_v rfl (by simp [V.refs, V.refss] <;> first | omega | assumption) ?_))
   simp +contextual (disch := first | omega | simp only [go_sem, false_implies]) only [go_sem, wrap64, if_pos, he]
 | false =>
   have h1' : ¬ (t.op = 1 \/ t.op = 8) := by simpa using h1
   rw [if_neg h1']
   simp +contextual (disch := first | omega | simp only [go_sem, false_implies]) only [go_sem, wrap64, if_pos, h1]
   refine stand_loop hf ih out (by omega) ?_ fun e' he => ?_
   ·refine SLe.d1 _ (oneRow_good rfl) (by omega) rfl ?_
    (repeat (first | exact backE_nil | refine backE_junk ?_ | refine backE_d rfl ?_ | refine backE_d (d_int (wrapN (by omega))) ?_ | refine backE_v rfl (by simp [V.refs, V.refss] <;> first | omega | assumption) ?_))
   simp +contextual (disch := first | omega | simp only [go_sem, false_implies]) only [go_sem, wrap64, if_pos, he]
end Go.Proofs.YtealblliddhgiaaGreat
namespace Go.Proofs.YtealblliddhgiaaGreat
theorem caught_c (l : List TB) (body : Tm) (n : Int) (hl : l.length <= 1000000) (hb : body.Cnt) (hx : ∀ x ∈ l, x.term.Cnt) : PCt Tryz.prog 94 [.sl (l.map TB.d), body.d, .i n] (.ret [.bool (cauF (bdsF l) body n)]) := by
 have vl : ∀ t : Tm, t.Cnt -> (varsF t).length <= 1000000 := fun t ht => by have := varsF_len t; have := ht.size; rw [Tm.sizeI_sz] at this; omega
 have hca : cauF (bdsF l) body n = l.any fun p => fvB p.var body && fvB n p.term := by simp [cauF, bdsF, List.any_map, Function.comp_def]
 rw [hca]
 refine PCt.of_ev mix fn94 (by simp) ?_
 rw [c94]
 simp +contextual (disch := first | omega | simp only [go_sem, false_implies]) only [go_sem, wrap64, if_pos, and_self]
 refine call_give (rvars_c body hb) ?_
 simp +contextual (disch := first | omega | simp only [go_sem, false_implies]) only [go_sem, wrap64, if_pos, and_self]
 refine loop_fam (fun k : Nat => ⟨envJ [.d (.sl (l.map TB.d)), .junk, .d (.i n), .junk, .junk, .junk, .junk, .d (.sl ((varsF body).map .i)), .d (.i k)], fun _ => .no, 0⟩)
  (fun k => k <= l.length /\ (l.take k).any (fun p => fvB p.var body && fvB n p.term) = false) (fun k => l.length - k) 0 ⟨Nat.zero_le _, by simp⟩ (SLe.d0 _ ?_) (fun k hk => ?_)
 ·(repeat (first | exact backE_nil | refine backE_junk ?_ | refine backE_d rfl ?_ | refine backE_d (d_int (wrapN (by omega))) ?_ | refine backE_v rfl (by simp [V.refs, V.refss] <;> first | omega | assumption) ?_))
 simp +contextual (disch := first | omega | simp only [go_sem, false_implies]) only [go_sem, wrap64, if_pos, List.length_map]
 refine cond_intro (fun h2 => ?_) (fun h2 => ?_)
 ·simp at h2
  obtain ⟨x, hxk⟩ := get_of_lt h2
  have hxm := List.mem_of_getElem? hxk
  simp +contextual (disch := first | omega | simp only [go_sem, false_implies]) only [go_sem, wrap64, if_pos, List.length_map, hxk]
  refine call_keep (has_c (varsF body) x.var (vl body hb)) rfl ?_
  rw [con_fv]
  have htk : (l.take (k + 1)).any (fun p => fvB p.var body && fvB n p.term) = ((l.take k).any (fun p => fvB p.var body && fvB n p.term) || (fvB x.var body && fvB n x.term)) := by rw [List.take_add_one, hxk]; simp
  cases hf : fvB x.var body with
  | false =>
    simp +contextual (disch := first | omega | simp only [go_sem, false_implies]) only [go_sem, wrap64, if_pos, List.length_map, hxk]
    refine nextS_intro (k + 1) ⟨h2, by rw [htk, hk.2, hf]; rfl⟩ (by omega) (SLe.d0 _ ?_)
    (repeat (first | exact backE_nil | refine backE_junk ?_ | refine backE_d rfl ?_ | refine backE_d (d_int (wrapN (by omega))) ?_ | refine backE_v rfl (by simp [V.refs, V.refss] <;> first | omega | assumption) ?_))
  | true =>
    simp +contextual (disch := first | omega | simp only [go_sem, false_implies]) only [go_sem, wrap64, if_pos, List.length_map, hxk]
    refine call_give (rvars_c x.term (hx x hxm)) ?_
    simp +contextual (disch := first | omega | simp only [go_sem, false_implies]) only [go_sem, wrap64, if_pos, List.length_map, hxk]
    refine call_keep (has_c (varsF x.term) n (vl _ (hx x hxm))) rfl ?_
    rw [con_fv]
    cases hg : fvB n x.term with
    | false =>
      simp +contextual (disch := first | omega | simp only [go_sem, false_implies]) only [go_sem, wrap64, if_pos, and_self]
      refine nextS_intro (k + 1) ⟨h2, by rw [htk, hk.2, hf, hg]; rfl⟩ (by omega) (SLe.d0 _ ?_)
      (repeat (first | exact backE_nil | refine backE_junk ?_ | refine backE_d rfl ?_ | refine backE_d (d_int (wrapN (by omega))) ?_ | refine backE_v rfl (by simp [V.refs, V.refss] <;> first | omega | assumption) ?_))
    | true =>
      simp +contextual (disch := first | omega | simp only [go_sem, false_implies]) only [go_sem, wrap64, if_pos, and_self]
      have : (l.any fun p => fvB p.var body && fvB n p.term) = true := List.any_eq_true.2 ⟨x, hxm, by rw [hf, hg]; rfl⟩
      rw [this]
 ·simp at h2
  simp +contextual (disch := first | omega | simp only [go_sem, false_implies]) only [go_sem, wrap64, if_pos, and_self]
  have := hk.2
  rw [List.take_of_length_le (by omega)] at this
  rw [this]
def witF (l : List TB) (n : Int) : List TB := l.filter fun x => x.var != n
theorem wit_inn (l : List TB) (n : Int) : bdsF (witF l n) = innF (bdsF l) n := by
 simp [bdsF, witF, innF, List.filter_map, Function.comp_def]
theorem without_c (l : List TB) (n : Int) (hl : l.length <= 1000000) : PCt Tryz.prog 93 [.sl (l.map TB.d), .i n] (.ret [.sl ((witF l n).map TB.d)]) := by
 refine PCt.of_ev mix fn93 (by simp) ?_
 rw [c93]
 simp +contextual (disch := first | omega | simp only [go_sem, false_implies]) only [go_sem, wrap64, if_pos, and_self]
 refine loop_fam (fun i : Nat => ⟨envJ [.d (.sl (l.map TB.d)), .d (.i n), .junk, .junk, .junk, .osl 0 0, .d (.i i)], upd (fun _ => .no) 0 (.arr 0 52 4 ((witF (l.take i) n).map TB.d)), 1⟩)
  (fun i => i <= l.length) (fun i => l.length - i) 0 (Nat.zero_le _) (SLe.see1 (ty := 52) (sz := 4) (es := []) (fun _ => False) .nils 0 _ (by omega) (fun j hj => absurd hj (by omega)) (by rw [upd_same]; simp [witF]) (.inl ⟨rfl, rfl, by decide⟩) (fun j hj => by (repeat (first | rfl | rw [upd_same] | rw [upd_ne _ _ _ _ (by omega)]))) (fun _ h => h.elim) ?_) ?_
 ·(repeat (first | exact seeE_nil | refine seeE_junk ?_ | refine seeE_d rfl ?_ | refine seeE_d (d_int (wrapN (by omega))) ?_ | refine seeE_g 0 rfl rfl rfl ?_ | refine seeE_v rfl (by simp [V.refs, V.refss] <;> first | omega | assumption) ?_ | refine seeE_c rfl (by simp [V.ids] <;> omega) ?_))
 rintro k hk
 replace hk : k <= l.length := hk
 simp +contextual (disch := first | omega | simp only [go_sem, false_implies]) only [go_sem, wrap64, if_pos, List.length_map]
 refine cond_intro (fun h2 => ?_) (fun h2 => ?_)
 ·simp at h2
  obtain ⟨x, hx⟩ := get_of_lt h2
  have htk : l.take (k + 1) = l.take k ++ [x] := by rw [List.take_add_one, hx]; rfl
  have hle : (witF (l.take k) n).length <= 1000000 := by
   have := List.length_filter_le (fun x : TB => x.var != n) (l.take k)
   have h3 : (l.take k).length <= l.length := by rw [List.length_take]; omega
   unfold witF; omega
  simp +contextual (disch := first | omega | simp only [go_sem, false_implies]) only [go_sem, wrap64, if_pos, List.length_map, hx]
  refine cond_intro (fun h3 => ?_) (fun h3 => ?_)
  ·have hw : witF (l.take (k + 1)) n = witF (l.take k) n ++ [x] := by rw [htk, witF, List.filter_append]; simp [witF, h3]
   simp +contextual (disch := first | omega | simp only [go_sem, false_implies]) only [go_sem, wrap64, if_pos, List.length_map, hx]
   refine nextS_intro (k + 1) h2 (by omega) (SLe.see1 (fun j => j = 0) (.osl 0 1) 0 _ (by omega) (fun j hj => absurd hj (by omega)) (upd_same _ _ _) (.inr ⟨0, 1, rfl, rfl, by rw [upd_same, hw, List.map_append]; rfl⟩) (fun j hj => by (repeat (first | rfl | rw [upd_same] | rw [upd_ne _ _ _ _ (by omega)]))) (fun j h h2 => by omega) ?_)
   (repeat (first | exact seeE_nil | refine seeE_junk ?_ | refine seeE_d rfl ?_ | refine seeE_d (d_int (wrapN (by omega))) ?_ | refine seeE_g 0 rfl rfl rfl ?_ | refine seeE_v rfl (by simp [V.refs, V.refss] <;> first | omega | assumption) ?_ | refine seeE_c rfl (by simp [V.ids] <;> omega) ?_))
  ·have hw : witF (l.take (k + 1)) n = witF (l.take k) n := by rw [htk, witF, List.filter_append]; simp [witF, h3]
   simp +contextual (disch := first | omega | simp only [go_sem, false_implies]) only [go_sem, wrap64, if_pos, List.length_map, hx]
   refine nextS_intro (k + 1) h2 (by omega) (SLe.see1 (fun j => j = 0) (.osl 0 0) 0 _ (by omega) (fun j hj => absurd hj (by omega)) (upd_same _ _ _) (.inr ⟨0, 0, rfl, rfl, by rw [upd_same, hw]⟩) (fun j hj => by (repeat (first | rfl | rw [upd_same] | rw [upd_ne _ _ _ _ (by omega)]))) (fun j h h2 => by omega) ?_)
   (repeat (first | exact seeE_nil | refine seeE_junk ?_ | refine seeE_d rfl ?_ | refine seeE_d (d_int (wrapN (by omega))) ?_ | refine seeE_g 0 rfl rfl rfl ?_ | refine seeE_v rfl (by simp [V.refs, V.refss] <;> first | omega | assumption) ?_ | refine seeE_c rfl (by simp [V.ids] <;> omega) ?_))
 ·simp at h2
  have hkl : k = l.length := by omega
  subst hkl
  rw [List.take_length]
  simp +contextual (disch := first | omega | simp only [go_sem, false_implies]) only [go_sem, wrap64, if_pos, and_self]
end Go.Proofs.YtealblliddhgiaaGreat
namespace Go.Proofs.YtealblliddhgiaaGreat
structure BL (l : List TB) : Prop where
 len : l.length <= 100
 sz : ∀ x ∈ l, x.term.sz <= 1000
theorem Tm.Cnt.of_sz {t : Tm} (h : t.sz <= 1000000) (h2 : t.sz <= 900000) : t.Cnt := ⟨⟨Tm.fits_sz t h, Nat.le_trans (Tm.hgt_le_sz t) h2⟩, by rw [Tm.sizeI_sz]; omega⟩
def RSubC (t : Tm) : Prop := ∀ l, BL l -> PCt Tryz.prog 18 [t.d, .sl (l.map TB.d)] (.ret [(subF t.hgt (bdsF l) t).d])
theorem rsub_step {t : Tm} (hw : t.wf) (hz : t.sz <= 1000) (ih : ∀ k ∈ t.kids, RSubC k) (hlet : t.op = 8 -> ∀ l, BL l -> PCt Tryz.prog 57 [t.d, .sl (l.map TB.d)] (.ret [(subF t.hgt (bdsF l) t).d])) : RSubC t := by
 intro l hb
 have hlen := hb.len
 refine PCt.of_ev mix fn18 (by simp) ?_
 rw [c18]
 by_cases h1 : t.op = 1
 ·have h1' : (t.op == 1) = true := by simpa using h1
  simp +contextual (disch := first | omega | simp only [go_sem, false_implies]) only [go_sem, wrap64, if_pos, h1']
  refine call_keep (find_c l t.n (by omega)) rfl ?_
  rcases find_lk l t.n with ⟨f1, f2⟩ | ⟨k, x, f1, f2, f3⟩
  ·have hs : subF t.hgt (bdsF l) t = t := by
    have hh : t.hgt = Tm.hgts t.kids + 1 := by rw [Tm.hgt_eq]; omega
    rw [hh]; simp only [subF]; rw [if_pos h1, f2]
   have f3 : decide (0 <= findF l t.n) = false := by simpa using f1
   rw [hs]
   simp +contextual (disch := first | omega | simp only [go_sem, false_implies]) only [go_sem, wrap64, if_pos, h1', f3]
  ·rw [subF_var h1 f3, f1]
   simp +contextual (disch := first | omega | simp only [go_sem, false_implies]) only [go_sem, wrap64, if_pos, h1', f2]
 ·have h1' : (t.op == 1) = false := by simpa using h1
  by_cases h8 : t.op = 8
  ·have h8' : (t.op == 8) = true := by simpa using h8
   simp +contextual (disch := first | omega | simp only [go_sem, false_implies]) only [go_sem, wrap64, if_pos, h1', h8']
   refine call_give (hlet h8 l hb) ?_
   simp +contextual (disch := first | omega | simp only [go_sem, false_implies]) only [go_sem, wrap64, if_pos, h1', h8']
  ·have h8' : (t.op == 8) = false := by simpa using h8
   simp +contextual (disch := first | omega | simp only [go_sem, false_implies]) only [go_sem, wrap64, if_pos, h1', h8']
   rw [<- subF_kids hw h8 (fun e => absurd e h1)]
   have hsz : szs t.kids <= 1000 := by rw [Tm.sz_eq] at hz; omega
   have hln := len_szs t.kids
   refine loop_fam (fun i : Nat => ⟨envJ [.junk, .d (.sl (l.map TB.d)), .ptr 0 0, .junk, .ptr 1 0, .junk, .osl 2 0, .d (.i i)], upd (upd (upd (fun _ => .no) 0 (.row t.row)) 1 (.row [.d (.i 0), .d (.i 0), .nils])) 2 (.arr 0 28 3 (((t.kids.take i).map (kidS (bdsF l))).map Tm.d)), 3⟩)
    (fun i => i <= t.kids.length) (fun i => t.kids.length - i) 0 (Nat.zero_le _) (SLe.see1 (ty := 28) (sz := 3) (es := []) (fun _ => False) .nils 2 _ (by omega) (lt2 (seeO_same rfl (by simp [Obj'.refs, V.refss, V.refs])) (seeO_same rfl (by simp [Obj'.refs, V.refss, V.refs]))) (by rw [upd_same]; simp) (.inl ⟨rfl, rfl, by decide⟩) (fun j hj => by (repeat (first | rfl | rw [upd_same] | rw [upd_ne _ _ _ _ (by omega)]))) (fun _ h => h.elim) ?_) ?_
   ·(repeat (first | exact seeE_nil | refine seeE_junk ?_ | refine seeE_d rfl ?_ | refine seeE_d (d_int (wrapN (by omega))) ?_ | refine seeE_g 0 rfl rfl rfl ?_ | refine seeE_v rfl (by simp [V.refs, V.refss] <;> first | omega | assumption) ?_ | refine seeE_c rfl (by simp [V.ids] <;> omega) ?_))
   rintro k hk
   replace hk : k <= t.kids.length := hk
   simp +contextual (disch := first | omega | simp only [go_sem, false_implies]) only [go_sem, wrap64, if_pos, List.length_map]
   refine cond_intro (fun h2 => ?_) (fun h2 => ?_)
   ·simp at h2
    obtain ⟨x, hx⟩ := get_of_lt h2
    have hxm := List.mem_of_getElem? hx
    have htk : t.kids.take (k + 1) = t.kids.take k ++ [x] := by rw [List.take_add_one, hx]; rfl
    have e0 : (t.kids.take k).length = k := by rw [List.length_take]; omega
    simp +contextual (disch := first | omega | simp only [go_sem, false_implies]) only [go_sem, wrap64, if_pos, List.length_map, hx, e0]
    refine call_give (rs := [(kidS (bdsF l) x).d]) (ih x hxm l hb) ?_
    simp +contextual (disch := first | omega | simp only [go_sem, false_implies]) only [go_sem, wrap64, if_pos, List.length_map, hx, e0]
    refine nextS_intro (k + 1) h2 (by omega) (SLe.see1 (fun j => j = 2) (.osl 2 1) 2 _ (by omega) (lt2 (seeO_eq (y := .row t.row) (by (repeat (first | rfl | rw [upd_same] | rw [upd_ne _ _ _ _ (by omega)]))) (by (repeat (first | rfl | rw [upd_same] | rw [upd_ne _ _ _ _ (by omega)]))) (seeO_same rfl (by simp [Obj'.refs, V.refss, V.refs]))) (seeO_eq (y := .row [.d (.i 0), .d (.i 0), .nils]) (by (repeat (first | rfl | rw [upd_same] | rw [upd_ne _ _ _ _ (by omega)]))) (by (repeat (first | rfl | rw [upd_same] | rw [upd_ne _ _ _ _ (by omega)]))) (seeO_same rfl (by simp [Obj'.refs, V.refss, V.refs])))) (upd_same _ _ _) (.inr ⟨2, 1, rfl, rfl, by (repeat (first | rfl | rw [upd_same] | rw [upd_ne _ _ _ _ (by omega)])); rw [htk, List.map_append, List.map_append]; rfl⟩) (fun j hj => by (repeat (first | rfl | rw [upd_same] | rw [upd_ne _ _ _ _ (by omega)]))) (fun j h h2 => by omega) ?_)
    (repeat (first | exact seeE_nil | refine seeE_junk ?_ | refine seeE_d rfl ?_ | refine seeE_d (d_int (wrapN (by omega))) ?_ | refine seeE_g 0 rfl rfl rfl ?_ | refine seeE_v rfl (by simp [V.refs, V.refss] <;> first | omega | assumption) ?_ | refine seeE_c rfl (by simp [V.ids] <;> omega) ?_))
   ·simp at h2
    have hkl : k = t.kids.length := by omega
    subst hkl
    rw [List.take_length]
    simp +contextual (disch := first | omega | simp only [go_sem, false_implies]) only [go_sem, wrap64, if_pos, List.length_map]
    rw [Tm.d_mk]
end Go.Proofs.YtealblliddhgiaaGreat
namespace Go.Proofs.YtealblliddhgiaaGreat
def takR : List TB -> List Int -> List Int
 | [], o => o
 | x :: l, o => takR l (standF x.term (putF o x.var))
theorem mem_takR : ∀ (l : List TB) (o : List Int) (v : Int), v ∈ takR l o ↔ v ∈ o \/ ∃ p ∈ bdsF l, v = p.1 \/ v ∈ sdF p.2
 | [], o, v => by simp [takR, bdsF]
 | x :: l, o, v => by
   have ih := mem_takR l (standF x.term (putF o x.var)) v
   simp only [takR]
   rw [ih, mem_standF, mem_putF]
   simp only [bdsF, List.map_cons, List.mem_cons, exists_eq_or_imp, or_assoc]
theorem rlet_step {t : Tm} (hw : t.wf) (hz : t.sz <= 1000) (h8 : t.op = 8) (ih : ∀ t' : Tm, t'.wf -> t'.sz <= 1000 -> t'.hgt < t.hgt -> RSubC t') (l : List TB) (hb : BL l) :
 PCt Tryz.prog 57 [t.d, .sl (l.map TB.d)] (.ret [(subF t.hgt (bdsF l) t).d]) := by
 have hw' := (Tm.wf_iff t).1 hw
 obtain ⟨a, body, hk⟩ := two_of (hw'.2.1 h8)
 have ha : a ∈ t.kids := by rw [hk]; simp
 have hbd : body ∈ t.kids := by rw [hk]; simp
 have g1 := Tm.hgt_kid ha
 have g2 := Tm.hgt_kid hbd
 have s1 := Tm.sz_kid ha
 have s2 := Tm.sz_kid hbd
 have e1 : (t.kids.map Tm.d)[0]? = some a.d := by rw [hk]; rfl
 have e2 : (t.kids.map Tm.d)[1]? = some body.d := by rw [hk]; rfl
 have hlen := hb.len
 have hwb : BL (witF l t.n) := ⟨Nat.le_trans (List.length_filter_le _ _) hb.len, fun x hx => hb.sz x (List.mem_filter.1 hx).1⟩
 have cnt : ∀ x : Tm, x.sz <= 1000 -> x.Cnt := fun x h => Tm.Cnt.of_sz (by omega) (by omega)
 refine PCt.of_ev mix fn57 (by simp) ?_
 rw [c57]
 simp +contextual (disch := first | omega | simp only [go_sem, false_implies]) only [go_sem, wrap64, if_pos, e1, e2]
 refine callD_give (ih a (hw'.2.2 a ha) (by omega) (by omega) l hb) ?_
 simp +contextual (disch := first | omega | simp only [go_sem, false_implies]) only [go_sem, wrap64, if_pos, e1, e2]
 refine end_intro (by decide) ?_
 simp +contextual (disch := first | omega | simp only [go_sem, false_implies]) only [go_sem, wrap64, if_pos, e1, e2]
 refine call_give (without_c l t.n (by omega)) ?_
 simp +contextual (disch := first | omega | simp only [go_sem, false_implies]) only [go_sem, wrap64, if_pos, and_self]
 refine call_keep (caught_c (witF l t.n) body t.n (by have := hwb.len; omega) (cnt _ (by omega)) (fun x hx => cnt _ (hwb.sz x hx))) rfl ?_
 rw [wit_inn]
 cases hc : cauF (innF (bdsF l) t.n) body t.n with
 | false =>
   have hres : subF t.hgt (bdsF l) t = .mk 8 t.n [subF a.hgt (bdsF l) a, subF body.hgt (bdsF (witF l t.n)) body] := by
    have hh : t.hgt = Tm.hgts t.kids + 1 := by rw [Tm.hgt_eq]; omega
    generalize Tm.hgts t.kids = f at hh
    rw [wit_inn, hh]
    simp only [subF]
    rw [if_neg (by omega), if_pos h8, hk]
    simp only [hc, Bool.false_eq_true, if_false]
    rw [subF_more _ a.hgt a (bdsF l) (hw'.2.2 a ha) (by omega) (Nat.le_refl _), subF_more _ body.hgt body _ (hw'.2.2 body hbd) (by omega) (Nat.le_refl _)]
   simp +contextual (disch := first | omega | simp only [go_sem, false_implies]) only [go_sem, wrap64, if_pos, and_self]
   refine callD_give (ih body (hw'.2.2 body hbd) (by omega) (by omega) _ hwb) ?_
   simp +contextual (disch := first | omega | simp only [go_sem, false_implies]) only [go_sem, wrap64, if_pos, and_self]
   refine end_intro (by decide) ?_
   rw [hres]
   simp +contextual (disch := first | omega | simp only [go_sem, false_implies]) only [go_sem, wrap64, if_pos, and_self]
   rw [Tm.d_mk]
   rfl
 | true =>
   have hts := len_standF t []
   simp +contextual (disch := first | omega | simp only [go_sem, false_implies]) only [go_sem, wrap64, if_pos, and_self]
   refine call_give (stand_c t (Tm.fits_sz t (by omega)) [] (by simp; omega)) ?_
   simp +contextual (disch := first | omega | simp only [go_sem, false_implies]) only [go_sem, wrap64, if_pos, and_self]
   refine loop_fam (fun i : Nat × List Int => ⟨envJ [.junk, .d (.sl (l.map TB.d)), .ptr 0 0, .junk, .ptr 1 0, .ptr 12 0, .ptr 13 0, .d (.sl ((witF l t.n).map TB.d)), .d (.i t.n), .d (.sl (i.2.map .i)), .d (.i i.1)], upd (upd (upd (upd (fun _ => .no) 0 (.row t.row)) 1 (.row [.d (.i 0), .d (.i 0), .nils])) 12 (.row (subF a.hgt (bdsF l) a).row)) 13 (.row body.row), 32⟩)
    (fun i => i.1 <= l.length /\ takR l (standF t []) = takR (l.drop i.1) i.2 /\ i.2.length + 1001 * (l.drop i.1).length <= 900000) (fun i => l.length - i.1) (0, standF t []) ⟨Nat.zero_le _, rfl, by simp at hts ⊢; omega⟩ (SLe.backL _ (by decide) (Nat.le_refl _) (by repeat (first | exact hg.mono (by omega) | exact Good.nil | refine Good.upd ?_ (by omega) rfl | refine Good.upd ?_ (by omega) (hLr _ _ _ (by omega)) | refine Good.upd ?_ (by omega) (by simp [Obj'.refs, V.refss, V.refs] <;> omega))) (fun j _ => ?_) ?_) ?_
   ·by_cases e : j = 13
    ·subst e; (repeat (first | rfl | rw [upd_same] | rw [upd_ne _ _ _ _ (by omega)]))
    ·by_cases e3 : j = 12
     ·subst e3; (repeat (first | rfl | rw [upd_same] | rw [upd_ne _ _ _ _ (by omega)]))
     ·simp only [upd_apply, e, e3, if_false]
   ·(repeat (first | exact backE_nil | refine backE_junk ?_ | refine backE_d rfl ?_ | refine backE_d (d_int (wrapN (by omega))) ?_ | refine backE_v rfl (by simp [V.refs, V.refss] <;> first | omega | assumption) ?_))
   rintro ⟨k, o⟩ ⟨hk', hv, hol⟩
   simp only at hk' hv hol
   simp +contextual (disch := first | omega | simp only [go_sem, false_implies]) only [go_sem, wrap64, if_pos, List.length_map]
   refine cond_intro (fun h2 => ?_) (fun h2 => ?_)
   ·simp at h2
    obtain ⟨x, hx⟩ := get_of_lt h2
    have hxm := List.mem_of_getElem? hx
    have hdr : l.drop k = x :: l.drop (k + 1) := by
     obtain ⟨h5, h6⟩ := List.getElem?_eq_some_iff.1 hx
     rw [List.drop_eq_getElem_cons h5, h6]
    have hxz := hb.sz x hxm
    have hpl := len_putF o x.var
    have hsl := len_standF x.term (putF o x.var)
    rw [hdr, List.length_cons] at hol
    simp +contextual (disch := first | omega | simp only [go_sem, false_implies]) only [go_sem, wrap64, if_pos, List.length_map, hx]
    refine callD_give (put_c o x.var (by omega)) ?_
    simp +contextual (disch := first | omega | simp only [go_sem, false_implies]) only [go_sem, wrap64, if_pos, List.length_map, hx]
    refine callD_give (stand_c x.term (Tm.fits_sz _ (by omega)) (putF o x.var) (by omega)) ?_
    simp +contextual (disch := first | omega | simp only [go_sem, false_implies]) only [go_sem, wrap64, if_pos, List.length_map, hx]
    refine end_intro (by decide) ?_
    simp +contextual (disch := first | omega | simp only [go_sem, false_implies]) only [go_sem, wrap64, if_pos, List.length_map, hx]
    refine nextS_intro (k + 1, standF x.term (putF o x.var)) ⟨h2, by dsimp only; rw [hv, hdr]; simp only [takR], by dsimp only; omega⟩ (by dsimp only; omega) (SLe.backL _ (by decide) (by omega) (by repeat (first | exact hg.mono (by omega) | exact Good.nil | refine Good.upd ?_ (by omega) rfl | refine Good.upd ?_ (by omega) (hLr _ _ _ (by omega)) | refine Good.upd ?_ (by omega) (by simp [Obj'.refs, V.refss, V.refs] <;> omega))) (fun j _ => by (repeat (first | rfl | rw [upd_same] | rw [upd_ne _ _ _ _ (by omega)]))) ?_)
    (repeat (first | exact backE_nil | refine backE_junk ?_ | refine backE_d rfl ?_ | refine backE_d (d_int (wrapN (by omega))) ?_ | refine backE_v rfl (by simp [V.refs, V.refss] <;> first | omega | assumption) ?_))
   ·simp at h2
    have hnil : l.drop k = [] := List.drop_eq_nil_of_le h2
    rw [hnil] at hv hol
    simp only [takR, List.length_nil] at hv hol
    have hle : leastF o = leastF (takenF (bdsF l) t) := leastF_congr fun v => by
     rw [<- hv, mem_takR, mem_standF, mem_taken]
     simp
    simp +contextual (disch := first | omega | simp only [go_sem, false_implies]) only [go_sem, wrap64, if_pos, List.length_map]
    refine call_keep (least_c o (by omega)) rfl ?_
    rw [hle]
    generalize hmv : leastF (takenF (bdsF l) t) = mv at *
    simp +contextual (disch := first | omega | simp only [go_sem, false_implies]) only [go_sem, wrap64, if_pos, and_self]
    refine callD_give (rvar_c mv) ?_
    simp +contextual (disch := first | omega | simp only [go_sem, false_implies]) only [go_sem, wrap64, if_pos, and_self]
    have hvw : (Tm.mk 1 mv []).sz = 1 := by rw [Tm.sz_eq]; rfl
    have hb1 : BL [⟨t.n, .mk 1 mv []⟩] := ⟨by simp, by intro x hx; simp at hx; subst hx; show (Tm.mk 1 mv []).sz <= 1000; rw [hvw]; omega⟩
    have hren := ren_hgt body.hgt body [(t.n, .mk 1 mv [])] (hw'.2.2 body hbd) (Nat.le_refl _) (by intro p hp; simp at hp; subst hp; exact ⟨rfl, rfl⟩)
    have hres : subF t.hgt (bdsF l) t = .mk 8 mv [subF a.hgt (bdsF l) a, subF (subF body.hgt [(t.n, .mk 1 mv [])] body).hgt (bdsF (witF l t.n)) (subF body.hgt [(t.n, .mk 1 mv [])] body)] := by
     have hh : t.hgt = Tm.hgts t.kids + 1 := by rw [Tm.hgt_eq]; omega
     generalize Tm.hgts t.kids = f at hh
     rw [wit_inn, hh]
     simp only [subF]
     rw [if_neg (by omega), if_pos h8, hk]
     simp only [hc, if_true]
     rw [hmv, subF_more f a.hgt a (bdsF l) (hw'.2.2 a ha) (by omega) (Nat.le_refl _), subF_more f body.hgt body [(t.n, .mk 1 mv [])] (hw'.2.2 body hbd) (by omega) (Nat.le_refl _)]
     rw [subF_more f (subF body.hgt [(t.n, .mk 1 mv [])] body).hgt (subF body.hgt [(t.n, .mk 1 mv [])] body) (innF (bdsF l) t.n) hren.2.1 (by rw [hren.1]; omega) (Nat.le_refl _)]
    refine callD_give (ih body (hw'.2.2 body hbd) (by omega) (by omega) _ hb1) ?_
    simp +contextual (disch := first | omega | simp only [go_sem, false_implies]) only [go_sem, wrap64, if_pos, and_self]
    refine end_intro (by decide) ?_
    simp +contextual (disch := first | omega | simp only [go_sem, false_implies]) only [go_sem, wrap64, if_pos, and_self]
    refine callD_give (ih (subF body.hgt [(t.n, .mk 1 mv [])] body) hren.2.1 (by rw [hren.2.2]; omega) (by rw [hren.1]; omega) _ hwb) ?_
    simp +contextual (disch := first | omega | simp only [go_sem, false_implies]) only [go_sem, wrap64, if_pos, and_self]
    refine end_intro (by decide) ?_
    rw [hres]
    simp +contextual (disch := first | omega | simp only [go_sem, false_implies]) only [go_sem, wrap64, if_pos, and_self]
    rw [Tm.d_mk]
    rfl
end Go.Proofs.YtealblliddhgiaaGreat
namespace Go.Proofs.YtealblliddhgiaaGreat
theorem rsub_all : ∀ (n : Nat) (t : Tm), t.wf -> t.sz <= 1000 -> t.hgt <= n -> RSubC t
 | 0, t, _, _, h => by rw [Tm.hgt_eq] at h; omega
 | n + 1, t, hw, hz, h => by
   have ih : ∀ t' : Tm, t'.wf -> t'.sz <= 1000 -> t'.hgt < t.hgt -> RSubC t' := fun t' h1 h2 h3 => rsub_all n t' h1 h2 (by omega)
   have hw' := (Tm.wf_iff t).1 hw
   exact rsub_step hw hz (fun k hk => ih k (hw'.2.2 k hk) (by have := Tm.sz_kid hk; omega) (by have := Tm.hgt_kid hk; omega)) (fun h8 l hb => rlet_step hw hz h8 ih l hb)
def smallBF (l : List TB) : Bool := decide ((l.length : Int) <= 25) && l.all fun x => smallF x.term
theorem smallBinds_c (l : List TB) (hl : l.length <= 9223372036854775807) (hx : ∀ x ∈ l, x.term.fits) : PCt Tryz.prog 12 [.sl (l.map TB.d)] (.ret [.bool (smallBF l)]) := by
 refine PCt.of_ev mix fn12 (by simp) ?_
 rw [c12]
 simp +contextual (disch := first | omega | simp only [go_sem, false_implies]) only [go_sem, wrap64, if_pos, and_self]
 refine loop_fam (fun k : Nat => ⟨envJ [.d (.sl (l.map TB.d)), .junk, .junk, .d (.i k)], fun _ => .no, 0⟩)
  (fun k => k <= l.length /\ k <= 26 /\ ∀ j x, j < k -> l[j]? = some x -> smallF x.term = true) (fun k => l.length - k) 0 ⟨Nat.zero_le _, by omega, fun _ _ h => absurd h (by omega)⟩ (SLe.d0 _ ?_) (fun k hk => ?_)
 ·(repeat (first | exact backE_nil | refine backE_junk ?_ | refine backE_d rfl ?_ | refine backE_d (d_int (wrapN (by omega))) ?_ | refine backE_v rfl (by simp [V.refs, V.refss] <;> first | omega | assumption) ?_))
 obtain ⟨k1, k2, k3⟩ := hk
 have fin : ¬ (k < l.length /\ k <= 25) -> smallBF l = decide ((l.length : Int) <= 25) := by
  intro h
  unfold smallBF
  by_cases h5 : (l.length : Int) <= 25
  ·have : (l.all fun x => smallF x.term) = true := by
    rw [List.all_eq_true]
    intro x hx
    obtain ⟨j, hj, e⟩ := List.getElem_of_mem hx
    exact k3 j x (by omega) (by rw [List.getElem?_eq_getElem hj, e])
   rw [this, Bool.and_true]
  ·rw [decide_eq_false h5]; rfl
 by_cases h2 : k < l.length
 ·have h2' : decide ((k : Int) < (l.length : Int)) = true := by simpa using h2
  by_cases h3 : k <= 25
  ·have h3' : decide ((k : Int) <= 25) = true := by simp; omega
   obtain ⟨x, hxk⟩ := get_of_lt h2
   have hxm := List.mem_of_getElem? hxk
   simp +contextual (disch := first | omega | simp only [go_sem, false_implies]) only [go_sem, wrap64, if_pos, List.length_map, h2', h3', hxk]
   refine call_keep (small_c x.term (hx x hxm)) rfl ?_
   cases h4 : smallF x.term with
   | false =>
     have : smallBF l = false := by
      unfold smallBF
      have : (l.all fun x => smallF x.term) = false := by
       rw [Bool.eq_false_iff]; intro h; rw [List.all_eq_true] at h; have := h x hxm; rw [h4] at this; cases this
      rw [this, Bool.and_false]
     rw [this]
     simp +contextual (disch := first | omega | simp only [go_sem, false_implies]) only [go_sem, wrap64, if_pos, and_self]
   | true =>
     simp +contextual (disch := first | omega | simp only [go_sem, false_implies]) only [go_sem, wrap64, if_pos, and_self]
     refine nextS_intro (k + 1) ⟨h2, by omega, fun j y hj hy => ?_⟩ (by omega) (SLe.d0 _ ?_)
     ·by_cases e : j = k
      ·subst e; rw [hxk] at hy; injection hy with hy; rw [<- hy]; exact h4
      ·exact k3 j y (by omega) hy
     ·(repeat (first | exact backE_nil | refine backE_junk ?_ | refine backE_d rfl ?_ | refine backE_d (d_int (wrapN (by omega))) ?_ | refine backE_v rfl (by simp [V.refs, V.refss] <;> first | omega | assumption) ?_))
  ·have h3' : decide ((k : Int) <= 25) = false := by simp; omega
   rw [fin (by omega)]
   simp +contextual (disch := first | omega | simp only [go_sem, false_implies]) only [go_sem, wrap64, if_pos, List.length_map, h2', h3']
 ·have h2' : decide ((k : Int) < (l.length : Int)) = false := by simp; omega
  rw [fin (by omega)]
  simp +contextual (disch := first | omega | simp only [go_sem, false_implies]) only [go_sem, wrap64, if_pos, List.length_map, h2']
def prevV (l : List TB) : Nat -> Int
 | 0 => -1
 | k + 1 => match l[k]? with | some y => y.var | none => -1
theorem binds_c (s : TSig) (hs : s.Fits) (l : List TB) (hl : l.length <= 9223372036854775807) (hx : ∀ x ∈ l, x.term.fits) : PCt Tryz.prog 16 [s.d, .sl (l.map TB.d)] (.ret [.bool (listedF s l)]) := by
 refine PCt.of_ev mix fn16 (by simp) ?_
 rw [c16]
 by_cases h0 : (20 : Int) < l.length
 ·have h0' : decide ((20 : Int) < l.length) = true := by simpa using h0
  have : listedF s l = false := by unfold listedF; rw [decide_eq_false (by omega)]; rfl
  rw [this]
  simp +contextual (disch := first | omega | simp only [go_sem, false_implies]) only [go_sem, wrap64, if_pos, List.length_map, h0']
 ·have h0' : decide ((20 : Int) < l.length) = false := by simpa using h0
  have hL : listedF s l = (foldE (lstep s) (-1) l).2 := by unfold listedF; rw [decide_eq_true (by omega)]; rfl
  rw [hL]
  simp +contextual (disch := first | omega | simp only [go_sem, false_implies]) only [go_sem, wrap64, if_pos, List.length_map, h0']
  refine loop_fam (fun k : Nat => ⟨envJ [.junk, .d (.sl (l.map TB.d)), .ptr 0 0, .junk, .junk, .d (.i k)], oneRow s.row, 1⟩)
   (fun k => k <= l.length /\ (foldE (lstep s) (-1) l).2 = (foldE (lstep s) (prevV l k) (l.drop k)).2 /\ -1 <= prevV l k /\ (0 < k -> 0 <= prevV l k)) (fun k => l.length - k) 0 ⟨Nat.zero_le _, rfl, by simp [prevV], fun h => absurd h (by omega)⟩ (SLe.d1 _ (oneRow_good rfl) (by omega) rfl ?_) (fun k hk => ?_)
  ·(repeat (first | exact backE_nil | refine backE_junk ?_ | refine backE_d rfl ?_ | refine backE_d (d_int (wrapN (by omega))) ?_ | refine backE_v rfl (by simp [V.refs, V.refss] <;> first | omega | assumption) ?_))
  obtain ⟨k1, k2, k3, k4⟩ := hk
  simp +contextual (disch := first | omega | simp only [go_sem, false_implies]) only [go_sem, wrap64, if_pos, List.length_map]
  refine cond_intro (fun h2 => ?_) (fun h2 => ?_)
  ·simp at h2
   obtain ⟨x, hxk⟩ := get_of_lt h2
   have hxm := List.mem_of_getElem? hxk
   have hdr : l.drop k = x :: l.drop (k + 1) := by
    obtain ⟨h5, h6⟩ := List.getElem?_eq_some_iff.1 hxk
    rw [List.drop_eq_getElem_cons h5, h6]
   have hnx : prevV l (k + 1) = x.var := by simp only [prevV, hxk]
   have hstep : (foldE (lstep s) (-1) l).2 = if (decide (prevV l k < x.var) && decide (x.var < 20) && termF s x.term) = true then (foldE (lstep s) (prevV l (k + 1)) (l.drop (k + 1))).2 else false := by
    rw [k2, hdr, hnx]
    simp only [foldE, lstep, formedF_eq]
    split <;> rfl
   have hterm := term_c s hs x.term (hx x hxm)
   have bad : (decide (prevV l k < x.var) && decide (x.var < 20) && termF s x.term) = false -> (foldE (lstep s) (-1) l).2 = false := fun h => by rw [hstep, h]; rfl
   have next : (decide (prevV l k < x.var) && decide (x.var < 20) && termF s x.term) = true -> k + 1 <= l.length /\ (foldE (lstep s) (-1) l).2 = (foldE (lstep s) (prevV l (k + 1)) (l.drop (k + 1))).2 /\ -1 <= prevV l (k + 1) /\ (0 < k + 1 -> 0 <= prevV l (k + 1)) := fun h => by
    refine ⟨h2, by rw [hstep, if_pos h], ?_⟩
    rw [hnx]
    simp only [Bool.and_eq_true, decide_eq_true_eq] at h
    omega
   cases hi : inB x.var 0 19 with
   | false =>
     have hi' : ¬ (0 <= x.var /\ x.var <= 19) := by simpa [inB] using hi
     rw [bad (by rw [Bool.and_eq_false_iff, Bool.and_eq_false_iff, decide_eq_false_iff_not, decide_eq_false_iff_not]; left; omega)]
     simp +contextual (disch := first | omega | simp only [go_sem, false_implies]) only [go_sem, wrap64, if_pos, List.length_map, hxk]
     refine callD_keep (in_c x.var 0 19) rfl ?_
     rw [hi]
     simp +contextual (disch := first | omega | simp only [go_sem, false_implies]) only [go_sem, wrap64, if_pos, List.length_map, hxk]
     refine end_intro (by decide) ?_
     simp +contextual (disch := first | omega | simp only [go_sem, false_implies]) only [go_sem, wrap64, if_pos, and_self]
   | true =>
     have hi' : 0 <= x.var /\ x.var <= 19 := by simpa [inB] using hi
     rcases Nat.eq_zero_or_pos k with h5 | h5
     ·subst h5
      have hp0 : prevV l 0 = -1 := rfl
      simp +contextual (disch := first | omega | simp only [go_sem, false_implies]) only [go_sem, wrap64, if_pos, List.length_map, hxk]
      refine callD_keep (in_c x.var 0 19) rfl ?_
      rw [hi]
      simp +contextual (disch := first | omega | simp only [go_sem, false_implies]) only [go_sem, wrap64, if_pos, List.length_map, hxk]
      refine callD_keep hterm rfl ?_
      cases ht : termF s x.term with
      | false =>
        rw [bad (by rw [ht, Bool.and_false])]
        simp +contextual (disch := first | omega | simp only [go_sem, false_implies]) only [go_sem, wrap64, if_pos, List.length_map, hxk]
        refine end_intro (by decide) ?_
        simp +contextual (disch := first | omega | simp only [go_sem, false_implies]) only [go_sem, wrap64, if_pos, and_self]
      | true =>
        simp +contextual (disch := first | omega | simp only [go_sem, false_implies]) only [go_sem, wrap64, if_pos, List.length_map, hxk]
        refine end_intro (by decide) ?_
        simp +contextual (disch := first | omega | simp only [go_sem, false_implies]) only [go_sem, wrap64, if_pos, and_self]
        refine nextS_intro (0 + 1) (next (by rw [ht, Bool.and_true, Bool.and_eq_true, decide_eq_true_eq, decide_eq_true_eq]; omega)) (by omega) (SLe.d1 _ (oneRow_good rfl) (by omega) rfl ?_)
        (repeat (first | exact backE_nil | refine backE_junk ?_ | refine backE_d rfl ?_ | refine backE_d (d_int (wrapN (by omega))) ?_ | refine backE_v rfl (by simp [V.refs, V.refss] <;> first | omega | assumption) ?_))
     ·obtain ⟨j, rfl⟩ : ∃ j, k = j + 1 := ⟨k - 1, by omega⟩
      obtain ⟨y, hy⟩ := get_of_lt (show j < l.length by omega)
      have hpy : prevV l (j + 1) = y.var := by simp only [prevV, hy]
      have hcast : ((j + 1 : Nat) : Int) - 1 = (j : Int) := by omega
      have hpos : decide (((j + 1 : Nat) : Int) > 0) = true := by rw [decide_eq_true_eq]; omega
      have hpos' : decide ((0 : Int) < ((j + 1 : Nat) : Int)) = true := by rw [decide_eq_true_eq]; omega
      cases hlv : decide (x.var <= y.var) with
      | true =>
        have hlv' : x.var <= y.var := by simpa using hlv
        rw [bad (by rw [Bool.and_eq_false_iff, Bool.and_eq_false_iff, decide_eq_false_iff_not, decide_eq_false_iff_not]; left; omega)]
        simp +contextual (disch := first | omega | simp only [go_sem, false_implies]) only [go_sem, wrap64, if_pos, List.length_map, hxk]
        refine callD_keep (in_c x.var 0 19) rfl ?_
        rw [hi]
        simp +contextual (disch := first | omega | simp only [go_sem, false_implies]) only [go_sem, wrap64, if_pos, List.length_map, hxk, hpos, hpos', hcast, hy, hlv]
        refine end_intro (by decide) ?_
        simp +contextual (disch := first | omega | simp only [go_sem, false_implies]) only [go_sem, wrap64, if_pos, and_self]
      | false =>
        have hlv' : ¬ x.var <= y.var := by simpa using hlv
        simp +contextual (disch := first | omega | simp only [go_sem, false_implies]) only [go_sem, wrap64, if_pos, List.length_map, hxk]
        refine callD_keep (in_c x.var 0 19) rfl ?_
        rw [hi]
        simp +contextual (disch := first | omega | simp only [go_sem, false_implies]) only [go_sem, wrap64, if_pos, List.length_map, hxk, hpos, hpos', hcast, hy, hlv]
        refine callD_keep hterm rfl ?_
        cases ht : termF s x.term with
        | false =>
          rw [bad (by rw [ht, Bool.and_false])]
          simp +contextual (disch := first | omega | simp only [go_sem, false_implies]) only [go_sem, wrap64, if_pos, List.length_map, hxk]
          refine end_intro (by decide) ?_
          simp +contextual (disch := first | omega | simp only [go_sem, false_implies]) only [go_sem, wrap64, if_pos, and_self]
        | true =>
          simp +contextual (disch := first | omega | simp only [go_sem, false_implies]) only [go_sem, wrap64, if_pos, List.length_map, hxk]
          refine end_intro (by decide) ?_
          simp +contextual (disch := first | omega | simp only [go_sem, false_implies]) only [go_sem, wrap64, if_pos, and_self]
          refine nextS_intro (j + 1 + 1) (next (by rw [ht, Bool.and_true, Bool.and_eq_true, decide_eq_true_eq, decide_eq_true_eq]; omega)) (by omega) (SLe.d1 _ (oneRow_good rfl) (by omega) rfl ?_)
          (repeat (first | exact backE_nil | refine backE_junk ?_ | refine backE_d rfl ?_ | refine backE_d (d_int (wrapN (by omega))) ?_ | refine backE_v rfl (by simp [V.refs, V.refss] <;> first | omega | assumption) ?_))
  ·simp at h2
   rw [k2, List.drop_eq_nil_of_le h2]
   simp +contextual (disch := first | omega | simp only [go_sem, false_implies]) only [go_sem, wrap64, if_pos, List.length_map]
   rfl
end Go.Proofs.YtealblliddhgiaaGreat
section
namespace Go.Proofs.YtealblliddhgiaaGreat
open Go
def dat1 : Nat -> Bool := fun g => !([81, 63, 92, 98, 101, 107, 117, 100, 61, 72, 108, 131, 132, 133, 134, 135, 136, 138, 139, 143, 146, 147, 148, 110, 64, 127, 114, 113, 99] : List Nat).contains g
def cfgK : Cfg Tryz.prog := Cfg.of dat1 [] (fun _ h => by cases h)
theorem known_run : runD Tryz.prog tab cfgK 5000 13 [] = some (.ret [.bool true]) := by kernel_rfl
theorem known : PCt Tryz.prog 13 [] (.ret [.bool true]) := PCt.of_run mix tab_ok known_run
end Go.Proofs.YtealblliddhgiaaGreat
end
namespace Go.Proofs.YtealblliddhgiaaGreat
end Go.Proofs.YtealblliddhgiaaGreat
namespace Go.Proofs.YtealblliddhgiaaGreat
theorem blank0_c : PCt Tryz.prog 17 [(Tm.mk 0 0 []).d] (.ret [.bool true]) := by
 refine PCt.of_ev mix fn17 (by simp) ?_
 rw [c17]
 rw [Tm.d_mk]
 simp +contextual (disch := first | omega | simp only [go_sem, false_implies]) only [go_sem, wrap64, if_pos, and_self]
theorem termSubsts_c (s : TSig) (hs : s.Fits) (t : Tm) (ht : t.fits) (l : List TB) (hl : l.length <= 9223372036854775807) (hx : ∀ x ∈ l, x.term.fits) : PCt Tryz.prog 3 [s.d, t.d, .sl (l.map TB.d)] (.ret [.bool true]) := by
 refine PCt.of_ev mix fn3 (by simp) ?_
 rw [c3]
 simp +contextual (disch := first | omega | simp only [go_sem, false_implies]) only [go_sem, wrap64, if_pos, and_self]
 refine call_keep (smallL_c s hs [t] (by simp) (by simp [ht])) rfl ?_
 cases h1 : smallLF s [t] with
 | false =>
   simp +contextual (disch := first | omega | simp only [go_sem, false_implies]) only [go_sem, wrap64, if_pos, and_self]
   refine call_keep known rfl ?_
   simp +contextual (disch := first | omega | simp only [go_sem, false_implies]) only [go_sem, wrap64, if_pos, and_self]
 | true =>
   simp +contextual (disch := first | omega | simp only [go_sem, false_implies]) only [go_sem, wrap64, if_pos, and_self]
   refine call_keep (smallBinds_c l hl hx) rfl ?_
   cases h2 : smallBF l with
   | false =>
     simp +contextual (disch := first | omega | simp only [go_sem, false_implies]) only [go_sem, wrap64, if_pos, and_self]
     refine call_keep known rfl ?_
     simp +contextual (disch := first | omega | simp only [go_sem, false_implies]) only [go_sem, wrap64, if_pos, and_self]
   | true =>
     simp only [smallLF, Bool.and_eq_true, List.all_cons, List.all_nil, Bool.and_true] at h1
     have ct := Tm.Cnt.of_small ht h1.1
     have zt := (smallF_iff t).1 h1.1
     unfold smallBF at h2
     rw [Bool.and_eq_true, decide_eq_true_eq, List.all_eq_true] at h2
     have zx : ∀ x ∈ l, x.term.sz <= 50 /\ x.term.hgt <= 14 := fun x h => (smallF_iff _).1 (h2.2 x h)
     have hgt' := given_c s hs [t] (by simp) (by simp [ht])
     have hr := rightF_eq s [t]
     have hsub := subst_c s hs t ct.toFin l hl (fun x h => ⟨hx x h, by have := (zx x h).2; omega⟩)
     simp +contextual (disch := first | omega | simp only [go_sem, false_implies]) only [go_sem, wrap64, if_pos, and_self]
     refine call_give hsub ?_
     simp +contextual (disch := first | omega | simp only [go_sem, false_implies]) only [go_sem, wrap64, if_pos, and_self]
     refine call_keep hgt' rfl ?_
     cases g1 : givenF s [t] with
     | false =>
       rw [g1] at hr
       have e : subE s t l = (.mk 0 0 [], 2) := by simp [subE, hr]
       simp +contextual (disch := first | omega | simp only [go_sem, false_implies]) only [go_sem, wrap64, if_pos, e]
       refine call_keep blank0_c rfl ?_
       simp +contextual (disch := first | omega | simp only [go_sem, false_implies]) only [go_sem, wrap64, if_pos, e]
       refine call_keep known rfl ?_
       simp +contextual (disch := first | omega | simp only [go_sem, false_implies]) only [go_sem, wrap64, if_pos, and_self]
     | true =>
       rw [g1] at hr
       simp +contextual (disch := first | omega | simp only [go_sem, false_implies]) only [go_sem, wrap64, if_pos, and_self]
       refine call_keep (binds_c s hs l hl hx) rfl ?_
       cases g2 : listedF s l with
       | false =>
         have e : subE s t l = (.mk 0 0 [], 2) := by simp [subE, g2]
         simp +contextual (disch := first | omega | simp only [go_sem, false_implies]) only [go_sem, wrap64, if_pos, e]
         refine call_keep blank0_c rfl ?_
         simp +contextual (disch := first | omega | simp only [go_sem, false_implies]) only [go_sem, wrap64, if_pos, e]
         refine call_keep known rfl ?_
         simp +contextual (disch := first | omega | simp only [go_sem, false_implies]) only [go_sem, wrap64, if_pos, and_self]
       | true =>
         have htf : termF s t = true := by
          simp only [givenF, Bool.and_eq_true, List.all_cons, List.all_nil, Bool.and_true] at g1
          exact g1.2
         obtain ⟨w1, w2, w3⟩ := form_wf htf
         have hz := sub_sz (M := 50) (by omega) t.hgt t (bdsF l) w1 (Nat.le_refl _) (fun p hp => by obtain ⟨x, hx1, rfl⟩ := List.mem_map.1 hp; exact (zx x hx1).1)
         have hz2 : (subF t.hgt (bdsF l) t).sz <= 2000 := Nat.le_trans hz (Nat.le_trans (Nat.mul_le_mul_right 50 w2) (by decide))
         have hyf := Tm.fits_sz (subF t.hgt (bdsF l) t) (by omega)
         have hrs := rsub_all _ t w1 (by omega) (Nat.le_refl _) l ⟨by omega, fun x h => by have := (zx x h).1; omega⟩
         simp +contextual (disch := first | omega | simp only [go_sem, false_implies]) only [go_sem, wrap64, if_pos, and_self]
         refine call_give hrs ?_
         simp +contextual (disch := first | omega | simp only [go_sem, false_implies]) only [go_sem, wrap64, if_pos, and_self]
         refine call_keep (term_c s hs _ hyf) rfl ?_
         cases g3 : termF s (subF t.hgt (bdsF l) t) with
         | false =>
           have e : subE s t l = (.mk 0 0 [], 3) := by simp [subE, hr, g2, formedF_eq, g3]
           simp +contextual (disch := first | omega | simp only [go_sem, false_implies]) only [go_sem, wrap64, if_pos, e]
           refine call_keep blank0_c rfl ?_
           simp +contextual (disch := first | omega | simp only [go_sem, false_implies]) only [go_sem, wrap64, if_pos, e]
           refine call_keep known rfl ?_
           simp +contextual (disch := first | omega | simp only [go_sem, false_implies]) only [go_sem, wrap64, if_pos, and_self]
         | true =>
           have e : subE s t l = (subF t.hgt (bdsF l) t, 0) := by simp [subE, hr, g2, formedF_eq, g3]
           obtain ⟨v1, v2, v3⟩ := form_wf g3
           have hsm : smallF (subF t.hgt (bdsF l) t) = true := (smallF_iff _).2 ⟨by omega, by omega⟩
           have hsc := small_c _ hyf
           rw [hsm] at hsc
           have hsame := same_c _ hyf _ hyf
           rw [sameF_refl] at hsame
           simp +contextual (disch := first | omega | simp only [go_sem, false_implies]) only [go_sem, wrap64, if_pos, e]
           refine call_keep hsc rfl ?_
           simp +contextual (disch := first | omega | simp only [go_sem, false_implies]) only [go_sem, wrap64, if_pos, e]
           refine call_keep hsame rfl ?_
           simp +contextual (disch := first | omega | simp only [go_sem, false_implies]) only [go_sem, wrap64, if_pos, e]
           refine call_keep known rfl ?_
           simp +contextual (disch := first | omega | simp only [go_sem, false_implies]) only [go_sem, wrap64, if_pos, and_self]
end Go.Proofs.YtealblliddhgiaaGreat
