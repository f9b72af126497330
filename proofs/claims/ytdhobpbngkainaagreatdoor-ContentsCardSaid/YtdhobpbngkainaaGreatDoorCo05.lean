/- Ours. A part of the proof, made small by a program. -/
import Derived.Test.YtdhobpbngkainaaGreatDoorCo04
import Derived.Test.YtdhobpbngkainaaGreatDoorCo03
import Derived.Deep.QuietTactic
import Derived.BigQuiet
import Derived.DeepKeys4
import Derived.Test.YtdhobpbngkainaaGreatDoorCo02
import Derived.Test.YtdhobpbngkainaaGreatDoorCo01
import Derived.Deep.Cut
import Derived.Laws.BytesArg
set_option maxRecDepth 100000
set_option maxHeartbeats 4000000
namespace Go.Proofs.YtdhobpbngkainaaGreatDoor
open Go.RowKit
def qyb (ops:Array Oper) (s:Nat→Option Value) (i:Nat):Prop :=
 ∃ L:Nat→Prop,(∀ k,s k≠none→L k)∧(∀ k o',L k→ops[k]?=some o'→∀ e∈o'.after.toList,Region.binds .any e=true→L e.on)∧¬ L i
def qm8 (P:Program) (Q:Exit→Act→World→Prop) (ops:Array Oper) (a0:Act) (φ:Nat→Value→Prop) (J:(Nat→Option Value)→World→Prop) (noisy:List Nat) (i:Nat) (o:Oper):Prop :=
 ∀ (x:Nat→Value) (s:Nat→Option Value) (w:World),qf6 φ x s noisy o.after.toList→(∀ k v,s k=some v→x k=v)→s i=none→qyb ops s i→J s w →
  if Region.wanted o (yielded ops (qam x 0 ops.toList a0).tmps) then
   ∀ K:Act→World→Prop,(∀ v w',φ i v→J (if noisy.contains i then updO s i v else s) w'→K ((qam x 0 ops.toList a0).put o.dst v) w')→o.wp P (qam x 0 ops.toList a0) w K Q
  else φ i undef∧J (if noisy.contains i then updO s i undef else s) w
def qha (P:Program) (Q:Exit→Act→World→Prop) (ops:Array Oper) (a0:Act) (φ:Nat→Value→Prop) (J:(Nat→Option Value)→World→Prop) (noisy:List Nat):Nat→List Oper→Prop
 | _,[]=>True
 | i,o::r=>qm8 P Q ops a0 φ J noisy i o∧qha P Q ops a0 φ J noisy (i+1) r
theorem qs5 {P:Program} {Q:Exit→Act→World→Prop} {ops:Array Oper} {a0:Act} {φ:Nat→Value→Prop} {J:(Nat→Option Value)→World→Prop} {noisy:List Nat} :
  ∀ (l:List Oper) (i:Nat),qha P Q ops a0 φ J noisy i l→∀ (j:Nat) (o:Oper),l[j]?=some o→qm8 P Q ops a0 φ J noisy (i+j) o:=by
 intro l
 induction l with
 | nil=>intro i _ j o h;simp at h
 | cons o' r ih =>
  intro i h j o hj
  cases j with
  | zero=>simp only [List.getElem?_cons_zero,Option.some.injEq] at hj;subst hj;exact h.1
  | succ j=>have:=ih _ h.2 j o (by simpa using hj);rwa [Nat.add_right_comm,Nat.add_assoc] at this
theorem qs7 {P:Program} {Q:Exit→Act→World→Prop} {ops:Array Oper} {a0:Act} {φ:Nat→Value→Prop} {J:(Nat→Option Value)→World→Prop} {noisy:List Nat} :
  ∀ (l:List Oper) (i:Nat),(∀ (j:Nat) (o:Oper),l[j]?=some o→qm8 P Q ops a0 φ J noisy (i+j) o)→qha P Q ops a0 φ J noisy i l:=by
 intro l
 induction l with
 | nil=>intro i _;trivial
 | cons o r ih =>
  intro i h
  exact ⟨h 0 o rfl,ih (i+1) (fun j o' hj=>by have:=h (j+1) o' (by simpa using hj);rwa [show i+(j+1)=i+1+j by omega] at this)⟩
theorem qw9 {P:Program} {Q:Exit→Act→World→Prop} {ops:Array Oper} {a0:Act} (φ:Nat→Value→Prop) (J:(Nat→Option Value)→World→Prop) (noisy:List Nat)
  (hok:qcd a0.tmps.size 0 ops.toList []=true) (hsteps:qha P Q ops a0 φ J noisy 0 ops.toList)
  (hend:∀ x w,qdf φ x 0 ops.size→J (fun k=>if k<ops.size∧noisy.contains k=true then some (x k) else none) w→Q .normal (qam x 0 ops.toList a0) w) :
  ∀ (fuel:Nat) (listed:Array Bool) (x:Nat→Value) (w:World),listed.size=ops.size→qb8 listed=fuel→(∀ k,listed.getD k false=true→φ k (x k))→(∀ k o',listed.getD k false=true→ops[k]?=some o'→∀ e∈o'.after.toList,Region.binds .any e=true→listed.getD e.on false=true)→J (qa3 noisy listed x) w →
   wpAny P .any ops Q fuel listed (qam x 0 ops.toList a0) w:=by
 have hn:=(qiv ops.toList 0 [] hok).1
 have fin:∀ (listed:Array Bool) (x:Nat→Value) (w:World),listed.size=ops.size→qb8 listed=0→(∀ k,listed.getD k false=true→φ k (x k))→J (qa3 noisy listed x) w→Q .normal (qam x 0 ops.toList a0) w:=by
  intro listed x w hs hu hφ hJ
  have hall:∀ k,listed.getD k false=true↔k<ops.size:=fun k=>by
   rcases Nat.lt_or_ge k listed.size with h' | h'
   ·have:=qdz hu h'
    simp only [Array.getD_eq_getD_getElem?,Array.getElem?_eq_getElem h',Option.getD_some] at this ⊢
    exact ⟨fun _=>by omega,fun _=>this⟩
   ·simp only [Array.getD_eq_getD_getElem?,Array.getElem?_eq_none h',Option.getD_none]
    exact ⟨fun h=>Bool.noConfusion h,fun h=>by omega⟩
  refine hend x w (qmv _ _ (fun k _ h2=>hφ k ((hall k).2 (by omega)))) ?_
  have e:qa3 noisy listed x=fun k=>if k<ops.size∧noisy.contains k=true then some (x k) else none:=by
   funext k
   unfold qa3
   simp only [hall k]
  rw [← e];exact hJ
 intro fuel
 induction fuel with
 | zero =>
  intro listed x w hs hu hφ hcl hJ
  refine ⟨?_,fin listed x w hs hu hφ hJ⟩
  apply Classical.byContradiction
  intro hne
  obtain ⟨i,hi⟩:=List.exists_mem_of_ne_nil _ hne
  obtain ⟨h1,h2,_⟩:=qgu hi
  have:=qdz hu (i:=i) (by omega)
  rw [this] at h2;cases h2
 | succ fuel ih =>
  intro listed x w hs hu hφ hcl hJ
  refine ⟨fun hnil=>?_,fun i hi=>?_⟩
  ·obtain ⟨i,hi,hl⟩:=qi0 (listed:=listed) (by omega)
   exact absurd hnil (qok hok hs (by omega) hl)
  ·obtain ⟨h1,h2,o,ho,hdeps⟩:=qgu hi
   have hlt:i<listed.size:=by omega
   have hf:listed.getD i false=false:=by
    simp only [Array.getD_eq_getD_getElem?,Array.getElem?_eq_getElem hlt,Option.getD_some] at h2 ⊢;exact h2
   have hol:ops.toList[i]?=some o:=by simpa using ho
   have hst:=qs5 ops.toList 0 hsteps i o hol
   rw [Nat.zero_add] at hst
   have hst:=hst x (qa3 noisy listed x) w (qmb _ (fun e he hb=>⟨hφ _ (hdeps e he hb),fun hc=>by unfold qa3;rw [if_pos ⟨hdeps e he hb,hc⟩]⟩)) (fun k v hk=>by unfold qa3 at hk;split at hk<;>simp_all) (by unfold qa3;rw [if_neg (by simp [hf])]) ⟨fun k=>listed.getD k false=true,fun k hk=>by
     unfold qa3 at hk
     split at hk
     ·rename_i h;exact h.1
     ·exact absurd rfl hk,hcl,fun h=>Bool.false_ne_true (hf.symm.trans h)⟩ hJ
   have hsz':(listed.setIfInBounds i true).size=ops.size:=by simpa using hs
   have hu':qb8 (listed.setIfInBounds i true)=fuel:=by have:=qi2 h2;omega
   have next:∀ v w',φ i v→J (if noisy.contains i then updO (qa3 noisy listed x) i v else qa3 noisy listed x) w'→wpAny P .any ops Q fuel (listed.setIfInBounds i true) ((qam x 0 ops.toList a0).put o.dst v) w':=by
    intro v w' hv hJ'
    rw [qoq i v ops.toList 0 a0 o hn (Nat.zero_le _) (by simpa using hol)]
    have hgd:∀ k,(listed.setIfInBounds i true).getD k false=if k=i then true else listed.getD k false:=fun k=>by
     simp only [Array.getD_eq_getD_getElem?,Array.getElem?_setIfInBounds]
     by_cases hk:k=i
     ·subst hk;simp [hlt]
     ·rw [if_neg (Ne.symm hk),if_neg hk]
    refine ih _ _ w' hsz' hu' (fun k hk=>?_) (fun k o' hk ho' e he hb=>?_) ?_
    ·rw [hgd k] at hk
     by_cases hki:k=i
     ·subst hki;rw [if_pos rfl];exact hv
     ·rw [if_neg hki] at hk ⊢;exact hφ k hk
    ·rw [hgd] at hk ⊢
     by_cases hei:e.on=i
     ·rw [if_pos hei]
     ·rw [if_neg hei]
      by_cases hki:k=i
      ·subst hki
       have:o'=o:=by rw [ho] at ho';exact (Option.some.inj ho').symm
       subst this
       exact hdeps e he hb
      ·rw [if_neg hki] at hk
       exact hcl k o' hk ho' e he hb
    ·have e:qa3 noisy (listed.setIfInBounds i true) (fun j=>if j=i then v else x j)=(if noisy.contains i then updO (qa3 noisy listed x) i v else qa3 noisy listed x):=by
      funext k
      unfold qa3
      rw [hgd k]
      by_cases hki:k=i
      ·subst hki
       cases hc:noisy.contains k with
       | true=>simp only [if_true,and_self,updO,↓reduceIte]
       | false=>simp only [if_true,Bool.false_eq_true,and_false,if_false,↓reduceIte,hc]
      ·simp only [if_neg hki]
       cases hc:noisy.contains i with
       | true=>simp only [if_true,updO,if_neg hki,↓reduceIte]
       | false=>simp only [Bool.false_eq_true,if_false,↓reduceIte]
     rw [e];exact hJ'
   unfold wpOp
   rw [ho]
   simp only
   split
   ·rename_i hw
    rw [if_pos hw] at hst
    exact .inl (hst _ next)
   ·rename_i hw
    rw [if_neg hw] at hst
    exact next undef w hst.1 hst.2
theorem qoj {P:Program} {Q:Exit→Act→World→Prop} {ops:Array Oper} {a0:Act} {w:World} (φ:Nat→Value→Prop) (J:(Nat→Option Value)→World→Prop) (noisy:List Nat)
  (hok:qcd a0.tmps.size 0 ops.toList []=true) (h0:J (fun _=>none) w.drew) (hsteps:qha P Q ops a0 φ J noisy 0 ops.toList)
  (hend:∀ x w,qdf φ x 0 ops.size→J (fun k=>if k<ops.size∧noisy.contains k=true then some (x k) else none) w→Q .normal (qam x 0 ops.toList a0) w) :
  wpAny P .any ops Q ops.size (Array.replicate ops.size false) a0 w.drew:=by
 have hx:∃ x:Nat→Value,qam x 0 ops.toList a0=a0:=by
  have key:∀ (l:List Oper) (k:Nat) (x:Nat→Value),(∀ j o d,l[j]?=some o→o.dst=some d→d<a0.tmps.size→x (k+j)=a0.tmps.getD d undef)→qam x k l a0=a0:=by
   intro l
   induction l with
   | nil=>intro k x _;rfl
   | cons o r ih =>
    intro k x h
    simp only [qam]
    have e:a0.put o.dst (x k)=a0:=by
     cases hd:o.dst with
     | none=>rfl
     | some d =>
      simp only [Act.put]
      by_cases hlt:d<a0.tmps.size
      ·have:=h 0 o d (by simp) hd hlt
       rw [Nat.add_zero] at this
       rw [this]
       obtain ⟨t,df⟩:=a0
       simp only [Act.mk.injEq,and_true]
       have hlt':d<t.size:=hlt
       apply Array.ext_getElem?
       intro j
       rw [Array.getElem?_setIfInBounds]
       by_cases hj:d=j
       ·subst hj;simp [hlt']
       ·rw [if_neg hj]
      ·obtain ⟨t,df⟩:=a0
       simp only [Act.mk.injEq,and_true]
       have hle:t.size≤d:=Nat.le_of_not_lt hlt
       exact Array.setIfInBounds_eq_of_size_le hle
    rw [e]
    exact ih (k+1) x (fun j o' d hj hd hl=>by have:=h (j+1) o' d (by simpa using hj) hd hl;rwa [show k+(j+1)=k+1+j by omega] at this)
  refine ⟨fun j=>((ops.toList[j]?).bind (·.dst)).elim undef (fun d=>a0.tmps.getD d undef),key ops.toList 0 _ (fun j o d hj hd _=>?_)⟩
  simp [hj,hd]<;>simp_all
 obtain ⟨x,hx⟩:=hx
 have h:=qw9 (P:=P) (Q:=Q) φ J noisy hok hsteps hend ops.size (Array.replicate ops.size false) x w.drew (by simp) (qhh _) (fun k hk=>by
   simp only [Array.getD_eq_getD_getElem?,Array.getElem?_replicate] at hk
   split at hk<;>simp at hk) (fun k o' hk=>by
   simp only [Array.getD_eq_getD_getElem?,Array.getElem?_replicate] at hk
   split at hk<;>simp at hk) (by
   have e:qa3 noisy (Array.replicate ops.size false) x=fun _=>none:=by
    funext k
    unfold qa3
    rw [if_neg]
    simp only [Array.getD_eq_getD_getElem?,Array.getElem?_replicate]
    split<;>simp
   rw [e];exact h0)
 rw [hx] at h
 exact h
def q1d (ops:Array Oper) (S:List Nat):List Nat:=S.flatMap fun k=>match ops[k]? with | some o=>(o.after.toList.filter (Region.binds .any)).map (·.on) | none=>[]
def reach (ops:Array Oper):Nat→List Nat→List Nat
 | 0,S=>S
 | n+1,S=>S++reach ops n (q1d ops S)
theorem q4i {ops:Array Oper} {L:Nat→Prop} (hL:∀ k o',L k→ops[k]?=some o'→∀ e∈o'.after.toList,Region.binds .any e=true→L e.on):∀ (n:Nat) (S:List Nat),(∀ k∈S,L k)→∀ k∈reach ops n S,L k:=by
 intro n
 induction n with
 | zero=>intro S h;exact h
 | succ n ih =>
  intro S h k hk
  simp only [reach,List.mem_append] at hk
  rcases hk with hk | hk
  ·exact h k hk
  ·refine ih _ (fun j hj=>?_) k hk
   unfold q1d at hj
   obtain ⟨q,hq,hj⟩:=List.mem_flatMap.1 hj
   cases ho:ops[q]? with
   | none=>rw [ho] at hj;simp at hj
   | some o =>
    rw [ho] at hj
    obtain ⟨e,he,rfl⟩:=List.mem_map.1 hj
    obtain ⟨he1,he2⟩:=List.mem_filter.1 he
    exact hL q o (h q hq) ho e he1 he2
def qmf (ops:Array Oper) (ns:List Nat):Bool :=
 match ns.getLast? with
 | none=>false
 | some l=>(List.range ops.size).all fun i=>ns.contains i || (reach ops 3 [l]).contains i
theorem q2l {ops:Array Oper} {ns:List Nat} {s:Nat→Option Value} {vs:List Value} {i:Nat} {o:Oper} (h:qmf ops ns=true) (hvl:vs.length≤ns.length) (hvs:∀ (j i:Nat),ns[j]?=some i→s i=vs[j]?) (hni:¬ i∈ns) (ho:ops.toList[i]?=some o)
  (hcl:qyb ops s i):vs.length<ns.length:=by
 rcases Nat.lt_or_ge vs.length ns.length with h' | h'
 ·exact h'
 exfalso
 unfold qmf at h
 obtain ⟨L,hs0,hL,hi0⟩:=hcl
 cases hl:ns.getLast? with
 | none=>rw [hl] at h;cases h
 | some l =>
  rw [hl] at h
  simp only [List.all_eq_true,List.mem_range] at h
  have hil:i<ops.size:=by
   have:=(List.getElem?_eq_some_iff.1 ho).1
   simpa using this
  have h2:=h i hil
  have hnc:ns.contains i=false:=by
   cases hc:ns.contains i with
   | false=>rfl
   | true=>exact absurd (List.contains_iff_mem.1 hc) hni
  rw [hnc,Bool.false_or] at h2
  have hne:ns≠[]:=by rintro rfl;cases hl
  have hlast:ns[ns.length-1]?=some l:=by rw [← List.getLast?_eq_getElem?];exact hl
  have hs:=hvs _ _ hlast
  have hpos:0<ns.length:=List.length_pos_iff.2 hne
  have hsome:s l≠none:=by
   rw [hs,List.getElem?_eq_getElem (by omega)]
   simp
  exact hi0 (q4i hL 3 [l] (fun k hk=>by simp only [List.mem_singleton] at hk;subst hk;exact hs0 _ hsome) i (List.contains_iff_mem.1 h2))
theorem qia {P:Program} {Q:Exit→Act→World→Prop} {ops:Array Oper} {a0:Act} {w:World} (A:(Nat→Value)→Act) (hA:∀ x,qam x 0 ops.toList a0=A x)
  (φ:Nat→Value→Prop) (St:List Value→World→Prop) (C:World→Prop) (ns:List Nat) (hC:∀ vs w,vs.length<ns.length→St vs w→C w)
  (hok:qcd a0.tmps.size 0 ops.toList []=true) (hch:qgv ops ns=true) (hlo:qmf ops ns=true) (hnd:ns.Nodup) (hlt:∀ i∈ns,i<ops.size) (h0:St [] w.drew) (hsteps:qev P Q ops A φ St C ns 0 ops.toList)
  (hend:∀ x w,qdf φ x 0 ops.size→St (ns.map x) w→Q .normal (A x) w) :
  wpAny P .any ops Q ops.size (Array.replicate ops.size false) a0 w.drew:=by
 let J:(Nat→Option Value)→World→Prop:=fun s w=>∃ vs:List Value,vs.length≤ns.length∧(∀ (j i:Nat),ns[j]?=some i→s i=vs[j]?)∧St vs w
 refine qoj φ J ns hok ⟨[],by simp,fun j i _=>by simp,h0⟩ (qs7 _ _ (fun i o ho=>?_)) (fun x w hφ hJ=>?_)
 ·rw [Nat.zero_add]
  have hg:=ql8 ops.toList 0 hsteps i o ho
  rw [Nat.zero_add] at hg
  intro x s w hd hsx hs hclo hJ
  obtain ⟨hd',hdn⟩:=qec _ hd
  obtain ⟨vs,hvl,hvs,hSt⟩:=hJ
  rw [hA]
  unfold qdr at hg
  cases hi:ns.idxOf? i with
  | none =>
   rw [hi] at hg
   have hni:=qo3 hi
   have hvlt:vs.length<ns.length:=q2l hlo hvl hvs (by rw [← List.contains_iff_mem];simpa using hni) ho hclo
   have hg:=hg x w hd' (hC _ _ hvlt hSt)
   split
   ·rename_i hw
    rw [if_pos hw] at hg
    intro K hK
    refine hg K (fun v hv=>hK v w hv ?_) (fun v w' hv hst=>hK v w' hv ?_)
    ·rw [hni];exact ⟨vs,hvl,hvs,hSt⟩
    ·rw [hni];exact ⟨vs,hvl,hvs,hst _ hSt⟩
   ·rename_i hw
    rw [if_neg hw] at hg
    refine ⟨hg,?_⟩
    rw [hni];exact ⟨vs,hvl,hvs,hSt⟩
  | some j =>
   rw [hi] at hg
   have hji:=qpd hi
   have hjl:j<ns.length:=(List.getElem?_eq_some_iff.1 hji).1
   have hci:ns.contains i=true:=by rw [List.contains_iff_mem];exact List.mem_of_getElem? hji
   have hle:vs.length≤j:=by
    rcases Nat.lt_or_ge j vs.length with h' | h'
    ·have:=hvs j i hji
     rw [hs,List.getElem?_eq_getElem h'] at this;cases this
    ·exact h'
   have hge:j≤vs.length:=by
    cases j with
    | zero=>exact Nat.zero_le _
    | succ j =>
     have hj':j<ns.length:=by omega
     have ha:ns[j]?=some ns[j]:=List.getElem?_eq_getElem hj'
     obtain ⟨o',e,ho',he,hb,hon⟩:=qqh ns hch j _ i ha hji
     have:o'=o:=by
      have h1:ops[i]?=some o:=by simpa using ho
      rw [h1] at ho';exact (Option.some.inj ho').symm
     subst this
     have hsn:=hdn e he hb (by rw [hon,List.contains_iff_mem];exact List.getElem_mem hj')
     have:=hvs j _ ha
     rw [← hon,hsn] at this
     have:=(List.getElem?_eq_some_iff.1 this.symm).1
     omega
   have hlen:vs.length=j:=by omega
   have hx':vs=qei ns x j:=by
    apply List.ext_getElem?
    intro k
    unfold qei
    rw [List.getElem?_map,List.getElem?_take]
    rcases Nat.lt_or_ge k j with hk | hk
    ·rw [if_pos hk]
     have hkn:k<ns.length:=by omega
     rw [List.getElem?_eq_getElem hkn]
     have:=hvs k _ (List.getElem?_eq_getElem hkn)
     have hkv:k<vs.length:=by omega
     rw [List.getElem?_eq_getElem hkv] at this ⊢
     simp [hsx _ _ this]
    ·rw [if_neg (by omega),List.getElem?_eq_none (by omega)];rfl
   rw [hx'] at hSt
   have hg:=hg x w hd' hSt
   have next:∀ v,(∀ (j' i':Nat),ns[j']?=some i'→updO s i v i'=(qei ns x j++[v])[j']?):=by
    intro v j' i' hj'
    rw [← hx']
    have hj'l:j'<ns.length:=(List.getElem?_eq_some_iff.1 hj').1
    unfold updO
    rcases Nat.lt_trichotomy j' j with h1 | h1 | h1
    ·rw [if_neg (fun e=>by
      subst e
      have:=qlj hnd hj' hji
      omega),hvs j' i' hj',List.getElem?_append_left (by omega)]
    ·subst h1
     rw [hji] at hj'
     simp only [Option.some.injEq] at hj'
     rw [if_pos hj'.symm,List.getElem?_append_right (by omega),hlen,Nat.sub_self];rfl
    ·rw [if_neg (fun e=>by
      subst e
      have:=qlj hnd hj' hji
      omega),hvs j' i' hj',List.getElem?_eq_none (by omega),List.getElem?_eq_none (by simp;omega)]
   have hl':∀ v:Value,(qei ns x j++[v]).length≤ns.length:=fun v=>by rw [← hx'];simp;omega
   split
   ·rename_i hw
    rw [if_pos hw] at hg
    intro K hK
    exact hg K (fun v w' hv hst=>hK v w' hv ⟨_,hl' v,next v,hst⟩)
   ·rename_i hw
    rw [if_neg hw] at hg
    refine ⟨hg.1,?_⟩
    exact ⟨_,hl' _,next _,hg.2⟩
 ·rw [hA]
  refine hend x w hφ ?_
  obtain ⟨vs,hvl,hvs,hSt⟩:=hJ
  have e:vs=ns.map x:=by
   apply List.ext_getElem?
   intro k
   rw [List.getElem?_map]
   rcases Nat.lt_or_ge k ns.length with hk | hk
   ·have:=hvs k _ (List.getElem?_eq_getElem hk)
    simp only at this
    rw [if_pos ⟨hlt _ (List.getElem_mem hk),by rw [List.contains_iff_mem];exact List.getElem_mem hk⟩] at this
    rw [← this,List.getElem?_eq_getElem hk];rfl
   ·rw [List.getElem?_eq_none (by omega),List.getElem?_eq_none hk];rfl
  rw [← e];exact hSt
theorem qbu {P:Program} {Q:Exit→Act→World→Prop} {id:Nat} {ops:Array Oper} {a0:Act} {w:World} (A:(Nat→Value)→Act) (hA:∀ x,qam x 0 ops.toList a0=A x) (hm:P.follows .mixedOrders=true)
  (φ:Nat→Value→Prop) (St:List Value→World→Prop) (C:World→Prop) (ns:List Nat) (hC:∀ vs w,vs.length<ns.length→St vs w→C w)
  (hok:qcd a0.tmps.size 0 ops.toList []=true) (hch:qgv ops ns=true) (hlo:qmf ops ns=true) (hnd:ns.Nodup) (hlt:∀ i∈ns,i<ops.size) (h0:St [] w.drew) (hsteps:qev P Q ops A φ St C ns 0 ops.toList)
  (hend:∀ x w,qdf φ x 0 ops.size→St (ns.map x) w→Q .normal (A x) w) :
  (Code.region id ops true).wp P Q a0 w :=
 wp_region_any hm (qia A hA φ St C ns hC hok hch hlo hnd hlt h0 hsteps hend)
end Go.Proofs.YtdhobpbngkainaaGreatDoor
namespace Go.Proofs.YtdhobpbngkainaaGreatDoor
open Go.RowKit Go.Maps
open Go.ChangeMaps (setBlock)
structure ContIs (C:Array Value) (pm tm cm:Nat) (sc sb used:Int):Prop where
 c0:C[0]?=some (.map (some pm))
 c1:C[1]?=some (.map (some tm))
 c2:C[2]?=some (.map (some cm))
 c3:C[3]?=some (.int .i64 sc)
 c4:C[4]?=some (.int .i64 sb)
 c5:C[5]?=some (.int .i64 used)
def addP (ps:List PathL) (c:Nat) (l:Bs) (v:Value) (V:VerL):List PathL:=setG ps c l v (qaq ps l++[V])
def qio (ps:List PathL) (l:Bs):HF:=rowsG pathR (qen ps l)++(qaq ps l).flatMap verF
theorem qwa {ps:List PathL} (l:Bs) (h:(ps.map (·.key)).Nodup):(rowsG pathR ps).Perm (qdd (valOf (.slice none 0 0) ps l) (qaq ps l)++qio ps l):=by
 have:=qqf pathR (.slice none 0 0) [] rfl ps l h
 unfold pathR at this
 rw [List.append_assoc] at this
 exact this.trans (List.Perm.append_left _ List.perm_append_comm)
theorem qse {ps:List PathL} (c:Nat) (l:Bs) (v:Value) (V:VerL) (h:(ps.map (·.key)).Nodup):(rowsG pathR (addP ps c l v V)).Perm (qdd v (qaq ps l++[V])++(qio ps l++verF V)):=by
 have:=qu0 pathR ps c l v (qaq ps l++[V]) h
 unfold pathR at this
 rw [List.append_assoc] at this
 refine this.trans (List.Perm.append_left _ ?_)
 rw [List.flatMap_append]
 unfold qio
 simp only [List.flatMap_cons,List.flatMap_nil,List.append_nil]
 rw [List.append_assoc (rowsG pathR (qen ps l))]
 exact List.perm_append_comm
theorem q3z {ps:List PathL} {c:Nat} (hok:PathsOk ps c) (l:Bs):ptrOk (valOf (.slice none 0 0) ps l) (qaq ps l):=by
 unfold valOf qaq gOf
 cases hf:ps.find? (fun p=>decide (p.key=l)) with
 | none=>exact ⟨rfl,fun _=>⟨rfl,rfl⟩⟩
 | some p=>exact (hok.rows p (List.mem_of_find?_eq_some hf)).1
theorem q4j:(Tryz.prog.info? 149).map (fun i=>(i.zero,i.size,i.bytes))=some (some (.pointer none),1,8):=by kernel_rfl
theorem qyu {o:Oper} {a:Act} {w a0:World} {K:Act→World→Prop} {Q:Exit→Act→World→Prop} {F G:HF} (s x:Operand) (hop:o.op=.call { callee:=.builtin .append,args:=#[s,x],argTypes:=#[153,153] })
  (v:Value) (l:List VerL) (hs:a.eval s=v) (hT:Turns F (qdd v l++G) a0 w) (hok:ptrOk v l) (sa:Option Addr) (m c:Nat) (hx:a.eval x=.slice sa m c) (r:List VerL) (hm:m=r.length)
  (hc:0<m→∃ ad,sa=some ad∧∀ j u,(r.map ptrV)[j]?=some u→w.cell? (ad.add j)=some u) (hb:l.length+r.length≤1000000)
  (hk:∀ v' w',ptrOk v' (l++r)→Turns F (qdd v' (l++r)++G) a0 w'→K (a.put o.dst v') w'):o.wp Tryz.prog a w K Q:=by
 obtain ⟨i0,hi0,hz1,hz2,hz3⟩:=info_parts q4j
 refine qct s x 153 149 i0 (.pointer none) 1 8 hop Tryz.underlying153 hi0 hz1 hz2 hz3 rfl (by decide) v l.length (l.map ptrV) hs hT hok sa m c hx (r.map ptrV) (by simp [hm]) hc (fun u hu=>by obtain ⟨y,_,rfl⟩:=List.mem_map.1 hu;rfl) (by unfold maxLen;omega) (by omega) (fun v' w' h1 h2 h3=>?_)
 exact hk v' w' (by unfold ptrOk;rw [List.length_append,List.map_append,← hm];exact h1) (by unfold qdd;rw [List.length_append,List.map_append,← hm];exact h2)
theorem q1v {κ:Type} [DecidableEq κ] {P:Program} {k t ev:TypeId} {enc:κ→Value} {Ok:κ→Prop} (E:EncOk P k enc Ok) {w:World} {o:Oper} {a:Act} {K:Act→World→Prop} {Q:Exit→Act→World→Prop}
  (m x:Operand) (hop:o.op=.lookup t m x false) (ht:P.underlying t=some (.map k ev)) {b:Nat} {l:List (Ent κ)} {c:Nat} (hb:w.heap[b]?=some (mapO enc l c)) (hm:MapOk Ok l c) {z:Value} (hz:(zeroValue ev).run P w=.ok z w)
  (key:κ) (hmv:a.eval m=.map (some b)) (hx:a.eval x=enc key) (hk:Ok key) (hK:K (a.put o.dst ((getE l key).getD z)) w):o.wp P a w K Q:=by
 refine qag (v:=(getE l key).getD z) (w':=w) ?_ hK
 simp [execOp,hop,hmv,hx,quy E ht hb hm hz hk,Result.andThen]
theorem qx9 {κ:Type} [DecidableEq κ] {P:Program} {k t ev:TypeId} {enc:κ→Value} {Ok:κ→Prop} (E:EncOk P k enc Ok) {w:World} {o:Oper} {a:Act} {K:Act→World→Prop} {Q:Exit→Act→World→Prop}
  (m x y:Operand) (hop:o.op=.mapUpdate t m x y) (ht:P.underlying t=some (.map k ev)) {b:Nat} {l:List (Ent κ)} {c:Nat} (hb:w.heap[b]?=some (mapO enc l c)) (hm:MapOk Ok l c)
  (key:κ) (v:Value) (hmv:a.eval m=.map (some b)) (hx:a.eval x=enc key) (hy:a.eval y=v) (hk:Ok key) (hK:K (a.put o.dst undef) (setBlock w b (mapO enc (putE l c key v) (putC l c key)))):o.wp P a w K Q:=by
 unfold Oper.wp execOp
 simp only [hop,hmv,hx,hy,Sem.run_bind,q3f E ht hb hm hk v,Result.andThen_ok,Sem.run_pure]
 exact hK
theorem quj {P:Program} {o:Oper} {a:Act} {w:World} {K:Act→World→Prop} {Q:Exit→Act→World→Prop} {ty:TypeId} (x y:Operand) (hs:(P.info? ty).map (·.size)=some 1) (ho:o.op=.store ty x y)
  {b i:Nat} {C:Array Value} {t:TypeId} {v u:Value} (hb:w.heap[b]?=some (.cells C t (0,0))) (hi:C[i]?=some u) (hx:a.eval x=.pointer (some ⟨b,i,none⟩)) (hy:a.eval y=v) (h1:v.oneCell'=true) (hvc:v.cells=#[v])
  (hK:K (a.put o.dst undef) (w.setCell ⟨b,i,none⟩ v)):o.wp P a w K Q:=by
 have hc:w.cell? ⟨b,i,none⟩=some u:=qac hb i hi
 have hf:=qa9 hb i
 have hst:=run_storeCells_cells (P:=P) b i [v] 0 w (fun j hj=>by
  obtain rfl:j=0:=by simp at hj;omega
  simp [hc]) (fun j hj=>by
   obtain rfl:j=0:=by simp at hj;omega
   simpa using hf) (fun q hq=>by simp at hq;subst hq;exact h1)
 have hsv:(storeVar ty ⟨b,i,none⟩ v).run P w=.ok () (w.setCell ⟨b,i,none⟩ v):=by
  cases hq:P.info? ty with
  | none=>simp [hq] at hs
  | some j =>
   have hj:j.size=1:=by simpa [hq] using hs
   simp only [Nat.add_zero] at hst
   simp [storeVar,sizeOf,typeInfo,hq,hvc,hj,hst,World.setCells]
 unfold Oper.wp execOp
 simp only [ho,hx,hy,Instr.storeAt,Instr.sureAddr,Sem.run_bind,Sem.run_pure,Result.andThen_ok,hsv]
 exact hK
def q4n (b pm c:Nat) (ps:List PathL) (l:Bs) (V:VerL) (C:Array Value) (ty:TypeId) (used:Int) (w:World) (e:Ending) (w':World):Prop :=
 ∃ v',e=.returned (.tuple #[])∧ptrOk v' (qaq ps l++[V]) ∧
  Turns ((b,Is (.cells C ty (0,0)))::(qbc pm ps c++verF V)) ((b,Is (.cells (C.setIfInBounds 5 (.int .i64 (used+V.size))) ty (0,0)))::qbc pm (addP ps c l v' V) (putC (ps.map entG) c l)) w w'
theorem qrm (b pm tm cm c:Nat) (sc sb used:Int) (ps:List PathL) (l:Bs) (V:VerL) (C:Array Value) (ty:TypeId) (w:World) (h:Sat w ((b,Is (.cells C ty (0,0)))::(qbc pm ps c++verF V))) (hC:ContIs C pm tm cm sc sb used) (hok:PathsOk ps c)
  (hl:OkS l) (hlen:(qaq ps l).length≤100000) (hus : -4611686018427387904≤used∧used+V.size≤4611686018427387904) (hvs:V.size≤4611686018427387904) :
  Calls Tryz.prog 84 #[.pointer (some ⟨b,0,none⟩),str l,ptrV V] w (q4n b pm c ps l V C ty used w):=by
 obtain ⟨O,hO⟩:∃ O:Obj,O=.cells C ty (0,0):=⟨_,rfl⟩
 rw [← hO] at h
 have hT0:Turns ((b,Is O)::(qbc pm ps c++verF V)) (qdd (valOf (.slice none 0 0) ps l) (qaq ps l)++((b,Is O)::(pm,Is (mapO str (ps.map entG) c))::(qio ps l++verF V))) w w:=by
  refine (Turns.refl h).to ?_
  have hp:=qwa l (by rw [← qje];exact hok.map.nodup)
  unfold qbc
  refine ((List.Perm.cons _ (List.Perm.cons _ (hp.append_right _)))).trans ?_
  refine (List.perm_append_comm (l₁:=[(b,Is O),(pm,Is (mapO str (ps.map entG) c))]) (l₂:=qdd (valOf (.slice none 0 0) ps l) (qaq ps l)++qio ps l++verF V)).trans ?_
  simp only [List.append_assoc]
  refine List.Perm.append_left _ ?_
  rw [← List.append_assoc]
  exact List.perm_append_comm
 obtain ⟨v0,hv0⟩:∃ v0,v0=valOf (.slice none 0 0) ps l:=⟨_,rfl⟩
 obtain ⟨vs,hvs0⟩:∃ vs,vs=qaq ps l:=⟨_,rfl⟩
 have hok0:ptrOk v0 vs:=by
  rw [hv0,hvs0]
  exact q3z hok l
 obtain ⟨R1,hR1⟩:∃ R1,R1=qio ps l++verF V:=⟨_,rfl⟩
 obtain ⟨F0,hF0⟩:∃ F0,F0=(b,Is O)::(qbc pm ps c++verF V):=⟨_,rfl⟩
 obtain ⟨M,hM⟩:∃ M,M=mapO str (ps.map entG) c:=⟨_,rfl⟩
 rw [← hv0,← hvs0,← hR1,← hF0,← hM] at hT0
 have HM:=Lib.hid (show Tryz.prog.follows .mixedOrders=true by kernel_rfl)
 have HH:=Lib.hid (And.intro hT0 (And.intro hO (And.intro hM (And.intro hv0 (And.intro hvs0 (And.intro hR1 (And.intro hF0 (And.intro hok0 (And.intro hok (And.intro hl hC))))))))))
 have HL:=Lib.hid (And.intro (hvs0 ▸ hlen) hus)
 have HW:=Lib.hid (show IntKind.i64.wrap (used+V.size)=used+V.size from IntWalk.i64_in _ (by omega))
 clear h hT0 hO hM hv0 hvs0 hR1 hF0 hok0 hok hl hC hus hlen hvs
 unfold ptrV
 go_enter Tryz.func84,Tryz.ntmps84
 go_wp2_with fail
 refine qbu (A:=?A) (hA:=?hA) HM.out (phiL [fun v=>v=.pointer (some ⟨b,0,none⟩),fun v=>v=.pointer (some ⟨b,0,none⟩),fun v=>v=.pointer (some ⟨b,0,none⟩),fun v=>v=.map (some pm),fun v=>v=str l,fun v=>v=.pointer (some ⟨b,0,none⟩),fun v=>v=.pointer (some ⟨b,0,none⟩),fun v=>v=.pointer (some ⟨b,0,none⟩),fun v=>v=.map (some pm),fun v=>v=str l,fun v=>v=v0,fun v=>v=.pointer (some ⟨V.blk,0,none⟩),fun _=>True,fun _=>True,fun _=>True])
  (fun vs1 W=>match vs1 with
  | []=>Turns F0 (qdd v0 vs++((b,Is O)::(pm,Is M)::R1)) w W
  | [v]=>∃ n:Nat,v=.slice (some ⟨n,0,none⟩) 1 1∧W.cell? ⟨n,0,none⟩=some (.pointer (some ⟨V.blk,0,none⟩))∧Turns F0 (qdd v0 vs++((b,Is O)::(pm,Is M)::R1)) w W
  | [_,v]=>ptrOk v (vs++[V])∧Turns F0 (qdd v (vs++[V])++((b,Is O)::(pm,Is M)::R1)) w W
  | [_,v,_]=>ptrOk v (vs++[V])∧Turns F0 (qdd v (vs++[V])++((b,Is O)::(pm,Is (mapO str (putE (ps.map entG) c l v) (putC (ps.map entG) c l)))::R1)) w W
  | _=>False)
  (fun W=>W.heap[b]?=some O∧W.heap[pm]?=some M) [12,13,14] ?hC (by kernel_rfl) (by kernel_rfl) (by kernel_rfl) (by decide) (by decide) ?h0 ?hs ?he
 case hA=>intro x;simp only [qam,Act.put,List.setIfInBounds_toArray,List.set_cons_zero,List.set_cons_succ,Nat.reduceAdd];rfl
 case hs =>
  refine ⟨qab rfl rfl (fun x wq hd hC K hK hKw=>?_),qab rfl rfl (fun x wq hd hC K hK hKw=>?_),qab rfl rfl (fun x wq hd hC K hK hKw=>?_),qab rfl rfl (fun x wq hd hC K hK hKw=>?_),qab rfl rfl (fun x wq hd hC K hK hKw=>?_),qab rfl rfl (fun x wq hd hC K hK hKw=>?_),qab rfl rfl (fun x wq hd hC K hK hKw=>?_),qab rfl rfl (fun x wq hd hC K hK hKw=>?_),qab rfl rfl (fun x wq hd hC K hK hKw=>?_),qab rfl rfl (fun x wq hd hC K hK hKw=>?_),qab rfl rfl (fun x wq hd hC K hK hKw=>?_),qab rfl rfl (fun x wq hd hC K hK hKw=>?_),qap 0 rfl rfl (fun x wq hd hS K hK=>?_),qap 1 rfl rfl (fun x wq hd hS K hK=>?_),qap 2 rfl rfl (fun x wq hd hS K hK=>?_),trivial⟩
  ·exact qag (by kernel_rfl) (hK _ rfl)
  ·have h0:x 0=.pointer (some ⟨b,0,none⟩):=qae hd 0 (by kernel_rfl)
   exact qag (by rw [h0];kernel_rfl) (hK _ rfl)
  ·have h1:x 1=.pointer (some ⟨b,0,none⟩):=qae hd 1 (by kernel_rfl)
   exact qag (by rw [h1];kernel_rfl) (hK _ rfl)
  ·have h2:x 2=.pointer (some ⟨b,0,none⟩):=qae hd 2 (by kernel_rfl)
   exact qat Tryz.underlying119 rfl rfl (by rw [h2];rfl) (qac (HH.out.2.1 ▸ hC.1) 0 HH.out.2.2.2.2.2.2.2.2.2.2.c0) (hK _ rfl)
  ·exact qag (by kernel_rfl) (hK _ rfl)
  ·exact qag (by kernel_rfl) (hK _ rfl)
  ·have h5:x 5=.pointer (some ⟨b,0,none⟩):=qae hd 5 (by kernel_rfl)
   exact qag (by rw [h5];kernel_rfl) (hK _ rfl)
  ·have h6:x 6=.pointer (some ⟨b,0,none⟩):=qae hd 6 (by kernel_rfl)
   exact qag (by rw [h6];kernel_rfl) (hK _ rfl)
  ·have h7:x 7=.pointer (some ⟨b,0,none⟩):=qae hd 7 (by kernel_rfl)
   exact qat Tryz.underlying119 rfl rfl (by rw [h7];rfl) (qac (HH.out.2.1 ▸ hC.1) 0 HH.out.2.2.2.2.2.2.2.2.2.2.c0) (hK _ rfl)
  ·exact qag (by kernel_rfl) (hK _ rfl)
  ·have h8:x 8=.map (some pm):=qae hd 8 (by kernel_rfl)
   have h9:x 9=str l:=qae hd 9 (by kernel_rfl)
   refine q1v qh4 (.tmp 14) (.tmp 15) rfl Tryz.underlying119 (HH.out.2.2.1 ▸ hC.2) HH.out.2.2.2.2.2.2.2.2.1.map (qh2 _) l (by rw [h8];rfl) (by rw [h9];rfl) HH.out.2.2.2.2.2.2.2.2.2.1 ?_
   rw [qeu,← HH.out.2.2.2.1]
   exact hK _ rfl
  ·exact qag (by kernel_rfl) (hK _ rfl)
  ·have h11:x 11=.pointer (some ⟨V.blk,0,none⟩):=qae hd 11 (by kernel_rfl)
   exact qag (by rw [h11];kernel_rfl) (hK _ _ trivial ⟨_,rfl,qac (qa7 wq (.cells #[.pointer (some ⟨V.blk,0,none⟩)] 149)) 0 rfl,Turns.alloc hS _⟩)
  ·have h10:x 10=v0:=qae hd 10 (by kernel_rfl)
   obtain ⟨n,en,hcn,hT⟩:=hS
   exact qyu (.tmp 16) (.tmp 18) rfl v0 vs (by rw [h10];rfl) hT HH.out.2.2.2.2.2.2.2.1 (some ⟨n,0,none⟩) 1 1 (by rw [en];rfl) [V] rfl (fun _=>⟨_,rfl,fun j u hu=>by
     cases j with
     | zero=>simp only [List.map_cons,List.getElem?_cons_zero,Option.some.injEq] at hu;rw [← hu,Addr.add_lit];exact hcn
     | succ j=>simp at hu⟩) (by have:=HL.out.1;simp;omega) (fun v1 w1 h1 h2=>hK _ _ trivial ⟨h1,h2⟩)
  ·have h3:x 3=.map (some pm):=qae hd 3 (by kernel_rfl)
   have h4:x 4=str l:=qae hd 4 (by kernel_rfl)
   have hT:=hS.2
   have hmp:=hT.sat.memIs (b:=pm) (o:=M) (by simp)
   refine qx9 qh4 (.tmp 9) (.tmp 10) (.tmp 19) rfl Tryz.underlying119 (HH.out.2.2.1 ▸ hmp) HH.out.2.2.2.2.2.2.2.2.1.map l (x 13) (by rw [h3];rfl) (by rw [h4];rfl) rfl HH.out.2.2.2.2.2.2.2.2.2.1 ?_
   refine hK _ _ trivial ⟨hS.1,?_⟩
   have hq:=(hT.to (H:=(pm,Is M)::(qdd (x 13) (vs++[V])++(b,Is O)::R1)) (qaf fun _=>by simp only [qad,qaa,qah]<;>omega)).putIs (o:=mapO str (putE (ps.map entG) c l (x 13)) (putC (ps.map entG) c l)) (qc8 wq pm _) (qds hmp)
   exact hq.to (qaf fun _=>by simp only [qad,qaa,qah]<;>omega)
 case hC =>
  intro vs1 W hlt hS
  match vs1,hS,hlt with
  | [],hT,_=>exact ⟨hT.sat.memIs (by simp),hT.sat.memIs (by simp)⟩
  | [_],⟨_,_,_,hT⟩,_=>exact ⟨hT.sat.memIs (by simp),hT.sat.memIs (by simp)⟩
  | [_,_],⟨_,hT⟩,_=>exact ⟨hT.sat.memIs (by simp),hT.sat.memIs (by simp)⟩
  | [_,_,_],_,hlt=>exact absurd hlt (Nat.lt_irrefl _)
 case h0=>exact HH.out.1.drew
 case he =>
  intro x w3 hφ hS
  obtain ⟨hok3,hT3⟩:=hS
  obtain ⟨v3,hv3⟩:∃ v3,v3=x 13:=⟨_,rfl⟩
  rw [← hv3] at hok3 hT3
  have HT3:=Lib.hid (And.intro hok3 hT3)
  clear hφ hok3 hT3 hv3
  go_wp2_with fail
  refine qbu (A:=?A2) (hA:=?hA2) HM.out (phiL [fun v=>v=.pointer (some ⟨b,0,none⟩),fun v=>v=.pointer (some ⟨b,0,none⟩),fun v=>v=.pointer (some ⟨b,5,none⟩),fun v=>v=.int .i64 used,fun v=>v=.pointer (some ⟨V.blk,0,none⟩),fun v=>v=.pointer (some ⟨V.blk,0,none⟩),fun v=>v=.pointer (some ⟨V.blk,1,none⟩),fun v=>v=.int .i64 V.size,fun v=>v=.int .i64 (used+V.size),fun v=>v=.pointer (some ⟨b,0,none⟩),fun v=>v=.pointer (some ⟨b,5,none⟩),fun _=>True])
   (fun vs1 W=>match vs1 with
   | []=>Turns F0 (qdd v3 (vs++[V])++((b,Is O)::(pm,Is (mapO str (putE (ps.map entG) c l v3) (putC (ps.map entG) c l)))::R1)) w W
   | [_]=>Turns F0 (qdd v3 (vs++[V])++((b,Is (.cells (C.setIfInBounds 5 (.int .i64 (used+V.size))) ty (0,0)))::(pm,Is (mapO str (putE (ps.map entG) c l v3) (putC (ps.map entG) c l)))::R1)) w W
   | _=>False)
   (fun W=>W.heap[b]?=some O∧W.heap[V.blk]?=some (verO V)) [11] ?hC2 (by kernel_rfl) (by kernel_rfl) (by kernel_rfl) (by decide) (by decide) ?h02 ?hs2 ?he2
  case hA2=>intro x;simp only [qam,Act.put,List.setIfInBounds_toArray,List.set_cons_zero,List.set_cons_succ,Nat.reduceAdd];rfl
  case hs2 =>
   refine ⟨qab rfl rfl (fun x wq hd hC K hK hKw=>?_),qab rfl rfl (fun x wq hd hC K hK hKw=>?_),qab rfl rfl (fun x wq hd hC K hK hKw=>?_),qab rfl rfl (fun x wq hd hC K hK hKw=>?_),qab rfl rfl (fun x wq hd hC K hK hKw=>?_),qab rfl rfl (fun x wq hd hC K hK hKw=>?_),qab rfl rfl (fun x wq hd hC K hK hKw=>?_),qab rfl rfl (fun x wq hd hC K hK hKw=>?_),qab rfl rfl (fun x wq hd hC K hK hKw=>?_),qab rfl rfl (fun x wq hd hC K hK hKw=>?_),qab rfl rfl (fun x wq hd hC K hK hKw=>?_),qap 0 rfl rfl (fun x wq hd hS K hK=>?_),trivial⟩
   ·exact qag (by kernel_rfl) (hK _ rfl)
   ·have h0:x 0=.pointer (some ⟨b,0,none⟩):=qae hd 0 (by kernel_rfl)
    exact qag (by rw [h0];kernel_rfl) (hK _ rfl)
   ·have h1:x 1=.pointer (some ⟨b,0,none⟩):=qae hd 1 (by kernel_rfl)
    exact qag (by rw [h1];kernel_rfl) (hK _ rfl)
   ·have h2:x 2=.pointer (some ⟨b,5,none⟩):=qae hd 2 (by kernel_rfl)
    exact qat Tryz.underlying3 rfl rfl (by rw [h2];rfl) (qac (HH.out.2.1 ▸ hC.1) 5 HH.out.2.2.2.2.2.2.2.2.2.2.c5) (hK _ rfl)
   ·exact qag (by kernel_rfl) (hK _ rfl)
   ·have h4:x 4=.pointer (some ⟨V.blk,0,none⟩):=qae hd 4 (by kernel_rfl)
    exact qag (by rw [h4];kernel_rfl) (hK _ rfl)
   ·have h5:x 5=.pointer (some ⟨V.blk,0,none⟩):=qae hd 5 (by kernel_rfl)
    exact qag (by rw [h5];kernel_rfl) (hK _ rfl)
   ·have h6:x 6=.pointer (some ⟨V.blk,1,none⟩):=qae hd 6 (by kernel_rfl)
    exact qat Tryz.underlying3 rfl rfl (by rw [h6];rfl) (qac hC.2 1 rfl) (hK _ rfl)
   ·have h3:x 3=.int .i64 used:=qae hd 3 (by kernel_rfl)
    have h7:x 7=.int .i64 V.size:=qae hd 7 (by kernel_rfl)
    refine qag (v:=.int .i64 (used+V.size)) ?_ (hK _ rfl)
    rw [← HW.out]
    rw [h3,h7];kernel_rfl
   ·have h0:x 0=.pointer (some ⟨b,0,none⟩):=qae hd 0 (by kernel_rfl)
    exact qag (by rw [h0];kernel_rfl) (hK _ rfl)
   ·have h9:x 9=.pointer (some ⟨b,0,none⟩):=qae hd 9 (by kernel_rfl)
    exact qag (by rw [h9];kernel_rfl) (hK _ rfl)
   ·have h10:x 10=.pointer (some ⟨b,5,none⟩):=qae hd 10 (by kernel_rfl)
    have h8:x 8=.int .i64 (used+V.size):=qae hd 8 (by kernel_rfl)
    have hT:=hS
    have hbo:=hT.sat.memIs (b:=b) (o:=O) (by simp)
    rw [HH.out.2.1] at hbo
    refine quj (v:=.int .i64 (used+V.size)) (.tmp 30) (.tmp 28) (ty:=3) (by kernel_rfl) rfl hbo HH.out.2.2.2.2.2.2.2.2.2.2.c5 (by rw [h10];rfl) (by rw [h8];rfl) (by simp [Value.oneCell']) rfl ?_
    have hq:=(hT.to (H:=(b,Is O)::(qdd v3 (vs++[V])++(pm,Is (mapO str (putE (ps.map entG) c l v3) (putC (ps.map entG) c l)))::R1)) (qaf fun _=>by simp only [qad,qaa,qah]<;>omega)).putIs ((Mods.refl (fun k=>k=b) wq).set1 (i:=5) (.int .i64 (used+V.size))) (qbf hbo 5 _)
    exact hK _ _ trivial (hq.to (qaf fun _=>by simp only [qad,qaa,qah]<;>omega))
  case hC2 =>
   intro vs1 W hlt hS
   match vs1,hS,hlt with
   | [],hT,_ =>
    refine ⟨hT.sat.memIs (by simp),hT.sat.memIs ?_⟩
    rw [HH.out.2.2.2.2.2.1]
    simp [verF]
   | [_],_,hlt=>exact absurd hlt (Nat.lt_irrefl _)
  case h02=>exact HT3.out.2.drew
  case he2 =>
   intro y w4 hφ hT4
   have hT5:=Lib.hid hT4
   clear hφ hT4
   go_wp2_with fail
   refine bodyPost_end (results_none rfl _ _ _) rfl ?_
   have hT6:Turns F0 (qdd v3 (vs++[V])++((b,Is (.cells (C.setIfInBounds 5 (.int .i64 (used+V.size))) ty (0,0)))::(pm,Is (mapO str (putE (ps.map entG) c l v3) (putC (ps.map entG) c l)))::R1)) w w4:=hT5.out
   refine ⟨v3,rfl,by rw [← HH.out.2.2.2.2.1];exact HT3.out.1,?_⟩
   rw [← HH.out.2.1,← HH.out.2.2.2.2.2.2.1]
   refine hT6.to ?_
   have hp:=qse c l v3 V (by rw [← qje];exact HH.out.2.2.2.2.2.2.2.2.1.map.nodup)
   rw [← HH.out.2.2.2.2.1,← HH.out.2.2.2.2.2.1] at hp
   unfold qbc addP
   rw [qlo,← HH.out.2.2.2.2.1]
   have h1:=(List.Perm.cons (b,Is (.cells (C.setIfInBounds 5 (.int .i64 (used+V.size))) ty (0,0))) (List.Perm.cons (pm,Is (mapO str (putE (ps.map entG) c l v3) (putC (ps.map entG) c l))) hp)).symm
   unfold addP at h1
   rw [← HH.out.2.2.2.2.1] at h1
   refine List.Perm.trans ?_ h1
   exact ((qaf fun _=>by simp only [qad,qaa,qah]<;>omega))
end Go.Proofs.YtdhobpbngkainaaGreatDoor
namespace Go.Proofs.YtdhobpbngkainaaGreatDoor
open Go.RowKit
def q33 (A:AreaL) (w:World) (e:Ending) (w':World):Prop:=e=.returned (.int .i64 ((A.count:Int)*128-A.end_))∧Same w w'
theorem qyq (ab d:Nat) (A:AreaL) (w:World) (h:Sat w (areaF ab d A)) (h1:A.count≤1073741824) (h2:A.end_≤128*A.count) :
  Calls Tryz.prog 119 #[.pointer (some ⟨ab,0,none⟩)] w (q33 A w):=by
 have hab:=h.headIs
 have a2:=qac hab 2 (qnn d A)
 have a3:=qac hab 3 (qiq d A)
 have e1:IntKind.i64.wrap ((A.count:Int)*128)=(A.count:Int)*128:=IntWalk.i64_in _ (by omega)
 have e2:IntKind.i64.wrap ((A.count:Int)*128-(A.end_:Int))=(A.count:Int)*128-(A.end_:Int):=IntWalk.i64_in _ (by omega)
 clear h hab
 go_enter Tryz.func119,Tryz.ntmps119
 go_wp2_with fail
 go_quiet (fail)
 go_wp2_with fail
 go_ret
 exact ⟨rfl,(Mods.refl _ w).drewN _⟩
def q6d (b:Bs) (w:World) (e:Ending) (w':World):Prop:=e=.returned (.agg (row8 (be (sumOf 1 b) 4)))∧Same w w'
theorem qod (a:Option Addr) (cap:Nat) (b:Bs) (w:World) (h:qaj w a (b.map enc8)) (hl:b.length≤1099511627776) :
  Calls Tryz.prog 126 #[.slice a b.length cap] w (q6d b w):=by
 have HS:=Lib.hid (fun W (hW:Same w W)=>qgn a cap 1 b W (h.keep hW (fun _ _ _=>id)) hl)
 have hs:=qit 1 b
 obtain ⟨s,hse⟩:∃ s,s=sumOf 1 b:=⟨_,rfl⟩
 rw [← hse] at hs
 have HE:=Lib.hid hse
 clear h hl hse
 go_enter Tryz.func126,Tryz.ntmps126
 go_wp2_with fail
 refine (HS.out _ ((Mods.refl _ w).alloc _)).mono ?_
 rintro e w1 ⟨rfl,hs1⟩
 rw [← HE.out]
 have hn:=hs1.at (qa7 w (.cells #[.int .u8 0,.int .u8 0,.int .u8 0,.int .u8 0] 251)) id
 have hth:=qcx hn 0 4 (by simp)
 obtain ⟨q1,q2⟩:=qc2 hn ((be s 4).map enc8) (by simp [qbv])
 have hq:=qop s hs
 rw [hq] at q1 q2
 have hsz:Same w (w1.setCells w.heap.size 0 [.int .u8 ((s:Int) / 16777216),.int .u8 ((s:Int) / 65536%256),.int .u8 ((s:Int) / 256%256),.int .u8 ((s:Int)%256)]):=(((Mods.refl _ w).alloc _).trans hs1).trans' q2 (fun i hi=>.inr (by omega))
 have H:=Lib.hid (And.intro hth (And.intro q1 (And.intro hsz hq)))
 clear hn hth q1 q2 hs1 hq hsz
 go_wp2_with ((refine wpList_store_mid rfl 251 (.tmp 2) (.tmp 17) rfl w.heap.size 0 #[.int .u8 ((s:Int) / 16777216),.int .u8 ((s:Int) / 65536%256),.int .u8 ((s:Int) / 256%256),.int .u8 ((s:Int)%256)] rfl rfl H.out.1 (by kernel_rfl) (by simp [Value.oneCell']) ?_;simp only [Act.put]))
 refine bodyPost_ret (results_cell_row rfl _ _ w.heap.size 251 _ (0,0) _ rfl H.out.2.1 Tryz.underlying251 rfl (by kernel_rfl)) rfl ⟨?_,H.out.2.2.1⟩
 unfold row8
 rw [← HE.out,H.out.2.2.2]
end Go.Proofs.YtdhobpbngkainaaGreatDoor
namespace Go.Proofs.YtdhobpbngkainaaGreatDoor
open Go.RowKit Go.Maps
open Go.ChangeMaps (setBlock)
def keyV (k:Bs):Value:=.agg (row8 k)
def Ok4 (k:Bs):Prop:=k.length=4
theorem q3x:∀ {a b:Bs},a.map enc8=b.map enc8→a=b:=by
 intro a
 induction a with
 | nil=>intro b h;cases b with
  | nil=>rfl
  | cons y r=>simp at h
 | cons x r ih =>
  intro b h
  cases b with
  | nil=>simp at h
  | cons y q =>
   simp only [List.map_cons,List.cons.injEq,enc8,Value.int.injEq,true_and] at h
   obtain ⟨h1,h2⟩:=h
   rw [ih h2,UInt8.toNat_inj.1 (show x.toNat=y.toNat by omega)]
theorem qt2:EncOk Tryz.prog 251 keyV Ok4 where
 keyed:=Keyed.of_law (deep_law_laid (m:=2) (by kernel_rfl) (by decide) (of_decide_eq_true (by kernel_rfl)) (by kernel_rfl) (by kernel_rfl))
 inj:=fun a b h=>by
  simp only [keyV,Value.agg.injEq,row8] at h
  have h2:a.map enc8=b.map enc8:=by simpa using h
  exact q3x h2
 key:=fun a ha=>by
  refine ⟨.string (keyBytes (a.map fun x=>Lit.int .u8 x.toNat)),?_⟩
  have ht:Tryz.prog.underlying 251=some (.array 4 5):=Tryz.underlying251
  have hc:Tryz.prog.cellsOf 251=4:=by kernel_rfl
  have hk2:Tryz.prog.keyType 251=true:=by kernel_rfl
  have hsz:Tryz.prog.types.size+1=362+1:=by kernel_rfl
  unfold keyOf keyV
  rw [ht]
  have ha:a.length=4:=ha
  simp only [hk2,Value.formed,ht,hc,qbn,ha,beq_self_eq_true,Bool.and_self,if_true]
  rw [hsz]
  show (Tryz.prog.keyLits (362-1+2) 251 (row8 a).toList).map _=_
  rw [show (row8 a).toList=a.map enc8 from rfl,qkz ht hc _ a ha]
  rfl
abbrev ChkL:=GE (List (Nat×Nat))
def qbd (cm:Nat) (cs:List ChkL) (c:Nat):HF:=(cm,Is (mapO keyV (cs.map entG) c))::rowsG qa2 cs
structure ChunksOk (cs:List ChkL) (c:Nat):Prop where
 map:MapOk Ok4 (cs.map entG) c
 rows:∀ p∈cs,qbl p.val p.g
def qa5 (cs:List ChkL) (k:Bs):List (Nat×Nat):=gOf [] cs k
theorem qls (w:World):(zeroValue 150).run Tryz.prog w=.ok (.slice none 0 0) w:=by kernel_rfl
theorem q2w:(Tryz.prog.info? 161).map (fun i=>(i.zero,i.size,i.bytes))=some (some (.agg #[.int .i64 0,.int .i64 0]),2,16):=by kernel_rfl
theorem qjw {o:Oper} {a:Act} {w a0:World} {K:Act→World→Prop} {Q:Exit→Act→World→Prop} {F G:HF} (s x:Operand) (hop:o.op=.call { callee:=.builtin .append,args:=#[s,x],argTypes:=#[150,150] })
  (v:Value) (l:List (Nat×Nat)) (hs:a.eval s=v) (hT:Turns F (qa2 v l++G) a0 w) (hok:qbl v l) (sa:Option Addr) (m c:Nat) (hx:a.eval x=.slice sa m c) (r:List (Nat×Nat)) (hm:m=r.length)
  (hc:0<m→∃ ad,sa=some ad∧∀ j u,(qb2 r)[j]?=some u→w.cell? (ad.add j)=some u) (hb:l.length+r.length≤1000000)
  (hk:∀ v' w',qbl v' (l++r)→Turns F (qa2 v' (l++r)++G) a0 w'→K (a.put o.dst v') w'):o.wp Tryz.prog a w K Q:=by
 obtain ⟨i0,hi0,hz1,hz2,hz3⟩:=info_parts q2w
 have hpv:qb2 (l++r)=qb2 l++qb2 r:=by simp [qb2]
 refine qct s x 150 161 i0 (.agg #[.int .i64 0,.int .i64 0]) 2 16 hop Tryz.underlying150 hi0 hz1 hz2 hz3 rfl (by decide) v l.length (qb2 l) hs hT hok sa m c hx (qb2 r) (by rw [qef,hm];omega) hc (fun u hu=>?_) (by unfold maxLen;omega) (by omega) (fun v' w' h1 h2 h3=>?_)
 ·obtain ⟨p,_,hp⟩:=List.mem_flatMap.1 hu
  simp only [qke,List.mem_cons,List.not_mem_nil,or_false] at hp
  rcases hp with rfl | rfl<;>rfl
 ·exact hk v' w' (by unfold qbl;rw [List.length_append,hpv,← hm];exact h1) (by unfold qa2;rw [List.length_append,hpv,← hm];exact h2)
theorem q51 {κ:Type} [DecidableEq κ] {P:Program} {k t ev:TypeId} {enc:κ→Value} {Ok:κ→Prop} (E:EncOk P k enc Ok) {w:World} {o:Oper} {a:Act} {K:Act→World→Prop} {Q:Exit→Act→World→Prop}
  (m x:Operand) (hop:o.op=.mapEntry t m x) (ht:P.underlying t=some (.map k ev)) {b:Nat} {l:List (Ent κ)} {c:Nat} (hb:w.heap[b]?=some (mapO enc l c)) (hm:MapOk Ok l c) {z:Value} (hz:(zeroValue ev).run P w=.ok z w)
  (key:κ) (hmv:a.eval m=.map (some b)) (hx:a.eval x=enc key) (hk:Ok key) (hK:K (a.put o.dst (.tuple #[(getE l key).getD z,.int .i64 (bornE l c key)])) (setBlock w b (mapO enc (midE l c key z) (putC l c key)))):o.wp P a w K Q:=by
 refine qag (v:=.tuple #[(getE l key).getD z,.int .i64 (bornE l c key)]) (w':=setBlock w b (mapO enc (midE l c key z) (putC l c key))) ?_ hK
 simp [execOp,hop,hmv,hx,(qsb E ht hb hm hz hk).1,Result.andThen]
theorem que {κ:Type} [DecidableEq κ] {P:Program} {k t ev:TypeId} {enc:κ→Value} {Ok:κ→Prop} (E:EncOk P k enc Ok) {w w0:World} {o:Oper} {a:Act} {K:Act→World→Prop} {Q:Exit→Act→World→Prop}
  (m s x:Operand) (hop:o.op=.entryStore t m s x) (ht:P.underlying t=some (.map k ev)) {b:Nat} {l:List (Ent κ)} {c:Nat} (hb0:w0.heap[b]?=some (mapO enc l c)) (hm:MapOk Ok l c) {z:Value} (hz:(zeroValue ev).run P w0=.ok z w0)
  (key:κ) (hk:Ok key) (hb:w.heap[b]?=some (mapO enc (midE l c key z) (putC l c key))) (v:Value) (hmv:a.eval m=.map (some b)) (hs:a.eval s=.int .i64 (bornE l c key)) (hx:a.eval x=v)
  (hK:K (a.put o.dst undef) (setBlock w b (mapO enc (putE l c key v) (putC l c key)))):o.wp P a w K Q:=by
 unfold Oper.wp execOp
 simp only [hop,hmv,hs,hx,Sem.run_bind,(qsb E ht hb0 hm hz hk).2 w v hb,Result.andThen_ok,Sem.run_pure]
 exact hK
def q4o (b cm c:Nat) (cs:List ChkL) (body:Bs) (q:Nat×Nat) (C:Array Value) (ty:TypeId) (sc sb:Int) (w:World) (e:Ending) (w':World):Prop :=
 ∃ v',e=.returned (.tuple #[])∧qbl v' (qa5 cs (be (sumOf 1 body) 4)++[q]) ∧
  Turns ((b,Is (.cells C ty (0,0)))::qbd cm cs c) ((b,Is (.cells ((C.setIfInBounds 3 (.int .i64 (sc+1))).setIfInBounds 4 (.int .i64 (sb+body.length))) ty (0,0)))::qbd cm (setG cs c (be (sumOf 1 body) 4) v' (qa5 cs (be (sumOf 1 body) 4)++[q])) (putC (cs.map entG) c (be (sumOf 1 body) 4))) w w'
theorem qzy {cs:List ChkL} {c:Nat} (hok:ChunksOk cs c) (k:Bs):qbl (valOf (.slice none 0 0) cs k) (qa5 cs k):=by
 unfold valOf qa5 gOf
 cases hf:cs.find? (fun p=>decide (p.key=k)) with
 | none=>exact ⟨rfl,fun _=>⟨rfl,rfl⟩⟩
 | some p=>exact hok.rows p (List.mem_of_find?_eq_some hf)
theorem qpq (b pm tm cm c:Nat) (sc sb used:Int) (cs:List ChkL) (body:Bs) (a:Option Addr) (cap:Nat) (q:Nat×Nat) (C:Array Value) (ty:TypeId) (w:World) (h:Sat w ((b,Is (.cells C ty (0,0)))::qbd cm cs c)) (hC:ContIs C pm tm cm sc sb used) (hok:ChunksOk cs c)
  (hb:qaj w a (body.map enc8)) (hlen:(qa5 cs (be (sumOf 1 body) 4)).length≤100000) (hbl:body.length≤1000000) (hsc : -4611686018427387904≤sc∧sc≤4611686018427387904) (hsb : -4611686018427387904≤sb∧sb≤4611686018427387904) :
  Calls Tryz.prog 83 #[.pointer (some ⟨b,0,none⟩),.slice a body.length cap,.agg #[.int .i64 q.1,.int .i64 q.2]] w (q4o b cm c cs body q C ty sc sb w):=by
 obtain ⟨k,hk⟩:∃ k,k=be (sumOf 1 body) 4:=⟨_,rfl⟩
 have hk4:Ok4 k:=by rw [hk];exact qbv _ _
 obtain ⟨O,hO⟩:∃ O:Obj,O=.cells C ty (0,0):=⟨_,rfl⟩
 obtain ⟨M,hM⟩:∃ M,M=mapO keyV (cs.map entG) c:=⟨_,rfl⟩
 obtain ⟨v0,hv0⟩:∃ v0,v0=valOf (.slice none 0 0) cs k:=⟨_,rfl⟩
 obtain ⟨pl,hpl⟩:∃ pl,pl=qa5 cs k:=⟨_,rfl⟩
 obtain ⟨R1,hR1⟩:∃ R1,R1=rowsG qa2 (qen cs k):=⟨_,rfl⟩
 have hok0:qbl v0 pl:=by rw [hv0,hpl];exact qzy hok k
 obtain ⟨F0,hF0⟩:∃ F0,F0=(b,Is O)::qbd cm cs c:=⟨_,rfl⟩
 rw [← hO,← hF0] at h
 have hT0:Turns F0 (qa2 v0 pl++((b,Is O)::(cm,Is M)::R1)) w w:=by
  refine (Turns.refl h).to ?_
  have hp:=qqf qa2 (.slice none 0 0) [] rfl cs k (by rw [← qje];exact hok.map.nodup)
  rw [← hv0,← hR1] at hp
  rw [hF0,hM,hpl]
  unfold qbd qa5
  exact (List.Perm.cons _ (List.Perm.cons _ hp)).trans (qaf fun _=>by simp only [qad,qaa,qah]<;>omega)
 have HM:=Lib.hid (show Tryz.prog.follows .mixedOrders=true by kernel_rfl)
 have HB:=Lib.hid (fun W (hW:Same w W)=>qod a cap body W (hb.keep hW (fun _ _ _=>id)) (by omega))
 have HH:=Lib.hid (And.intro hT0 (And.intro hO (And.intro hM (And.intro hv0 (And.intro hpl (And.intro hR1 (And.intro hF0 (And.intro hok0 (And.intro hok (And.intro hk4 (And.intro hC hk)))))))))))
 have HL:=Lib.hid (hpl ▸ hk ▸ hlen)
 clear h hT0 hO hM hv0 hpl hR1 hF0 hok0 hok hk4 hC hb hlen hk
 go_enter Tryz.func83,Tryz.ntmps83
 go_wp2_with fail
 refine (HB.out _ ((Mods.refl _ w).alloc _)).mono ?_
 rintro e w1 ⟨rfl,hs1⟩
 rw [← HH.out.2.2.2.2.2.2.2.2.2.2.2]
 obtain ⟨B5,hB5⟩:∃ B5,B5=w.heap.size:=⟨_,rfl⟩
 obtain ⟨B6,hB6⟩:∃ B6,B6=w1.heap.size:=⟨_,rfl⟩
 obtain ⟨PO,hPO⟩:∃ PO:Obj,PO=.cells #[.int .i64 q.1,.int .i64 q.2] 161 (0,0):=⟨_,rfl⟩
 obtain ⟨KO,hKO⟩:∃ KO:Obj,KO=.cells (row8 k) 251 (0,0):=⟨_,rfl⟩
 have hT1:Turns F0 ((B5,Is PO)::(qa2 v0 pl++((b,Is O)::(cm,Is M)::R1))) w w1:=by
  rw [hB5,hPO]
  exact (HH.out.1.allocIs _).thenSame hs1
 have hk4:k.length=4:=HH.out.2.2.2.2.2.2.2.2.2.1
 have hn:=qa7 w1 (.cells #[.int .u8 0,.int .u8 0,.int .u8 0,.int .u8 0] 251)
 have hth:(w1.alloc (.cells #[.int .u8 0,.int .u8 0,.int .u8 0,.int .u8 0] 251)).there B6 0 (row8 k).size:=by rw [hB6,qbn,hk4];exact qcx hn 0 4 (by simp)
 obtain ⟨q1,q2⟩:=qc2 hn (k.map enc8) (by simp [hk4])
 have hT2:Turns F0 (qa2 v0 pl++((b,Is O)::(cm,Is M)::(B6,Is KO)::(B5,Is PO)::R1)) w ((w1.alloc (.cells #[.int .u8 0,.int .u8 0,.int .u8 0,.int .u8 0] 251)).setCells B6 0 (k.map enc8)):=by
  have:=(hT1.allocIs (.cells #[.int .u8 0,.int .u8 0,.int .u8 0,.int .u8 0] 251)).putIs (o:=KO) q2 (by rw [hKO];exact q1)
  rw [← hB6] at this
  exact this.to (qaf fun _=>by simp only [qad,qaa,qah]<;>omega)
 have HT2:=Lib.hid (And.intro hT2 (And.intro hth (And.intro hPO (And.intro hKO (And.intro hk4 hB6)))))
 rw [← hB5]
 clear hT1 hT2 hth hn q1 q2 hs1 hB5 hPO hKO hk4
 go_wp2_with ((rw [← hB6];refine wpList_store_mid rfl 251 (.tmp 6) (.tmp 8) rfl B6 0 (row8 k) rfl rfl HT2.out.2.1 (by rw [qbn,HT2.out.2.2.2.2.1];kernel_rfl) (qcf k) ?_;simp only [Act.put]))
 refine qbu (A:=?A) (hA:=?hA) HM.out (phiL [fun v=>v=.pointer (some ⟨b,0,none⟩),fun v=>v=.pointer (some ⟨b,0,none⟩),fun v=>v=.pointer (some ⟨b,2,none⟩),fun v=>v=.map (some cm),fun v=>v=.agg (row8 k),fun v=>v=.agg #[.int .i64 q.1,.int .i64 q.2],fun _=>True,fun v=>v=.tuple #[v0,.int .i64 (bornE (cs.map entG) c k)],fun v=>v=v0,fun _=>True,fun v=>v=.int .i64 (bornE (cs.map entG) c k),fun _=>True])
  (fun vs1 W=>match vs1 with
  | []=>Turns F0 (qa2 v0 pl++((b,Is O)::(cm,Is M)::(B6,Is KO)::(B5,Is PO)::R1)) w W
  | [v]=>∃ n:Nat,v=.slice (some ⟨n,0,none⟩) 1 1∧Turns F0 (qa2 v0 pl++((n,Is PO)::(b,Is O)::(cm,Is M)::(B6,Is KO)::(B5,Is PO)::R1)) w W
  | [v,_]=>∃ n:Nat,v=.slice (some ⟨n,0,none⟩) 1 1∧Turns F0 (qa2 v0 pl++((n,Is PO)::(b,Is O)::(cm,Is (mapO keyV (midE (cs.map entG) c k (.slice none 0 0)) (putC (cs.map entG) c k)))::(B6,Is KO)::(B5,Is PO)::R1)) w W
  | [_,_,u]=>∃ n:Nat,qbl u (pl++[q])∧Turns F0 (qa2 u (pl++[q])++((n,Is PO)::(b,Is O)::(cm,Is (mapO keyV (midE (cs.map entG) c k (.slice none 0 0)) (putC (cs.map entG) c k)))::(B6,Is KO)::(B5,Is PO)::R1)) w W
  | [_,_,u,_]=>∃ n:Nat,qbl u (pl++[q])∧Turns F0 (qa2 u (pl++[q])++((n,Is PO)::(b,Is O)::(cm,Is (mapO keyV (putE (cs.map entG) c k u) (putC (cs.map entG) c k)))::(B6,Is KO)::(B5,Is PO)::R1)) w W
  | _=>False)
  (fun W=>W.heap[b]?=some O∧W.heap[B6]?=some KO∧W.heap[B5]?=some PO) [6,7,9,11] ?hC (by kernel_rfl) (by kernel_rfl) (by kernel_rfl) (by decide) (by decide) ?h0 ?hs ?he
 case hA=>intro x;simp only [qam,Act.put,List.setIfInBounds_toArray,List.set_cons_zero,List.set_cons_succ,Nat.reduceAdd];rfl
 case hs =>
  refine ⟨qab rfl rfl (fun x wq hd hC K hK hKw=>?_),qab rfl rfl (fun x wq hd hC K hK hKw=>?_),qab rfl rfl (fun x wq hd hC K hK hKw=>?_),qab rfl rfl (fun x wq hd hC K hK hKw=>?_),qab rfl rfl (fun x wq hd hC K hK hKw=>?_),qab rfl rfl (fun x wq hd hC K hK hKw=>?_),qap 0 rfl rfl (fun x wq hd hS K hK=>?_),qap 1 rfl rfl (fun x wq hd hS K hK=>?_),qab rfl rfl (fun x wq hd hC K hK hKw=>?_),qap 2 rfl rfl (fun x wq hd hS K hK=>?_),qab rfl rfl (fun x wq hd hC K hK hKw=>?_),qap 3 rfl rfl (fun x wq hd hS K hK=>?_),trivial⟩
  ·exact qag (by kernel_rfl) (hK _ rfl)
  ·have h0:x 0=.pointer (some ⟨b,0,none⟩):=qae hd 0 (by kernel_rfl)
   exact qag (by rw [h0];kernel_rfl) (hK _ rfl)
  ·have h1:x 1=.pointer (some ⟨b,0,none⟩):=qae hd 1 (by kernel_rfl)
   exact qag (by rw [h1];kernel_rfl) (hK _ rfl)
  ·have h2:x 2=.pointer (some ⟨b,2,none⟩):=qae hd 2 (by kernel_rfl)
   exact qat Tryz.underlying121 rfl rfl (by rw [h2];rfl) (qac (HH.out.2.1 ▸ hC.1) 2 HH.out.2.2.2.2.2.2.2.2.2.2.1.c2) (hK _ rfl)
  ·have h6:=hC.2.1
   rw [HT2.out.2.2.2.1] at h6
   exact wp_load_mid 251 (.tmp 6) rfl B6 0 rfl (k.map enc8) _ (fun j v hv=>qac h6 (0+j) (by rw [Nat.zero_add];simpa [row8] using hv)) Tryz.underlying251 rfl (by rw [List.length_map,HT2.out.2.2.2.2.1];kernel_rfl) (hK _ rfl)
  ·have h5:=hC.2.2
   rw [HT2.out.2.2.1] at h5
   exact wp_load_mid 161 (.tmp 5) rfl B5 0 rfl [.int .i64 q.1,.int .i64 q.2] _ (fun j v hv=>qac h5 (0+j) (by rw [Nat.zero_add,← Array.getElem?_toList];exact hv)) Tryz.underlying161 rfl (by kernel_rfl) (hK _ rfl)
  ·have h5:x 5=.agg #[.int .i64 q.1,.int .i64 q.2]:=qae hd 5 (by kernel_rfl)
   refine qag (v:=.slice (some ⟨wq.heap.size,0,none⟩) 1 1) (w':=wq.alloc PO) (by rw [HT2.out.2.2.1];rw [h5];kernel_rfl) (hK _ _ trivial ⟨wq.heap.size,rfl,?_⟩)
   have h:=Turns.allocIs hS PO
   exact h.to (qaf fun _=>by simp only [qad,qaa,qah]<;>omega)
  ·have h3:x 3=.map (some cm):=qae hd 3 (by kernel_rfl)
   have h4:x 4=.agg (row8 k):=qae hd 4 (by kernel_rfl)
   obtain ⟨n,en,hT⟩:=hS
   have hmp:=hT.sat.memIs (b:=cm) (o:=M) (by simp)
   refine q51 qt2 (.tmp 12) (.tmp 13) rfl Tryz.underlying121 (HH.out.2.2.1 ▸ hmp) HH.out.2.2.2.2.2.2.2.2.1.map (qls _) k (by rw [h3];rfl) (by rw [h4];rfl) HH.out.2.2.2.2.2.2.2.2.2.1 ?_
   rw [qeu,← HH.out.2.2.2.1]
   refine hK _ _ rfl ⟨n,en,?_⟩
   have hq:=(hT.to (H:=(cm,Is M)::(qa2 v0 pl++((n,Is PO)::(b,Is O)::(B6,Is KO)::(B5,Is PO)::R1))) (qaf fun _=>by simp only [qad,qaa,qah]<;>omega)).putIs (o:=mapO keyV (midE (cs.map entG) c k (.slice none 0 0)) (putC (cs.map entG) c k)) (qc8 wq cm _) (qds hmp)
   exact hq.to (qaf fun _=>by simp only [qad,qaa,qah]<;>omega)
  ·have h7:x 7=.tuple #[v0,.int .i64 (bornE (cs.map entG) c k)]:=qae hd 7 (by kernel_rfl)
   exact qag (by rw [h7];kernel_rfl) (hK _ rfl)
  ·have h8:x 8=v0:=qae hd 8 (by kernel_rfl)
   obtain ⟨n,en,hT⟩:=hS
   have hno:=hT.sat.memIs (b:=n) (o:=PO) (by simp)
   rw [HT2.out.2.2.1] at hno
   exact qjw (.tmp 14) (.tmp 16) rfl v0 pl (by rw [h8];rfl) hT HH.out.2.2.2.2.2.2.2.1 (some ⟨n,0,none⟩) 1 1 (by rw [en];rfl) [q] rfl (fun _=>⟨_,rfl,fun j u hu=>by
     rw [Addr.add_lit,Nat.zero_add]
     exact qac hno j (by rw [← Array.getElem?_toList];exact hu)⟩) (by have:=HL.out;simp;omega) (fun v1 w1 h1 h2=>hK _ _ trivial ⟨n,h1,h2⟩)
  ·have h7:x 7=.tuple #[v0,.int .i64 (bornE (cs.map entG) c k)]:=qae hd 7 (by kernel_rfl)
   exact qag (by rw [h7];kernel_rfl) (hK _ rfl)
  ·have h3:x 3=.map (some cm):=qae hd 3 (by kernel_rfl)
   have h10:x 10=.int .i64 (bornE (cs.map entG) c k):=qae hd 10 (by kernel_rfl)
   obtain ⟨n,ho,hT⟩:=hS
   have hmp:=hT.sat.memIs (b:=cm) (o:=mapO keyV (midE (cs.map entG) c k (.slice none 0 0)) (putC (cs.map entG) c k)) (by simp)
   have hm0:=HH.out.1.sat.memIs (b:=cm) (o:=M) (by simp)
   refine que qt2 (w0:=w) (.tmp 12) (.tmp 19) (.tmp 18) rfl Tryz.underlying121 (HH.out.2.2.1 ▸ hm0) HH.out.2.2.2.2.2.2.2.2.1.map (qls _) k HH.out.2.2.2.2.2.2.2.2.2.1 hmp (x 9) (by rw [h3];rfl) (by rw [h10];rfl) rfl ?_
   refine hK _ _ trivial ⟨n,ho,?_⟩
   have hq:=(hT.to (H:=(cm,Is (mapO keyV (midE (cs.map entG) c k (.slice none 0 0)) (putC (cs.map entG) c k)))::(qa2 (x 9) (pl++[q])++((n,Is PO)::(b,Is O)::(B6,Is KO)::(B5,Is PO)::R1))) (qaf fun _=>by simp only [qad,qaa,qah]<;>omega)).putIs (o:=mapO keyV (putE (cs.map entG) c k (x 9)) (putC (cs.map entG) c k)) (qc8 wq cm _) (qds hmp)
   exact hq.to (qaf fun _=>by simp only [qad,qaa,qah]<;>omega)
 case hC =>
  intro vs1 W hlt hS
  match vs1,hS,hlt with
  | [],hT,_=>exact ⟨hT.sat.memIs (by simp),hT.sat.memIs (by simp),hT.sat.memIs (by simp)⟩
  | [_],⟨_,_,hT⟩,_=>exact ⟨hT.sat.memIs (by simp),hT.sat.memIs (by simp),hT.sat.memIs (by simp)⟩
  | [_,_],⟨_,_,hT⟩,_=>exact ⟨hT.sat.memIs (by simp),hT.sat.memIs (by simp),hT.sat.memIs (by simp)⟩
  | [_,_,_],⟨_,_,hT⟩,_=>exact ⟨hT.sat.memIs (by simp),hT.sat.memIs (by simp),hT.sat.memIs (by simp)⟩
  | [_,_,_,_],_,hlt=>exact absurd hlt (Nat.lt_irrefl _)
 case h0=>exact HT2.out.1.drew
 case he =>
  intro x w3 hφ hS
  obtain ⟨n,hok3,hT3⟩:=hS
  obtain ⟨v3,hv3⟩:∃ v3,v3=x 9:=⟨_,rfl⟩
  rw [← hv3] at hok3 hT3
  have hbo:=hT3.sat.memIs (b:=b) (o:=O) (by simp)
  rw [HH.out.2.1] at hbo
  have b3:w3.cell? ⟨b,3,none⟩=some (.int .i64 sc):=qac hbo 3 HH.out.2.2.2.2.2.2.2.2.2.2.1.c3
  have b4:w3.cell? ⟨b,4,none⟩=some (.int .i64 sb):=qac hbo 4 HH.out.2.2.2.2.2.2.2.2.2.2.1.c4
  have f3:=qa9 hbo 3
  have f4:=qa9 hbo 4
  have HT3:=Lib.hid (And.intro hok3 (And.intro hT3 hbo))
  clear hφ hok3 hT3 hv3 hbo
  go_wp2_with fail
  refine bodyPost_end (results_none rfl _ _ _) rfl ?_
  have s1:=qbf HT3.out.2.2 3 (.int .i64 (sc+1))
  have s2:=qbf s1 4 (.int .i64 (sb+body.length))
  have m1:=((Mods.refl (fun k=>k=b) w3).set1 (i:=3) (.int .i64 (sc+1))).set1 (i:=4) (.int .i64 (sb+body.length))
  have hq:=(HT3.out.2.1.to (H:=(b,Is O)::(qa2 v3 (pl++[q])++((n,Is PO)::(cm,Is (mapO keyV (putE (cs.map entG) c k v3) (putC (cs.map entG) c k)))::(B6,Is KO)::(B5,Is PO)::R1))) (qaf fun _=>by simp only [qad,qaa,qah]<;>omega)).putIs m1 s2
  refine ⟨v3,rfl,?_,?_⟩
  ·rw [← HH.out.2.2.2.2.2.2.2.2.2.2.2,← HH.out.2.2.2.2.1];exact HT3.out.1
  ·rw [← HH.out.2.2.2.2.2.2.2.2.2.2.2,← HH.out.2.2.2.2.1,← HH.out.2.1,← HH.out.2.2.2.2.2.2.1]
   have hp:=qu0 qa2 cs c k v3 (pl++[q]) (by rw [← qje];exact HH.out.2.2.2.2.2.2.2.2.1.map.nodup)
   rw [← HH.out.2.2.2.2.2.1] at hp
   unfold qbd
   rw [qlo]
   have hd:=hq.drop (H:=(b,Is (.cells ((C.setIfInBounds 3 (.int .i64 (sc+1))).setIfInBounds 4 (.int .i64 (sb+body.length))) ty (0,0)))::(cm,Is (mapO keyV (putE (cs.map entG) c k v3) (putC (cs.map entG) c k)))::(qa2 v3 (pl++[q])++R1)) (fun _=>by simp only [qad,qaa,qah]<;>omega)
   exact hd.to (List.Perm.cons _ (List.Perm.cons _ hp.symm))
end Go.Proofs.YtdhobpbngkainaaGreatDoor
namespace Go.Proofs.YtdhobpbngkainaaGreatDoor
def padS (x:Bs):Bs:=x++zeros ((128-x.length%128)%128)
def qb9 (x:Bs):Bs:=x.drop (128*(x.length / 128))
def qbs (x:Bs):Bs:=qb9 x++zeros (128-x.length%128)
theorem qdy (x:Bs):(qb9 x).length=x.length%128:=by simp [qb9];omega
theorem qso (x:Bs):(qbs x).length=128:=by simp [qbs,qdy,qan];omega
theorem qf4 (x:Bs):(padS x).length=128*((x.length+127) / 128):=by simp [padS,qan];omega
theorem qi1 (a b:Nat):zeros a++zeros b=zeros (a+b):=by simp [zeros,List.replicate_append_replicate]
theorem qo0 (n k:Nat):(zeros n).drop k=zeros (n-k):=by simp [zeros]
theorem qsg {x c:Bs} (h:x.length%128+c.length≤128) (h0:0<c.length) :
  padS (x++c)=x.take (128*(x.length / 128))++(qb9 x++c++zeros (128-x.length%128-c.length)):=by
 have e:x=x.take (128*(x.length / 128))++qb9 x:=by simp [qb9]
 unfold padS
 conv=>lhs;arg 1;arg 1;rw [e]
 have hz:(128-(x++c).length%128)%128=128-x.length%128-c.length:=by
  rw [List.length_append];omega
 rw [hz]
 simp [List.append_assoc]
theorem qv7 {l s1 s2:Bs} {o k:Nat} (h1:k≤s1.length) (h2:s1.length≤k+s2.length) (hf:o+k+s2.length≤l.length) :
  putAt (putAt l o s1) (o+k) s2=putAt l o (s1.take k++s2):=by
 unfold putAt
 have hl:(l.take o++s1++l.drop (o+s1.length)).length=l.length:=by simp;omega
 have ht:(l.take o++s1++l.drop (o+s1.length)).take (o+k)=l.take o++s1.take k:=by
  rw [List.append_assoc,List.take_append,List.take_append,List.length_take]
  rw [show min o l.length=o by omega,List.take_take,Nat.min_eq_right (by omega),show o+k-o=k by omega,show k-s1.length=0 by omega]
  simp
 have hd:(l.take o++s1++l.drop (o+s1.length)).drop (o+k+s2.length)=l.drop (o+(s1.take k++s2).length):=by
  rw [List.append_assoc,List.drop_append,List.drop_append,List.length_take]
  rw [show min o l.length=o by omega,List.drop_of_length_le (by simp;omega),List.drop_of_length_le (by omega),List.drop_drop]
  simp only [List.nil_append,List.length_append,List.length_take]
  congr 1
  omega
 rw [ht,hd]
 simp only [List.append_assoc]
theorem qy8 {l x c:Bs} {o:Nat} (h:x.length%128+c.length≤128) (h0:0<c.length) (hf:o+(padS (x++c)).length≤l.length) :
  putAt (putAt l o (padS x)) (o+128*(x.length / 128)) (qb9 x++c++zeros (128-x.length%128-c.length))=putAt l o (padS (x++c)):=by
 have e1:=qsg h h0
 have hlen:(qb9 x++c++zeros (128-x.length%128-c.length)).length=128:=by simp [qdy,qan];omega
 have hp:=qf4 x
 have hp2:=qf4 (x++c)
 rw [List.length_append] at hp2
 rw [qv7 (by omega) (by omega) (by omega),e1]
 congr 2
 unfold padS
 rw [List.take_append_of_le_length (by omega)]
theorem qwb {l x c:Bs} {o:Nat} (h:x.length<128) (h1:x.length+c.length≤128) (h0:0<c.length) :
  putAt l o (x++c++zeros (128-x.length-c.length))=putAt l o (padS (x++c)):=by
 have e1:=qsg (x:=x) (c:=c) (by omega) h0
 have e2:x.length / 128=0:=by omega
 have e3:x.length%128=x.length:=by omega
 rw [e1]
 simp only [qb9,e2,e3,Nat.mul_zero,List.take_zero,List.drop_zero,List.nil_append]
theorem qws {x:Bs} {k:Nat} (h:128*k≤x.length):qb9 (x.drop (128*k))=qb9 x:=by
 unfold qb9
 rw [List.drop_drop,List.length_drop]
 congr 1
 omega
theorem q5u {x c:Bs} (h:x.length%128+c.length≤128):putAt (qbs x) (x.length%128) c=qb9 x++c++zeros (128-x.length%128-c.length):=by
 have hl:=qdy x
 unfold putAt qbs
 rw [List.take_left' hl,← hl,List.drop_append,List.drop_of_length_le (by omega),qo0]
 simp only [List.nil_append]
 congr 2
 omega
theorem qw5 {x c:Bs} (h:x.length%128+c.length<128):qbs (x++c)=qb9 x++c++zeros (128-x.length%128-c.length):=by
 unfold qbs qb9
 have e1:(x++c).length / 128=x.length / 128:=by rw [List.length_append];omega
 have e2:(x++c).length%128=x.length%128+c.length:=by rw [List.length_append];omega
 rw [e1,e2,List.drop_append_of_le_length (by omega)]
 congr 2
 omega
theorem qwo {x:Bs} (h:x.length%128=0):qbs x=zeros 128:=by
 have:qb9 x=[]:=List.eq_nil_of_length_eq_zero (by rw [qdy,h])
 unfold qbs
 rw [this,h];rfl
theorem q5s {l data bj c:Bs} {first q:Nat} (hq:q=(data++bj).length / 128) (h:(data++bj).length%128+c.length≤128) (h0:0<c.length) (hf:128*(first+q)+128≤l.length) :
  putAt (if bj=[] then l else putAt l (128*(first+data.length / 128)) (padS ((data++bj).drop (128*(data.length / 128))))) (128*(first+q)) (qb9 (data++bj)++c++zeros (128-(data++bj).length%128-c.length)) =
   putAt l (128*(first+data.length / 128)) (padS ((data++bj++c).drop (128*(data.length / 128)))):=by
 have hx:128*(data.length / 128)≤(data++bj).length:=by rw [List.length_append];omega
 rw [List.drop_append_of_le_length (l₁:=data++bj) hx,← qws hx]
 obtain ⟨y,hy⟩:∃ y,y=(data++bj).drop (128*(data.length / 128)):=⟨_,rfl⟩
 have hyl:y.length=(data++bj).length-128*(data.length / 128):=by rw [hy,List.length_drop]
 have em:(data++bj).length%128=y.length%128:=by omega
 rw [← hy,em]
 rw [em] at h
 split
 ·rename_i hb
  subst hb
  have hy1:y.length<128:=by rw [hyl,List.append_nil];omega
  have hq2:q=data.length / 128:=by rw [hq,List.append_nil]
  rw [hq2]
  have e3:y.length%128=y.length:=by omega
  have e4:qb9 y=y:=by unfold qb9;rw [show y.length / 128=0 by omega];rfl
  rw [e3,e4]
  exact qwb hy1 (by omega) h0
 ·have hq2:128*(first+q)=128*(first+data.length / 128)+128*(y.length / 128):=by omega
  rw [hq2]
  refine qy8 h h0 ?_
  have:=qf4 (y++c)
  rw [List.length_append] at this
  omega
end Go.Proofs.YtdhobpbngkainaaGreatDoor
namespace Go.Proofs.YtdhobpbngkainaaGreatDoor
open Go.RowKit
theorem qw8 (d:Nat) (A:AreaL) (o:Nat) (s:Bs) (hs:o+s.length≤A.tail.length):(splice (qaw d A).toList (4+o) (s.map enc8)).toArray=qaw d { A with tail:=putAt A.tail o s }:=by
 apply Array.ext'
 rw [qcm]
 show splice _ (4+o) _=_
 generalize hh:[Value.pointer (some ⟨d,0,none⟩),Value.int .i64 A.first,Value.int .i64 A.count,Value.int .i64 A.end_]=hd
 have hl:hd.length=4:=by rw [← hh];rfl
 unfold splice
 rw [List.take_append,List.take_of_length_le (by omega),hl,show 4+o-4=o by omega,List.take_append_of_le_length (by simp;omega),List.drop_append,List.drop_of_length_le (by omega),hl]
 rw [show 4+o+(s.map enc8).length-4=o+s.length by simp;omega,List.drop_append_of_le_length (by simp;omega)]
 rw [qcm]
 simp [putAt,hh]
def lenOf:Value→Nat
 | .slice _ n _=>n
 | _=>0
def qui (ab d:Nat) (A:AreaL) (L:DevL) (data b:Bs) (g off:Nat) (w:World) (v:Value) (wr:World):Prop :=
 ∃ (j:Nat) (aj:Option Addr) (cj:Nat) (L':DevL),j≤b.length∧v=.slice aj (b.length-j) cj∧b.length-j≤cj∧cj≤9223372036854775807∧(0<b.length-j→aj=some ⟨g,off+j,none⟩) ∧
  Turns (areaF ab d A++devF d L) (areaF ab d { A with end_:=data.length+j,tail:=qbs (data++b.take j) }++devF d L') w wr∧DevOk L'∧L'.n=L.n ∧
  L'.now=(if j=0 then L.now else putAt L.now (128*(A.first+data.length / 128)) (padS ((data++b.take j).drop (128*(data.length / 128)))))∧L'.chs.length≤L.chs.length+j
def q32 (ab d:Nat) (A:AreaL) (L:DevL) (data b:Bs) (w:World) (e:Ending) (w':World):Prop :=
 e=.returned .nilIface∧∃ L',Turns (areaF ab d A++devF d L) (areaF ab d { A with end_:=(data++b).length,tail:=qbs (data++b) }++devF d L') w w'∧DevOk L'∧L'.n=L.n ∧
  L'.now=(if b=[] then L.now else putAt L.now (128*(A.first+data.length / 128)) (padS ((data++b).drop (128*(data.length / 128)))))∧L'.chs.length≤L.chs.length+b.length
theorem qu2 (ab d:Nat) (A:AreaL) (L:DevL) (data b:Bs) (a:Option Addr) (cap:Nat) (w:World) (h:Sat w (areaF ab d A++devF d L)) (hL:DevOk L) (hA:A.first+A.count≤L.n) (hn:L.n≤1073741824)
  (he:A.end_=data.length) (ht:A.tail=qbs data) (hfit:data.length+b.length≤128*A.count) (hb:qaj w a (b.map enc8)) (hcap:b.length≤cap) (hcap2:cap≤9223372036854775807) (hne:∀ x,a=some x→x.block∉dom (areaF ab d A++devF d L)) (hch:L.chs.length+b.length≤137438953472) :
  Calls Tryz.prog 129 #[.pointer (some ⟨ab,0,none⟩),.slice a b.length cap] w (q32 ab d A L data b w):=by
 obtain ⟨g,off,hgo⟩:∃ g off,0<b.length→a=some ⟨g,off,none⟩:=by
  rcases Nat.eq_zero_or_pos b.length with h0 | h0
  ·exact ⟨0,0,fun h=>by omega⟩
  ·obtain ⟨g,off,e,_⟩:=hb (by simpa using h0)
   exact ⟨g,off,fun _=>e⟩
 have hst:qui ab d A L data b g off w (.slice a b.length cap) w:=by
  refine ⟨0,a,cap,L,Nat.zero_le _,rfl,hcap,hcap2,fun h=>by rw [hgo h];rfl,?_,hL,rfl,by rw [if_pos rfl],Nat.le_add_right _ _⟩
  have e:({ A with end_:=data.length+0,tail:=qbs (data++b.take 0) }:AreaL)=A:=by rw [List.take_zero,List.append_nil,← ht,Nat.add_zero,← he]
  rw [e];exact Turns.refl h
 have H:=Lib.hid (And.intro h (And.intro hA (And.intro hn (And.intro hfit (And.intro hb (And.intro hne (And.intro hch (And.intro hgo hL))))))))
 have HST:=Lib.hid hst
 clear h hL hA hn he ht hfit hb hcap hcap2 hne hch hst hgo
 go_enter Tryz.func129,Tryz.ntmps129
 go_wp2_with fail
 go_loopw [1] (fun v wr=>qui ab d A L data b g off w v wr) (fun v _=>lenOf v)
 case atStart=>exact HST.out
 case round =>
  obtain ⟨j,aj,cj,L',hj,rfl,hcj,hcj2,haj,hT,hL',hn',hnow,hch'⟩:=hrel
  by_cases hlt:j<b.length
  ·obtain ⟨e,hee⟩:∃ e,e=data.length+j:=⟨_,rfl⟩
   obtain ⟨T,hTT⟩:∃ T,T=qbs (data++b.take j):=⟨_,rfl⟩
   rw [← hee,← hTT] at hT
   have hTl:T.length=128:=by rw [hTT,qso]
   obtain ⟨t,htt⟩:∃ t,t=e%128:=⟨_,rfl⟩
   obtain ⟨r,hr⟩:∃ r,r=b.length-j:=⟨_,rfl⟩
   have hab:=qe1 hT.sat
   have a0:=qac hab 0 (qhe d _)
   have a1:=qac hab 1 (qhd d _)
   have a3:=qac hab 3 (qiq d _)
   have f3:=qa9 hab 3
   simp only at a1 a3
   have haj:=haj (by omega)
   subst haj
   have hrp:0<r:=by omega
   have het:(e:Int)%128=(t:Int):=by omega
   have ht1:(t:Int)≤128:=by omega
   have ht2:¬ t=128:=by omega
   have hal:ab<wr.heap.size:=qal hab
   have HT:=Lib.hid (And.intro hT (And.intro hL' (And.intro hn' (And.intro hnow (And.intro hch' (And.intro hab (And.intro hTl hTT)))))))
   have HE:=Lib.hid (And.intro hee (And.intro htt hr))
   have he0:(e:Int)≤1099511627776:=by have:=H.out.2.2.2.1;have:=H.out.2.1;have:=H.out.2.2.1;omega
   rw [← hr]
   clear hT hL' hn' hnow hch' hab hTl hTT hee htt hr HST hj hlt
   obtain ⟨c,hc⟩:∃ c,c=(b.drop j).take (min r (128-t)):=⟨_,rfl⟩
   have hcl:c.length=min r (128-t):=by rw [hc,List.length_take,List.length_drop,← HE.out.2.2];omega
   have hsrc:∀ i v,(c.map enc8)[i]?=some v→wr.cell? ((⟨g,off+j,none⟩:Addr).add i)=some v:=fun i v hv=>by
    have hbw:=H.out.2.2.2.2.1.keep (w':=wr) HT.out.1.mods (fun g' off' e hin=>H.out.2.2.2.2.2.1 _ e hin)
    obtain ⟨g',off',e',hcl'⟩:=hbw (by rw [List.length_map];have:=HE.out.2.2;omega)
    have e2:=H.out.2.2.2.2.2.2.2.1 (by have:=HE.out.2.2;omega)
    rw [e2] at e'
    simp only [Option.some.injEq,Addr.mk.injEq,and_true] at e'
    obtain ⟨rfl,rfl⟩:=e'
    obtain ⟨hi,rfl⟩:=List.getElem?_eq_some_iff.1 hv
    have hi':i<c.length:=by simpa using hi
    rw [Addr.add_mid,show off+j+i=off+(j+i) by omega]
    refine (hcl' (j+i) (by rw [List.length_map];have:=HE.out.2.2;omega)).trans ?_
    simp [hc]
   have HS8:=Lib.hid (show (Tryz.prog.info? 5).map (·.size)=some 1 by kernel_rfl)
   have HCP:=Lib.hid (And.intro hc (And.intro hcl hsrc))
   clear hc hcl hsrc
   go_upto_region 4 with (refine qfx rfl (.tmp 20) (.tmp 21) 38 38 rfl 5 Tryz.underlying38 HS8.out _ _ _ _ _ _ rfl rfl ab (4+t) (qaw d { A with end_:=e,tail:=T }).toList 157 (by rw [Array.toArray_toList];exact HT.out.2.2.2.2.2.1) (c.map enc8) (by rw [List.length_map];exact HCP.out.2.1) (fun _=>⟨rfl,_,rfl,HCP.out.2.2⟩) (by rw [List.length_map,HCP.out.2.1,Array.length_toList,qg5];simp only;rw [HT.out.2.2.2.2.2.2.1];omega) (qc3 _) ?_;intro w4 hh hm4 hz4;rw [qw8 d _ t c (by simp only;rw [HT.out.2.2.2.2.2.2.1,HCP.out.2.1];omega)] at hh;have H4:=Lib.hid (And.intro hh (And.intro hm4 hz4));clear hh hm4 hz4)
   obtain ⟨T2,hT2⟩:∃ T2,T2=putAt T t c:=⟨_,rfl⟩
   obtain ⟨q,hq⟩:∃ q,q=e / 128:=⟨_,rfl⟩
   have hab4:w4.heap[ab]?=some (.cells (qaw d { A with end_:=e,tail:=T2 }) 157 (0,0)):=by rw [hT2];exact H4.out.1
   have hT4:Turns (areaF ab d A++devF d L) (areaF ab d { A with end_:=e,tail:=T2 }++devF d L') w w4:=HT.out.1.trans (qhb HT.out.1.sat H4.out.2.1 hab4 rfl rfl)
   have hT2l:T2.length=128:=by rw [hT2,qg4];exact HT.out.2.2.2.2.2.2.1;rw [HT.out.2.2.2.2.2.2.1,HCP.out.2.1];omega
   have b0:=qac hab4 0 (qhe d _)
   have b1:=qac hab4 1 (qhd d _)
   have b3:=qac hab4 3 (qiq d _)
   simp only at b1 b3
   have hrT:=qk7 hab4
   simp only at hrT
   have hfq:A.first+q<L'.n:=by have:=H.out.2.2.2.1;have:=H.out.2.1;have:=HT.out.2.2.1;have:=HE.out.1;have:=HE.out.2.2;omega
   have HQ2:=Lib.hid (show wrap64 ((A.first:Int)+(e:Int) / 128)=(A.first:Int)+(q:Int) by rw [show (e:Int) / 128=(q:Int) by omega];exact IntWalk.wrap64_in _ (by have:=H.out.2.2.1;have:=HT.out.2.2.1;omega))
   have HWr:Hid (∀ W,Sat W (devF d L')→Calls Tryz.prog 18 #[.pointer (some ⟨d,0,none⟩),.int .i64 ((A.first:Int)+q),.agg (T2.map enc8).toArray] W (qgt d L' (A.first+q) T2 W)):=Lib.hid (fun W hW=>by
    have:=qhq d L' (A.first+q) T2 W hW HT.out.2.1 hfq hT2l (by have:=HT.out.2.2.2.2.1;have:=H.out.2.2.2.2.2.2.1;have:=HE.out.2.2;omega)
    exact this)
   have HM:=Lib.hid (show Tryz.prog.follows .mixedOrders=true by kernel_rfl)
   have H5:=Lib.hid (And.intro hT4 (And.intro hT2l (And.intro hrT (And.intro hT2 (And.intro hq (And.intro hfq hab4))))))
   clear hT4 hT2l hrT hT2 hq hfq hab4 a0 a1 a3 f3 haj hal
   refine wp_region_still_tail 18 HM.out (by kernel_rfl) ?_
   simp only [List.take_succ_cons,List.take_zero,List.drop_succ_cons,List.drop_zero]
   iterate 17 still_step
   refine qb7 rfl 43 (.tmp 39) rfl ab 4 rfl (T2.map enc8) _ H5.out.2.2.1 Tryz.underlying43 rfl (secHi H5.out.2.1) ?_
   refine wpStill_nil ?_
   simp only [Act.put,List.setIfInBounds_toArray,List.set_cons_zero,List.set_cons_succ]
   change wpList _ _ _ _ _ w4.drew
   go_wp2_with fail
   rw [HQ2.out]
   refine (HWr.out _ (by exact (H5.out.1.drew.sat.right))).mono ?_
   rintro ev w5 ⟨rfl,L2,hW,hL2,hn2,hnow2,hch2⟩
   have hx:(data++b.take j).length=e:=by rw [List.length_append,List.length_take];have:=HE.out.1;have:=HE.out.2.2;omega
   have hbt:b.take (j+c.length)=b.take j++c:=by
    rw [List.take_add]
    congr 1
    rw [HCP.out.1,List.length_take,List.length_drop]
    rw [List.take_eq_take_iff,List.length_drop]
    omega
   have hT2e:T2=qb9 (data++b.take j)++c++zeros (128-e%128-c.length):=by
    rw [H5.out.2.2.2.1,HT.out.2.2.2.2.2.2.2,HE.out.2.1,← hx]
    exact q5u (by have:=HCP.out.2.1;have:=HE.out.2.1;omega)
   have hnow3:L2.now=putAt L.now (128*(A.first+data.length / 128)) (padS ((data++b.take (j+c.length)).drop (128*(data.length / 128)))):=by
    rw [hnow2,hT2e,hbt,← List.append_assoc,← q5s (l:=L.now) (first:=A.first) (q:=q) (bj:=b.take j) (by rw [hx];exact H5.out.2.2.2.2.1) (by rw [hx];have:=HCP.out.2.1;have:=HE.out.2.1;omega) (by have:=HCP.out.2.1;have:=HE.out.2.1;omega) ?_,hx]
    ·congr 1
     rw [HT.out.2.2.2.1]
     by_cases hj0:j=0
     ·subst hj0;simp
     ·rw [if_neg hj0,if_neg (fun h=>hj0 (by have h1:=congrArg List.length h;rw [List.length_take] at h1;have:=HE.out.2.2;simp only [List.length_nil] at h1;omega))]
    ·rw [H.out.2.2.2.2.2.2.2.2.nowL];have:=H5.out.2.2.2.2.2.1;have:=HT.out.2.2.1;omega
   have hT5:Turns (areaF ab d A++devF d L) (areaF ab d { A with end_:=e,tail:=T2 }++devF d L2) w w5:=(H5.out.1.drew.step (qaf fun _=>by simp only [qad,qaa,qah]<;>omega) hW).to List.perm_append_comm
   have hab5:=qe1 hT5.sat
   have b3:=qac hab5 3 (qiq d _)
   have f3:=qa9 hab5 3
   simp only at b3
   have hset:(w5.setCell ⟨ab,3,none⟩ (.int .i64 ((e:Int)+(c.length:Int)))).heap[ab]?=some (.cells (qaw d { A with end_:=e+c.length,tail:=T2 }) 157 (0,0)):=by
    rw [qbf hab5 3,show ((e:Int)+(c.length:Int))=((e+c.length:Nat):Int) by omega,qpp]
   have hT6:Turns (areaF ab d A++devF d L) (areaF ab d { A with end_:=e+c.length,tail:=T2 }++devF d L2) w (w5.setCell ⟨ab,3,none⟩ (.int .i64 ((e:Int)+(c.length:Int)))) :=
    hT5.trans (qhb hT5.sat ((Mods.refl (fun k=>k=ab) w5).set1 (i:=3) _) hset rfl rfl)
   have hth:(w5.setCell ⟨ab,3,none⟩ (.int .i64 ((e:Int)+(c.length:Int)))).there ab 4 (row8 (zeros 128)).size:=by
    rw [qbn,qan];exact qcx hset 4 128 (by rw [qg5];simp only;rw [H5.out.2.1];omega)
   have hcm:c.length≤r:=by have:=HCP.out.2.1;omega
   have hcr:r≤cj:=by rw [HE.out.2.2];exact hcj
   have hc0:(0:Int)≤(c.length:Int):=by omega
   have hcr2:(c.length:Int)≤(r:Int):=by omega
   have hcr3:(r:Int)≤(cj:Int):=by omega
   have HN3:=Lib.hid (And.intro hL2 (And.intro (hn2.trans HT.out.2.2.1) (And.intro hnow3 (And.intro hch2 (And.intro hx (And.intro hbt hT2e))))))
   have H6:=Lib.hid (And.intro hT6 (And.intro hset hth))
   clear hL2 hn2 hnow3 hch2 hx hbt hT2e hT5 hab5 hT6 hset hth hW hnow2 hcj hcm hcr
   have hrel:∀ (W:World) (tl:Bs) (aj2:Option Addr) (n2 cj2:Nat),n2=r-c.length→Turns (areaF ab d A++devF d L) (areaF ab d { A with end_:=e+c.length,tail:=tl }++devF d L2) w W→tl=qbs (data++b.take (j+c.length))→r-c.length≤cj2→cj2≤9223372036854775807→(0<r-c.length→aj2=some ⟨g,off+j+c.length,none⟩) →
     qui ab d A L data b g off w (.slice aj2 n2 cj2) W:=fun W tl aj2 n2 cj2 hn2 hTW htl h1 h2 h3=>by
    subst hn2
    subst htl
    refine ⟨j+c.length,aj2,cj2,L2,?_,?_,?_,h2,?_,?_,HN3.out.1,HN3.out.2.1,?_,?_⟩
    ·have:=HCP.out.2.1;have:=HE.out.2.2;omega
    ·rw [show b.length-(j+c.length)=r-c.length by have:=HE.out.2.2;omega]
    ·have:=HE.out.2.2;omega
    ·intro h4;rw [h3 (by have:=HE.out.2.2;omega),Nat.add_assoc]
    ·rw [show data.length+(j+c.length)=e+c.length by have:=HE.out.1;omega];exact hTW
    ·rw [if_neg (by have:=HCP.out.2.1;omega)];exact HN3.out.2.2.1
    ·have:=HN3.out.2.2.2.1;have:=HT.out.2.2.2.2.1;have:=HCP.out.2.1;omega
   have hlen2:(data++b.take (j+c.length)).length=e+c.length:=by rw [HN3.out.2.2.2.2.2.1,← List.append_assoc,List.length_append,HN3.out.2.2.2.2.1]
   have hc0p:0<c.length:=by have:=HCP.out.2.1;omega
   have hc128:(c.length:Int)≤128:=by have:=HCP.out.2.1;omega
   by_cases hfull:t+c.length=128
   ·have hz:((e:Int)+(c.length:Int))%128=0:=by omega
    have htf:=qwo (x:=data++b.take (j+c.length)) (by rw [hlen2];omega)
    have hsz3:(qaw d { A with end_:=e+c.length,tail:=T2 }).toList.length=133:=by rw [Array.length_toList,qg5];simp only;rw [H5.out.2.1]
    obtain ⟨q1,q2⟩:=qgy (C:=(qaw d { A with end_:=e+c.length,tail:=T2 }).toList) (by rw [Array.toArray_toList];exact H6.out.2.1) 4 ((zeros 128).map enc8) (by rw [List.length_map,qan,hsz3];omega)
    rw [qmp d { A with end_:=e+c.length,tail:=T2 } (zeros 128) (by rw [qan];simp only;rw [H5.out.2.1];omega)] at q1
    have hp0:putAt T2 0 (zeros 128)=zeros 128:=by unfold putAt;rw [List.take_zero,List.nil_append,List.drop_of_length_le (by rw [qan,H5.out.2.1];omega),List.append_nil]
    simp only [hp0] at q1
    have hT7:=H6.out.1.trans (qhb H6.out.1.sat q2 q1 rfl rfl)
    have HZ:=Lib.hid qjj
    have HX:=Lib.hid (And.intro hT7 (And.intro htf (And.intro q1 hrel)))
    clear hT7 htf q1 q2 hp0 hlen2 hrel
    by_cases hcc:cj=c.length
    ·obtain rfl:r=c.length:=by omega
     subst hcc
     go_wp2_with (first | (refine qby rfl 43 #[] rfl (row8 (zeros 128)) HZ.out ?_) | (refine wpList_store_mid rfl 43 (.tmp 65) (.tmp 63) rfl ab 4 (row8 (zeros 128)) rfl rfl H6.out.2.2 (secHr (qan 128)) (qcf _) ?_;simp only [Act.put]))
     all_goals
      go_roundw
      case rel=>exact HX.out.2.2.2 _ _ (some ⟨g,off+j,none⟩) 0 0 (by omega) HX.out.1 HX.out.2.1.symm (by omega) (by omega) (by omega)
      case measure=>simp [lenOf];omega
    ·go_wp2_with (first | (refine qby rfl 43 #[] rfl (row8 (zeros 128)) HZ.out ?_) | (refine wpList_store_mid rfl 43 (.tmp 65) (.tmp 63) rfl ab 4 (row8 (zeros 128)) rfl rfl H6.out.2.2 (secHr (qan 128)) (qcf _) ?_;simp only [Act.put]))
     all_goals
      go_roundw
      case rel=>exact HX.out.2.2.2 _ _ (some ⟨g,off+j+c.length,none⟩) (r-c.length) (cj-c.length) rfl HX.out.1 HX.out.2.1.symm (by omega) (by omega) (fun _=>rfl)
      case measure=>simp [lenOf];omega
   ·have hz:¬ ((e:Int)+(c.length:Int))%128=0:=by have:=HCP.out.2.1;omega
    have htn:T2=qbs (data++b.take (j+c.length)):=by
     rw [HN3.out.2.2.2.2.2.2,HN3.out.2.2.2.2.2.1,← List.append_assoc,qw5 (by rw [HN3.out.2.2.2.2.1];have:=HCP.out.2.1;omega),HN3.out.2.2.2.2.1]
    have HX:=Lib.hid (And.intro htn hrel)
    clear htn hlen2 hrel
    by_cases hcc:cj=c.length
    ·obtain rfl:r=c.length:=by omega
     subst hcc
     go_wp2_with fail
     all_goals
      go_roundw
      case rel=>exact HX.out.2 _ _ (some ⟨g,off+j,none⟩) 0 0 (by omega) H6.out.1 HX.out.1 (by omega) (by omega) (by omega)
      case measure=>simp [lenOf];omega
    ·go_wp2_with fail
     all_goals
      go_roundw
      case rel=>exact HX.out.2 _ _ (some ⟨g,off+j+c.length,none⟩) (r-c.length) (cj-c.length) rfl H6.out.1 HX.out.1 (by omega) (by omega) (fun _=>rfl)
      case measure=>simp [lenOf];omega
  ·obtain rfl:j=b.length:=by omega
   have HR:=Lib.hid (And.intro hT (And.intro hL' (And.intro hn' (And.intro hnow hch'))))
   clear hT hL' hn' hnow hch' haj HST
   simp only [Nat.sub_self]
   go_wp2_with fail
   go_ret
   refine ⟨rfl,L',?_,HR.out.2.1,HR.out.2.2.1,?_,HR.out.2.2.2.2⟩
   ·have:=HR.out.1
    rw [List.take_length] at this
    rw [List.length_append];exact this
   ·rw [HR.out.2.2.2.1,List.take_length]
    rcases b with _ | ⟨x,r⟩
    ·rfl
    ·simp
def qdt (l:Bs) (first count:Nat) (data:Bs):Prop:=qax l first count=data++zeros (128*count-data.length)∧data.length≤128*count
theorem qy5 {l s:Bs} {a o:Nat} (h:a+o+s.length≤l.length):(putAt l (a+o) s).drop a=putAt (l.drop a) o s:=by
 unfold putAt
 rw [List.append_assoc,List.drop_append_of_le_length (by rw [List.length_take];omega),List.drop_take,List.drop_drop,show a+o-a=o by omega,List.append_assoc,show a+(o+s.length)=a+o+s.length by omega]
theorem qyo {l s:Bs} {o n:Nat} (h:o+s.length≤n) (hn:n≤l.length):(putAt l o s).take n=putAt (l.take n) o s:=by
 unfold putAt
 rw [List.take_append,List.take_of_length_le (by simp;omega),List.take_take,Nat.min_eq_left (by omega),List.drop_take]
 congr 2
 simp
 omega
theorem qvk {l s:Bs} {first count q:Nat} (h:128*q+s.length≤128*count) (hl:128*(first+count)≤l.length):qax (putAt l (128*(first+q)) s) first count=putAt (qax l first count) (128*q) s:=by
 unfold qax
 rw [Nat.mul_add,qy5 (by omega),qyo h (by rw [List.length_drop];omega)]
theorem qk2 {l s:Bs} {first count q f2 c2:Nat} (h:128*q+s.length≤128*count) (hl:128*(first+count)≤l.length) (hd:f2+c2≤first∨first+count≤f2):qax (putAt l (128*(first+q)) s) f2 c2=qax l f2 c2:=by
 unfold qax putAt
 rcases hd with hd | hd
 ·apply List.ext_getElem?
  intro i
  rw [List.getElem?_take,List.getElem?_take]
  split
  ·rw [List.getElem?_drop,List.getElem?_drop,List.append_assoc,List.getElem?_append_left (by rw [List.length_take];omega),List.getElem?_take,if_pos (by omega)]
  ·rfl
 ·congr 1
  rw [List.drop_append,List.drop_of_length_le (by simp;omega),List.nil_append,List.drop_drop]
  congr 1
  simp only [List.length_append,List.length_take]
  omega
theorem qy1 {l:Bs} {first count:Nat} {data b:Bs} (h:qdt l first count data) (hl:128*(first+count)≤l.length) (hfit:data.length+b.length≤128*count) (hb:b≠[]) :
  qdt (putAt l (128*(first+data.length / 128)) (padS ((data++b).drop (128*(data.length / 128))))) first count (data++b):=by
 have hbl:0<b.length:=List.length_pos_iff.2 hb
 have hdl:((data++b).drop (128*(data.length / 128))).length=data.length%128+b.length:=by rw [List.length_drop,List.length_append];omega
 have hpl:=qf4 ((data++b).drop (128*(data.length / 128)))
 rw [hdl] at hpl
 refine ⟨?_,by rw [List.length_append];exact hfit⟩
 rw [qvk (by omega) hl,h.1]
 unfold putAt
 rw [hpl]
 have hd:(data++b).drop (128*(data.length / 128))=qb9 data++b:=List.drop_append_of_le_length (by omega)
 have e:data=data.take (128*(data.length / 128))++qb9 data:=by simp [qb9]
 rw [hd,List.take_append_of_le_length (by omega),List.drop_append (l₁:=data),List.drop_of_length_le (by omega),List.nil_append,qo0]
 unfold padS
 rw [List.length_append,qdy]
 simp only [List.append_assoc]
 rw [qi1,← List.append_assoc (data.take _),← e,List.length_append]
 congr 3
 omega
theorem q0d {L L':DevL} {A:AreaL} {data b:Bs} (h:qdt L.now A.first A.count data) (hl:L.now.length=128*L.n) (hA:A.first+A.count≤L.n) (hfit:data.length+b.length≤128*A.count)
  (hn:L'.now=(if b=[] then L.now else putAt L.now (128*(A.first+data.length / 128)) (padS ((data++b).drop (128*(data.length / 128)))))) :
  qdt L'.now A.first A.count (data++b)∧∀ f2 c2,(f2+c2≤A.first∨A.first+A.count≤f2)→qax L'.now f2 c2=qax L.now f2 c2:=by
 by_cases hb:b=[]
 ·subst hb
  rw [if_pos rfl] at hn
  rw [hn]
  exact ⟨by rw [List.append_nil];exact h,fun _ _ _=>rfl⟩
 ·rw [if_neg hb] at hn
  rw [hn]
  refine ⟨qy1 h (by omega) hfit hb,fun f2 c2 hd=>qk2 ?_ (by omega) hd⟩
  have hdl:((data++b).drop (128*(data.length / 128))).length=data.length%128+b.length:=by rw [List.length_drop,List.length_append];omega
  rw [qf4,hdl]
  omega
def RecAt (D:List Nat) (w:World) (v:Value) (l:Bs):Prop:=∃ a cap,v=.slice a l.length cap∧l.length≤cap∧cap≤9223372036854775807∧qaj w a (l.map enc8)∧∀ x,a=some x→x.block∉D∧x.block<w.heap.size
def qdm (rs:List Bs):Nat:=(rs.map List.length).sum
theorem qhv (rs:List Bs):rs.flatten.length=qdm rs:=by simp [qdm,List.length_flatten]
theorem qj5 {rs:List Bs} {k:Nat} (h:k<rs.length):qdm (rs.take (k+1))=qdm (rs.take k)+rs[k].length:=by
 unfold qdm
 rw [List.take_succ_eq_append_getElem h,List.map_append,List.sum_append]
 rfl
theorem qjl (rs:List Bs) (k:Nat):qdm (rs.take k)≤qdm rs:=by
 unfold qdm
 have:rs.map List.length=(rs.take k).map List.length++(rs.drop k).map List.length:=by rw [← List.map_append,List.take_append_drop]
 rw [this,List.sum_append]
 omega
def q5r (rs:List Bs) (w:World) (n i:Value) (wr:World):Prop:=∃ k:Nat,k≤rs.length∧i=.int .i64 k∧n=.int .i64 (qdm (rs.take k))∧Same w wr
def ChMid (ab d:Nat) (A:AreaL) (L:DevL) (data b:Bs) (w w':World):Prop :=
 ∃ L',Turns (areaF ab d A++devF d L) (areaF ab d { A with end_:=(data++b).length,tail:=qbs (data++b) }++devF d L') w w'∧DevOk L'∧L'.n=L.n∧qdt L'.now A.first A.count (data++b) ∧
  (∀ f2 c2,(f2+c2≤A.first∨A.first+A.count≤f2)→qax L'.now f2 c2=qax L.now f2 c2)∧L'.chs.length≤L.chs.length+b.length
def ChRel (ab d:Nat) (A:AreaL) (L:DevL) (data:Bs) (rs:List Bs) (w:World) (i:Value) (wr:World):Prop:=∃ k:Nat,k≤rs.length∧i=.int .i64 k∧ChMid ab d A L data (rs.take k).flatten w wr
def qyw (ab d:Nat) (A:AreaL) (L:DevL) (data:Bs) (rs:List Bs) (w:World) (e:Ending) (w':World):Prop :=
 (128*A.count<data.length+qdm rs∧e=.returned (errV 8)∧Same w w')∨(data.length+qdm rs≤128*A.count∧e=.returned .nilIface∧ChMid ab d A L data rs.flatten w w')
theorem qvg (a:Nat) (X:ArchL) (ab d:Nat) (hab:ab=X.ab) (A:AreaL) (L:DevL) (data:Bs) (rs:List Bs) (rvs:List Value) (sl:Option Addr) (cap:Nat) (w:World) (h:Sat w ((a,Is (archO X))::(areaF ab d A++devF d L))) (hbr:X.broken=.nilIface)
  (hL:DevOk L) (hA:A.first+A.count≤L.n) (hn:L.n≤1073741824) (he:A.end_=data.length) (ht:A.tail=qbs data) (hd:qdt L.now A.first A.count data) (hlen:rvs.length=rs.length) (hl:rs.length≤1000000) (hs:qdm rs≤1099511627776) (hch:L.chs.length+qdm rs≤137438953472)
  (hrv:qaj w sl rvs) (hsl:∀ x,sl=some x→x.block∉dom (areaF ab d A++devF d L)) (hr:∀ k (h1:k<rvs.length) (h2:k<rs.length),RecAt (dom (areaF ab d A++devF d L)) w rvs[k] rs[k]) :
  Calls Tryz.prog 82 #[.pointer (some ⟨a,0,none⟩),.slice sl rs.length cap] w (qyw ab d A L data rs w):=by
 have hao:=h.headIs
 have a11:w.cell? ⟨a,11,none⟩=some .nilIface:=by rw [← hbr];exact qac hao 11 rfl
 have a7:w.cell? ⟨a,7,none⟩=some (.pointer (some ⟨ab,0,none⟩)):=by rw [hab];exact qac hao 7 rfl
 have hal:=qal hao
 have HAB:=Lib.hid hab
 have H:=Lib.hid (And.intro h (And.intro hL (And.intro hA (And.intro hn (And.intro he (And.intro ht (And.intro hd (And.intro hrv (And.intro hsl (And.intro hr (And.intro hch (And.intro hlen hao))))))))))))
 clear h hL hA hn he ht hd hrv hsl hr hch hao hbr hab
 go_enter Tryz.func82,Tryz.ntmps82
 go_wp2_with fail
 go_loopw [5,22] (fun n i wr=>q5r rs w n i wr) (fun _ i _=>rs.length-(intOf i).toNat)
 case atStart=>exact ⟨0,Nat.zero_le _,rfl,rfl,Mods.refl _ _⟩
 case round =>
  obtain ⟨k,hk,rfl,rfl,hs1⟩:=hrel
  have HS:=Lib.hid hs1
  by_cases hlt:k<rs.length
  ·obtain ⟨g,off,hg,hcell⟩:=H.out.2.2.2.2.2.2.2.1.keep hs1 (fun _ _ _=>id) (by have:=H.out.2.2.2.2.2.2.2.2.2.2.2.1;omega)
   have hlt2:k<rvs.length:=by have:=H.out.2.2.2.2.2.2.2.2.2.2.2.1;omega
   obtain ⟨ra,rc,hrv,-⟩:=H.out.2.2.2.2.2.2.2.2.2.1 k hlt2 hlt
   have hck:wr.cell? ⟨g,off+k,none⟩=some (.slice ra rs[k].length rc):=by rw [hcell k hlt2,hrv]
   have htk:=qj5 hlt
   obtain ⟨m,hm⟩:∃ m,m=rs[k].length:=⟨_,rfl⟩
   rw [← hm] at hck htk
   obtain ⟨n,hn⟩:∃ n,n=qdm (rs.take k):=⟨_,rfl⟩
   rw [← hn] at htk ⊢
   have hb:n+m≤1099511627776:=by have:=qjl rs (k+1);omega
   subst hg
   have HK:=Lib.hid htk
   clear hcell hrv htk hm hn hs1
   go_wp2_with fail
   go_roundw
   case rel=>exact ⟨k+1,by omega,by go_num,by rw [HK.out];go_num,HS.out⟩
   case measure=>simp [intOf];omega
  ·obtain rfl:k=rs.length:=by omega
   rw [List.take_length]
   have b7:wr.cell? ⟨a,7,none⟩=some (.pointer (some ⟨ab,0,none⟩)):=qes hs1 a7
   have hal2:a<wr.heap.size:=Nat.lt_of_lt_of_le hal hs1.size
   have HR:=Lib.hid (qyq ab d A wr ((H.out.1.tail.left).same hs1) (by have:=H.out.2.2.1;have:=H.out.2.2.2.1;omega) (by rw [H.out.2.2.2.2.1];exact H.out.2.2.2.2.2.2.1.2))
   obtain ⟨n,hn⟩:∃ n,n=qdm rs:=⟨_,rfl⟩
   rw [← hn] at hs ⊢
   have HN:=Lib.hid hn
   clear hn hs1
   go_wp2_with fail
   refine HR.out.mono ?_
   rintro e w2 ⟨rfl,hs2⟩
   have HS2:=Lib.hid (HS.out.trans hs2)
   have b7:w2.cell? ⟨a,7,none⟩=some (.pointer (some ⟨ab,0,none⟩)):=qes hs2 b7
   have hal2:a<w2.heap.size:=Nat.lt_of_lt_of_le hal2 hs2.size
   clear hs2 HS HR
   obtain ⟨rm,hrm⟩:∃ rm:Int,rm=(A.count:Int)*128-A.end_:=⟨_,rfl⟩
   rw [← hrm]
   by_cases hfit:data.length+n≤128*A.count
   ·have hf:¬ rm<(n:Int):=by have:=H.out.2.2.2.2.1;omega
    have HF1:=Lib.hid (And.intro hrm hfit)
    clear hrm hfit
    go_wp2_with fail
    have hst:ChMid ab d A L data (rs.take 0).flatten w w2:=by
     have e:({ A with end_:=(data++(rs.take 0).flatten).length,tail:=qbs (data++(rs.take 0).flatten) }:AreaL)=A:=by simp [← H.out.2.2.2.2.1,← H.out.2.2.2.2.2.1]
     refine ⟨L,?_,H.out.2.1,rfl,by simpa using H.out.2.2.2.2.2.2.1,fun _ _ _=>rfl,by simp⟩
     rw [e]
     exact Turns.same H.out.1.tail HS2.out
    have HST:=Lib.hid hst
    clear hst
    go_loopw [41] (fun i wr=>ChRel ab d A L data rs w i wr) (fun i _=>rs.length-(intOf i).toNat)
    case atStart=>exact ⟨0,Nat.zero_le _,rfl,HST.out⟩
    case round =>
     obtain ⟨k,hk,rfl,hm⟩:=hrel
     have HMd:=Lib.hid hm
     clear hm
     by_cases hlt:k<rs.length
     ·obtain ⟨L',hT,hL',hn',hdat,hoth,hch'⟩:=HMd.out
      have hlt2:k<rvs.length:=by have:=H.out.2.2.2.2.2.2.2.2.2.2.2.1;omega
      obtain ⟨g,off,hg,hcell⟩:=(H.out.2.2.2.2.2.2.2.1.turnsOld hT H.out.2.2.2.2.2.2.2.2.1) (by omega)
      obtain ⟨ra,rc,hrv,hrc1,hrc2,hrcell,hrne⟩:=H.out.2.2.2.2.2.2.2.2.2.1 k hlt2 hlt
      have hao2:=hT.old H.out.2.2.2.2.2.2.2.2.2.2.2.2 H.out.1.notMem
      have c7:wr.cell? ⟨a,7,none⟩=some (.pointer (some ⟨ab,0,none⟩)):=by
       rw [HAB.out];exact qac hao2 7 rfl
      have hck:wr.cell? ⟨g,off+k,none⟩=some (.slice ra rs[k].length rc):=by rw [hcell k hlt2,hrv]
      have hpre:data.length+(rs.take k).flatten.length+rs[k].length≤128*A.count:=by
       have h1:=qj5 hlt
       have h2:=qjl rs (k+1)
       have h3:=HN.out
       have h4:=HF1.out.2
       rw [qhv]
       omega
      have hsl2:=qjl rs k
      have hAp:=qu2 ab d { A with end_:=(data++(rs.take k).flatten).length,tail:=qbs (data++(rs.take k).flatten) } L' (data++(rs.take k).flatten) rs[k] ra rc wr hT.sat hL' (by rw [hn'];exact H.out.2.2.1) (by rw [hn'];exact H.out.2.2.2.1) rfl rfl
       (by rw [List.length_append];exact hpre) (hrcell.turnsOld hT (fun x hx=>(hrne x hx).1)) hrc1 hrc2
       (fun x hx hin=>by
        rcases hT.fresh _ hin with h' | h'
        ·exact (hrne x hx).1 h'
        ·have:=(hrne x hx).2;omega)
       (by have h1:=qj5 hlt;have h2:=qjl rs (k+1);have h3:=H.out.2.2.2.2.2.2.2.2.2.2.1;rw [qhv] at hch';omega)
      have hAp2:∃ Pq:Ending→World→Prop,Calls Tryz.prog 129 #[.pointer (some ⟨ab,0,none⟩),.slice ra rs[k].length rc] wr Pq∧∀ e W,Pq e W→e=.returned .nilIface∧ChMid ab d A L data (rs.take (k+1)).flatten w W:=by
       refine ⟨_,hAp,?_⟩
       rintro e0 W ⟨he0,L2,hT2,hL2,hn2,hnow2,hch2⟩
       have e:(rs.take (k+1)).flatten=(rs.take k).flatten++rs[k]:=by rw [List.take_succ_eq_append_getElem hlt,List.flatten_append,List.flatten_singleton]
       rw [e]
       unfold ChMid
       rw [← List.append_assoc]
       obtain ⟨d1,d2⟩:=q0d (A:=A) hdat hL'.nowL (by rw [hn'];exact H.out.2.2.1) (by rw [List.length_append];exact hpre) hnow2
       exact ⟨he0,L2,hT.trans hT2,hL2,hn2.trans hn',d1,fun f2 c2 hh=>(d2 f2 c2 hh).trans (hoth f2 c2 hh),by rw [List.length_append];omega⟩
      obtain ⟨Pq,hq1,hq2⟩:=hAp2
      have HAp:=Lib.hid hq1
      have HNX:=Lib.hid hq2
      clear hq1 hq2
      obtain ⟨m,hm⟩:∃ m,m=rs[k].length:=⟨_,rfl⟩
      rw [← hm] at hck HAp
      have HM2:=Lib.hid hm
      clear hm
      subst hg
      have hal3:a<wr.heap.size:=qal hao2
      clear hcell hrv hrc1 hrc2 hrcell hrne hT hL' hn' hdat hoth hch' hao2 hpre hAp hsl2 b7 hal2
      go_wp2_with fail
      refine HAp.out.mono ?_
      intro e w5 hp5
      obtain ⟨rfl,hr5⟩:=HNX.out e w5 hp5
      have HR5:=Lib.hid hr5
      clear hp5 hr5
      go_wp2_with fail
      go_roundw
      case rel=>exact ⟨k+1,by omega,by go_num,HR5.out⟩
      case measure=>simp [intOf];omega
     ·obtain rfl:k=rs.length:=by omega
      go_wp2_with fail
      refine bodyPost_end (results_tmp rfl _ _ _) rfl ?_
      refine .inr ⟨by rw [← HN.out];exact HF1.out.2,rfl,?_⟩
      have:=HMd.out
      rwa [List.take_length] at this
   ·have hf:rm<(n:Int):=by have:=H.out.2.2.2.2.1;omega
    have HF1:=Lib.hid (And.intro hrm hfit)
    clear hrm hfit
    go_wp2_with fail
    refine bodyPost_ret (results_tmp rfl _ _ _) rfl ?_
    refine .inl ⟨by rw [← HN.out];have:=HF1.out.2;omega,rfl,HS2.out⟩
end Go.Proofs.YtdhobpbngkainaaGreatDoor
namespace Go.Proofs.YtdhobpbngkainaaGreatDoor
open Go.RowKit Go.Maps
theorem qgp {w:World} {sl:Option Addr} {l:Bs} (cap:Nat) (h:qaj w sl (l.map enc8)):(convert 38 9 (.slice sl l.length cap)).run Tryz.prog w=.ok (str l) w:=by
 by_cases h0:l=[]
 ·subst h0
  cases sl with
  | none=>exact run_convert_bytes_nil w 38 5 Tryz.underlying38 Tryz.underlying5 _ _ _ Tryz.underlying9
  | some x =>
   rw [run_convert_bytes_string w 38 9 5 _ _ _ Tryz.underlying38 Tryz.underlying5 Tryz.underlying9]
   simp [Conv.bytesToString,loadCells,loadCellsFrom,str]
   try rfl
 ·have hp:0<(l.map enc8).length:=by simpa using List.length_pos_iff.2 h0
  obtain ⟨g,off,rfl,hc⟩:=h hp
  have:=run_convert_bytes_arg (P:=Tryz.prog) w 38 5 Tryz.underlying38 Tryz.underlying5 g off l.length cap (l.map fun x=>(x.toNat:Int)) (by simp) (fun i hi=>by
   rw [hc i (by simpa using hi)]
   simp [enc8,List.getD,hi]) 9 Tryz.underlying9
  have e:strOfNums (l.map fun x=>(x.toNat:Int))=⟨l.toArray⟩:=by
   unfold strOfNums
   rw [List.map_map]
   have:(fun x:UInt8=>x)=(fun n:Int=>UInt8.ofNat n.toNat) ∘ fun x:UInt8=>(x.toNat:Int):=by funext x;simp
   rw [← this,List.map_id']
  rw [this,e]
def qi8 (H:Bs) (p:Nat×Nat) (b:Bs):Prop:=p.2=b.length∧qhl H p.1 b
def q1f (ab d:Nat) (A:AreaL) (L:DevL) (R0:HF) (pl:List (Nat×Nat)) (b:Bs) (w:World) (e:Ending) (w':World):Prop :=
 (∃ sp,AreaOk { A with spare:=sp }∧Turns (areaF ab d A++R0) (areaF ab d { A with spare:=sp }++R0) w w') ∧
 (
  (∃ p∈pl,qi8 (qax L.now A.first A.count) p b∧e=.returned (.tuple #[.agg #[.int .i64 p.1,.int .i64 p.2],.bool true,.nilIface])) ∨
  ((∀ p∈pl,¬ qi8 (qax L.now A.first A.count) p b)∧e=.returned (.tuple #[.agg #[.int .i64 0,.int .i64 0],.bool false,.nilIface])))
theorem qj1 {H:Bs} {at_:Nat} {a b:Bs} (ha:qhl H at_ a) (hb:qhl H at_ b) (h:a.length=b.length):a=b:=by
 have h1:=ha.2
 have h2:=hb.2
 rw [h] at h1
 rw [h1] at h2
 simpa using h2
theorem qtw {w:World} {cm c:Nat} {cs:List ChkL} (h:Sat w (qbd cm cs c)) (hok:ChunksOk cs c) (k:Bs):∃ sl cap,valOf (.slice none 0 0) cs k=.slice sl (qa5 cs k).length cap∧(qa5 cs k).length≤cap∧cap≤9223372036854775807∧qaj w sl (qb2 (qa5 cs k)):=by
 unfold qa5 valOf gOf
 cases hf:cs.find? (fun p=>decide (p.key=k)) with
 | none=>exact ⟨none,0,rfl,Nat.le_refl _,by omega,fun h=>by simp [qb2] at h⟩
 | some p =>
  have hm:=List.mem_of_find?_eq_some hf
  have hp:Sat w (qa2 p.val p.g):=Sat.flat (f:=fun p:ChkL=>qa2 p.val p.g) h.tail hm
  exact qe9 hp (hok.rows p hm)
theorem qiz {P:Program} {fn:Func} {p q s:Tmp} {ty:TypeId} (h:fn.results=#[.cell p ty,.tmp q,.tmp s]) (tmps:Array Value) (w:World) (g:Nat) (t:TypeId) (cs:Array Value) (fr:Nat×Nat) (d:TypeDesc)
  (hp:tmps.getD p undef=.pointer (some ⟨g,0,none⟩)) (hg:w.heap[g]?=some (.cells cs t fr))
  (hu:P.underlying ty=some d) (hd:(match d with | .struct _ | .array _ _=>true | _=>false)=true) (hi:(P.info? ty).map (·.size)=some cs.size) :
  (results fn tmps).run P w=.ok (.tuple #[.agg cs,tmps.getD q undef,tmps.getD s undef]) w:=by
 have hp':tmps[p]?.getD undef=.pointer (some ⟨g,0,none⟩):=by simpa using hp
 simp [results,h,hp',asAddr,run_loadVar_row w g t ty cs fr d hg hu hd hi]
def qau (p:Nat×Nat):Obj:=.cells #[.int .i64 p.1,.int .i64 p.2] 161 (0,0)
def q31 (ab d r:Nat) (A:AreaL) (L:DevL) (R0:HF) (pl:List (Nat×Nat)) (b:Bs) (w:World) (i:Value) (W:World):Prop :=
 ∃ (j:Nat) (sp:List (Nat×Nat×Nat)),j≤pl.length∧i=.int .i64 j∧AreaOk { A with spare:=sp }∧Turns (areaF ab d A++R0) ((r,Is (qau (0,0)))::(areaF ab d { A with spare:=sp }++R0)) w W ∧
  ∀ t (h:t<pl.length),t<j→¬ qi8 (qax L.now A.first A.count) pl[t] b
theorem qv8 (a:Nat) (X:ArchL) (ab d:Nat) (hab:ab=X.ab) (A:AreaL) (L:DevL) (cs:List ChkL) (c:Nat) (b:Bs) (sl:Option Addr) (cap:Nat) (R0:HF) (w:World) (h:Sat w (areaF ab d A++R0))
  (hsub:∀ x,cnt x ((a,Is (archO X))::(devF d L++qbd X.cm cs c))≤cnt x R0) (hL:DevOk L) (hA:AreaOk A) (hAn:A.first+A.count≤L.n) (hn:L.n≤1073741824) (hok:ChunksOk cs c)
  (hb:qaj w sl (b.map enc8)) (hbs:∀ x,sl=some x→x.block∉dom (areaF ab d A++R0)) (hbl:b.length≤1000000) (hpl:(qa5 cs (be (sumOf 1 b) 4)).length≤1000000)
  (hch:∀ p∈qa5 cs (be (sumOf 1 b) 4),∃ body,p.2=body.length∧qhl (qax L.now A.first A.count) p.1 body) :
  Calls Tryz.prog 77 #[.pointer (some ⟨a,0,none⟩),.slice sl b.length cap] w (q1f ab d A L R0 (qa5 cs (be (sumOf 1 b) 4)) b w):=by
 obtain ⟨k,hk⟩:∃ k,k=be (sumOf 1 b) 4:=⟨_,rfl⟩
 have hk4:Ok4 k:=by rw [hk];exact qbv _ _
 rw [← hk] at hpl hch ⊢
 obtain ⟨pl,hple⟩:∃ pl,pl=qa5 cs k:=⟨_,rfl⟩
 rw [← hple] at hpl hch ⊢
 obtain ⟨r,hr⟩:∃ r,r=w.heap.size:=⟨_,rfl⟩
 obtain ⟨F0,hF0⟩:∃ F0,F0=areaF ab d A++R0:=⟨_,rfl⟩
 have hsubC:∀ {W:World} {F:HF},Sat W (F++R0)→W.heap[a]?=some (archO X)∧Sat W (devF d L)∧Sat W (qbd X.cm cs c):=fun hs=>by
  have h1:=hs.right.sub hsub
  exact ⟨h1.headIs,h1.tail.left,h1.tail.right⟩
 obtain ⟨psl,pcap,e1,e2,e3,_⟩:=qtw (hsubC h).2.2 hok k
 rw [← hple] at e1 e2
 have hT0:Turns F0 ((r,Is (qau (0,0)))::(areaF ab d A++R0)) w (w.alloc (qau (0,0))):=by rw [hr,hF0];exact (Turns.refl h).allocIs _
 have HM:=Lib.hid (show Tryz.prog.follows .mixedOrders=true by kernel_rfl)
 have HK:=Lib.hid (fun (W:World) (hW:qaj W sl (b.map enc8))=>qod sl cap b W hW (by omega))
 have HH:=Lib.hid (And.intro hT0 (And.intro hab (And.intro hL (And.intro hA (And.intro hAn (And.intro hn (And.intro hok (And.intro hb (And.intro hbs (And.intro hch (And.intro hk4 (And.intro hk (And.intro hple (And.intro e1 hF0))))))))))))))
 have HS:=Lib.hid (And.intro hsub @hsubC)
 clear hT0 hab hL hA hAn hn hok hb hbs hch hk4 hk hple e1 hF0 hsub hsubC h
 go_enter Tryz.func77,Tryz.ntmps77
 go_wp2_with fail
 rw [← hr]
 have hw0:w.alloc (.cells #[.int .i64 0,.int .i64 0] 161)=w.alloc (qau (0,0)):=rfl
 rw [hw0]
 clear hw0 hr
 refine qbt (A:=?A) (hA:=?hA) HM.out (phiL [fun v=>v=.pointer (some ⟨a,0,none⟩),fun v=>v=.pointer (some ⟨a,0,none⟩),fun v=>v=.pointer (some ⟨a,0,none⟩),fun v=>v=.pointer (some ⟨a,2,none⟩),fun v=>v=.map (some X.cm),fun v=>v=.slice sl b.length cap,fun v=>v=keyV k,fun v=>v=.slice psl pl.length pcap,fun v=>v=.int .i64 pl.length,fun v=>v=.int .i64 0])
  (fun vs1 W=>match vs1 with
  | []=>Turns F0 ((r,Is (qau (0,0)))::(areaF ab d A++R0)) w W
  | _=>False)
  (fun W=>Turns F0 ((r,Is (qau (0,0)))::(areaF ab d A++R0)) w W) [] ?hC (by kernel_rfl) (by kernel_rfl) (by decide) (by decide) ?h0 ?hs ?he
 case hA=>intro x;simp only [qam,Act.put,List.setIfInBounds_toArray,List.set_cons_zero,List.set_cons_succ,Nat.reduceAdd];rfl
 case hs =>
  refine ⟨qab rfl rfl (fun x wq hd hC K hK hKw=>?_),qab rfl rfl (fun x wq hd hC K hK hKw=>?_),qab rfl rfl (fun x wq hd hC K hK hKw=>?_),qab rfl rfl (fun x wq hd hC K hK hKw=>?_),qab rfl rfl (fun x wq hd hC K hK hKw=>?_),qab rfl rfl (fun x wq hd hC K hK hKw=>?_),qab rfl rfl (fun x wq hd hC K hK hKw=>?_),qab rfl rfl (fun x wq hd hC K hK hKw=>?_),qab rfl rfl (fun x wq hd hC K hK hKw=>?_),qab rfl rfl (fun x wq hd hC K hK hKw=>?_),trivial⟩
  ·exact qag (by kernel_rfl) (hK _ rfl)
  ·have h0:x 0=.pointer (some ⟨a,0,none⟩):=qae hd 0 (by kernel_rfl)
   exact qag (by rw [h0];kernel_rfl) (hK _ rfl)
  ·have h1:x 1=.pointer (some ⟨a,0,none⟩):=qae hd 1 (by kernel_rfl)
   exact qag (by rw [h1];kernel_rfl) (hK _ rfl)
  ·have h2:x 2=.pointer (some ⟨a,0,none⟩):=qae hd 2 (by kernel_rfl)
   exact qag (by rw [h2];kernel_rfl) (hK _ rfl)
  ·have h3:x 3=.pointer (some ⟨a,2,none⟩):=qae hd 3 (by kernel_rfl)
   exact qat Tryz.underlying121 rfl rfl (by rw [h3];rfl) (qac (HS.out.2 (F:=(r,Is (qau (0,0)))::areaF ab d A) hC.sat).1 2 rfl) (hK _ rfl)
  ·exact qag (by kernel_rfl) (hK _ rfl)
  ·have h5:x 5=.slice sl b.length cap:=qae hd 5 (by kernel_rfl)
   refine qbe (by rw [h5];kernel_rfl) (HK.out wq (HH.out.2.2.2.2.2.2.2.1.turnsOld hC (HH.out.2.2.2.2.2.2.2.2.2.2.2.2.2.2.symm ▸ HH.out.2.2.2.2.2.2.2.2.1))) ?_
   rintro e w3 ⟨rfl,hs3⟩
   refine ⟨_,rfl,hKw _ _ (by rw [← HH.out.2.2.2.2.2.2.2.2.2.2.2.1];rfl) ?_⟩
   intro vs hvs
   match vs,hvs with
   | [],hT=>exact hT.thenSame hs3
  ·have h4:x 4=.map (some X.cm):=qae hd 4 (by kernel_rfl)
   have h6:x 6=keyV k:=qae hd 6 (by kernel_rfl)
   have hcm:=(HS.out.2 (F:=(r,Is (qau (0,0)))::areaF ab d A) hC.sat).2.2.headIs
   refine q1v qt2 (.tmp 15) (.tmp 17) rfl Tryz.underlying121 hcm HH.out.2.2.2.2.2.2.1.map (qls _) k (by rw [h4];rfl) (by rw [h6];rfl) HH.out.2.2.2.2.2.2.2.2.2.2.1 ?_
   rw [qeu,HH.out.2.2.2.2.2.2.2.2.2.2.2.2.2.1]
   exact hK _ rfl
  ·have h7:x 7=.slice psl pl.length pcap:=qae hd 7 (by kernel_rfl)
   exact qag (by rw [h7];kernel_rfl) (hK _ rfl)
  ·exact qag (by kernel_rfl) (hK _ rfl)
 case hC =>
  intro vs1 W hS
  match vs1,hS with
  | [],hT=>exact hT
 case h0=>exact HH.out.1.drew
 case he =>
  intro x w3 hφ hT3
  have e7:x 7=.slice psl pl.length pcap:=qdo hφ 7 (by decide) (by decide)
  have e8:x 8=.int .i64 pl.length:=qdo hφ 8 (by decide) (by decide)
  have e9:x 9=.int .i64 0:=qdo hφ 9 (by decide) (by decide)
  simp only [e7,e8,e9]
  have hT3':Turns F0 ((r,Is (qau (0,0)))::(areaF ab d A++R0)) w w3:=hT3
  have HT3:=Lib.hid hT3'
  clear hφ hT3 hT3' e7 e8 e9
  go_wp2_with fail
  rw [HH.out.2.2.2.2.2.2.2.2.2.2.2.2.2.2] at HT3
  go_loopw [20] (fun i wr=>q31 ab d r A L R0 pl b w i wr) (fun i _=>pl.length-(intOf i).toNat)
  case atStart=>exact ⟨0,A.spare,Nat.zero_le _,rfl,HH.out.2.2.2.1,HT3.out,fun t h h0=>by omega⟩
  case round =>
   obtain ⟨j,sp,hj,rfl,hAo,hT,hno⟩:=hrel
   have HR:=Lib.hid (And.intro hAo (And.intro hT hno))
   clear hAo hT hno
   by_cases hlt:j<pl.length
   ·obtain ⟨psl2,pcap2,f1,f2,f3,f4⟩:=qtw (HS.out.2 (F:=(r,Is (qau (0,0)))::areaF ab d { A with spare:=sp }) HR.out.2.1.sat).2.2 HH.out.2.2.2.2.2.2.1 k
    rw [HH.out.2.2.2.2.2.2.2.2.2.2.2.2.2.1,← HH.out.2.2.2.2.2.2.2.2.2.2.2.2.1] at f1
    simp only [Value.slice.injEq,true_and] at f1
    obtain ⟨rfl,rfl⟩:=f1
    rw [← HH.out.2.2.2.2.2.2.2.2.2.2.2.2.1] at f4
    obtain ⟨g,off,hg,hcell⟩:=f4 (by rw [qef];omega)
    subst hg
    obtain ⟨hc1,hc2⟩:=qkt hcell hlt
    obtain ⟨q,hq⟩:∃ q,q=pl[j]:=⟨_,rfl⟩
    rw [← hq] at hc1 hc2
    obtain ⟨body,hq2,hbody⟩:=HH.out.2.2.2.2.2.2.2.2.2.1 q (hq ▸ List.getElem_mem hlt)
    obtain ⟨B8,hB8⟩:∃ B8,B8=wr.heap.size:=⟨_,rfl⟩
    have hT8:Turns (areaF ab d A++R0) (areaF ab d { A with spare:=sp }++((B8,Is (qau q))::(r,Is (qau (0,0)))::R0)) w (wr.alloc (qau q)):=by
     rw [hB8]
     exact (HR.out.2.1.allocIs (qau q)).to (qaf fun _=>by simp only [qad,qaa,qah]<;>omega)
    have HLd:=Lib.hid (qkx a X ab d HH.out.2.1 { A with spare:=sp } L q.1 body ((B8,Is (qau q))::(r,Is (qau (0,0)))::R0) (wr.alloc (qau q)) hT8.sat (fun x=>by have:=HS.out.1 x;simp only [qad,qaa] at this ⊢;omega) HH.out.2.2.1 HR.out.1 HH.out.2.2.2.2.1 HH.out.2.2.2.2.2.1 hbody)
    rw [← hq2] at HLd
    have HQ:=Lib.hid (And.intro hq (And.intro hq2 (And.intro hbody (And.intro hT8 hB8))))
    clear hcell hq hq2 hbody hT8 hB8 f2 f3
    go_wp2_with fail
    refine HLd.out.mono ?_
    rintro e w4 ⟨av,cv,sp2,rfl,hok4,hAo4,hT4⟩
    have hT5:=HQ.out.2.2.2.1.trans hT4
    obtain ⟨av',cv',hev,-,-,hav,-⟩:=qbk (bOwns hT4.sat.left hok4)
    simp only [Value.slice.injEq,true_and] at hev
    obtain ⟨rfl,rfl⟩:=hev
    rw [← HQ.out.2.2.2.2]
    have h8:w4.heap[B8]?=some (qau q):=hT4.sat.memIs (by simp)
    have hrr:w4.heap[r]?=some (qau (0,0)):=hT4.sat.memIs (by simp)
    have c80:w4.cell? ⟨B8,0,none⟩=some (.int .i64 q.1):=qac h8 0 rfl
    have c81:w4.cell? ⟨B8,1,none⟩=some (.int .i64 q.2):=qac h8 1 rfl
    have hcv1:=qgp cv hav
    have hbw4:qaj w4 sl (b.map enc8):=HH.out.2.2.2.2.2.2.2.1.turnsOld hT5 HH.out.2.2.2.2.2.2.2.2.1
    have hcv2:=qgp cap hbw4
    have hth:=qcx (C:=#[.int .i64 0,.int .i64 0]) hrr 0 2 (by simp)
    obtain ⟨q1,q2⟩:=qc2 hrr [.int .i64 q.1,.int .i64 q.2] (by simp)
    have H4:=Lib.hid (And.intro hok4 (And.intro hAo4 (And.intro hT5 (And.intro hth (And.intro q1 q2)))))
    have hbl4:=qal h8
    clear hok4 hAo4 hT4 hT5 hav h8 hrr hbw4 hth q1 q2 hc1 hc2
    by_cases hbb:body=b
    ·subst hbb
     go_wp2_with ((refine wpList_store_mid rfl 161 (.tmp 4) (.tmp 39) rfl r 0 #[.int .i64 q.1,.int .i64 q.2] rfl rfl H4.out.2.2.2.1 (by kernel_rfl) (by simp [Value.oneCell']) ?_;simp only [Act.put]))
     refine bodyPost_ret (qiz rfl _ _ r 161 _ (0,0) _ rfl H4.out.2.2.2.2.1 Tryz.underlying161 rfl (by kernel_rfl)) rfl ?_
     refine ⟨⟨sp2,H4.out.2.1,?_⟩,.inl ⟨q,HQ.out.1 ▸ List.getElem_mem hlt,⟨HQ.out.2.1,HQ.out.2.2.1⟩,rfl⟩⟩
     have hq5:=(H4.out.2.2.1.to (H:=(r,Is (qau (0,0)))::(bRow (.slice av body.length cv) body++(areaF ab d { A with spare:=sp2 }++((B8,Is (qau q))::R0)))) (qaf fun _=>by simp only [qad,qaa,qah]<;>omega)).putIs (o:=qau q) H4.out.2.2.2.2.2 H4.out.2.2.2.2.1
     exact hq5.drop (fun _=>by simp only [qad,qaa,qah]<;>omega)
    ·have HNB:=Lib.hid hbb
     have hsn:(body==b)=false:=by simpa using hbb
     clear hbb
     go_wp2_with fail
     go_roundw
     case rel =>
      refine ⟨j+1,sp2,by omega,by go_num,H4.out.2.1,H4.out.2.2.1.drop (fun _=>by simp only [qad,qaa,qah]<;>omega),fun t ht htj=>?_⟩
      rcases Nat.lt_or_ge t j with h' | h'
      ·exact HR.out.2.2 t ht h'
      ·obtain rfl:t=j:=by omega
       intro hc
       rw [← HQ.out.1] at hc
       exact HNB.out (qj1 HQ.out.2.2.1 hc.2 (HQ.out.2.1.symm.trans hc.1))
     case measure=>simp [intOf];omega
   ·obtain rfl:j=pl.length:=by omega
    have hrr:=HR.out.2.1.sat.headIs
    have hth:=qcx (C:=#[.int .i64 0,.int .i64 0]) hrr 0 2 (by simp)
    obtain ⟨q1,q2⟩:=qc2 hrr [.int .i64 0,.int .i64 0] (by simp)
    have hTe:=HR.out.2.1.putIs (o:=qau (0,0)) q2 q1
    have HE:=Lib.hid (And.intro q1 (And.intro hTe hth))
    clear hrr hth q1 q2 hTe
    go_wp2_with ((refine wpList_store_mid rfl 161 (.tmp 4) (.tmp 41) rfl r 0 #[.int .i64 0,.int .i64 0] rfl rfl HE.out.2.2 (by kernel_rfl) (by simp [Value.oneCell']) ?_;simp only [Act.put]))
    refine bodyPost_ret (qiz rfl _ _ r 161 _ (0,0) _ rfl HE.out.1 Tryz.underlying161 rfl (by kernel_rfl)) rfl ?_
    refine ⟨⟨sp,HR.out.1,HE.out.2.1.drop (fun _=>by simp only [qad,qaa,qah]<;>omega)⟩,.inr ⟨fun p hp=>?_,rfl⟩⟩
    obtain ⟨t,ht,rfl⟩:=List.mem_iff_getElem.1 hp
    exact HR.out.2.2 t ht ht
end Go.Proofs.YtdhobpbngkainaaGreatDoor
