/- Ours. A part of the proof, made small by a program. -/
import Derived.Test.YtdhobpbngkainaaGreatDoorCo08
import Derived.Test.YtdhobpbngkainaaGreatDoorCo06
import Derived.Test.YtdhobpbngkainaaGreatDoorProg
import Derived.Shelf.SlSortCmp.WholeK
import Derived.Lib.Bytealg
import Derived.Lib.Strings
import Derived.Laws.Externs
import Derived.Laws.Strings3
set_option maxRecDepth 100000
set_option maxHeartbeats 4000000
namespace Go.Proofs.YtdhobpbngkainaaGreatDoor
open Go.RowKit Go.Maps
abbrev Recs:=List (UInt8×Bs)
def qaz (rs:Recs):Bs:=(rs.map fun r=>frame r.1 r.2).flatten
def qnd (rs:Recs):Prop:=∀ r∈rs,r.1≠0∧r.2.length<65536
theorem qgi (a b:Recs):qaz (a++b)=qaz a++qaz b:=by simp [qaz]
theorem qn2 (r:UInt8×Bs) (b:Recs):qaz (r::b)=frame r.1 r.2++qaz b:=by simp [qaz]
theorem qm7 (n:Nat):openR (zeros n)=none:=by
 unfold openR
 split
 ·rfl
 ·rw [if_pos]
  unfold zeros
  cases n with
  | zero=>rfl
  | succ n=>simp [List.replicate_succ]
theorem qll {rs:Recs} (h:qnd rs) (z:Nat) {j:Nat} (hj:j<rs.length):openR ((qaz rs++zeros z).drop (qaz (rs.take j)).length)=some (rs[j].1,rs[j].2,rs[j].2.length+9):=by
 have e1:qaz rs=qaz (rs.take j)++(frame rs[j].1 rs[j].2++qaz (rs.drop (j+1))):=by
  rw [← qn2,← List.drop_eq_getElem_cons hj,← qgi,List.take_append_drop]
 rw [e1,List.append_assoc,List.drop_left,List.append_assoc]
 have:=h rs[j] (List.getElem_mem hj)
 exact qgd _ _ _ this.1 this.2
theorem qjp (rs:Recs) (z:Nat):openR ((qaz rs++zeros z).drop (qaz rs).length)=none:=by
 rw [List.drop_left];exact qm7 z
theorem qif {rs:Recs} {j:Nat} (hj:j<rs.length):(qaz (rs.take (j+1))).length=(qaz (rs.take j)).length+(rs[j].2.length+9):=by
 rw [List.take_succ_eq_append_getElem hj,qgi,List.length_append]
 congr 1
 rw [qn2,List.length_append,qca];simp [qaz]
theorem qet {rs:Recs}:∀ {i j:Nat},i≤j→j≤rs.length→(qaz (rs.take i)).length+9*(j-i)≤(qaz (rs.take j)).length:=by
 intro i j hij hj
 induction j with
 | zero =>
  have:i=0:=by omega
  subst this;simp
 | succ j ih =>
  by_cases h:i=j+1
  ·subst h;simp
  ·have:=ih (by omega) (by omega)
   rw [qif (by omega)]
   omega
theorem qhy {rs:Recs} (h:qnd rs) {z:Nat} {at_:Nat} {K:KL} {H:List HV} (hr:Reach (qaz rs++zeros z) at_ K H):∃ j,j≤rs.length∧at_=(qaz (rs.take j)).length∧K.length+H.length=j:=by
 have step:∀ {a:Nat} {K:KL} {H:List HV} {k:UInt8} {body:Bs} {n:Nat},(∃ j,j≤rs.length∧a=(qaz (rs.take j)).length∧K.length+H.length=j)→openR ((qaz rs++zeros z).drop a)=some (k,body,n)→∃ j,j<rs.length∧a=(qaz (rs.take j)).length∧K.length+H.length=j∧rs[j]?=some (k,body)∧a+n=(qaz (rs.take (j+1))).length:=by
  rintro a K H k body n ⟨j,hj,rfl,hk⟩ ho
  by_cases hlt:j<rs.length
  ·rw [qll h z hlt] at ho
   simp only [Option.some.injEq,Prod.mk.injEq] at ho
   obtain ⟨rfl,rfl,rfl⟩:=ho
   exact ⟨j,hlt,rfl,hk,List.getElem?_eq_getElem hlt,(qif hlt).symm⟩
  ·obtain rfl:j=rs.length:=by omega
   rw [List.take_length,qjp] at ho;cases ho
 induction hr with
 | zero=>exact ⟨0,Nat.zero_le _,by simp [qaz],rfl⟩
 | chunk _ ho ih =>
  obtain ⟨j,h1,-,h3,-,h5⟩:=step ih ho
  exact ⟨j+1,h1,h5,by simp only [List.length_append,List.length_singleton];omega⟩
 | ver _ ho _ _ _ ih =>
  obtain ⟨j,h1,-,h3,-,h5⟩:=step ih ho
  exact ⟨j+1,h1,h5,by simp only [List.length_append,List.length_singleton];omega⟩
theorem qrd {rs:Recs} (h:qnd rs) {z:Nat}:∀ (j:Nat),j≤rs.length→∀ {K K':KL} {H H':List HV},Reach (qaz rs++zeros z) (qaz (rs.take j)).length K H→Reach (qaz rs++zeros z) (qaz (rs.take j)).length K' H'→K=K'∧H=H':=by
 intro j
 induction j with
 | zero =>
  intro _ K K' H H' h1 h2
  have key:∀ {a:Nat} {K:KL} {H:List HV},Reach (qaz rs++zeros z) a K H→a=0→K=[]∧H=[]:=by
   intro a K H hr ha
   obtain ⟨j,hj,e,hk⟩:=qhy h hr
   have:=qet (rs:=rs) (i:=0) (j:=j) (Nat.zero_le _) hj
   have hj0:j=0:=by omega
   rw [hj0] at hk
   exact ⟨List.length_eq_zero_iff.1 (by omega),List.length_eq_zero_iff.1 (by omega)⟩
  have e0:(qaz (rs.take 0)).length=0:=by simp [qaz]
  obtain ⟨rfl,rfl⟩:=key h1 e0
  obtain ⟨rfl,rfl⟩:=key h2 e0
  exact ⟨rfl,rfl⟩
 | succ j ih =>
  intro hj K K' H H' h1 h2
  have hlt:j<rs.length:=by omega
  have last:∀ {a:Nat} {K:KL} {H:List HV},Reach (qaz rs++zeros z) a K H→a=(qaz (rs.take (j+1))).length →
    (∃ K0 body,K=K0++[(body,(qaz (rs.take j)).length,body.length)]∧rs[j]=(1,body)∧Reach (qaz rs++zeros z) (qaz (rs.take j)).length K0 H) ∨
    (∃ H0 body p num size ats chs,H=H0++[⟨p,num,size,chs⟩]∧rs[j]=(2,body)∧readR 2 body=some (.ver p num size ats)∧chsOf (szOf K) ats=some chs∧Reach (qaz rs++zeros z) (qaz (rs.take j)).length K H0):=by
   intro a K H hr ha
   have prev:∀ {b:Nat} {K:KL} {H:List HV} {k:UInt8} {body:Bs} {n:Nat},Reach (qaz rs++zeros z) b K H→openR ((qaz rs++zeros z).drop b)=some (k,body,n)→b+n=(qaz (rs.take (j+1))).length→b=(qaz (rs.take j)).length∧rs[j]=(k,body):=by
    intro b K H k body n hb ho he
    obtain ⟨i,hi,e,-⟩:=qhy h hb
    have hilt:i<rs.length:=by
     rcases Nat.lt_or_ge i rs.length with h' | h'
     ·exact h'
     ·obtain rfl:i=rs.length:=by omega
      rw [e,List.take_length,qjp] at ho;cases ho
    rw [e,qll h z hilt] at ho
    simp only [Option.some.injEq,Prod.mk.injEq] at ho
    obtain ⟨h3,h4,rfl⟩:=ho
    rw [e,← qif hilt] at he
    have hij:i=j:=by
     rcases Nat.lt_trichotomy i j with h' | h' | h'
     ·have:=qet (rs:=rs) (i:=i+1) (j:=j+1) (by omega) (by omega);omega
     ·exact h'
     ·have:=qet (rs:=rs) (i:=j+1) (j:=i+1) (by omega) (by omega);omega
    subst hij
    exact ⟨e,Prod.ext h3 h4⟩
   cases hr with
   | zero=>have:=qet (rs:=rs) (i:=0) (j:=j+1) (Nat.zero_le _) hj;omega
   | chunk hb ho =>
    obtain ⟨rfl,e2⟩:=prev hb ho ha
    exact .inl ⟨_,_,rfl,e2,hb⟩
   | ver hb ho hrd hc _ =>
    obtain ⟨rfl,e2⟩:=prev hb ho ha
    exact .inr ⟨_,_,_,_,_,_,_,rfl,e2,hrd,hc,hb⟩
  rcases last h1 rfl with ⟨K0,body,rfl,e1,r1⟩ | ⟨H0,body,p,num,size,ats,chs,rfl,e1,d1,c1,r1⟩
  ·rcases last h2 rfl with ⟨K0',body',rfl,e1',r1'⟩ | ⟨H0',body',p',num',size',ats',chs',rfl,e1',d1',c1',r1'⟩
   ·obtain ⟨rfl,rfl⟩:=ih (by omega) r1 r1'
    rw [e1] at e1'
    obtain rfl:=(Prod.mk.injEq _ _ _ _ ▸ e1').2
    exact ⟨rfl,rfl⟩
   ·rw [e1] at e1'
    exact absurd (Prod.mk.injEq _ _ _ _ ▸ e1').1 (by decide)
  ·rcases last h2 rfl with ⟨K0',body',rfl,e1',r1'⟩ | ⟨H0',body',p',num',size',ats',chs',rfl,e1',d1',c1',r1'⟩
   ·rw [e1] at e1'
    exact absurd (Prod.mk.injEq _ _ _ _ ▸ e1').1 (by decide)
   ·obtain ⟨rfl,rfl⟩:=ih (by omega) r1 r1'
    rw [e1] at e1'
    obtain rfl:=(Prod.mk.injEq _ _ _ _ ▸ e1').2
    rw [d1] at d1'
    simp only [Option.some.injEq,RecR.ver.injEq] at d1'
    obtain ⟨rfl,rfl,rfl,rfl⟩:=d1'
    rw [c1] at c1'
    obtain rfl:=Option.some.inj c1'
    exact ⟨rfl,rfl⟩
end Go.Proofs.YtdhobpbngkainaaGreatDoor
namespace Go.Proofs.YtdhobpbngkainaaGreatDoor
open Go.RowKit
section
variable {P : Program} {Q : Exit → Act → World → Prop} {ops : Array Oper} {a0 : Act} {A : (Nat → Value) → Act} {w0 : World}
def depsV (val:Nat→Value) (x:Nat→Value):List Edge→Prop
 | []=>True
 | e::r=>(match Region.binds .any e with | true=>x e.on=val e.on | false=>True)∧depsV val x r
def valsC (c:Nat) (val:Nat→Value) (g:Nat→Value→Value) (r:Value):Nat→Value:=fun i=>if i<c then val i else if i=c then r else g i r
def qus (P:Program) (Q:Exit→Act→World→Prop) (A:(Nat→Value)→Act) (w0:World) (c:Nat) (val:Nat→Value) (g:Nat→Value→Value) (C:World→Prop) (Post:Value→World→Prop) (i:Nat) (o:Oper):Prop :=
 if i<c then ∀ (x:Nat→Value) (w:World),depsV val x o.after.toList→C w→∀ K:Act→World→Prop,K ((A x).put o.dst (val i)) w→o.wp P (A x) w K Q
 else if i=c then ∀ (x:Nat→Value),depsV val x o.after.toList→∀ K:Act→World→Prop,(∀ r w',Post r w'→K ((A x).put o.dst r) w')→o.wp P (A x) w0.drew K Q
 else ∀ (x:Nat→Value) (r:Value) (w:World),Post r w→depsV (valsC c val g r) x o.after.toList→∀ K:Act→World→Prop,K ((A x).put o.dst (g i r)) w→o.wp P (A x) w K Q
def qms (P:Program) (Q:Exit→Act→World→Prop) (A:(Nat→Value)→Act) (w0:World) (c:Nat) (val:Nat→Value) (g:Nat→Value→Value) (C:World→Prop) (Post:Value→World→Prop):Nat→List Oper→Prop
 | _,[]=>True
 | i,o::r=>qus P Q A w0 c val g C Post i o∧qms P Q A w0 c val g C Post (i+1) r
def qqe (c:Nat):Nat→List Oper→Bool
 | _,[]=>true
 | i,o::r=>o.guard.isNone&&(decide (i≤c) || o.after.toList.any (fun e=>Region.binds .any e&&decide (c≤e.on)))&&qqe c (i+1) r
def JC (w0:World) (c:Nat) (g:Nat→Value→Value) (Post:Value→World→Prop) (s:Nat→Option Value) (w:World):Prop :=
 (s c=none→(∀ i,s i=none)∧w=w0.drew)∧∀ r,s c=some r→Post r w∧∀ i v,s i=some v→v=if i=c then r else g i r
def phiC (c:Nat) (val:Nat→Value) (i:Nat) (v:Value):Prop:=if i<c then v=val i else True
theorem qj3 {c:Nat} {val:Nat→Value} {x:Nat→Value} {s:Nat→Option Value} {noisy:List Nat}:∀ {l:List Edge} {i:Nat},qf6 (phiC c val) x s noisy l→(∀ e∈l,Region.binds .any e=true→e.on<i)→i≤c→depsV val x l
 | [],_,_,_,_=>trivial
 | e::r,i,h,hb,hi=>by
  refine ⟨?_,qj3 h.2 (fun e' he=>hb e' (by simp [he])) hi⟩
  cases hbi:Region.binds .any e with
  | false=>trivial
  | true =>
   have h1:=h.1
   rw [if_pos hbi] at h1
   have h2:=h1.1
   unfold phiC at h2
   rw [if_pos (by have:=hb e (by simp) hbi;omega)] at h2
   exact h2
theorem qqa {c:Nat} {val:Nat→Value} {g:Nat→Value→Value} {r:Value} {x:Nat→Value} {s:Nat→Option Value} {noisy:List Nat} (hs:∀ i v,s i=some v→v=if i=c then r else g i r) (n:Nat) (hno:∀ i,c≤i→i<n→noisy.contains i=true):∀ {l:List Edge},qf6 (phiC c val) x s noisy l→(∀ e∈l,Region.binds .any e=true→e.on<n)→depsV (valsC c val g r) x l
 | [],_,_=>trivial
 | e::l,h,hb=>by
  refine ⟨?_,qqa hs n hno h.2 (fun e' he=>hb e' (by simp [he]))⟩
  cases hbi:Region.binds .any e with
  | false=>trivial
  | true =>
   have h1:=h.1
   rw [if_pos hbi] at h1
   unfold valsC
   by_cases hlt:e.on<c
   ·have h2:=h1.1
    unfold phiC at h2
    rw [if_pos hlt] at h2
    simp only [hlt,if_true];exact h2
   ·simp only [hlt,if_false]
    have h2:=h1.2
    rw [if_pos (hno e.on (by omega) (hb e (by simp) hbi))] at h2
    exact hs _ _ h2
theorem qjf {c n:Nat} {val:Nat→Value} {g:Nat→Value→Value} {C:World→Prop} {Post:Value→World→Prop} {noisy:List Nat} (hA:∀ x,qam x 0 ops.toList a0=A x) (hC0:C w0.drew) (hC1:∀ r w,Post r w→C w) (hn1:∀ i,i<c→noisy.contains i=false) (hn2:∀ i,c≤i→i<n→noisy.contains i=true) :
  ∀ (l:List Oper) (i:Nat) (ds:List Nat) (m:Nat),i+l.length=n→qqe c i l=true→qcd m i l ds=true→qms P Q A w0 c val g C Post i l→qeq P Q ops a0 (phiC c val) (JC w0 c g Post) noisy i l
 | [],_,_,_,_,_,_,_=>trivial
 | o::r,i,ds,m,hin,hok,hea,h=>by
  simp only [qqe,Bool.and_eq_true] at hok
  have hea0:=hea
  simp only [qcd,Bool.and_eq_true] at hea
  have hon:∀ e∈o.after.toList,Region.binds .any e=true→e.on<i:=by
   intro e he hb
   have h1:=List.all_eq_true.1 hea.1 e he
   simp only [Bool.or_eq_true,Bool.not_eq_true',decide_eq_true_eq] at h1
   rcases h1 with h1 | h1
   ·rw [hb] at h1;cases h1
   ·exact h1
  simp only [List.length_cons] at hin
  have hg:o.guard=none:=by simpa using hok.1.1
  have hrest:∃ ds' m',qcd m' (i+1) r ds'=true:=by
   have h2:=hea.2
   cases hd:o.dst with
   | none=>rw [hd] at h2;exact ⟨_,_,h2⟩
   | some d=>rw [hd] at h2;simp only [Bool.and_eq_true] at h2;exact ⟨_,_,h2.2⟩
  obtain ⟨ds',m',hrest⟩:=hrest
  refine ⟨fun x s w hd hx hsi hJ=>?_,qjf hA hC0 hC1 hn1 hn2 r (i+1) ds' m' (by omega) hok.2 hrest h.2⟩
  rw [hA x,if_pos (by simp [Region.wanted,hg])]
  intro K hK
  have hgo:=h.1
  unfold qus at hgo
  have hCw:C w:=by
   cases hsc:s c with
   | none=>rw [(hJ.1 hsc).2];exact hC0
   | some r=>exact hC1 r w (hJ.2 r hsc).1
  by_cases hic:i<c
  ·rw [if_pos hic] at hgo
   refine hgo x w (qj3 hd hon (by omega)) hCw K (hK _ w (by unfold phiC;rw [if_pos hic]) ?_)
   rw [hn1 i hic];exact hJ
  ·rw [if_neg hic] at hgo
   by_cases hec:i=c
   ·rw [if_pos hec] at hgo
    subst hec
    obtain ⟨hall,rfl⟩:=hJ.1 hsi
    refine hgo x (qj3 hd hon (Nat.le_refl _)) K (fun r w' hp=>hK r w' (by unfold phiC;rw [if_neg (by omega)];trivial) ?_)
    rw [hn2 i (Nat.le_refl _) (by omega)]
    simp only [if_true]
    refine ⟨fun h=>?_,fun r' hr'=>?_⟩
    ·unfold updO at h;rw [if_pos rfl] at h;cases h
    ·unfold updO at hr'
     rw [if_pos rfl] at hr'
     obtain rfl:=Option.some.inj hr'
     refine ⟨hp,fun j v hv=>?_⟩
     unfold updO at hv
     by_cases hj:j=i
     ·rw [if_pos hj] at hv;rw [if_pos hj];exact (Option.some.inj hv).symm
     ·rw [if_neg hj,hall j] at hv;cases hv
   ·rw [if_neg hec] at hgo
    have hdep:∃ e∈o.after.toList,Region.binds .any e=true∧c≤e.on:=by
     have h1:=hok.1.2
     simp only [Bool.or_eq_true,decide_eq_true_eq] at h1
     rcases h1 with h1 | h1
     ·omega
     ·obtain ⟨e,he,h2⟩:=List.any_eq_true.1 h1
      simp only [Bool.and_eq_true,decide_eq_true_eq] at h2
      exact ⟨e,he,h2⟩
    have hsc:∃ r,s c=some r:=by
     cases hsc:s c with
     | some r=>exact ⟨r,rfl⟩
     | none =>
      exfalso
      obtain ⟨e,he,hb,hce⟩:=hdep
      have h1:=(qec _ hd).2 e he hb (hn2 e.on hce (by have:=hon e he hb;omega))
      rw [(hJ.1 hsc).1] at h1;cases h1
    obtain ⟨r,hsc⟩:=hsc
    obtain ⟨hp,hall⟩:=hJ.2 r hsc
    refine hgo x r w hp (qqa hall n hn2 hd (fun e he hb=>by have:=hon e he hb;omega)) K (hK _ w (by unfold phiC;rw [if_neg hic];trivial) ?_)
    rw [hn2 i (by omega) (by omega)]
    simp only [if_true]
    refine ⟨fun h=>?_,fun r' hr'=>?_⟩
    ·unfold updO at h;rw [if_neg (by omega),hsc] at h;cases h
    ·unfold updO at hr'
     rw [if_neg (by omega),hsc] at hr'
     obtain rfl:=Option.some.inj hr'
     refine ⟨hp,fun j v hv=>?_⟩
     unfold updO at hv
     by_cases hj:j=i
     ·rw [if_pos hj] at hv
      rw [if_neg (by omega),hj];exact (Option.some.inj hv).symm
     ·rw [if_neg hj] at hv;exact hall j v hv
theorem qb1 {id:Nat} (A:(Nat→Value)→Act) (hA:∀ x,qam x 0 ops.toList a0=A x) (hm:P.follows .mixedOrders=true) (c:Nat) (val:Nat→Value) (g:Nat→Value→Value) (C:World→Prop) (Post:Value→World→Prop)
  (hok:qcd a0.tmps.size 0 ops.toList []=true) (hco:qqe c 0 ops.toList=true) (hcn:c<ops.size) (hC0:C w0.drew) (hC1:∀ r w,Post r w→C w) (hsteps:qms P Q A w0 c val g C Post 0 ops.toList)
  (hend:∀ r w,Post r w→Q .normal (A (valsC c val g r)) w):(Code.region id ops true).wp P Q a0 w0:=by
 obtain ⟨noisy,hno⟩:∃ noisy:List Nat,noisy=(List.range ops.size).filter (fun i=>decide (c≤i)):=⟨_,rfl⟩
 have hn1:∀ i,i<c→noisy.contains i=false:=fun i hi=>by rw [hno];simp;omega
 have hn2:∀ i,c≤i→i<ops.size→noisy.contains i=true:=fun i h1 h2=>by rw [hno];simp;omega
 refine qkj hm (phiC c val) (JC w0 c g Post) noisy hok ⟨fun _=>⟨fun _=>rfl,rfl⟩,fun r h=>by cases h⟩
  (qjf hA hC0 hC1 hn1 hn2 ops.toList 0 [] _ (by simp) hco hok hsteps) (fun x w hphi hJ=>?_)
 have hc:(if c<ops.size∧noisy.contains c=true then some (x c) else none)=some (x c):=if_pos ⟨hcn,hn2 c (Nat.le_refl _) hcn⟩
 obtain ⟨hp,hall⟩:=hJ.2 (x c) hc
 have:=hend (x c) w hp
 rw [← hA] at this
 rw [qkd ops.toList 0 a0 (y:=valsC c val g (x c)) (fun i _ hi=>?_)]
 ·exact this
 ·have hi':i<ops.size:=by simpa using hi
  unfold valsC
  by_cases hic:i<c
  ·have:=qdo hphi i (Nat.zero_le _) (by omega)
   unfold phiC at this
   rw [if_pos hic] at this ⊢;exact this
  ·rw [if_neg hic]
   exact hall i (x i) (if_pos ⟨hi',hn2 i (by omega) hi'⟩)
end
theorem qai {val x:Nat→Value}:∀ {l:List Edge},depsV val x l→∀ (k:Nat),(l.any fun e=>Region.binds .any e&&e.on==k)=true→x k=val k:=by
 intro l
 induction l with
 | nil=>intro _ k h;simp at h
 | cons e r ih =>
  intro h k hk
  rw [List.any_cons,Bool.or_eq_true] at hk
  rcases hk with hk | hk
  ·simp only [Bool.and_eq_true,beq_iff_eq] at hk
   have h1:=h.1
   rw [hk.1] at h1
   rw [← hk.2];exact h1
  ·exact ih h.2 k hk
end Go.Proofs.YtdhobpbngkainaaGreatDoor
namespace Go.Proofs.YtdhobpbngkainaaGreatDoor
open Go.RowKit
def q34 (s:ByteArray) (w:World) (B:Bool) (v i:Value) (wr:World):Prop :=
 ∃ k m x:Nat,k≤s.size∧v=.int .u8 x∧i=.int .i64 k∧(x=47↔m=0)∧qco m (s.data.toList.drop k)=B∧Same w wr
theorem qs3 (s:ByteArray) (w:World) (h:s.size=0):Calls Tryz.prog 108 #[.string s] w (qd9 false w):=by
 go_enter Tryz.func108,Tryz.ntmps108
 go_wp2_with fail
 exact bodyPost_ret (results_tmp rfl _ _ _) rfl ⟨rfl,Mods.refl _ _⟩
theorem qvs (s:ByteArray) (w:World) (h:¬ s.size=0) (hl:¬ (s.size:Int)≤20):Calls Tryz.prog 108 #[.string s] w (qd9 false w):=by
 have h2:¬ ((s.size:Int)=0):=by omega
 have h3:(20:Int)<(s.size:Int):=by omega
 go_enter Tryz.func108,Tryz.ntmps108
 go_wp2_with fail
 exact bodyPost_ret (results_tmp rfl _ _ _) rfl ⟨rfl,Mods.refl _ _⟩
theorem qv6 (s:ByteArray) (w:World) (h:¬ s.size=0) (hl:(s.size:Int)≤20):Calls Tryz.prog 108 #[.string s] w (qd9 (qco 0 s.data.toList) w):=by
 have h2:¬ ((s.size:Int)=0):=by omega
 have h3:¬ (20:Int)<(s.size:Int):=by omega
 go_enter Tryz.func108,Tryz.ntmps108
 go_wp2_with fail
 clear h2 h3
 go_loopw [3,4] (fun v i wr=>q34 s w (qco 0 s.data.toList) v i wr) (fun _ i _=>s.size-(intOf i).toNat)
 case atStart=>exact ⟨0,0,47,Nat.zero_le _,rfl,rfl,by omega,by simp,Mods.refl _ _⟩
 case round =>
  obtain ⟨k,m,x,hk,rfl,rfl,hxm,hB,hs⟩:=hrel
  have HB:=Lib.hid (And.intro hB (And.intro hs hxm))
  clear hB hs hxm h
  by_cases hlt:k<s.size
  ·have hsl:s.data.toList.length=s.size:=by simp
   have hdr:s.data.toList.drop k=s[k]::s.data.toList.drop (k+1):=by
    rw [List.drop_eq_getElem_cons (by omega)];rfl
   have HD:=Lib.hid hdr
   clear hdr hsl
   go_upto_region 8 with (fail)
   obtain ⟨c,hc⟩:∃ c,c=s[k].toNat:=⟨_,rfl⟩
   have hcl:c<256:=by rw [hc];exact UInt8.toNat_lt _
   have hB2:(if c=47∧0<m then qco 0 (s.data.toList.drop (k+1)) else if qf3 c then qco (m+1) (s.data.toList.drop (k+1)) else false)=qco 0 s.data.toList:=by
    have:=HB.out.1
    rw [HD.out,qco,← hc,qor,← hc] at this
    exact this
   have HB2:=Lib.hid hB2
   simp only [← hc]
   clear hB2 hc
   by_cases c1:c=47
   ·subst c1
    by_cases hx:x=47
    ·have hm:m=0:=HB.out.2.2.1 hx
     subst hx
     go_wp2_with fail
     refine bodyPost_ret (results_tmp rfl _ _ _) rfl ⟨?_,HB.out.2.1⟩
     have:=HB2.out
     rw [if_neg (by omega),if_neg (by decide)] at this
     rw [← this];rfl
    ·have hm:0<m:=by have:=HB.out.2.2;omega
     have hx2:¬ ((x:Int)=47):=by omega
     go_wp2_with fail
     go_roundw
     case rel=>exact ⟨k+1,0,47,by omega,rfl,by go_num,by omega,by have:=HB2.out;rwa [if_pos ⟨rfl,hm⟩] at this,HB.out.2.1⟩
     case measure=>simp [intOf];omega
   ·by_cases c2:qf3 c=true
    ·have HC2:=Lib.hid c2
     have hne:¬ (c:Int)=47:=by omega
     have hp:(97≤c∧c≤122)∨(48≤c∧c≤57)∨c=46∨c=45∨c=95:=by
      unfold qf3 at c2
      simp only [Bool.or_eq_true,Bool.and_eq_true,decide_eq_true_eq,beq_iff_eq] at c2
      omega
     clear c2
     rcases hp with hp | hp | hp | hp | hp
     all_goals first | subst hp | (obtain ⟨hp1,hp2⟩:=hp;have hp3:(c:Int)≤122:=by omega)
     all_goals go_wp2_with fail
     all_goals
      go_roundw
      case rel=>exact ⟨k+1,m+1,_,by omega,rfl,by go_num,(by omega),(by have:=HB2.out;rw [if_neg (by first | omega | decide),if_pos HC2.out] at this;exact this),HB.out.2.1⟩
      case measure=>first | (simp [intOf];done) | (simp [intOf];omega)
    ·have HC2:=Lib.hid c2
     have hp:¬ (97≤c∧c≤122)∧¬ (48≤c∧c≤57)∧¬ c=46∧¬ c=45∧¬ c=95:=by
      unfold qf3 at c2
      simp only [Bool.or_eq_true,Bool.and_eq_true,decide_eq_true_eq,beq_iff_eq] at c2
      omega
     obtain ⟨hp1,hp2,hp3,hp4,hp5⟩:=hp
     have hne:¬ (c:Int)=47:=by omega
     clear c2
     have hE:Ending.returned (Value.bool false)=.returned (.bool (qco 0 s.data.toList)):=by
      have:=HB2.out
      rw [if_neg (by omega),if_neg HC2.out] at this
      rw [← this]
     have HE:=Lib.hid hE
     clear hE
     have q1:((c:Int)==46)=false:=by simp;omega
     have q2:((c:Int)==45)=false:=by simp;omega
     have q3:((c:Int)==95)=false:=by simp;omega
     have q4:((c:Int) != 47)=true:=by simp;omega
     rcases (show c<48∨(57<c∧c<97)∨122<c by omega) with hq | ⟨hq,hq'⟩ | hq
     ·have r1:¬ (97:Int)≤c:=by omega
      have r2:¬ (48:Int)≤c:=by omega
      go_wp2_with fail
      exact bodyPost_ret (results_tmp rfl _ _ _) rfl (by exact ⟨HE.out,HB.out.2.1⟩)
     ·have r1:¬ (97:Int)≤c:=by omega
      have r2:(48:Int)≤c:=by omega
      have r3:decide ((c:Int)≤57)=false:=by simp;omega
      go_wp2_with fail
      exact bodyPost_ret (results_tmp rfl _ _ _) rfl (by exact ⟨HE.out,HB.out.2.1⟩)
     ·have r1:(97:Int)≤c:=by omega
      have r2:(48:Int)≤c:=by omega
      have r3:decide ((c:Int)≤57)=false:=by simp;omega
      have r4:decide ((c:Int)≤122)=false:=by simp;omega
      go_wp2_with fail
      exact bodyPost_ret (results_tmp rfl _ _ _) rfl (by exact ⟨HE.out,HB.out.2.1⟩)
  ·obtain rfl:k=s.size:=by omega
   go_wp2_with fail
   refine bodyPost_ret (results_tmp rfl _ _ _) rfl ⟨?_,HB.out.2.1⟩
   have h1:=HB.out.1
   have h2:=HB.out.2.2
   rw [List.drop_of_length_le (by simp),qco] at h1
   show Ending.returned (Value.bool ((x:Int) != 47))=_
   rw [← h1]
   by_cases hx:x=47
   ·have hm:=h2.1 hx
    subst hx;subst hm;rfl
   ·have hm:0<m:=by omega
    have:((x:Int) != 47)=true:=by simp;omega
    rw [this,decide_eq_true hm]
theorem ql7 (l:Bs) (w:World):Calls Tryz.prog 108 #[str l] w (qd9 (qa6 l) w):=by
 have hs:(⟨l.toArray⟩:ByteArray).size=l.length:=by simp [ByteArray.size]
 have hd:(⟨l.toArray⟩:ByteArray).data.toList=l:=by simp
 unfold qa6
 by_cases h0:l=[]
 ·rw [decide_eq_false (by simpa using h0)]
  exact qs3 _ w (by rw [hs,h0];rfl)
 ·have hne:¬ (⟨l.toArray⟩:ByteArray).size=0:=by rw [hs];exact fun h=>h0 (List.eq_nil_of_length_eq_zero h)
  rw [decide_eq_true (by simpa using h0)]
  by_cases h1:l.length≤20
  ·rw [decide_eq_true h1]
   have:=qv6 ⟨l.toArray⟩ w hne (by rw [hs];omega)
   rw [hd] at this
   simpa using this
  ·rw [decide_eq_false h1]
   simpa using qvs ⟨l.toArray⟩ w hne (by rw [hs];omega)
end Go.Proofs.YtdhobpbngkainaaGreatDoor
namespace Go.Proofs.YtdhobpbngkainaaGreatDoor
open Go.RowKit Go.Maps
theorem qrs:∀ (l:List RVer) (i:Nat) (h:i<l.length) (j:Nat) (hj:j<4),(qb0 l)[i*4+j]?=(rverV l[i])[j]?
 | [],i,h,_,_=>by simp at h
 | a::r,0,_,j,hj=>by
  simp only [qb0,List.flatMap_cons,Nat.zero_mul,Nat.zero_add,List.getElem_cons_zero]
  rw [List.getElem?_append_left (by simpa [rverV] using hj)]
 | a::r,i+1,h,j,hj=>by
  simp only [qb0,List.flatMap_cons,List.getElem_cons_succ]
  rw [List.getElem?_append_right (by simp [rverV];omega),show (i+1)*4+j-(rverV a).length=i*4+j by simp [rverV];omega]
  exact qrs r i (by simpa using h) j hj
theorem q46 {w:World} {g off:Nat} {l:List RVer} (h:∀ j (h:j<(qb0 l).length),w.cell? ⟨g,off+j,none⟩=some ((qb0 l)[j]'h)) {i:Nat} (hi:i<l.length) :
  w.cell? ⟨g,off+i*4,none⟩=some (str l[i].path)∧w.cell? ⟨g,off+i*4+1,none⟩=some (.int .i64 l[i].num)∧w.cell? ⟨g,off+i*4+2,none⟩=some l[i].cv∧w.cell? ⟨g,off+i*4+3,none⟩=some (.int .i64 l[i].held):=by
 have key:∀ j (hj:j<4) (v:Value),(rverV l[i])[j]?=some v→w.cell? ⟨g,off+i*4+j,none⟩=some v:=fun j hj v hv=>by
  have h1:=qrs l i hi j hj
  rw [hv] at h1
  obtain ⟨p,e⟩:=List.getElem?_eq_some_iff.1 h1
  have h2:=h (i*4+j) p
  rw [← Nat.add_assoc] at h2
  rw [h2,e]
 exact ⟨key 0 (by omega) _ rfl,key 1 (by omega) _ rfl,key 2 (by omega) _ rfl,key 3 (by omega) _ rfl⟩
structure RefAt (R:RefL) (P:Pool) (w:World):Prop where
 ref:Sat w (refF R)
 ok:RefOk R
 pool:Sat w (poolF P)
 pok:qki P
 inp:RefIn P R
 len:R.vs.length≤100000
 clen:∀ v∈R.vs,v.cont.length≤100000
theorem RefAt.same {R:RefL} {P:Pool} {w w':World} (h:RefAt R P w) (hs:Same w w'):RefAt R P w':=⟨h.ref.same hs,h.ok,h.pool.same hs,h.pok,h.inp,h.len,h.clen⟩
theorem RefAt.row {R:RefL} {P:Pool} {w:World} (h:RefAt R P w):∃ sl cap,R.vv=.slice sl R.vs.length cap∧R.vs.length≤cap∧cap≤9223372036854775807∧w.heap[R.blk]?=some (refO R)∧(0<R.vs.length→∃ g off,sl=some ⟨g,off,none⟩∧∀ i (hi:i<R.vs.length),w.cell? ⟨g,off+i*4,none⟩=some (str R.vs[i].path)∧w.cell? ⟨g,off+i*4+1,none⟩=some (.int .i64 R.vs[i].num)∧w.cell? ⟨g,off+i*4+2,none⟩=some R.vs[i].cv∧w.cell? ⟨g,off+i*4+3,none⟩=some (.int .i64 R.vs[i].held)):=by
 obtain ⟨sl,cap,e1,e2,e3,hc,-⟩:=qcq h.ref.tail.left h.ok.vs (by decide)
 refine ⟨sl,cap,e1,e2,e3,h.ref.headIs,fun hp=>?_⟩
 obtain ⟨g,off,hg,hcc⟩:=hc (by rw [qbx];omega)
 exact ⟨g,off,hg,fun i hi=>q46 hcc hi⟩
theorem RefAt.cont {R:RefL} {P:Pool} {w:World} (h:RefAt R P w) {v:RVer} (hv:v∈R.vs):∃ sl cap,v.cv=.slice sl v.cont.length cap∧v.cont.length≤cap∧qaj w sl (v.cont.map enc8)∧(∀ x,sl=some x→x.block∈dom (poolF P)):=qf2 h.pok h.pool (h.inp v hv)
def usedR (l:List RVer):Nat:=(l.map (·.cont.length)).sum
theorem qvp {l:List RVer} (h:∀ v∈l,v.cont.length≤100000):usedR l≤100000*l.length:=by
 unfold usedR
 induction l with
 | nil=>simp
 | cons a r ih =>
  have h1:=h a (by simp)
  have h2:=ih (fun v hv=>h v (by simp [hv]))
  simp only [List.map_cons,List.sum_cons,List.length_cons]
  omega
theorem qw7 (R:RefL) (P:Pool) (w:World) (h:RefAt R P w):Calls Tryz.prog 43 #[.pointer (some ⟨R.blk,0,none⟩)] w (fun e w'=>e=.returned (.int .i64 (usedR R.vs:Nat))∧Same w w'):=by
 obtain ⟨sl,cap,e1,e2,e3,hb,hcell⟩:=h.row
 have HC:=Lib.hid (fun v hv=>h.cont (v:=v) hv)
 have hlen:=h.len
 have HL:=Lib.hid h.clen
 have c0:w.cell? ⟨R.blk,0,none⟩=some (.slice sl R.vs.length cap):=by rw [← e1];exact qac hb 0 rfl
 have hbl:=qal hb
 have HH:=Lib.hid hcell
 clear h e1 hb hcell
 go_enter Tryz.func43,Tryz.ntmps43
 go_wp2_with fail
 go_loopw [3,4] (fun n i wr=>∃ k:Nat,k≤R.vs.length∧i=.int .i64 k∧n=.int .i64 (usedR (R.vs.take k):Nat)∧wr=w) (fun _ i _=>R.vs.length-(intOf i).toNat)
 case atStart=>exact ⟨0,Nat.zero_le _,rfl,rfl,rfl⟩
 case round =>
  obtain ⟨k,hk,rfl,rfl,rfl⟩:=hrel
  by_cases hlt:k<R.vs.length
  ·obtain ⟨g,off,hg,hcc⟩:=HH.out (by omega)
   subst hg
   obtain ⟨-,-,hc,-⟩:=hcc k hlt
   obtain ⟨csl,ccap,hcv,-,-,-⟩:=HC.out R.vs[k] (List.getElem_mem hlt)
   rw [hcv] at hc
   have htk:usedR (R.vs.take (k+1))=usedR (R.vs.take k)+R.vs[k].cont.length:=by
    unfold usedR;rw [List.take_succ_eq_append_getElem hlt,List.map_append,List.sum_append];simp
   have hub:=qvp (l:=R.vs.take k) (fun v hv=>HL.out v (List.mem_of_mem_take hv))
   have hcl:=HL.out R.vs[k] (List.getElem_mem hlt)
   rw [List.length_take] at hub
   obtain ⟨q,hq⟩:∃ q,q=usedR (R.vs.take k):=⟨_,rfl⟩
   obtain ⟨cl,hcl2⟩:∃ cl,cl=R.vs[k].cont.length:=⟨_,rfl⟩
   rw [← hq] at htk hub
   rw [← hcl2] at htk hcl hc
   rw [← hq]
   have HT:=Lib.hid htk
   have hub2:q≤100000*100000:=by have:=Nat.mul_le_mul_left 100000 (show min k R.vs.length≤100000 by omega);omega
   clear htk hcc hcv hq hcl2 hub
   go_wp2_with fail
   go_roundw
   case rel=>exact ⟨k+1,by omega,by go_num,by rw [HT.out];go_num,by first | rfl | trivial⟩
   case measure=>simp [intOf];omega
  ·obtain rfl:k=R.vs.length:=by omega
   go_wp2_with fail
   refine bodyPost_ret (results_tmp rfl _ _ _) rfl ⟨?_,Mods.refl _ _⟩
   rw [List.take_length];rfl
def isVer (p:Bs) (n:Int) (v:RVer):Bool:=decide (v.path=p)&&(decide (v.num=n) || decide (n=0))
def qcg (vs:List RVer) (p:Bs) (n:Int):Nat→Int
 | 0=>-1
 | k+1=>if (vs[k]?).elim false (isVer p n) then k else qcg vs p n k
theorem qmm (vs:List RVer) (p:Bs) (n:Int):∀ k,-1≤qcg vs p n k∧qcg vs p n k<k
 | 0=>by simp [qcg]
 | k+1=>by
  have:=qmm vs p n k
  unfold qcg
  split<;>omega
theorem qn8 {vs:List RVer} {p:Bs} {n:Int} {k:Nat} (h:k<vs.length):qcg vs p n (k+1)=if isVer p n vs[k] then (k:Int) else qcg vs p n k:=by
 rw [qcg,List.getElem?_eq_getElem h];rfl
theorem qxb (R:RefL) (P:Pool) (p:Bs) (n:Int) (w:World) (h:RefAt R P w):Calls Tryz.prog 111 #[.pointer (some ⟨R.blk,0,none⟩),str p,.int .i64 n] w (fun e w'=>e=.returned (.int .i64 (qcg R.vs p n R.vs.length))∧Same w w'):=by
 have hlen:=h.len
 have HH:=Lib.hid h
 have hbl:=qal h.ref.headIs
 clear h
 go_enter Tryz.func111,Tryz.ntmps111
 go_wp2_with fail
 go_loopw [7,8] (fun b i wr=>∃ k:Nat,k≤R.vs.length∧i=.int .i64 k∧b=.int .i64 (qcg R.vs p n k)∧Same w wr) (fun _ i _=>R.vs.length-(intOf i).toNat)
 case atStart=>exact ⟨0,Nat.zero_le _,rfl,rfl,Mods.refl _ _⟩
 case round =>
  obtain ⟨k,hk,rfl,rfl,hs⟩:=hrel
  have hA:=HH.out.same hs
  obtain ⟨sl,cap,e1,e2,e3,hb,hcell⟩:=hA.row
  have c0:wr.cell? ⟨R.blk,0,none⟩=some (.slice sl R.vs.length cap):=by rw [← e1];exact qac hb 0 rfl
  have hbl':=qal hb
  have HS:=Lib.hid (And.intro hs hA)
  clear hs e1 hb
  by_cases hlt:k<R.vs.length
  ·obtain ⟨g,off,hg,hcc⟩:=hcell (by omega)
   subst hg
   obtain ⟨h0,h1,h2,h3⟩:=hcc k hlt
   obtain ⟨csl,ccap,hcv,-,-,-⟩:=hA.cont (List.getElem_mem hlt)
   rw [hcv] at h2
   have hnx:=qn8 (p:=p) (n:=n) hlt
   unfold isVer at hnx
   obtain ⟨pk,hpk⟩:∃ pk,pk=R.vs[k].path:=⟨_,rfl⟩
   obtain ⟨nk,hnk⟩:∃ nk,nk=R.vs[k].num:=⟨_,rfl⟩
   rw [← hpk] at h0 hnx
   rw [← hnk] at h1 hnx
   have hgl:=World.block_lt_of_cell? wr _ h0
   have HX:=Lib.hid hnx
   clear hcc hcell hA hcv hnx hpk hnk
   by_cases hp:pk=p
   ·have hp':=hp.symm
    clear hp
    subst hp'
    by_cases hn:nk=n
    ·subst hn
     have hfin:qcg R.vs p nk (k+1)=(k:Int):=by rw [HX.out];simp
     have HF:=Lib.hid hfin
     clear hfin
     go_wp2_with fail
     go_roundw
     case rel=>exact ⟨k+1,by omega,by go_num,by rw [HF.out],by first | exact HS.out.1 | exact HS.out.1.alloc _⟩
     case measure=>simp [intOf];omega
    ·by_cases hz:n=0
     ·subst hz
      have hfin:qcg R.vs p 0 (k+1)=(k:Int):=by rw [HX.out];simp
      have HF:=Lib.hid hfin
      clear hfin
      go_wp2_with fail
      go_roundw
      case rel=>exact ⟨k+1,by omega,by go_num,by rw [HF.out],by first | exact HS.out.1 | exact HS.out.1.alloc _⟩
      case measure=>simp [intOf];omega
     ·have q1:(nk==n)=false:=by simp [hn]
      have q2:(n==0)=false:=by simp [hz]
      have hfin:qcg R.vs p n (k+1)=qcg R.vs p n k:=by rw [HX.out,decide_eq_false hn,decide_eq_false hz];simp
      have HF:=Lib.hid hfin
      clear hfin
      go_wp2_with fail
      go_roundw
      case rel=>exact ⟨k+1,by omega,by go_num,by rw [HF.out],by first | exact HS.out.1 | exact HS.out.1.alloc _⟩
      case measure=>simp [intOf];omega
   ·have hfin:qcg R.vs p n (k+1)=qcg R.vs p n k:=by rw [HX.out,decide_eq_false hp];simp
    have HF:=Lib.hid hfin
    clear hfin
    go_wp2_with fail
    go_roundw
    case rel=>exact ⟨k+1,by omega,by go_num,by rw [HF.out],by first | exact HS.out.1 | exact HS.out.1.alloc _⟩
    case measure=>simp [intOf];omega
  ·obtain rfl:k=R.vs.length:=by omega
   clear hcell
   go_wp2_with fail
   exact bodyPost_ret (results_tmp rfl _ _ _) rfl (by exact ⟨rfl,HS.out.1⟩)
def rFind (R:RefL) (p:Bs) (n:Int):Option RVer:=if 0≤qcg R.vs p n R.vs.length then R.vs[(qcg R.vs p n R.vs.length).toNat]? else none
def rGetR (R:RefL) (p:Bs) (n:Int):Except Int RVer :=
 if R.closed then .error 9 else if qa6 p then (match rFind R p n with | some v=>.ok v | none=>.error 3) else .error 1
def qgl (R:RefL) (p:Bs) (n:Int) (w:World) (e:Ending) (w':World):Prop :=
 Same w w'∧match rGetR R p n with | .ok v=>e=.returned (.tuple #[v.cv,.int .i64 0])∧v∈R.vs | .error k=>e=.returned (.tuple #[.slice none 0 0,.int .i64 k])
theorem qid (R:RefL) (P:Pool) (p:Bs) (n:Int) (w:World) (h:RefAt R P w):Calls Tryz.prog 102 #[.pointer (some ⟨R.blk,0,none⟩),str p,.int .i64 n] w (qgl R p n w):=by
 have HI:=Lib.hid (ql7 p w)
 have hbl:=qal h.ref.headIs
 have HH:=Lib.hid h
 clear h
 go_enter Tryz.func102,Tryz.ntmps102
 go_wp2_with fail
 refine HI.out.mono ?_
 rintro e w1 ⟨rfl,hs1⟩
 have hA1:=HH.out.same hs1
 have hb1:=hA1.ref.headIs
 have c3:w1.cell? ⟨R.blk,3,none⟩=some (.bool R.closed):=qac hb1 3 rfl
 have hbl1:=qal hb1
 have H1:=Lib.hid (And.intro hs1 hA1)
 clear hs1 hA1 hb1
 cases hc:R.closed with
 | true =>
  rw [hc] at c3
  have hr:rGetR R p n=.error 9:=by unfold rGetR;rw [hc,if_pos rfl]
  have HR:=Lib.hid hr
  clear hr hc
  go_wp2_with fail
  refine bodyPost_ret (results_tmp2 rfl _ _ _) rfl (by unfold qgl;rw [HR.out];exact ⟨H1.out.1,rfl⟩)
 | false =>
  rw [hc] at c3
  cases hp:qa6 p with
  | false =>
   have hr:rGetR R p n=.error 1:=by unfold rGetR;rw [hc,hp];rfl
   have HR:=Lib.hid hr
   clear hr hc
   go_wp2_with fail
   refine bodyPost_ret (results_tmp2 rfl _ _ _) rfl (by unfold qgl;rw [HR.out];exact ⟨H1.out.1,rfl⟩)
  | true =>
   have HF:=Lib.hid (qxb R P p n w1 H1.out.2)
   have HC:=Lib.hid hc
   have HP:=Lib.hid hp
   clear hc
   go_wp2_with fail
   refine HF.out.mono ?_
   rintro e w2 ⟨rfl,hs2⟩
   have hA2:=H1.out.2.same hs2
   obtain ⟨sl,cap,e1,e2,e3,hb,hcell⟩:=hA2.row
   have c0:w2.cell? ⟨R.blk,0,none⟩=some (.slice sl R.vs.length cap):=by rw [← e1];exact qac hb 0 rfl
   have hbl2:=qal hb
   have hrange:=qmm R.vs p n R.vs.length
   have hrf:rFind R p n=if 0≤qcg R.vs p n R.vs.length then R.vs[(qcg R.vs p n R.vs.length).toNat]? else none:=rfl
   obtain ⟨b,hb'⟩:∃ b,b=qcg R.vs p n R.vs.length:=⟨_,rfl⟩
   rw [← hb'] at hrange hrf ⊢
   have H2:=Lib.hid (And.intro (H1.out.1.trans hs2) hA2)
   clear hs2 hA2 hb e1 hb'
   by_cases hneg:b<0
   ·have hr:rGetR R p n=.error 3:=by unfold rGetR;rw [HC.out,if_neg (by simp),HP.out,if_pos rfl,hrf,if_neg (by omega)]
    have HR:=Lib.hid hr
    clear hr hrf hcell
    go_wp2_with fail
    refine bodyPost_ret (results_tmp2 rfl _ _ _) rfl (by unfold qgl;rw [HR.out];exact ⟨H2.out.1,rfl⟩)
   ·obtain ⟨b,rfl⟩:∃ b':Nat,b=b':=⟨b.toNat,by omega⟩
    have hlt:b<R.vs.length:=by omega
    obtain ⟨g,off,hg,hcc⟩:=hcell (by omega)
    subst hg
    obtain ⟨-,-,h2,-⟩:=hcc b hlt
    obtain ⟨csl,ccap,hcv,-,-,-⟩:=H2.out.2.cont (List.getElem_mem hlt)
    have hr:rGetR R p n=.ok R.vs[b]:=by unfold rGetR;rw [HC.out,if_neg (by simp),HP.out,if_pos rfl,hrf,if_pos (by omega),Int.toNat_natCast,List.getElem?_eq_getElem hlt]
    rw [hcv] at h2
    have HR:=Lib.hid (And.intro hr (And.intro hcv (List.getElem_mem hlt)))
    clear hr hrf hcc hcell hcv
    go_wp2_with fail
    refine bodyPost_ret (results_tmp2 rfl _ _ _) rfl (by unfold qgl;rw [HR.out.1];exact ⟨H2.out.1,by rw [HR.out.2.1];rfl,HR.out.2.2⟩)
theorem qze {W:World} {sl:Option Addr} {X:Bs} {a c:Nat} (hW:qaj W sl (X.map enc8)) (ha:a≤X.length):(X.drop a).take c=[]∨∃ g off,sl=some ⟨g,off,none⟩∧qaj W (some ⟨g,off+a,none⟩) (((X.drop a).take c).map enc8):=by
 by_cases h0:X=[]
 ·subst h0;exact .inl (by simp)
 ·obtain ⟨g,off,hg,-⟩:=hW (by rw [List.length_map];exact List.length_pos_iff.2 h0)
  refine .inr ⟨g,off,hg,?_⟩
  rw [hg] at hW
  have h1:=qd6 hW a ha
  have h5:(X.drop a).take c=(X.drop a).take (min c (X.drop a).length):=by rw [← List.take_take,List.take_length]
  rw [h5]
  exact qg1 h1 _ (Nat.min_le_right _ _)
def qey (R:RefL) (p:Bs) (n a c:Int) (w:World) (e:Ending) (w':World):Prop :=
 Same w w'∧match rGetR R p n with
  | .error k=>e=.returned (.tuple #[.slice none 0 0,.int .i64 k])
  | .ok v=>v∈R.vs∧(((a<0∨c<0∨(v.cont.length:Int)<a)∧e=.returned (.tuple #[.slice none 0 0,.int .i64 4])) ∨
    (¬ (a<0∨c<0∨(v.cont.length:Int)<a)∧∃ sl cap,e=.returned (.tuple #[.slice sl ((v.cont.drop a.toNat).take c.toNat).length cap,.int .i64 0])∧qaj w' sl (((v.cont.drop a.toNat).take c.toNat).map enc8)∧((v.cont.drop a.toNat).take c.toNat≠[]→∃ g off cap',v.cv=.slice (some ⟨g,off,none⟩) v.cont.length cap'∧sl=some ⟨g,off+a.toNat,none⟩)))
theorem ql1 (R:RefL) (P:Pool) (p:Bs) (n a c:Int) (w:World) (h:RefAt R P w) (hc9:c≤9223372036854775807):Calls Tryz.prog 104 #[.pointer (some ⟨R.blk,0,none⟩),str p,.int .i64 n,.int .i64 a,.int .i64 c] w (qey R p n a c w):=by
 have HG:=Lib.hid (qid R P p n w h)
 have HH:=Lib.hid h
 clear h
 go_enter Tryz.func104,Tryz.ntmps104
 go_wp2_with fail
 refine HG.out.mono ?_
 intro e w1 hp
 unfold qgl at hp
 obtain ⟨hs,hp⟩:=hp
 cases hr:rGetR R p n with
 | error k =>
  rw [hr] at hp
  subst hp
  have hk:¬ k=0:=by
   unfold rGetR at hr
   split at hr
   ·simp at hr;omega
   ·split at hr
    ·split at hr<;>simp at hr;omega
    ·simp at hr;omega
  have HR:=Lib.hid (And.intro hr hs)
  clear hr hs
  go_wp2_with fail
  refine bodyPost_ret (results_tmp2 rfl _ _ _) rfl (by unfold qey;rw [HR.out.1];exact ⟨HR.out.2,rfl⟩)
 | ok v =>
  rw [hr] at hp
  obtain ⟨rfl,hv⟩:=hp
  have hA:=HH.out.same hs
  obtain ⟨sl,cap,hcv,hcap,hcell,-⟩:=hA.cont hv
  have HDM:=Lib.hid hcv
  have hvl:=HH.out.clen v hv
  obtain ⟨L,hL⟩:∃ L,L=v.cont.length:=⟨_,rfl⟩
  rw [← hL] at hcv hcap hvl
  have HR:=Lib.hid (And.intro hr (And.intro hs (And.intro hv (And.intro hcell hL))))
  have hcc2:∃ c2:Nat,cap=c2:=⟨cap,rfl⟩
  clear hr hs hv hA hcell hL hcc2
  rw [hcv]
  by_cases h1:a<0
  ·go_wp2_with fail
   refine bodyPost_ret (results_tmp2 rfl _ _ _) rfl (by unfold qey;rw [HR.out.1];exact ⟨HR.out.2.1,HR.out.2.2.1,.inl ⟨.inl h1,rfl⟩⟩)
  ·by_cases h2:c<0
   ·go_wp2_with fail
    refine bodyPost_ret (results_tmp2 rfl _ _ _) rfl (by unfold qey;rw [HR.out.1];exact ⟨HR.out.2.1,HR.out.2.2.1,.inl ⟨.inr (.inl h2),rfl⟩⟩)
   ·by_cases h3:(L:Int)<a
    ·go_wp2_with fail
     refine bodyPost_ret (results_tmp2 rfl _ _ _) rfl (by unfold qey;rw [HR.out.1];exact ⟨HR.out.2.1,HR.out.2.2.1,.inl ⟨.inr (.inr (by rw [← HR.out.2.2.2.2];exact h3)),rfl⟩⟩)
    ·obtain ⟨a,rfl⟩:∃ a':Nat,a=a':=⟨a.toNat,by omega⟩
     obtain ⟨c,rfl⟩:∃ c':Nat,c=c':=⟨c.toNat,by omega⟩
     have hpart:=fun W hW=>qze (W:=W) (sl:=sl) (X:=v.cont) (a:=a) (c:=c) hW (by have:=HR.out.2.2.2.2;omega)
     have hpl:((v.cont.drop a).take c).length=min c (L-a):=by rw [List.length_take,List.length_drop,HR.out.2.2.2.2]
     have hfin:∀ (sl':Option Addr) (m k:Nat),m=min c (L-a)→(m=0∨∀ g off,sl=some ⟨g,off,none⟩→sl'=some ⟨g,off+a,none⟩)→qey R p n a c w (.returned (.tuple #[.slice sl' m k,.int .i64 0])) w1:=fun sl' m k hm hsl=>by
      unfold qey
      rw [HR.out.1]
      refine ⟨HR.out.2.1,HR.out.2.2.1,.inr ⟨by have:=HR.out.2.2.2.2;omega,sl',k,by simp only [Int.toNat_natCast];rw [hpl,hm],?_⟩⟩
      simp only [Int.toNat_natCast]
      rcases hpart w1 HR.out.2.2.2.1 with h0 | ⟨g,off,hg,hcl⟩
      ·rw [h0];exact ⟨qbr _ _,fun h=>absurd rfl h⟩
      ·rcases hsl with h0 | hsl
       ·have:(v.cont.drop a).take c=[]:=List.eq_nil_of_length_eq_zero (by rw [hpl];omega)
        rw [this];exact ⟨qbr _ _,fun h=>absurd rfl h⟩
       ·rw [hsl g off hg];exact ⟨hcl,fun _=>⟨g,off,cap,by rw [← hg];exact HDM.out,rfl⟩⟩
     have HF:=Lib.hid hfin
     clear hfin hpart hpl
     cases sl with
     | none =>
      have hL0:L=0:=by
       have h1:=HR.out.2.2.2.1
       by_cases hz:L=0
       ·exact hz
       ·obtain ⟨g,off,hg,-⟩:=h1 (by rw [List.length_map,← HR.out.2.2.2.2];omega)
        cases hg
      subst hL0
      obtain rfl:a=0:=by omega
      by_cases hgt:0<c
      ·go_wp2_with fail
       exact bodyPost_ret (results_tmp2 rfl _ _ _) rfl (by exact HF.out none 0 _ (by omega) (.inl rfl))
      ·obtain rfl:c=0:=by omega
       go_wp2_with fail
       exact bodyPost_ret (results_tmp2 rfl _ _ _) rfl (by exact HF.out none 0 _ (by omega) (.inl rfl))
     | some ad =>
      by_cases hL:L=0
      ·subst hL
       obtain rfl:a=0:=by omega
       have hcz:(cap=0)∨¬ cap=0:=by omega
       by_cases hgt:0<c
       ·rcases hcz with hcz | hcz
        all_goals go_wp2_with fail
        all_goals exact bodyPost_ret (results_tmp2 rfl _ _ _) rfl (by exact HF.out _ 0 _ (by omega) (.inl rfl))
       ·obtain rfl:c=0:=by omega
        rcases hcz with hcz | hcz
        all_goals go_wp2_with fail
        all_goals exact bodyPost_ret (results_tmp2 rfl _ _ _) rfl (by exact HF.out _ 0 _ (by omega) (.inl rfl))
      ·obtain ⟨g,off,hg,-⟩:=HR.out.2.2.2.1 (by rw [List.length_map,← HR.out.2.2.2.2];omega)
       simp only [Option.some.injEq] at hg
       subst hg
       have hsub:IntKind.i64.wrap ((L:Int)-a)=((L-a:Nat):Int):=by rw [IntWalk.i64_in _ (by omega)];omega
       by_cases hgt:L-a<c
       ·have hgt2:((L-a:Nat):Int)<(c:Int):=by omega
        have hadd:IntKind.i64.wrap ((a:Int)+((L-a:Nat):Int))=(L:Int):=by rw [IntWalk.i64_in _ (by omega)];omega
        by_cases hca:cap=a
        ·go_wp2_with fail
         exact bodyPost_ret (results_tmp2 rfl _ _ _) rfl (by exact HF.out _ (L-a) _ (by omega) (.inl (by omega)))
        ·have hca2:¬ a=cap:=by omega
         go_wp2_with fail
         exact bodyPost_ret (results_tmp2 rfl _ _ _) rfl (by exact HF.out (some ⟨g,off+a,none⟩) (L-a) _ (by omega) (.inr (fun g' off' h=>by simp only [Option.some.injEq,Addr.mk.injEq,and_true] at h;obtain ⟨rfl,rfl⟩:=h;rfl)))
       ·have hgt2:¬ ((L-a:Nat):Int)<(c:Int):=by omega
        have hadd:IntKind.i64.wrap ((a:Int)+(c:Int))=((a+c:Nat):Int):=by rw [IntWalk.i64_in _ (by omega)];omega
        have hac:a+c≤cap:=by omega
        by_cases hca:cap=a
        ·go_wp2_with fail
         exact bodyPost_ret (results_tmp2 rfl _ _ _) rfl (by exact HF.out _ _ _ (by omega) (.inl (by omega)))
        ·have hca2:¬ a=cap:=by omega
         go_wp2_with fail
         exact bodyPost_ret (results_tmp2 rfl _ _ _) rfl (by exact HF.out (some ⟨g,off+a,none⟩) _ _ (by omega) (.inr (fun g' off' h=>by simp only [Option.some.injEq,Addr.mk.injEq,and_true] at h;obtain ⟨rfl,rfl⟩:=h;rfl)))
end Go.Proofs.YtdhobpbngkainaaGreatDoor
namespace Go.Proofs.YtdhobpbngkainaaGreatDoor
open Go.Shelf
def q0y:Go.Shelf.Ren:=⟨fun | 6=>133 | 15=>156 | 14=>155 | 28=>172 | 29=>173 | 20=>164 | 21=>165 | 22=>166 | 23=>167 | 24=>168 | 25=>169 | 26=>170 | 27=>171 | 46=>186 | 47=>187 | 48=>188 | 49=>189 | 50=>190 | 57=>195 | n=>n,fun | 22=>181 | 24=>262 | 25=>265 | 3=>3 | 39=>37 | 0=>0 | 53=>116 | 55=>82 | 4=>4 | 46=>309 | 45=>308 | 50=>284 | 5=>5 | 9=>9 | 66=>323 | 70=>327 | 76=>331 | 77=>133 | n=>n,fun | n=>n⟩
theorem sortE:Go.Proofs.SlLaysF0.n6 Tryz.prog q0y:={
 mixed:=by kernel_rfl,
 f6:=⟨Tryz.f133.name,by decide,Tryz.func133.trans (congrArg some (by kernel_rfl))⟩,
 f14:=⟨Tryz.f155.name,by decide,Tryz.func155.trans (congrArg some (by kernel_rfl))⟩,
 f15:=Tryz.func156.trans (congrArg some (by kernel_rfl)),
 f20:=⟨Tryz.f164.name,by decide,Tryz.func164.trans (congrArg some (by kernel_rfl))⟩,
 f21:=⟨Tryz.f165.name,by decide,Tryz.func165.trans (congrArg some (by kernel_rfl))⟩,
 f22:=⟨Tryz.f166.name,by decide,Tryz.func166.trans (congrArg some (by kernel_rfl))⟩,
 f23:=⟨Tryz.f167.name,by decide,Tryz.func167.trans (congrArg some (by kernel_rfl))⟩,
 f24:=⟨Tryz.f168.name,by decide,Tryz.func168.trans (congrArg some (by kernel_rfl))⟩,
 f25:=⟨Tryz.f169.name,by decide,Tryz.func169.trans (congrArg some (by kernel_rfl))⟩,
 f26:=⟨Tryz.f170.name,by decide,Tryz.func170.trans (congrArg some (by kernel_rfl))⟩,
 f27:=⟨Tryz.f171.name,by decide,Tryz.func171.trans (congrArg some (by kernel_rfl))⟩,
 f28:=Tryz.func172.trans (congrArg some (by kernel_rfl)),
 f29:=Tryz.func173.trans (congrArg some (by kernel_rfl)),
 f46:=⟨Tryz.f186.name,by decide,Tryz.func186.trans (congrArg some (by kernel_rfl))⟩,
 f47:=Tryz.func187.trans (congrArg some (by kernel_rfl)),
 f48:=Tryz.func188.trans (congrArg some (by kernel_rfl)),
 f49:=⟨Tryz.f189.name,by decide,Tryz.func189.trans (congrArg some (by kernel_rfl))⟩,
 f50:=⟨Tryz.f190.name,by decide,Tryz.func190.trans (congrArg some (by kernel_rfl))⟩,
 f57:=⟨Tryz.f195.name,by decide,Tryz.func195.trans (congrArg some (by kernel_rfl))⟩,
 t0:=Tryz.underlying0,
 a0:=Tryz.isAgg0,
 z0:=Tryz.sizeOf0,
 v0:=Tryz.zeroValue0,
 t3:=Tryz.underlying3,
 a3:=Tryz.isAgg3,
 z3:=Tryz.sizeOf3,
 v3:=Tryz.zeroValue3,
 t4:=Tryz.underlying4,
 a4:=Tryz.isAgg4,
 z4:=Tryz.sizeOf4,
 v4:=Tryz.zeroValue4,
 t5:=Tryz.underlying5,
 a5:=Tryz.isAgg5,
 z5:=Tryz.sizeOf5,
 v5:=Tryz.zeroValue5,
 t9:=Tryz.underlying9,
 a9:=Tryz.isAgg9,
 z9:=Tryz.sizeOf9,
 v9:=Tryz.zeroValue9,
 t22:=Tryz.underlying181,
 a22:=Tryz.isAgg181,
 z22:=Tryz.sizeOf181,
 v22:=Tryz.zeroValue181,
 t25:=Tryz.underlying265,
 a25:=Tryz.isAgg265,
 z25:=Tryz.sizeOf265,
 v25:=Tryz.zeroValue265,
 t39:=Tryz.underlying37,
 a39:=Tryz.isAgg37,
 z39:=Tryz.sizeOf37,
 v39:=Tryz.zeroValue37,
 t45:=Tryz.underlying308,
 a45:=Tryz.isAgg308,
 z45:=Tryz.sizeOf308,
 v45:=Tryz.zeroValue308,
 t46:=Tryz.underlying309,
 a46:=Tryz.isAgg309,
 z46:=Tryz.sizeOf309,
 v46:=Tryz.zeroValue309,
 t50:=Tryz.underlying284,
 a50:=Tryz.isAgg284,
 z50:=Tryz.sizeOf284,
 v50:=Tryz.zeroValue284,
 t53:=Tryz.underlying116,
 a53:=Tryz.isAgg116,
 z53:=Tryz.sizeOf116,
 v53:=Tryz.zeroValue116,
 t55:=Tryz.underlying82,
 a55:=Tryz.isAgg82,
 z55:=Tryz.sizeOf82,
 v55:=Tryz.zeroValue82,
 t66:=Tryz.underlying323,
 a66:=Tryz.isAgg323,
 z66:=Tryz.sizeOf323,
 v66:=Tryz.zeroValue323,
 t70:=Tryz.underlying327,
 a70:=Tryz.isAgg327,
 z70:=Tryz.sizeOf327,
 v70:=Tryz.zeroValue327,
 t76:=Tryz.underlying331,
 a76:=Tryz.isAgg331,
 z76:=Tryz.sizeOf331,
 v76:=Tryz.zeroValue331,
 t77:=Tryz.underlying133,
 a77:=Tryz.isAgg133,
 z77:=Tryz.sizeOf133,
 v77:=Tryz.zeroValue133 }
end Go.Proofs.YtdhobpbngkainaaGreatDoor
namespace Go.Proofs.YtdhobpbngkainaaGreatDoor
open Go.RowKit Go.Sort
theorem qow (s p:ByteArray) (w:World):Calls Tryz.prog 154 #[.string s,.string p] w fun e w'=>e=.returned (.bool (Lib.hasPrefix s.data.toList p.data.toList))∧w'=w:=by
 rw [← Lib.hasPrefix_of_take,← Lib.size_eq,← Lib.size_eq]
 go_enter Tryz.func154,Tryz.ntmps154
 go_wp2
 ·rename_i h
  go_ret
  refine ⟨?_,rfl⟩
  show Ending.returned (Value.bool ((s.extract 0 p.size).toList==p.toList))=_
  rw [Lib.extract_toList,Lib.toList_data]
  simp [h]
 ·rename_i h
  go_ret
  refine ⟨?_,rfl⟩
  show Ending.returned (Value.bool false)=_
  simp [h]
theorem qpr (l p:Bs) (w:World):Calls Tryz.prog 132 #[str l,str p] w fun e w'=>e=.returned (.bool (p.isPrefixOf l))∧w'=w:=by
 have h:=qow ⟨l.toArray⟩ ⟨p.toArray⟩ w
 unfold Lib.hasPrefix at h
 simp only at h
 have HP:=Lib.hid h
 clear h
 unfold str
 go_enter Tryz.func132,Tryz.ntmps132
 go_wp2_with fail
 refine HP.out.mono ?_
 rintro e w' ⟨rfl,rfl⟩
 go_wp2_with fail
 go_ret
 exact ⟨rfl,rfl⟩
theorem ql9 (a b:Bs) (w:World):Calls Tryz.prog 157 #[str a,str b] w fun e w'=>e=.returned (.int .i64 (Lib.compareBytes a b))∧w'=w:=by
 unfold str
 go_enter Tryz.func157,Tryz.ntmps157
 go_wp2
 rw [run_callFunc_extern Tryz.func174 (by kernel_rfl) (by kernel_rfl) (by kernel_rfl) (e:=Extern.BytealgCompare.compare) (by kernel_rfl),Lib.run_compareString]
 simp only [Result.andThen]
 rw [Oper.upon_value]
 go_wp2
 go_ret
 exact ⟨rfl,rfl⟩
theorem qsy (a b:Bs) (w:World):Calls Tryz.prog 135 #[str a,str b] w fun e w'=>e=.returned (.int .i64 (Lib.compareBytes a b))∧w'=w:=by
 have HP:=Lib.hid (ql9 a b w)
 go_enter Tryz.func135,Tryz.ntmps135
 go_wp2_with fail
 refine HP.out.mono ?_
 rintro e w' ⟨rfl,rfl⟩
 go_wp2_with fail
 go_ret
 exact ⟨rfl,rfl⟩
def bsLt:Bs→Bs→Bool
 | [],[]=>false
 | [],_::_=>true
 | _::_,[]=>false
 | a::ax,b::bs=>if a<b then true else if b<a then false else bsLt ax bs
theorem q3a:∀ a b:Bs,(Lib.compareBytes a b<0)↔bsLt a b=true
 | [],[]=>by simp [Lib.compareBytes,bsLt]
 | [],_::_=>by simp [Lib.compareBytes,bsLt]
 | _::_,[]=>by simp [Lib.compareBytes,bsLt]
 | a::ax,b::bs=>by
  simp only [Lib.compareBytes,bsLt]
  split
  ·simp
  ·split
   ·simp
   ·exact q3a ax bs
theorem qc0:∀ a:Bs,bsLt a a=false
 | []=>rfl
 | a::ax=>by simp only [bsLt,qc0 ax];simp
theorem qgz:∀ {a b c:Bs},bsLt a b=true→bsLt b c=true→bsLt a c=true
 | [],[],_,h,_=>by simp [bsLt] at h
 | [],_::_,[],_,h=>by simp [bsLt] at h
 | [],_::_,_::_,_,_=>rfl
 | _::_,[],_,h,_=>by simp [bsLt] at h
 | _::_,_::_,[],_,h=>by simp [bsLt] at h
 | a::ax,b::bs,c::cs,h1,h2=>by
  simp only [bsLt] at h1 h2 ⊢
  by_cases hab:a<b
  ·by_cases hbc:b<c
   ·rw [if_pos (UInt8.lt_trans hab hbc)]
   ·rw [if_neg hbc] at h2
    by_cases hcb:c<b
    ·rw [if_pos hcb] at h2;cases h2
    ·have:b=c:=UInt8.le_antisymm (UInt8.not_lt.1 hcb) (UInt8.not_lt.1 hbc)
     subst this
     rw [if_pos hab]
  ·rw [if_neg hab] at h1
   by_cases hba:b<a
   ·rw [if_pos hba] at h1;cases h1
   ·rw [if_neg hba] at h1
    have:a=b:=UInt8.le_antisymm (UInt8.not_lt.1 hba) (UInt8.not_lt.1 hab)
    subst this
    by_cases hac:a<c
    ·rw [if_pos hac]
    ·rw [if_neg hac] at h2 ⊢
     by_cases hca:c<a
     ·rw [if_pos hca] at h2;cases h2
     ·rw [if_neg hca] at h2 ⊢
      exact qgz h1 h2
theorem qhc:∀ a b:Bs,bsLt a b=false→bsLt b a=false→a=b
 | [],[],_,_=>rfl
 | [],_::_,h,_=>by simp [bsLt] at h
 | _::_,[],_,h=>by simp [bsLt] at h
 | a::ax,b::bs,h1,h2=>by
  simp only [bsLt] at h1 h2
  by_cases hab:a<b
  ·rw [if_pos hab] at h1;cases h1
  ·rw [if_neg hab] at h1 h2
   by_cases hba:b<a
   ·rw [if_pos hba] at h2;cases h2
   ·rw [if_neg hba] at h1 h2
    have:a=b:=UInt8.le_antisymm (UInt8.not_lt.1 hba) (UInt8.not_lt.1 hab)
    subst this
    rw [qhc ax bs h1 h2]
structure EntL where
 p:Bs
 latest:Int
 size:Int
 n:Int
 deriving Inhabited
def entV (x:EntL):List Value:=[str x.p,.int .i64 x.latest,.int .i64 x.size,.int .i64 x.n]
def qi5 (x y:EntL):Int:=Lib.compareBytes x.p y.p
theorem entLt (x y:EntL):ltOf qi5 x y=bsLt x.p y.p:=by
 unfold ltOf qi5
 rw [Bool.eq_iff_iff,decide_eq_true_eq]
 exact q3a _ _
theorem q6t:SWO (ltOf qi5) where
 irrefl x:=by rw [entLt];exact qc0 _
 trans x y z h1 h2:=by rw [entLt] at *;exact qgz h1 h2
 ntrans x y z h1 h2:=by
  rw [entLt] at *
  cases h:bsLt x.p z.p with
  | false=>rfl
  | true =>
   cases h3:bsLt y.p x.p with
   | true=>rw [qgz h3 h] at h2;cases h2
   | false=>rw [← qhc _ _ h1 h3,h] at h2;cases h2
theorem qta (x y:EntL) (W:World):Calls Tryz.prog 134 #[.agg (entV x).toArray,.agg (entV y).toArray] W fun e w'=>e=.returned (.int .i64 (qi5 x y))∧∃ q os',w'=grow (W.drewN q) os':=by
 have hcon:=fun W'=>qsy x.p y.p W'
 unfold qi5
 generalize Lib.compareBytes x.p y.p=r at hcon ⊢
 unfold entV
 go_enter Tryz.func134,Tryz.ntmps134
 go_wp2_with (go_at_call 135;refine (hcon _).mono ?_;rintro e w' ⟨rfl,rfl⟩)
 go_ret
 exact ⟨rfl,0,_,by rw [alloc_eq_grow,alloc_eq_grow,grow_grow];rfl⟩
theorem q5j (blk off size:Nat) (w:World):CmpLays Tryz.prog 134 #[] entV 4 qi5 blk off size w:=fun _ _ _ _ x y=>qta x y _
end Go.Proofs.YtdhobpbngkainaaGreatDoor
namespace Go.Proofs.YtdhobpbngkainaaGreatDoor
open Go.RowKit Go.Maps
def numsR (l:List RVer) (p:Bs):List Int:=(l.filter (fun v=>decide (v.path=p))).map (·.num)
def qfg (R:RefL) (p:Bs) (w:World) (e:Ending) (w':World):Prop :=
 match rGetR R p 0 with
 | .error k=>Same w w'∧e=.returned (.tuple #[.slice none 0 0,.int .i64 k])
 | .ok _=>∃ v,e=.returned (.tuple #[v,.int .i64 0])∧iOk v (numsR R.vs p)∧Turns [] (iRow v (numsR R.vs p)) w w'
theorem q13 {R:RefL} {p:Bs} {n k:Int} (hr:rGetR R p n=.error k):¬ k=0:=by
 unfold rGetR at hr
 split at hr
 ·simp at hr;omega
 ·split at hr
  ·split at hr<;>simp at hr;omega
  ·simp at hr;omega
theorem qzi {vs:List RVer} {p:Bs} {k:Nat} (h:k<vs.length):numsR (vs.take (k+1)) p=numsR (vs.take k) p++(if vs[k].path=p then [vs[k].num] else []):=by
 unfold numsR
 rw [List.take_succ_eq_append_getElem h,List.filter_append,List.map_append]
 congr 1
 by_cases hp:vs[k].path=p<;>simp [hp]
theorem qr3 (l:List RVer) (p:Bs):(numsR l p).length≤l.length:=by
 unfold numsR;rw [List.length_map];exact List.length_filter_le _ _
theorem qj7 (R:RefL) (P:Pool) (p:Bs) (w:World) (h:RefAt R P w):Calls Tryz.prog 106 #[.pointer (some ⟨R.blk,0,none⟩),str p] w (qfg R p w):=by
 have HG:=Lib.hid (qid R P p 0 w h)
 have hlen:=h.len
 have HH:=Lib.hid h
 clear h
 go_enter Tryz.func106,Tryz.ntmps106
 go_wp2_with fail
 refine HG.out.mono ?_
 intro e w1 hp
 unfold qgl at hp
 obtain ⟨hs,hp⟩:=hp
 cases hr:rGetR R p 0 with
 | error k =>
  rw [hr] at hp
  subst hp
  have hk:=q13 hr
  have HR:=Lib.hid (And.intro hr hs)
  clear hr hs
  go_wp2_with fail
  refine bodyPost_ret (results_tmp2 rfl _ _ _) rfl (by unfold qfg;rw [HR.out.1];exact ⟨HR.out.2,rfl⟩)
 | ok v =>
  rw [hr] at hp
  obtain ⟨rfl,hv⟩:=hp
  have hbl:=qal (HH.out.same hs).ref.headIs
  obtain ⟨csl,ccap,hcv,-,-,-⟩:=(HH.out.same hs).cont hv
  have HR:=Lib.hid (And.intro hr hs)
  clear hr hs hv
  rw [hcv]
  go_wp2_with fail
  go_loopw [8,9] (fun l i wr=>∃ (k:Nat) (J:HF),k≤R.vs.length∧i=.int .i64 k∧iOk l (numsR (R.vs.take k) p)∧Turns [] (iRow l (numsR (R.vs.take k) p)++J) w wr) (fun _ i _=>R.vs.length-(intOf i).toNat)
  case atStart=>exact ⟨0,[],Nat.zero_le _,rfl,qno,(show Turns [] [] w w1 from Turns.same (Sat.nil w) HR.out.2)⟩
  case round =>
   obtain ⟨k,J,hk,rfl,hio,hT⟩:=hrel
   have hA:=HH.out.same hT.news
   obtain ⟨sl,cap,e1,e2,e3,hb,hcell⟩:=hA.row
   have c0:wr.cell? ⟨R.blk,0,none⟩=some (.slice sl R.vs.length cap):=by rw [← e1];exact qac hb 0 rfl
   have hbl':=qal hb
   have HS:=Lib.hid (And.intro hio hT)
   clear hio hT e1 hb hA
   by_cases hlt:k<R.vs.length
   ·obtain ⟨g,off,hg,hcc⟩:=hcell (by omega)
    subst hg
    obtain ⟨h0,h1,-,-⟩:=hcc k hlt
    have hnx:=qzi (p:=p) hlt
    obtain ⟨pk,hpk⟩:∃ pk,pk=R.vs[k].path:=⟨_,rfl⟩
    obtain ⟨nk,hnk⟩:∃ nk,nk=R.vs[k].num:=⟨_,rfl⟩
    rw [← hpk] at h0 hnx
    rw [← hnk] at h1 hnx
    have hnl:=qr3 (R.vs.take k) p
    rw [List.length_take] at hnl
    obtain ⟨ns,hns⟩:∃ ns,ns=numsR (R.vs.take k) p:=⟨_,rfl⟩
    rw [← hns] at hnx hnl HS
    have hnl2:ns.length≤100000:=by omega
    have HX:=Lib.hid hnx
    clear hcc hcell hnx hpk hnk hns hnl
    by_cases hpp:pk=p
    ·have hp':=hpp.symm
     clear hpp
     subst hp'
     have hfin:numsR (R.vs.take (k+1)) p=ns++[nk]:=by rw [HX.out,if_pos rfl]
     have HF:=Lib.hid hfin
     clear hfin
     go_wp2_with ((at_builtin;refine qak rfl ?_;refine qii (.tmp 38) (.tmp 47) rfl _ ns rfl (HS.out.2.alloc _) HS.out.1 _ 1 1 rfl [nk] rfl (fun _=>⟨_,rfl,fun j u hu=>qff _ _ _ j u hu⟩) (by simp;omega) ?_;intro av cv w5 hok5 hT5;have H5:=Lib.hid (And.intro hok5 hT5);clear hok5 hT5))
     go_roundw
     case rel =>
      refine ⟨k+1,J,by omega,by go_num,?_,?_⟩
      ·rw [HF.out];have:=H5.out.1;rw [List.length_append] at this;exact this
      ·rw [HF.out];have:=H5.out.2;rw [List.length_append] at this;exact this
     case measure=>simp [intOf];omega
    ·have hpq:(pk==p)=false:=by simp [hpp]
     have hfin:numsR (R.vs.take (k+1)) p=ns:=by rw [HX.out,if_neg hpp];simp
     have HF:=Lib.hid hfin
     clear hfin
     go_wp2_with fail
     go_roundw
     case rel=>exact ⟨k+1,J,by omega,by go_num,by rw [HF.out];exact HS.out.1,by rw [HF.out];exact HS.out.2⟩
     case measure=>simp [intOf];omega
   ·obtain rfl:k=R.vs.length:=by omega
    rw [List.take_length] at HS
    clear hcell
    go_wp2_with fail
    refine bodyPost_ret (results_tmp2 rfl _ _ _) rfl (by unfold qfg;rw [HR.out.1];exact ⟨u8,rfl,HS.out.1,HS.out.2.drop (fun x=>by simp only [qaa];omega)⟩)
def atTo (vs:List RVer) (p:Bs):Nat→Nat
 | 0=>0
 | k+1=>if (vs[k]?).elim false (fun v => !bsLt p v.path) then k+1 else atTo vs p k
def nrTo (vs:List RVer) (p:Bs):Nat→Int
 | 0=>1
 | k+1=>if (vs[k]?).elim false (fun v=>decide (v.path=p)) then ((vs[k]?).elim 0 (·.num))+1 else nrTo vs p k
theorem qrf {vs:List RVer} {p:Bs} {k:Nat} (h:k<vs.length):atTo vs p (k+1)=if bsLt p vs[k].path then atTo vs p k else k+1:=by
 rw [atTo,List.getElem?_eq_getElem h]
 by_cases h2:bsLt p vs[k].path=true<;>simp [h2]
theorem qrw {vs:List RVer} {p:Bs} {k:Nat} (h:k<vs.length):nrTo vs p (k+1)=if vs[k].path=p then vs[k].num+1 else nrTo vs p k:=by
 rw [nrTo,List.getElem?_eq_getElem h]
 simp only [Option.elim_some,decide_eq_true_eq]
theorem qqy (vs:List RVer) (p:Bs):∀ k,atTo vs p k≤k
 | 0=>Nat.le_refl _
 | k+1=>by
  have:=qqy vs p k
  unfold atTo
  split<;>omega
def qch (vs:List RVer) (p:Bs) (x:RVer):List RVer:=vs.take (atTo vs p vs.length)++[x]++vs.drop (atTo vs p vs.length)
def qhj (R:RefL) (p c:Bs) (w:World) (e:Ending) (w':World):Prop :=
 (∃ k:Int,e=.returned (.tuple #[.int .i64 0,.int .i64 k])∧Same w w'∧((R.closed=true∧k=9)∨(R.closed=false∧qa6 p=false∧k=1)∨(R.closed=false∧qa6 p=true∧4000<c.length∧k=2) ∨
  (R.closed=false∧qa6 p=true∧c.length≤4000∧R.quota<usedR R.vs+c.length∧k=7))) ∨
 (R.closed=false∧qa6 p=true∧c.length≤4000∧(usedR R.vs:Int)+c.length≤R.quota ∧
  ∃ vv' cv,e=.returned (.tuple #[.int .i64 (nrTo R.vs p R.vs.length),.int .i64 0])∧bOk cv c∧RefOk { R with vv:=vv',vs:=qch R.vs p ⟨p,nrTo R.vs p R.vs.length,c,cv,0⟩ } ∧
   Turns (refF R) (refF { R with vv:=vv',vs:=qch R.vs p ⟨p,nrTo R.vs p R.vs.length,c,cv,0⟩ }++bRow cv c) w w')
theorem qim:∀ a b:Bs,Op.bytesLess a b=bsLt a b
 | [],[]=>rfl
 | [],_::_=>rfl
 | _::_,[]=>rfl
 | a::ax,b::bs=>by
  simp only [Op.bytesLess,bsLt,qim ax bs]
  by_cases h1:a<b
  ·simp [h1]
  ·by_cases h2:b<a
   ·have:¬ a=b:=fun h=>by subst h;exact h1 h2
    simp [h1,h2,this]
   ·have:a=b:=UInt8.le_antisymm (UInt8.not_lt.1 h2) (UInt8.not_lt.1 h1)
    subst this
    simp
theorem qlp {a b:Bs} (h:bsLt a b=true):bsLt b a=false:=by
 cases h2:bsLt b a with
 | false=>rfl
 | true=>have:=qgz h h2;rw [qc0] at this;cases this
theorem RefAt.one {R:RefL} {P:Pool} {w:World} (h:RefAt R P w):∀ v∈R.vs,v.cv.oneCell'=true:=fun v hv=>by
 obtain ⟨sl,cap,e,-,-,-⟩:=h.cont hv
 rw [e];rfl
theorem q07 {w:World} {xs:List Value} {t:TypeId}:qaj (w.alloc (.cells xs.toArray t (0,0))) (some ⟨w.heap.size,0,none⟩) xs:=fun _ =>
 ⟨_,0,rfl,fun j hj=>by rw [Nat.zero_add];exact qac (qa7 _ _) j (by simp [List.getElem?_eq_getElem hj])⟩
theorem q2d {w:World} {v:Value} {l:List RVer} (hs:Sat w (rvRow v l)) (h:rvOk v l):∃ sl cap,v=.slice sl l.length cap∧l.length≤cap∧cap≤9223372036854775807∧(∀ k,qaj w sl (qb0 (l.take k)))∧(∀ k,k≤l.length→qaj w (if cap=k then sl else sl.map (·.add (k*4))) (qb0 (l.drop k))):=by
 obtain ⟨sl,cap,e,h1,h2,h3,-⟩:=qcq hs h (by decide)
 refine ⟨sl,cap,e,h1,h2,fun k hp=>?_,fun k hk hp=>?_⟩
 ·rw [qbx,List.length_take] at hp
  obtain ⟨g,off,he,hc⟩:=h3 (by rw [qbx];omega)
  refine ⟨g,off,he,fun j hj=>?_⟩
  rw [qbx,List.length_take] at hj
  rw [hc j (by rw [qbx];omega)]
  have:qb0 l=qb0 (l.take k)++qb0 (l.drop k):=by rw [← qgh,List.take_append_drop]
  congr 1
  rw [List.getElem_of_eq this,List.getElem_append_left]
 ·rw [qbx,List.length_drop] at hp
  obtain ⟨g,off,he,hc⟩:=h3 (by rw [qbx];omega)
  rw [if_neg (by omega),he]
  refine ⟨g,off+k*4,by simp [Addr.add],fun j hj=>?_⟩
  rw [qbx,List.length_drop] at hj
  rw [Nat.add_assoc,hc (k*4+j) (by rw [qbx];omega)]
  have:qb0 l=qb0 (l.take k)++qb0 (l.drop k):=by rw [← qgh,List.take_append_drop]
  congr 1
  rw [List.getElem_of_eq this,List.getElem_append_right (by rw [qbx,List.length_take];omega)]
  congr 1
  rw [qbx,List.length_take];omega
theorem qo2 (R:RefL) (P:Pool) (p c:Bs) (csl:Option Addr) (ccap:Nat) (w:World) (h:RefAt R P w) (hnum:∀ v∈R.vs,0≤v.num∧v.num≤1099511627776) (hc:qaj w csl (c.map enc8)) (hcl:c.length≤1000000) :
  Calls Tryz.prog 60 #[.pointer (some ⟨R.blk,0,none⟩),str p,.slice csl c.length ccap] w (qhj R p c w):=by
 have HI:=Lib.hid (ql7 p w)
 have hbl:=qal h.ref.headIs
 have hlen:=h.len
 have HH:=Lib.hid (And.intro h (And.intro hnum hc))
 clear h hnum hc
 go_enter Tryz.func60,Tryz.ntmps60
 go_wp2_with fail
 refine HI.out.mono ?_
 rintro e w1 ⟨rfl,hs1⟩
 have hA1:=HH.out.1.same hs1
 have hb1:=hA1.ref.headIs
 have c3:w1.cell? ⟨R.blk,3,none⟩=some (.bool R.closed):=qac hb1 3 rfl
 have hbl1:=qal hb1
 have H1:=Lib.hid (And.intro hs1 hA1)
 clear hs1 hA1 hb1
 cases hc:R.closed with
 | true =>
  rw [hc] at c3
  have HC:=Lib.hid hc
  clear hc
  go_wp2_with fail
  exact bodyPost_ret (results_tmp2 rfl _ _ _) rfl (.inl ⟨9,rfl,H1.out.1,.inl ⟨HC.out,rfl⟩⟩)
 | false =>
  rw [hc] at c3
  have HC:=Lib.hid hc
  clear hc
  cases hp:qa6 p with
  | false =>
   have HP:=Lib.hid hp
   go_wp2_with fail
   exact bodyPost_ret (results_tmp2 rfl _ _ _) rfl (.inl ⟨1,rfl,H1.out.1,.inr (.inl ⟨HC.out,HP.out,rfl⟩)⟩)
  | true =>
   have HP:=Lib.hid hp
   by_cases hsz:4000<c.length
   ·go_wp2_with fail
    exact bodyPost_ret (results_tmp2 rfl _ _ _) rfl (.inl ⟨2,rfl,H1.out.1,.inr (.inr (.inl ⟨HC.out,HP.out,hsz,rfl⟩))⟩)
   ·have HU:=Lib.hid (qw7 R P w1 H1.out.2)
    go_wp2_with fail
    refine HU.out.mono ?_
    rintro e w2 ⟨rfl,hs2⟩
    have hA2:=H1.out.2.same hs2
    have hb2:=hA2.ref.headIs
    have c2:w2.cell? ⟨R.blk,2,none⟩=some (.int .i64 R.quota):=qac hb2 2 rfl
    have hbl2:=qal hb2
    have hul:=qvp hA2.clen
    obtain ⟨us,hus⟩:∃ us,us=usedR R.vs:=⟨_,rfl⟩
    rw [← hus] at hul ⊢
    have hul2:us≤10000000000:=by omega
    have H2:=Lib.hid (And.intro (H1.out.1.trans hs2) (And.intro hA2 hus))
    clear hs2 hA2 hb2 hus hul
    by_cases hq:R.quota<(us:Int)+c.length
    ·go_wp2_with fail
     exact bodyPost_ret (results_tmp2 rfl _ _ _) rfl (.inl ⟨7,rfl,H2.out.1,.inr (.inr (.inr ⟨HC.out,HP.out,by omega,by rw [← H2.out.2.2];exact hq,rfl⟩))⟩)
    ·have HQ:=Lib.hid hq
     have hq':¬ (us:Int)+c.length>R.quota:=by omega
     go_wp2_with fail
     go_loopw [10,11,12] (fun n a i wr=>∃ k:Nat,k≤R.vs.length∧i=.int .i64 k∧n=.int .i64 (nrTo R.vs p k)∧a=.int .i64 (atTo R.vs p k)∧Same w wr) (fun _ _ i _=>R.vs.length-(intOf i).toNat)
     case atStart=>exact ⟨0,Nat.zero_le _,rfl,rfl,rfl,H2.out.1⟩
     case round =>
      obtain ⟨k,hk,rfl,rfl,rfl,hs⟩:=hrel
      have hA:=HH.out.1.same hs
      obtain ⟨sl,cap,e1,e2,e3,hb,hcell⟩:=hA.row
      have c0:wr.cell? ⟨R.blk,0,none⟩=some (.slice sl R.vs.length cap):=by rw [← e1];exact qac hb 0 rfl
      have hbl':=qal hb
      have HS:=Lib.hid (And.intro hs hA)
      clear hs hb
      by_cases hlt:k<R.vs.length
      ·clear e1
       obtain ⟨g,off,hg,hcc⟩:=hcell (by omega)
       subst hg
       obtain ⟨h0,h1,h2,h3⟩:=hcc k hlt
       have hnx:=qrf (p:=p) hlt
       have hnn:=qrw (p:=p) hlt
       have hnr:=HH.out.2.1 _ (List.getElem_mem hlt)
       obtain ⟨pk,hpk⟩:∃ pk,pk=R.vs[k].path:=⟨_,rfl⟩
       obtain ⟨nk,hnk⟩:∃ nk,nk=R.vs[k].num:=⟨_,rfl⟩
       rw [← hpk] at h0 hnx hnn
       rw [← hnk] at h1 hnn hnr
       have hgl:=World.block_lt_of_cell? wr _ h0
       have HX:=Lib.hid (And.intro hnx hnn)
       clear hcc hcell hA hnx hpk hnk hnn h2 h3
       by_cases hp:pk=p
       ·have hp':=hp.symm
        clear hp
        subst hp'
        have hbs:Op.bytesLess p p=false:=by rw [qim,qc0]
        have hf1:atTo R.vs p (k+1)=k+1:=by rw [HX.out.1,qc0];rfl
        have hf2:nrTo R.vs p (k+1)=nk+1:=by rw [HX.out.2,if_pos rfl]
        have HF:=Lib.hid (And.intro hf1 hf2)
        clear hf1 hf2
        go_wp2_with fail
        go_roundw
        case rel=>exact ⟨k+1,by omega,by go_num,by rw [HF.out.2],by rw [HF.out.1];go_num,by first | exact HS.out.1 | exact HS.out.1.alloc _⟩
        case measure=>simp [intOf];omega
       ·have hpq:(pk==p)=false:=by simp [hp]
        have hf2:nrTo R.vs p (k+1)=nrTo R.vs p k:=by rw [HX.out.2,if_neg hp]
        cases hbl:bsLt pk p with
        | true =>
         have hbs:Op.bytesLess pk p=true:=by rw [qim,hbl]
         have hf1:atTo R.vs p (k+1)=k+1:=by rw [HX.out.1,qlp hbl];rfl
         have HF:=Lib.hid (And.intro hf1 hf2)
         clear hf1 hf2
         go_wp2_with fail
         go_roundw
         case rel=>exact ⟨k+1,by omega,by go_num,by rw [HF.out.2],by rw [HF.out.1];go_num,by first | exact HS.out.1 | exact HS.out.1.alloc _⟩
         case measure=>simp [intOf];omega
        | false =>
         have hbs:Op.bytesLess pk p=false:=by rw [qim,hbl]
         have hf1:atTo R.vs p (k+1)=atTo R.vs p k:=by
          rw [HX.out.1]
          cases h2:bsLt p pk with
          | true=>rfl
          | false=>exact absurd (qhc _ _ hbl h2) hp
         have HF:=Lib.hid (And.intro hf1 hf2)
         clear hf1 hf2
         go_wp2_with fail
         go_roundw
         case rel=>exact ⟨k+1,by omega,by go_num,by rw [HF.out.2],by rw [HF.out.1],by first | exact HS.out.1 | exact HS.out.1.alloc _⟩
         case measure=>simp [intOf];omega
      ·obtain rfl:k=R.vs.length:=by omega
       clear hcell
       obtain ⟨at_,hat⟩:∃ at_,at_=atTo R.vs p R.vs.length:=⟨_,rfl⟩
       obtain ⟨nr,hnr⟩:∃ nr,nr=nrTo R.vs p R.vs.length:=⟨_,rfl⟩
       have hatl:at_≤R.vs.length:=by rw [hat];exact qqy _ _ _
       have hone:=HS.out.2.one
       rw [← hat,← hnr]
       have HN:=Lib.hid (And.intro hat (And.intro hnr (And.intro hatl hone)))
       clear hat hnr
       have hT0:Turns (refF R) (bRow (.slice none 0 0) []++refF R) w wr:=Turns.same HH.out.1.ref HS.out.1
       have HT0:=Lib.hid hT0
       have hcw:qaj wr csl (c.map enc8):=HH.out.2.2.keep HS.out.1 (fun _ _ _=>id)
       have HCW:=Lib.hid hcw
       clear hT0 hcw
       have hRF:∀ (W:World) (G:HF),Turns (refF R) (G++refF R) w W→W.cell? ⟨R.blk,0,none⟩=some (.slice sl R.vs.length cap)∧R.blk<W.heap.size∧(∀ k,qaj W sl (qb0 (R.vs.take k)))∧(∀ k,k≤R.vs.length→qaj W (if cap=k then sl else sl.map (·.add (k*4))) (qb0 (R.vs.drop k))):=by
        intro W G hT
        have hs:=hT.sat.right
        obtain ⟨sl',cap',e1',-,-,e4',e5'⟩:=q2d (Sat.left (Sat.tail hs)) HS.out.2.ok.vs
        rw [e1] at e1'
        simp only [Value.slice.injEq,true_and] at e1'
        obtain ⟨rfl,rfl⟩:=e1'
        exact ⟨by rw [← e1];exact qac hs.headIs 0 rfl,qal hs.headIs,e4',e5'⟩
       have HRF:=Lib.hid hRF
       clear hRF e1
       have hno:∀ (v:Value) (l:List RVer) (G:HF) (W:World),rvOk v l→Sat W (rvRow v l++G)→v.oneCell'=true∧v.cells=#[v]:=fun v l G W hok hs=>by
        obtain ⟨h1,h2,-⟩:=qdv hs.left hok
        exact ⟨h1,h2⟩
       have HNO:=Lib.hid hno
       have hfin:∀ (av:Option Addr) (cv:Nat) (v9:Value) (W:World),bOk (.slice av c.length cv) c→rvOk v9 (R.vs.take at_++[⟨p,nr,c,.slice av c.length cv,0⟩]++R.vs.drop at_) →
         Turns (refF R) ((R.blk,Is (.cells ((qbw R).setIfInBounds 0 v9) 60 (0,0)))::(rvRow v9 (R.vs.take at_++[⟨p,nr,c,.slice av c.length cv,0⟩]++R.vs.drop at_)++(rvRow R.vv R.vs++(rtRow R.tv R.ts++bRow (.slice av c.length cv) c)))) w W →
         qhj R p c w (.returned (.tuple #[.int .i64 nr,.int .i64 0])) W:=by
        intro av cv v9 W hb hr hT
        refine .inr ⟨HC.out,HP.out,by omega,by rw [← H2.out.2.2];omega,v9,.slice av c.length cv,by rw [← HN.out.2.1],hb,?_,?_⟩
        ·rw [← HN.out.2.1];unfold qch;rw [← HN.out.1]
         exact ⟨hr,HS.out.2.ok.ts⟩
        ·rw [← HN.out.2.1];unfold qch;rw [← HN.out.1]
         refine hT.drop (fun x=>?_)
         unfold refF
         rw [show refO { R with vv:=v9,vs:=R.vs.take at_++[⟨p,nr,c,.slice av c.length cv,0⟩]++R.vs.drop at_ }=.cells ((qbw R).setIfInBounds 0 v9) 60 (0,0) from rfl]
         simp only [qad,qaa];omega
       have HFIN:=Lib.hid hfin
       clear hfin hno
       go_upto_region 21 with (fail)
       go_wp2_with (first
        | (at_builtin;refine qak rfl ?_;refine qf0 (.tmp 77) (.tmp 78) rfl (.slice none 0 0) [] rfl HT0.out qdh csl c.length ccap rfl c rfl HCW.out (by simp;omega) ?_;intro av cv w5 hok5 hT5 hn5;simp only [List.nil_append] at hok5 hT5 ⊢;obtain ⟨d0,d1,d2,d3⟩:=HRF.out _ _ hT5;have H5:=Lib.hid (And.intro hok5 (And.intro hT5 (And.intro d2 d3)));clear hok5 hT5 hn5 d2 d3)
        | (at_builtin;refine qak rfl ?_;refine qhr (.tmp 80) (.tmp 86) rfl (.slice none 0 0) [] rfl (G:=refF R++bRow (.slice av c.length cv) c) (H5.out.2.1.to (by rw [show rvRow (.slice none 0 0) []=[] from rfl];exact (qaf fun _=>by simp only [qad,qaa,qah]<;>omega))) ⟨rfl,fun _=>⟨rfl,rfl⟩⟩ _ _ _ rfl (R.vs.take at_) (by rw [List.length_take,Nat.min_eq_left HN.out.2.2.1]) (H5.out.2.2.1 at_) (fun v hv=>HN.out.2.2.2 v (List.mem_of_mem_take hv)) (by rw [List.length_take,Nat.min_eq_left HN.out.2.2.1];simp;omega) ?_;intro v7 w7 hok7 hT7;simp only [List.nil_append] at hok7 hT7;obtain ⟨d0,d1,-,-⟩:=HRF.out _ (rvRow v7 (R.vs.take at_)++bRow (.slice av c.length cv) c) (hT7.to (qaf fun _=>by simp only [qad,qaa,qah]<;>omega));have H7:=Lib.hid (And.intro hok7 hT7);clear hok7 hT7)
        | (at_builtin;refine qak rfl ?_;(refine qhr (.tmp 88) (.tmp 93) rfl v7 (R.vs.take at_) rfl (H7.out.2.alloc _) H7.out.1 _ 1 1 rfl [⟨p,nr,c,.slice av c.length cv,0⟩] rfl (q07 (xs:=rverV ⟨p,nr,c,.slice av c.length cv,0⟩)) (fun v hv=>by obtain rfl:=List.mem_singleton.1 hv;rfl) (by rw [List.length_take,Nat.min_eq_left HN.out.2.2.1];simp;omega) ?_;intro v8 w8 hok8 hT8;obtain ⟨d0,d1,-,d3⟩:=HRF.out _ (rvRow v8 (R.vs.take at_++[⟨p,nr,c,.slice av c.length cv,0⟩])++bRow (.slice av c.length cv) c) (hT8.to (qaf fun _=>by simp only [qad,qaa,qah]<;>omega));have H8:=Lib.hid (And.intro hok8 (And.intro hT8 d3));clear hok8 hT8 d3))
        | (at_builtin;refine qak rfl ?_;(refine qhr (.tmp 95) (.tmp 101) rfl v8 (R.vs.take at_++[⟨p,nr,c,.slice av c.length cv,0⟩]) rfl H8.out.2.1 H8.out.1 _ _ _ rfl (R.vs.drop at_) (by rw [List.length_drop]) (H8.out.2.2 at_ HN.out.2.2.1) (fun v hv=>HN.out.2.2.2 v (List.mem_of_mem_drop hv)) (by simp;omega) ?_;intro v9 w9 hok9 hT9;obtain ⟨d0,d1,-,-⟩:=HRF.out _ (rvRow v9 (R.vs.take at_++[⟨p,nr,c,.slice av c.length cv,0⟩]++R.vs.drop at_)++bRow (.slice av c.length cv) c) (hT9.to (qaf fun _=>by simp only [qad,qaa,qah]<;>omega));have H9:=Lib.hid (And.intro hok9 hT9);clear hok9 hT9))
        | (refine qak rfl (qa0 57 (.tmp 106) (.tmp 104) rfl R.blk 0 (qbw R) 60 v9 (H9.out.2.to (H:=(R.blk,Is (refO R))::(rvRow v9 (R.vs.take at_++[⟨p,nr,c,.slice av c.length cv,0⟩]++R.vs.drop at_)++(rvRow R.vv R.vs++(rtRow R.tv R.ts++bRow (.slice av c.length cv) c)))) (by unfold refF;exact (qaf fun _=>by simp only [qad,qaa,qah]<;>omega))) rfl rfl (by simp [qbw]) (by kernel_rfl) (HNO.out _ _ _ _ H9.out.1 H9.out.2.sat).1 (HNO.out _ _ _ _ H9.out.1 H9.out.2.sat).2 ?_);intro w10 hT10;have H10:=Lib.hid hT10;clear hT10;simp only [Act.put]))
       all_goals (refine bodyPost_ret (results_tmp2 rfl _ _ _) rfl ?_;exact HFIN.out _ _ _ _ H5.out.1 H9.out.1 H10.out)
end Go.Proofs.YtdhobpbngkainaaGreatDoor
namespace Go.Proofs.YtdhobpbngkainaaGreatDoor
open Go.RowKit Go.Sort
def qb5 (v:Value) (l:List EntL):HF:=rowF 262 4 v l.length (l.flatMap entV)
def entOk (v:Value) (l:List EntL):Prop:=RowOk 4 v l.length (l.flatMap entV)
theorem qee (l:List EntL):(l.flatMap entV).length=l.length*4:=by
 induction l with
 | nil=>rfl
 | cons a r ih=>rw [List.flatMap_cons,List.length_append,ih];simp [entV];omega
theorem qln:∀ (es:List EntL) (t:Nat) (h:t<es.length*4),(es.flatMap entV)[t]?=some ((entV es.toArray[t / 4]!)[t%4]!)
 | [],t,h=>by simp at h
 | x::r,t,h=>by
  rw [List.flatMap_cons]
  by_cases h4:t<4
  ·rw [List.getElem?_append_left (by simpa [entV] using h4)]
   have e1:t / 4=0:=by omega
   have e2:t%4=t:=by omega
   rw [e1,e2]
   have:(x::r).toArray[0]! = x := by simp
   rw [this]
   rcases (show t=0∨t=1∨t=2∨t=3 by omega) with rfl | rfl | rfl | rfl<;>rfl
  ·rw [List.getElem?_append_right (by simp [entV];omega)]
   have hl:(entV x).length=4:=rfl
   rw [hl,qln r (t-4) (by simp at h;omega)]
   have e1:t / 4=(t-4) / 4+1:=by omega
   have e2:t%4=(t-4)%4:=by omega
   rw [e1,e2]
   have hi:(t-4) / 4<r.length:=by simp at h;omega
   have:(x::r).toArray[(t-4) / 4+1]! = r.toArray[(t-4) / 4]! := by
    rw [getElem!_pos _ _ (by simp;omega),getElem!_pos _ _ (by simpa using hi)];simp
   rw [this]
theorem qpy (es:List EntL):flatK entV 4 es.toArray=(es.flatMap entV).toArray:=by
 apply Array.ext_getElem?
 intro t
 by_cases h:t<es.length*4
 ·have h1:=qln es t h
  have h2:(es.flatMap entV).toArray[t]?=some ((entV es.toArray[t / 4]!)[t%4]!):=by simpa using h1
  rw [h2]
  have hs:t<(flatK entV 4 es.toArray).size:=by simpa using h
  rw [Array.getElem?_eq_getElem hs,← getElem!_pos (flatK entV 4 es.toArray) t hs,get_flatK _ _ _ _ (by simpa using h)]
 ·rw [Array.getElem?_eq_none (by simp;omega),Array.getElem?_eq_none (by rw [List.size_toArray,qee];omega)]
theorem qx5 (l:List EntL):∀ u∈l.flatMap entV,u.oneCell'=true:=fun u hu=>by
 obtain ⟨x,-,hx⟩:=List.mem_flatMap.1 hu
 simp only [entV,List.mem_cons,List.not_mem_nil,or_false] at hx
 rcases hx with rfl | rfl | rfl | rfl<;>rfl
def qvb (es es':List EntL):Prop:=es'.Perm es∧∀ i j,i<j→∀ (hj:j<es'.length) (hi:i<es'.length),bsLt es'[j].p es'[i].p=false
theorem qyp {F G:HF} {A W:World} {v:Value} {es:List EntL} (h:Turns F (qb5 v es++G) A W) (hok:entOk v es) (hne:es≠[]) (hl:es.length<1000000) :
  ∃ g cap,v=.slice (some ⟨g,0,none⟩) es.length cap∧Calls Tryz.prog 133 #[.slice (some ⟨g,0,none⟩) es.length cap,.func (.func 134) #[] #[]] W (fun e w'=>e=.returned (.tuple #[])∧∃ es',qvb es es'∧entOk v es'∧Turns F (qb5 v es'++G) A w'):=by
 have hown:=qbm h.sat.left hok
 rcases hown.2 with ⟨-,h0⟩ | ⟨g,cap,cur,rfl,-,hg,h1,h2,h3,h4⟩
 ·exact absurd (List.eq_nil_of_length_eq_zero h0) hne
 ·refine ⟨g,cap,rfl,?_⟩
  have eg:∀ args w,(callFunc 134 args).run Tryz.prog w=.ok (.enter 134 args) w:=enters_of Tryz.func134 (by kernel_rfl) rfl
  have hH:HoldsK entV 4 W g 0 es.toArray:=by
   unfold HoldsK
   rw [qpy]
   intro j hj
   have hj':j<(es.flatMap entV).length:=by simpa using hj
   refine ⟨?_,qa9 hg _⟩
   rw [Nat.zero_add]
   refine qac hg j ?_
   rw [← Array.getElem?_toList]
   have e1:(cur.toList.take (es.length*4))[j]?=cur.toList[j]?:=by rw [List.getElem?_take,if_pos (by rw [qee] at hj';omega)]
   rw [← e1,h4,List.getElem?_eq_getElem hj']
   congr 1
   rw [getElem!_pos _ _ (by simpa using hj)]
   simp
  have hcon:=AnyQ.slices_SortFunc sortE 4 Tryz.isAgg262 Tryz.sizeOf262 entV (fun _=>rfl) (fun x v hv=>by simp [entV] at hv;rcases hv with rfl | rfl | rfl | rfl<;>rfl) qi5 q6t 134 #[] g 0 cap es.toArray W eg (q5j g 0 es.toArray.size W) hH (qal hg) (by simp;omega)
  have hsz:es.toArray.size=es.length:=by simp
  rw [hsz] at hcon
  change Calls Tryz.prog 133 _ _ _ at hcon
  refine hcon.mono ?_
  rintro e w' ⟨rfl,d',n,os,hp,hs,rfl⟩
  have hd':d'.size=es.length:=by rw [hp.1];simp
  have hperm:d'.toList.Perm es:=by
   have:=hp.2.2
   rw [Array.extract_eq_self_of_le (by omega)] at this
   rw [Array.extract_eq_self_of_le (by simp)] at this
   simpa using this
  refine ⟨rfl,d'.toList,⟨hperm,fun i j hij hj hi=>?_⟩,?_,?_⟩
  ·have:=hs i j (Nat.zero_le _) hij (by rw [← hd'];simpa using hj)
   rw [entLt] at this
   rw [getElem!_pos d' j (by simpa using hj),getElem!_pos d' i (by simpa using hi)] at this
   simpa using this
  ·exact ⟨by rw [qee],fun hn=>by simp [Value.ownBlock] at hn⟩
  ·have hfl:flatK entV 4 d'=(d'.toList.flatMap entV).toArray:=by
    have:=qpy d'.toList
    simpa using this
   have hdl:d'.toList.length=es.length:=by simpa using hd'
   have hgl:=qal hg
   have hW:(sortWorldK entV 4 W g 0 n d' os).heap[g]?=some (.cells (putCells id 0 (flatK entV 4 d') cur) 262 (0,0)):=by
    unfold sortWorldK
    rw [heap_grow_old _ _ (by unfold putRowK;rw [size_putRow];exact hgl)]
    unfold putRowK putRow mapBlock
    show ((W.heap.modify g (onCells (putCells id 0 (flatK entV 4 d')))))[g]?=_
    rw [Array.getElem?_modify,if_pos rfl,hg]
    rfl
   have hM:Mods (fun k=>k=g) W (sortWorldK entV 4 W g 0 n d' os):=by
    refine ⟨rfl,rfl,rfl,?_,fun k hk hne=>?_⟩
    ·unfold sortWorldK;rw [Go.Sort.size_grow];unfold putRowK;rw [size_putRow];simp
    ·unfold sortWorldK
     rw [heap_grow_old _ _ (by unfold putRowK;rw [size_putRow];exact hk)]
     unfold putRowK putRow mapBlock
     show ((W.heap.modify g (onCells (putCells id 0 (flatK entV 4 d')))))[k]?=_
     rw [Array.getElem?_modify,if_neg (fun e=>hne e.symm)]
   have hpc:(putCells id 0 (flatK entV 4 d') cur).toList.take (es.length*4)=d'.toList.flatMap entV:=by
    apply List.ext_getElem?
    intro t
    rw [List.getElem?_take]
    split
    ·rename_i ht
     rw [Array.getElem?_toList]
     unfold putCells
     rw [Array.getElem?_mapIdx]
     have htc:t<cur.size:=by rw [h3];omega
     rw [Array.getElem?_eq_getElem htc,Option.map_some,if_pos ⟨Nat.zero_le _,by rw [size_flatK];omega⟩,Nat.sub_zero]
     have ht2:t<(d'.toList.flatMap entV).length:=by rw [qee,hdl];exact ht
     rw [List.getElem?_eq_getElem ht2,hfl,getElem!_pos _ _ (by simpa using ht2)]
     simp
    ·rename_i ht
     rw [List.getElem?_eq_none (by rw [qee,hdl];omega)]
   have hrow:qb5 (.slice (some ⟨g,0,none⟩) es.length cap) es++G=(g,_)::G:=rfl
   rw [hrow] at h
   have hrow2:qb5 (.slice (some ⟨g,0,none⟩) es.length cap) d'.toList++G=(g,fun o=>∃ cap2 cur2,Value.slice (some ⟨g,0,none⟩) es.length cap=.slice (some ⟨g,0,none⟩) d'.toList.length cap2∧o=.cells cur2 262 (0,0)∧d'.toList.length≤cap2∧cap2≤maxLen∧cur2.size=cap2*4∧cur2.toList.take (d'.toList.length*4)=d'.toList.flatMap entV)::G:=rfl
   rw [hrow2]
   exact h.put hM hW ⟨cap,_,by rw [hdl],rfl,by rw [hdl];exact h1,h2,by unfold putCells;rw [Array.size_mapIdx];exact h3,by rw [hdl];exact hpc⟩
end Go.Proofs.YtdhobpbngkainaaGreatDoor
namespace Go.Proofs.YtdhobpbngkainaaGreatDoor
open Go.RowKit Go.Maps
theorem Turns.pin {F G:HF} {a0 w:World} {g:Nat} {φ:Obj→Prop} (h:Turns F ((g,φ)::G) a0 w):∃ o,φ o∧Turns F ((g,Is o)::G) a0 w:=by
 obtain ⟨o,ho,hφ⟩:=h.sat.head
 exact ⟨o,hφ,h.mods,⟨h.sat.nodup,fun p hp=>by
  rcases List.mem_cons.1 hp with rfl | hp
  ·exact ⟨o,ho,rfl⟩
  ·exact h.sat.sat p (List.mem_cons_of_mem _ hp)⟩,h.fresh⟩
theorem Turns.unpin {F G:HF} {a0 w:World} {g:Nat} {φ:Obj→Prop} {o:Obj} (h:Turns F ((g,Is o)::G) a0 w) (ho:φ o):Turns F ((g,φ)::G) a0 w :=
 ⟨h.mods,⟨h.sat.nodup,fun p hp=>by
  rcases List.mem_cons.1 hp with rfl | hp
  ·exact ⟨o,h.sat.headIs,ho⟩
  ·exact h.sat.sat p (List.mem_cons_of_mem _ hp)⟩,h.fresh⟩
theorem qzr {P:Program} {w a0:World} {o:Oper} {a:Act} {K:Act→World→Prop} {Q:Exit→Act→World→Prop} {F G:HF} (ty:TypeId) (x y:Operand) (ho:o.op=.store ty x y) (e:TypeId) (size n g cap:Nat) (xs:List Value)
  (hT:Turns F (rowF e size (.slice (some ⟨g,0,none⟩) n cap) n xs++G) a0 w) (hok:RowOk size (.slice (some ⟨g,0,none⟩) n cap) n xs) (i:Nat) (hi:i<n*size) (u:Value) (hx:a.eval x=.pointer (some ⟨g,i,none⟩)) (hy:a.eval y=u)
  (hsz:(P.info? ty).map (·.size)=some 1) (h1:u.oneCell'=true) (hvc:u.cells=#[u])
  (hk:∀ w',RowOk size (.slice (some ⟨g,0,none⟩) n cap) n (xs.set i u)→Turns F (rowF e size (.slice (some ⟨g,0,none⟩) n cap) n (xs.set i u)++G) a0 w'→K (a.put o.dst undef) w'):o.wp P a w K Q:=by
 have hT':Turns F ((g,fun o=>∃ cap' cur,(.slice (some ⟨g,0,none⟩) n cap:Value)=.slice (some ⟨g,0,none⟩) n cap'∧o=.cells cur e (0,0)∧n≤cap'∧cap'≤maxLen∧cur.size=cap'*size∧cur.toList.take (n*size)=xs)::G) a0 w:=hT
 obtain ⟨o',⟨cap',cur,hv,rfl,h3,h4,h5,h6⟩,hp⟩:=hT'.pin
 have hcs:n*size≤cur.size:=by rw [h5];exact Nat.mul_le_mul_right _ h3
 refine qa0 ty x y ho g i cur e u hp hx hy (by omega) hsz h1 hvc (fun w' hT2=>hk w' ⟨by rw [List.length_set];exact hok.1,hok.2⟩ ?_)
 exact hT2.unpin ⟨cap',_,hv,rfl,h3,h4,by simpa using h5,by rw [Array.toList_setIfInBounds,List.take_set,h6]⟩
def reRow (v:Value) (l:List EntL):HF:=rowF 266 4 v l.length (l.flatMap entV)
def reOk (v:Value) (l:List EntL):Prop:=RowOk 4 v l.length (l.flatMap entV)
theorem q3w:(Tryz.prog.info? 266).map (fun i=>(i.zero,i.size,i.bytes))=some (some (.agg #[str [],.int .i64 0,.int .i64 0,.int .i64 0]),4,40):=by kernel_rfl
theorem qn7 {o:Oper} {a:Act} {w a0:World} {K:Act→World→Prop} {Q:Exit→Act→World→Prop} {F G:HF} (s x:Operand) (hop:o.op=.call { callee:=.builtin .append,args:=#[s,x],argTypes:=#[184,184] })
  (v:Value) (l:List EntL) (hs:a.eval s=v) (hT:Turns F (reRow v l++G) a0 w) (hok:reOk v l) (nb:Nat) (hx:a.eval x=.slice (some ⟨nb,0,none⟩) 1 1) (r:EntL)
  (hc:w.heap[nb]?=some (.cells (entV r).toArray 266 (0,0))) (hb:l.length≤1000000)
  (hk:∀ v' w',reOk v' (l++[r])→Turns F (reRow v' (l++[r])++G) a0 w'→K (a.put o.dst v') w'):o.wp Tryz.prog a w K Q:=by
 obtain ⟨i0,hi0,hz1,hz2,hz3⟩:=info_parts q3w
 refine qct s x 184 266 i0 (.agg #[str [],.int .i64 0,.int .i64 0,.int .i64 0]) 4 40 hop Tryz.underlying184 hi0 hz1 hz2 hz3 rfl (by decide) v l.length (l.flatMap entV) hs hT hok (some ⟨nb,0,none⟩) 1 1 hx (entV r) rfl (fun _=>⟨_,rfl,fun j u hu=>?_⟩) (fun u hu=>qx5 [r] u (by simpa using hu)) (by unfold maxLen;omega) (by omega) (fun v' w' h1 h2 h3=>?_)
 ·rw [Addr.add_lit]
  rw [show (0+j)=j by omega]
  exact qac hc j (by rw [List.getElem?_toArray];exact hu)
 ·have e1:(l++[r]).flatMap entV=l.flatMap entV++entV r:=by simp
  exact hk v' w' (by unfold reOk;rw [List.length_append,e1];exact h1) (by unfold reRow;rw [List.length_append,e1];exact h2)
def qc6 (es:List EntL) (p:Bs):List EntL:=if es.getLast?.map (·.p)=some p then es else es++[⟨p,0,0,0⟩]
def qhz (es:List EntL) (num size:Int):List EntL:=match es.getLast? with
 | none=>[]
 | some e=>es.dropLast++[⟨e.p,num,size,e.n+1⟩]
def qdx (pre:Bs) (es:List EntL) (v:RVer):List EntL:=if pre.isPrefixOf v.path then qhz (qc6 es v.path) v.num v.cont.length else es
def entsR (pre:Bs) (vs:List RVer):List EntL:=vs.foldl (qdx pre) []
theorem qp5 {pre:Bs} {vs:List RVer} {k:Nat} (h:k<vs.length):entsR pre (vs.take (k+1))=qdx pre (entsR pre (vs.take k)) vs[k]:=by
 unfold entsR
 rw [List.take_succ_eq_append_getElem h,List.foldl_append];rfl
theorem qhs (es:List EntL) (e:EntL) (num size:Int):qhz (es++[e]) num size=es++[⟨e.p,num,size,e.n+1⟩]:=by simp [qhz]
theorem qwm (es:List EntL) (p:Bs):(qc6 es p).length≤es.length+1:=by unfold qc6;split<;>simp
theorem q0b (es:List EntL) (n s:Int):(qhz es n s).length=es.length:=by
 unfold qhz
 cases h:es.getLast? with
 | none=>rw [List.getLast?_eq_none_iff.1 h]
 | some e =>
  have hne:es≠[]:=fun he=>by rw [he] at h;cases h
  have:=List.length_pos_iff.2 hne
  simp only [List.length_append,List.length_dropLast,List.length_singleton]
  omega
theorem qrb (pre:Bs):∀ (vs:List RVer),(entsR pre vs).length≤vs.length:=fun vs=>by
 suffices h:∀ (vs:List RVer) (es:List EntL),(vs.foldl (qdx pre) es).length≤es.length+vs.length from by unfold entsR;simpa using h vs []
 intro vs
 induction vs with
 | nil=>intro es;simp
 | cons v r ih =>
  intro es
  have h1:=ih (qdx pre es v)
  have h2:(qdx pre es v).length≤es.length+1:=by
   unfold qdx
   split
   ·rw [q0b];exact qwm _ _
   ·omega
  simp only [List.foldl_cons,List.length_cons]
  omega
theorem q5w {pre:Bs}:∀ (vs:List RVer),∀ e∈entsR pre vs,0≤e.n∧e.n≤vs.length:=fun vs=>by
 suffices h:∀ (vs:List RVer) (es:List EntL) (b:Nat),(∀ e∈es,0≤e.n∧e.n≤b)→∀ e∈vs.foldl (qdx pre) es,0≤e.n∧e.n≤(b+vs.length:Nat) from by
  have:=h vs [] 0 (fun e he=>by cases he)
  unfold entsR
  simpa using this
 intro vs
 induction vs with
 | nil=>intro es b h e he;have:=h e he;simpa using this
 | cons v r ih =>
  intro es b h e he
  have h2:∀ e∈qdx pre es v,0≤e.n∧e.n≤(b+1:Nat):=by
   intro e he
   unfold qdx at he
   split at he
   ·have h3:∀ e∈qc6 es v.path,0≤e.n∧e.n≤b:=by
     intro e he
     unfold qc6 at he
     split at he
     ·exact h e he
     ·rcases List.mem_append.1 he with he | he
      ·exact h e he
      ·obtain rfl:=List.mem_singleton.1 he;simp
    unfold qhz at he
    cases hl:(qc6 es v.path).getLast? with
    | none=>rw [hl] at he;cases he
    | some x =>
     rw [hl] at he
     rcases List.mem_append.1 he with he | he
     ·have:=h3 e ((List.dropLast_sublist _).mem he);omega
     ·obtain rfl:=List.mem_singleton.1 he
      have:=h3 x (List.mem_of_getLast? hl);simp only;omega
   ·have:=h e he;omega
  have:=ih _ (b+1) h2 e he
  simp only [List.length_cons]
  omega
theorem qul (pk:Bs) (n:Nat):((ByteArray.mk pk.toArray).extract 0 n).toList=pk.take n:=by
 rw [Lib.toList_data];simp [ByteArray.extract,ByteArray.copySlice]
def q0s (R:RefL) (pre:Bs) (w:World) (e:Ending) (w':World):Prop :=
 (R.closed=true∧e=.returned (.tuple #[.slice none 0 0,.int .i64 9])∧Same w w') ∨
 (R.closed=false∧∃ v,e=.returned (.tuple #[v,.int .i64 0])∧reOk v (entsR pre R.vs)∧Turns [] (reRow v (entsR pre R.vs)) w w')
theorem qvj {pre l:Bs} (h:pre.length≤l.length):pre.isPrefixOf l=decide (l.take pre.length=pre):=by
 rw [Bool.eq_iff_iff,decide_eq_true_eq,List.isPrefixOf_iff_prefix,List.prefix_iff_eq_take]
 exact eq_comm
theorem q0z {pre l:Bs} (h:l.length<pre.length):pre.isPrefixOf l=false:=by
 rw [Bool.eq_false_iff]
 intro h2
 have:=(List.isPrefixOf_iff_prefix.1 h2).length_le
 omega
theorem qku {w:World} {v:Value} {es:List EntL} (hs:Sat w (reRow v es)) (h:reOk v es):∃ sl cap,v=.slice sl es.length cap∧es.length≤cap∧cap≤9223372036854775807∧(es≠[]→∃ g,sl=some ⟨g,0,none⟩∧g<w.heap.size∧∀ i (hi:i<es.length),w.cell? ⟨g,i*4,none⟩=some (str es[i].p)∧w.cell? ⟨g,i*4+1,none⟩=some (.int .i64 es[i].latest)∧w.cell? ⟨g,i*4+2,none⟩=some (.int .i64 es[i].size)∧w.cell? ⟨g,i*4+3,none⟩=some (.int .i64 es[i].n)):=by
 obtain ⟨hl,hc⟩:=qbm hs h
 rcases hc with ⟨rfl,hn⟩ | ⟨g,cap,cur,rfl,_,hg,h1,h2,h3,h4⟩
 ·have:es=[]:=List.length_eq_zero_iff.1 hn
  subst this
  exact ⟨none,0,rfl,Nat.le_refl _,by omega,fun h=>absurd rfl h⟩
 ·refine ⟨_,cap,rfl,h1,by unfold maxLen at h2;omega,fun hne=>⟨g,rfl,qal hg,fun i hi=>?_⟩⟩
  have hcell:∀ j,j<4→w.cell? ⟨g,i*4+j,none⟩=(es.flatMap entV)[i*4+j]?:=by
   intro j hj
   have e1:(es.flatMap entV)[i*4+j]?=cur[i*4+j]?:=by
    rw [← h4,List.getElem?_take,if_pos (by omega),Array.getElem?_toList]
   have e2:i*4+j<cur.size:=by rw [h3];omega
   rw [e1,Array.getElem?_eq_getElem e2]
   exact qac hg _ (Array.getElem?_eq_getElem e2)
  have hv:∀ j,j<4→(es.flatMap entV)[i*4+j]?=some ((entV es[i])[j]!):=by
   intro j hj
   rw [qln es (i*4+j) (by omega)]
   rw [show (i*4+j) / 4=i by omega,show (i*4+j)%4=j by omega]
   simp [hi]
  refine ⟨?_,?_,?_,?_⟩
  ·have:=hcell 0 (by omega);rw [hv 0 (by omega)] at this;exact this
  ·have:=hcell 1 (by omega);rw [hv 1 (by omega)] at this;exact this
  ·have:=hcell 2 (by omega);rw [hv 2 (by omega)] at this;exact this
  ·have:=hcell 3 (by omega);rw [hv 3 (by omega)] at this;exact this
theorem qtq (es:List EntL) (e:EntL) (j:Nat) (u:Value):((es++[e]).flatMap entV).set (es.length*4+j) u=es.flatMap entV++(entV e).set j u:=by
 rw [List.flatMap_append,List.set_append,if_neg (by rw [qee];omega),qee]
 simp
theorem qfp {w a0:World} {o:Oper} {a:Act} {K:Act→World→Prop} {Q:Exit→Act→World→Prop} {F G:HF} (ty:TypeId) (x y:Operand) (ho:o.op=.store ty x y) (z g cap:Nat) (es0:List EntL) (e e':EntL) (hz:es0.length=z)
  (hT:Turns F (reRow (.slice (some ⟨g,0,none⟩) (z+1) cap) (es0++[e])++G) a0 w) (hok:reOk (.slice (some ⟨g,0,none⟩) (z+1) cap) (es0++[e])) (j:Nat) (hj:j<4) (u:Value) (hx:a.eval x=.pointer (some ⟨g,z*4+j,none⟩)) (hy:a.eval y=u)
  (hsz:(Tryz.prog.info? ty).map (·.size)=some 1) (h1:u.oneCell'=true) (hvc:u.cells=#[u]) (he:entV e'=(entV e).set j u)
  (hk:∀ w',reOk (.slice (some ⟨g,0,none⟩) (z+1) cap) (es0++[e'])→Turns F (reRow (.slice (some ⟨g,0,none⟩) (z+1) cap) (es0++[e'])++G) a0 w'→K (a.put o.dst undef) w'):o.wp Tryz.prog a w K Q:=by
 have e1:((es0++[e]).flatMap entV).set (z*4+j) u=(es0++[e']).flatMap entV:=by rw [← hz,qtq,← he];simp
 have e2:(es0++[e]).length=z+1:=by simp [hz]
 have e3:(es0++[e']).length=z+1:=by simp [hz]
 unfold reRow reOk at *
 rw [e2] at hT hok
 rw [e3] at hk
 refine qzr ty x y ho 266 4 (z+1) g cap _ hT hok (z*4+j) (by omega) u hx hy hsz h1 hvc (fun w' k1 k2=>hk w' ?_ ?_)
 ·rw [← e1];exact k1
 ·rw [← e1];exact k2
theorem q1y {w a0:World} {F G:HF} (z g cap:Nat) (es0:List EntL) (e e':EntL) (hz:es0.length=z)
  (hT:Turns F (reRow (.slice (some ⟨g,0,none⟩) (z+1) cap) (es0++[e])++G) a0 w) (hok:reOk (.slice (some ⟨g,0,none⟩) (z+1) cap) (es0++[e])) (j:Nat) (hj:j<4) (u:Value) (he:entV e'=(entV e).set j u) :
  reOk (.slice (some ⟨g,0,none⟩) (z+1) cap) (es0++[e'])∧Turns F (reRow (.slice (some ⟨g,0,none⟩) (z+1) cap) (es0++[e'])++G) a0 (w.setCell ⟨g,z*4+j,none⟩ u):=by
 have e1:((es0++[e]).flatMap entV).set (z*4+j) u=(es0++[e']).flatMap entV:=by rw [← hz,qtq,← he];simp
 have e2:(es0++[e]).length=z+1:=by simp [hz]
 have e3:(es0++[e']).length=z+1:=by simp [hz]
 unfold reRow reOk at *
 rw [e2] at hT hok
 rw [e3,← e1]
 refine ⟨⟨by rw [List.length_set];exact hok.1,hok.2⟩,?_⟩
 have hT':Turns F ((g,fun o=>∃ cap' cur,(.slice (some ⟨g,0,none⟩) (z+1) cap:Value)=.slice (some ⟨g,0,none⟩) (z+1) cap'∧o=.cells cur 266 (0,0)∧(z+1)≤cap'∧cap'≤maxLen∧cur.size=cap'*4∧cur.toList.take ((z+1)*4)=(es0++[e]).flatMap entV)::G) a0 w:=hT
 obtain ⟨o',⟨cap',cur,hv,rfl,h3,h4,h5,h6⟩,hp⟩:=hT'.pin
 have hT2:=hp.putIs ((Mods.refl (fun k=>k=g) w).set1 u) (qbf hp.sat.headIs (z*4+j) u)
 exact hT2.unpin ⟨cap',_,hv,rfl,h3,h4,by simpa using h5,by rw [Array.toList_setIfInBounds,List.take_set,h6]⟩
def vcO (pk:Bs) (nk:Int) (cv hv:Value):Obj:=.cells #[.string ⟨pk.toArray⟩,.int .i64 nk,cv,hv] 193 (0,0)
theorem qfq {w W:World} {vb g z cap:Nat} {pk:Bs} {nk:Int} {cv hv:Value} {es0:List EntL} {e:EntL} {J:HF} (hT:Turns [] ((vb,Is (vcO pk nk cv hv))::(reRow (.slice (some ⟨g,0,none⟩) (z+1) cap) (es0++[e])++J)) w W) (hok:reOk (.slice (some ⟨g,0,none⟩) (z+1) cap) (es0++[e])) (hz:es0.length=z) :
  W.cell? ⟨vb,0,none⟩=some (.string ⟨pk.toArray⟩)∧W.cell? ⟨vb,1,none⟩=some (.int .i64 nk)∧W.cell? ⟨vb,2,none⟩=some cv∧vb<W.heap.size∧g<W.heap.size∧W.cell? ⟨g,z*4,none⟩=some (str e.p)∧W.cell? ⟨g,z*4+3,none⟩=some (.int .i64 e.n)∧z+1≤cap∧cap≤9223372036854775807∧W.frozen? ⟨g,z*4+3,none⟩=false:=by
 have hv:=hT.sat.headIs
 obtain ⟨sl,cap',e1,e2,e3,e4⟩:=qku hT.sat.tail.left hok
 simp only [Value.slice.injEq] at e1
 obtain ⟨rfl,h5,rfl⟩:=e1
 obtain ⟨g',hg,hgl,hc⟩:=e4 (by simp)
 simp only [Option.some.injEq,Addr.mk.injEq,and_true] at hg
 subst hg
 obtain ⟨c0,c1,c2,c3⟩:=hc z (by simp;omega)
 have hze:(es0++[e])[z]'(by simp;omega)=e:=by subst hz;simp
 rw [hze] at c0 c3
 obtain ⟨o,ho,cap2,cur,-,rfl,-⟩:=Sat.head (show Sat W ((g,fun o=>∃ cap' cur,(.slice (some ⟨g,0,none⟩) (z+1) cap:Value)=.slice (some ⟨g,0,none⟩) (es0++[e]).length cap'∧o=.cells cur 266 (0,0)∧(es0++[e]).length≤cap'∧cap'≤maxLen∧cur.size=cap'*4∧cur.toList.take ((es0++[e]).length*4)=(es0++[e]).flatMap entV)::[]) from hT.sat.tail.left)
 exact ⟨qac hv 0 rfl,qac hv 1 rfl,qac hv 2 rfl,qal hv,hgl,c0,c3,by rw [h5];exact e2,e3,qa9 ho _⟩
theorem qn1 (R:RefL) (P:Pool) (pre:Bs) (w:World) (h:RefAt R P w) :
  Calls Tryz.prog 89 #[.pointer (some ⟨R.blk,0,none⟩),str pre] w (q0s R pre w):=by
 have hbl:=qal h.ref.headIs
 have hlen:=h.len
 have c3:w.cell? ⟨R.blk,3,none⟩=some (.bool R.closed):=qac h.ref.headIs 3 rfl
 have HH:=Lib.hid h
 clear h
 go_enter Tryz.func89,Tryz.ntmps89
 cases hc:R.closed with
 | true =>
  rw [hc] at c3
  have HC:=Lib.hid hc
  clear hc
  go_wp2_with fail
  exact bodyPost_ret (results_tmp2 rfl _ _ _) rfl (.inl ⟨HC.out,rfl,Mods.refl _ _⟩)
 | false =>
  rw [hc] at c3
  have HC:=Lib.hid hc
  clear hc
  go_wp2_with fail
  go_loopw [6,7] (fun l i wr=>∃ (k:Nat) (J:HF),k≤R.vs.length∧i=.int .i64 k∧reOk l (entsR pre (R.vs.take k))∧Turns [] (reRow l (entsR pre (R.vs.take k))++J) w wr) (fun _ i _=>R.vs.length-(intOf i).toNat)
  case atStart=>exact ⟨0,[],Nat.zero_le _,rfl,⟨rfl,fun _=>⟨rfl,rfl⟩⟩,Turns.refl (Sat.nil w)⟩
  case round =>
   obtain ⟨k,J,hk,rfl,hro,hT⟩:=hrel
   have hA:=HH.out.same hT.news
   obtain ⟨sl,cap,e1,e2,e3,hb,hcell⟩:=hA.row
   have c0:wr.cell? ⟨R.blk,0,none⟩=some (.slice sl R.vs.length cap):=by rw [← e1];exact qac hb 0 rfl
   have hbl':=qal hb
   by_cases hlt:k<R.vs.length
   ·obtain ⟨g,off,hg,hcc⟩:=hcell (by omega)
    subst hg
    obtain ⟨h0,h1,h2,h3⟩:=hcc k hlt
    obtain ⟨csl,ccap,hcv,-,-,-⟩:=hA.cont (List.getElem_mem hlt)
    rw [hcv] at h2
    have hnx:=qp5 (pre:=pre) hlt
    have hel:=qrb pre (R.vs.take k)
    have hen:=q5w (pre:=pre) (R.vs.take k)
    rw [List.length_take,Nat.min_eq_left hk] at hel hen
    obtain ⟨es,hes⟩:∃ es,es=entsR pre (R.vs.take k):=⟨_,rfl⟩
    rw [← hes] at hnx hel hen hro hT
    obtain ⟨rsl,rcap,hrv,hr2,hr3,hrc⟩:=qku hT.sat.left hro
    obtain ⟨pk,hpk⟩:∃ pk,pk=R.vs[k].path:=⟨_,rfl⟩
    obtain ⟨nk,hnk⟩:∃ nk,nk=R.vs[k].num:=⟨_,rfl⟩
    obtain ⟨cl,hcl⟩:∃ cl,cl=R.vs[k].cont.length:=⟨_,rfl⟩
    unfold qdx at hnx
    rw [← hpk] at h0 hnx
    rw [← hnk] at h1 hnx
    rw [← hcl] at h2 hnx
    have hgl:=World.block_lt_of_cell? wr _ h0
    subst hrv
    have HX:=Lib.hid (And.intro hnx (And.intro hro (And.intro hT (And.intro hen hrc))))
    clear hcc hcell hA hcv hnx hpk hnk hcl hes hro hT hen hb e1
    by_cases hsh:pk.length<pre.length
    ·have hfin:entsR pre (R.vs.take (k+1))=es:=by rw [HX.out.1,q0z hsh];rfl
     have HF:=Lib.hid hfin
     clear hfin hrc
     go_wp2_with fail
     go_roundw
     case rel=>exact ⟨k+1,J,by omega,by go_num,by rw [HF.out];exact HX.out.2.1,by rw [HF.out];exact HX.out.2.2.1.alloc _⟩
     case measure=>simp [intOf];omega
    ·by_cases hpx:pk.take pre.length=pre
     ·have hpx2:pre.isPrefixOf pk=true:=by rw [qvj (by omega)];simp [hpx]
      have hpq:(((ByteArray.mk pk.toArray).extract 0 pre.length).toList==pre)=true:=by rw [qul];simp [hpx]
      obtain ⟨cv,hcv⟩:∃ cv:Value,cv=.slice csl cl ccap:=⟨_,rfl⟩
      obtain ⟨hv,hhv⟩:∃ hv:Value,hv=.int .i64 R.vs[k].held:=⟨_,rfl⟩
      have HV:=Lib.hid (And.intro hcv hhv)
      go_upto_region 9 with (fail)
      obtain ⟨vb,hvb⟩:∃ vb,vb=wr.heap.size:=⟨_,rfl⟩
      obtain ⟨m,hm⟩:∃ m,m=es.length:=⟨_,rfl⟩
      have hT1:Turns [] ((vb,Is (vcO pk nk cv hv))::(reRow (.slice rsl m rcap) es++J)) w (wr.alloc (.cells #[.string ⟨pk.toArray⟩,.int .i64 nk,.slice csl cl ccap,.int .i64 R.vs[k].held] 193)):=by
       rw [hvb,hm,hcv,hhv]
       exact HX.out.2.2.1.allocIs _
      have hro1:reOk (.slice rsl m rcap) es:=by rw [hm];exact HX.out.2.1
      rw [← hvb,← hm]
      rw [← hm] at hel hr2
      clear h0 h1 h2 h3 c0 hrc hgl hvb hbl' hcv hhv
      generalize wr.alloc (.cells #[.string ⟨pk.toArray⟩,.int .i64 nk,.slice csl cl ccap,.int .i64 R.vs[k].held] 193)=w1 at hT1 ⊢
      obtain ⟨rsl',rcap',e1,-,-,hrc⟩:=qku hT1.sat.tail.left hro1
      simp only [Value.slice.injEq] at e1
      obtain ⟨rfl,-,rfl⟩:=e1
      have v0:w1.cell? ⟨vb,0,none⟩=some (.string ⟨pk.toArray⟩):=qac hT1.sat.headIs 0 rfl
      have hvl:=qal hT1.sat.headIs
      have hnx:entsR pre (R.vs.take (k+1))=qhz (qc6 es pk) nk cl:=by rw [HX.out.1,hpx2];rfl
      have hnn:∀ e∈es,0≤e.n∧e.n≤k:=HX.out.2.2.2.1
      have hk100:k≤100000:=by omega
      have H1:=Lib.hid (And.intro hT1 (And.intro hro1 (And.intro hnx (And.intro hnn hm))))
      clear hT1 hro1 hnx hnn hpx2 hpx hpq
      have happ:∀ (v':Value) (W:World),reOk v' (es++[⟨pk,0,0,0⟩])→Turns [] (reRow v' (es++[⟨pk,0,0,0⟩])++((vb,Is (vcO pk nk cv hv))::J)) w W→∃ g2 cap2,v'=.slice (some ⟨g2,0,none⟩) (m+1) cap2∧Turns [] ((vb,Is (vcO pk nk cv hv))::(reRow (.slice (some ⟨g2,0,none⟩) (m+1) cap2) (es++[⟨pk,0,0,0⟩])++J)) w W:=by
       intro v' W h1 h2
       obtain ⟨sl2,cap2,e1,e2,e3,e4⟩:=qku h2.sat.left h1
       obtain ⟨g2,hg2,-⟩:=e4 (by simp)
       have e5:(es++[(⟨pk,0,0,0⟩:EntL)]).length=m+1:=by simp [H1.out.2.2.2.2]
       rw [e5,hg2] at e1
       subst e1
       exact ⟨g2,cap2,rfl,h2.to (qaf fun _=>by simp only [qad,qaa,qah]<;>omega)⟩
      have HAPP:=Lib.hid happ
      clear happ hm
      rcases List.eq_nil_or_concat es with rfl | ⟨es0,e,hes⟩
      ·have hm0:m=0:=H1.out.2.2.2.2
       subst hm0
       have hfin:entsR pre (R.vs.take (k+1))=[]++[⟨pk,nk,cl,0+1⟩]:=by rw [H1.out.2.2.1];rfl
       have HF:=Lib.hid hfin
       clear hfin hrc
       go_upto_region 10 with (fail)
       go_quiet (fail)
       have hT2:=H1.out.1.drewN nq
       have v0:(w1.drewN nq).cell? ⟨vb,0,none⟩=some (.string ⟨pk.toArray⟩):=qac hT2.sat.headIs 0 rfl
       have hvl:=qal hT2.sat.headIs
       generalize w1.drewN nq=w2 at hT2 v0 hvl ⊢
       have H2:=Lib.hid hT2
       clear hT2
       go_upto_region 12 with ((at_builtin;refine qak rfl ?_;refine qn7 (.tmp 60) (.tmp 64) rfl _ [] rfl ((H2.out.to (H:=reRow (.slice rsl 0 rcap) []++((vb,Is (vcO pk nk cv hv))::J)) (qaf fun _=>by simp only [qad,qaa,qah]<;>omega)).alloc _) H1.out.2.1 _ rfl ⟨pk,0,0,0⟩ (qa7 _ _) (by simp) ?_;intro v2 w3 hok3 hT3;have H3:=Lib.hid (And.intro hok3 (HAPP.out v2 w3 hok3 hT3));clear hok3 hT3))
       obtain ⟨hok3,g3,cap3,rfl,hT3⟩:=H3.out
       have HS:=Lib.hid (And.intro hT3 (And.intro hok3 (And.intro (show ([]:List EntL).length=0 from rfl) (show ((0:Int)+1≤9223372036854775807∧(0:Int)≤0) by omega))))
       clear hok3 hT3 v0 H3
       go_upto_region 13 with (fail)
       obtain ⟨k0,k1,k2,k3,k4,k5,k6,k7,k8,-⟩:=qfq HS.out.1 HS.out.2.1 HS.out.2.2.1
       have hne:=HS.out.2.2.2
       have hwn:wrap64 (0+1)=0+1:=by rw [IntWalk.wrap64_in _ (by omega)]
       clear k0 k5 hne
       go_wp2_with (first
        | (refine qak rfl (qfp (G:=(vb,Is (vcO pk nk cv hv))::J) 3 (.tmp 74) (.tmp 72) rfl (0) g3 cap3 [] _ ⟨pk,nk,0,0⟩ HS.out.2.2.1 (HS.out.1.to (qaf fun _=>by simp only [qad,qaa,qah]<;>omega)) HS.out.2.1 1 (by omega) (.int .i64 nk) rfl rfl (by kernel_rfl) rfl rfl rfl ?_);intro w13 hok13 hT13;have hT13':=hT13.to (H:=(vb,Is (vcO pk nk cv hv))::(reRow (.slice (some ⟨g3,0,none⟩) (0+1) cap3) ([]++[⟨pk,nk,0,0⟩])++J)) (qaf fun _=>by simp only [qad,qaa,qah]<;>omega);obtain ⟨-,-,m2,m3,m4,-,m6,-,-,-⟩:=qfq hT13' hok13 HS.out.2.2.1;rw [HV.out.1] at m2;have H13:=Lib.hid (And.intro hT13' hok13);clear hok13 hT13 hT13';simp only [Act.put])
        | (refine qak rfl (qfp (G:=(vb,Is (vcO pk nk cv hv))::J) 3 (.tmp 82) (.tmp 80) rfl (0) g3 cap3 [] _ ⟨pk,nk,cl,0⟩ HS.out.2.2.1 (H13.out.1.to (qaf fun _=>by simp only [qad,qaa,qah]<;>omega)) H13.out.2 2 (by omega) (.int .i64 cl) rfl rfl (by kernel_rfl) rfl rfl rfl ?_);intro w14 hok14 hT14;have hT14':=hT14.to (H:=(vb,Is (vcO pk nk cv hv))::(reRow (.slice (some ⟨g3,0,none⟩) (0+1) cap3) ([]++[⟨pk,nk,cl,0⟩])++J)) (qaf fun _=>by simp only [qad,qaa,qah]<;>omega);obtain ⟨-,-,p2,p3,p4,-,p6,-,-,p7⟩:=qfq hT14' hok14 HS.out.2.2.1;have H14:=Lib.hid (And.intro hT14' hok14);clear hok14 hT14 hT14' p2;simp only [Act.put])
        | (refine qak rfl (qfp (G:=(vb,Is (vcO pk nk cv hv))::J) 3 (.tmp 91) (.tmp 89) rfl (0) g3 cap3 [] _ ⟨pk,nk,cl,0+1⟩ HS.out.2.2.1 (H14.out.1.to (qaf fun _=>by simp only [qad,qaa,qah]<;>omega)) H14.out.2 3 (by omega) (.int .i64 (0+1)) rfl rfl (by kernel_rfl) rfl rfl rfl ?_);intro w15 hok15 hT15;have H15:=Lib.hid (And.intro (hT15.to (H:=reRow (.slice (some ⟨g3,0,none⟩) (0+1) cap3) ([]++[⟨pk,nk,cl,0+1⟩])++((vb,Is (vcO pk nk cv hv))::J)) (qaf fun _=>by simp only [qad,qaa,qah]<;>omega)) hok15);clear hok15 hT15;simp only [Act.put]))
       go_roundw
       case rel=>exact ⟨k+1,_,by omega,by go_num,by rw [HF.out];exact H15.out.2,by rw [HF.out];exact H15.out.1⟩
       case measure=>simp [intOf];omega
      ·obtain ⟨z,hz⟩:∃ z,z=es0.length:=⟨_,rfl⟩
       rw [List.concat_eq_append] at hes
       subst hes
       have hmz:m=z+1:=by rw [H1.out.2.2.2.2,hz];simp
       obtain ⟨g2,hg2,hgl2,hc⟩:=hrc (by simp)
       subst hg2
       obtain ⟨r0,r1,r2,r3⟩:=hc z (by simp;omega)
       have hze:(es0++[e])[z]'(by simp;omega)=e:=by subst hz;simp
       rw [hze] at r0 r3
       have hne:0≤e.n∧e.n≤k:=H1.out.2.2.2.1 e (by simp)
       obtain ⟨ep,el,es_,en⟩:=e
       have HZ:=Lib.hid (And.intro hz.symm hne)
       clear hc r1 r2 r3 hze hz hne
       have hgl:=hgl2
       by_cases hep:ep=pk
       ·subst hep
        subst hmz
        have hfin:entsR pre (R.vs.take (k+1))=es0++[⟨ep,nk,cl,en+1⟩]:=by
         rw [H1.out.2.2.1]
         have:qc6 (es0++[(⟨ep,el,es_,en⟩:EntL)]) ep=es0++[⟨ep,el,es_,en⟩]:=by unfold qc6;rw [if_pos (by simp)]
         rw [this,qhs]
        have HF:=Lib.hid hfin
        have hw1:wrap64 ((z:Int)+1-1)=(z:Int):=by rw [IntWalk.wrap64_in _ (by omega)];omega
        have hz0:((z:Int)+1==0)=false:=by simp;omega
        clear hfin
        go_upto_region 10 with (fail)
        go_quiet (fail)
        have hT2:=H1.out.1.drewN nq
        have v0:(w1.drewN nq).cell? ⟨vb,0,none⟩=some (.string ⟨ep.toArray⟩):=qac hT2.sat.headIs 0 rfl
        have hvl:=qal hT2.sat.headIs
        generalize w1.drewN nq=w2 at hT2 v0 hvl ⊢
        have H2:=Lib.hid hT2
        clear hT2
        have hT2':=H2.out
        have HS:=Lib.hid (And.intro hT2' (And.intro H1.out.2.1 (And.intro HZ.out.1 (show (en+1≤9223372036854775807∧(0:Int)≤en) by have h9:0≤en∧en≤(k:Int):=HZ.out.2;omega))))
        clear hT2' r0 v0 hz0
        go_upto_region 13 with (fail)
        obtain ⟨k0,k1,k2,k3,k4,k5,k6,k7,k8,-⟩:=qfq HS.out.1 HS.out.2.1 HS.out.2.2.1
        have hne:=HS.out.2.2.2
        have hwn:wrap64 (en+1)=en+1:=by rw [IntWalk.wrap64_in _ (by omega)]
        clear k0 k5 hne
        go_wp2_with (first
         | (refine qak rfl (qfp (G:=(vb,Is (vcO ep nk cv hv))::J) 3 (.tmp 74) (.tmp 72) rfl (z) g2 rcap es0 _ ⟨ep,nk,es_,en⟩ HS.out.2.2.1 (HS.out.1.to (qaf fun _=>by simp only [qad,qaa,qah]<;>omega)) HS.out.2.1 1 (by omega) (.int .i64 nk) rfl rfl (by kernel_rfl) rfl rfl rfl ?_);intro w13 hok13 hT13;have hT13':=hT13.to (H:=(vb,Is (vcO ep nk cv hv))::(reRow (.slice (some ⟨g2,0,none⟩) (z+1) rcap) (es0++[⟨ep,nk,es_,en⟩])++J)) (qaf fun _=>by simp only [qad,qaa,qah]<;>omega);obtain ⟨-,-,m2,m3,m4,-,m6,-,-,-⟩:=qfq hT13' hok13 HS.out.2.2.1;rw [HV.out.1] at m2;have H13:=Lib.hid (And.intro hT13' hok13);clear hok13 hT13 hT13';simp only [Act.put])
         | (refine qak rfl (qfp (G:=(vb,Is (vcO ep nk cv hv))::J) 3 (.tmp 82) (.tmp 80) rfl (z) g2 rcap es0 _ ⟨ep,nk,cl,en⟩ HS.out.2.2.1 (H13.out.1.to (qaf fun _=>by simp only [qad,qaa,qah]<;>omega)) H13.out.2 2 (by omega) (.int .i64 cl) rfl rfl (by kernel_rfl) rfl rfl rfl ?_);intro w14 hok14 hT14;have hT14':=hT14.to (H:=(vb,Is (vcO ep nk cv hv))::(reRow (.slice (some ⟨g2,0,none⟩) (z+1) rcap) (es0++[⟨ep,nk,cl,en⟩])++J)) (qaf fun _=>by simp only [qad,qaa,qah]<;>omega);obtain ⟨-,-,p2,p3,p4,-,p6,-,-,p7⟩:=qfq hT14' hok14 HS.out.2.2.1;have H14:=Lib.hid (And.intro hT14' hok14);clear hok14 hT14 hT14' p2;simp only [Act.put]))
        go_roundw
        case rel=>have HR:=q1y (G:=(vb,Is (vcO ep nk cv hv))::J) (z) g2 rcap es0 ⟨ep,nk,cl,en⟩ ⟨ep,nk,cl,en+1⟩ HS.out.2.2.1 (H14.out.1.to (qaf fun _=>by simp only [qad,qaa,qah]<;>omega)) H14.out.2 3 (by omega) (.int .i64 (en+1)) rfl;exact ⟨k+1,_,by omega,by go_num,by rw [HF.out];exact HR.1,by rw [HF.out];exact HR.2⟩
        case measure=>simp [intOf];omega
       ·have hfin:entsR pre (R.vs.take (k+1))=es0++[⟨ep,el,es_,en⟩]++[⟨pk,nk,cl,0+1⟩]:=by
         rw [H1.out.2.2.1]
         have:qc6 (es0++[(⟨ep,el,es_,en⟩:EntL)]) pk=es0++[⟨ep,el,es_,en⟩]++[⟨pk,0,0,0⟩]:=by unfold qc6;rw [if_neg (by simp [hep])]
         rw [this,qhs]
        have HF:=Lib.hid hfin
        subst hmz
        have hw0:wrap64 ((z:Int)+1-1)=(z:Int):=by rw [IntWalk.wrap64_in _ (by omega)];omega
        have hz0:((z:Int)+1==0)=false:=by simp;omega
        have hepq:(ep==pk)=false:=by simp [hep]
        have hel2:(es0++[(⟨ep,el,es_,en⟩:EntL)]).length≤1000000:=by simp;have:=HZ.out.1;omega
        have HE2:=Lib.hid hel2
        obtain ⟨esx,hesx⟩:∃ esx,esx=es0++[(⟨ep,el,es_,en⟩:EntL)]:=⟨_,rfl⟩
        rw [← hesx] at H1 HAPP HF HE2
        clear hfin hel2 hesx
        go_upto_region 10 with (fail)
        go_quiet (fail)
        have hT2:=H1.out.1.drewN nq
        have v0:(w1.drewN nq).cell? ⟨vb,0,none⟩=some (.string ⟨pk.toArray⟩):=qac hT2.sat.headIs 0 rfl
        have hvl:=qal hT2.sat.headIs
        generalize w1.drewN nq=w2 at hT2 v0 hvl ⊢
        have H2:=Lib.hid hT2
        clear hT2
        obtain ⟨m,hm⟩:∃ m,m=z+1:=⟨_,rfl⟩
        have e1:(z:Int)+1=(m:Int):=by omega
        rw [← hm] at H1 HAPP H2 hel hr2
        rw [← hm]
        simp only [e1]
        have hw1:wrap64 ((m:Int)+1-1)=(m:Int):=by rw [IntWalk.wrap64_in _ (by omega)];omega
        clear e1 hm hw0 hz0 hepq r0
        go_upto_region 12 with ((at_builtin;refine qak rfl ?_;refine qn7 (.tmp 60) (.tmp 64) rfl _ esx rfl ((H2.out.to (H:=reRow (.slice (some ⟨g2,0,none⟩) m rcap) esx++((vb,Is (vcO pk nk cv hv))::J)) (qaf fun _=>by simp only [qad,qaa,qah]<;>omega)).alloc _) H1.out.2.1 _ rfl ⟨pk,0,0,0⟩ (qa7 _ _) (HE2.out) ?_;intro v2 w3 hok3 hT3;have H3:=Lib.hid (And.intro hok3 (HAPP.out v2 w3 hok3 hT3));clear hok3 hT3))
        obtain ⟨hok3,g3,cap3,rfl,hT3⟩:=H3.out
        have HS:=Lib.hid (And.intro hT3 (And.intro hok3 (And.intro H1.out.2.2.2.2.symm (show ((0:Int)+1≤9223372036854775807∧(0:Int)≤0) by omega))))
        clear hok3 hT3 v0 H3
        go_upto_region 13 with (fail)
        obtain ⟨k0,k1,k2,k3,k4,k5,k6,k7,k8,-⟩:=qfq HS.out.1 HS.out.2.1 HS.out.2.2.1
        have hne:=HS.out.2.2.2
        have hwn:wrap64 (0+1)=0+1:=by rw [IntWalk.wrap64_in _ (by omega)]
        clear k0 k5 hne
        go_wp2_with (first
         | (refine qak rfl (qfp (G:=(vb,Is (vcO pk nk cv hv))::J) 3 (.tmp 74) (.tmp 72) rfl (m) g3 cap3 esx _ ⟨pk,nk,0,0⟩ HS.out.2.2.1 (HS.out.1.to (qaf fun _=>by simp only [qad,qaa,qah]<;>omega)) HS.out.2.1 1 (by omega) (.int .i64 nk) rfl rfl (by kernel_rfl) rfl rfl rfl ?_);intro w13 hok13 hT13;have hT13':=hT13.to (H:=(vb,Is (vcO pk nk cv hv))::(reRow (.slice (some ⟨g3,0,none⟩) (m+1) cap3) (esx++[⟨pk,nk,0,0⟩])++J)) (qaf fun _=>by simp only [qad,qaa,qah]<;>omega);obtain ⟨-,-,m2,m3,m4,-,m6,-,-,-⟩:=qfq hT13' hok13 HS.out.2.2.1;rw [HV.out.1] at m2;have H13:=Lib.hid (And.intro hT13' hok13);clear hok13 hT13 hT13';simp only [Act.put])
         | (refine qak rfl (qfp (G:=(vb,Is (vcO pk nk cv hv))::J) 3 (.tmp 82) (.tmp 80) rfl (m) g3 cap3 esx _ ⟨pk,nk,cl,0⟩ HS.out.2.2.1 (H13.out.1.to (qaf fun _=>by simp only [qad,qaa,qah]<;>omega)) H13.out.2 2 (by omega) (.int .i64 cl) rfl rfl (by kernel_rfl) rfl rfl rfl ?_);intro w14 hok14 hT14;have hT14':=hT14.to (H:=(vb,Is (vcO pk nk cv hv))::(reRow (.slice (some ⟨g3,0,none⟩) (m+1) cap3) (esx++[⟨pk,nk,cl,0⟩])++J)) (qaf fun _=>by simp only [qad,qaa,qah]<;>omega);obtain ⟨-,-,p2,p3,p4,-,p6,-,-,p7⟩:=qfq hT14' hok14 HS.out.2.2.1;have H14:=Lib.hid (And.intro hT14' hok14);clear hok14 hT14 hT14' p2;simp only [Act.put]))
        go_roundw
        case rel=>have HR:=q1y (G:=(vb,Is (vcO pk nk cv hv))::J) (m) g3 cap3 esx ⟨pk,nk,cl,0⟩ ⟨pk,nk,cl,0+1⟩ HS.out.2.2.1 (H14.out.1.to (qaf fun _=>by simp only [qad,qaa,qah]<;>omega)) H14.out.2 3 (by omega) (.int .i64 1) rfl;exact ⟨k+1,_,by omega,by go_num,by rw [HF.out];exact HR.1,by rw [HF.out];exact HR.2⟩
        case measure=>simp [intOf];omega
     ·have hfin:entsR pre (R.vs.take (k+1))=es:=by rw [HX.out.1,qvj (by omega),decide_eq_false hpx];rfl
      have hpq:(((ByteArray.mk pk.toArray).extract 0 pre.length).toList==pre)=false:=by rw [qul];simp [hpx]
      have HF:=Lib.hid hfin
      clear hfin hrc
      go_wp2_with fail
      go_roundw
      case rel=>exact ⟨k+1,J,by omega,by go_num,by rw [HF.out];exact HX.out.2.1,by rw [HF.out];exact HX.out.2.2.1.alloc _⟩
      case measure=>simp [intOf];omega
   ·obtain rfl:k=R.vs.length:=by omega
    clear hcell
    rw [List.take_length] at hro hT
    have HX:=Lib.hid (And.intro hro hT)
    clear hro hT
    go_wp2_with fail
    exact bodyPost_ret (results_tmp2 rfl _ _ _) rfl (.inr ⟨HC.out,u6,rfl,HX.out.1,HX.out.2.drop (fun x=>by simp only [qaa];omega)⟩)
end Go.Proofs.YtdhobpbngkainaaGreatDoor
