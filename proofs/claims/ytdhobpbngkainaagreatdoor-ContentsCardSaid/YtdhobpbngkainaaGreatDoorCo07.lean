/- Ours. A part of the proof, made small by a program. -/
import Derived.Test.YtdhobpbngkainaaGreatDoorCo06
import Derived.Lib.ConvBytes
set_option maxRecDepth 100000
set_option maxHeartbeats 4000000
namespace Go.Proofs.YtdhobpbngkainaaGreatDoor
open Go.RowKit Go.Shelf
def Own (S S':Nat→Prop) (A B:World):Prop:=Mods S A B∧∀ k,S' k→k<B.heap.size∧(S k∨A.heap.size≤k)
def q2e (I:Nat→(Nat→Prop)→World→Prop) (Ix:Code→Nat→(Nat→Prop)→World→Prop) (i:Nat) (S:Nat→Prop) (A:World):Exit→Act→World→Prop
 | .normal,_,B=>∃ S',I (i+1) S' B∧Own S S' A B
 | .ret,_,B=>∃ S',Ix .ret i S' B∧Own S S' A B
 | .exit id,_,B=>∃ S',Ix (.exit id) i S' B∧Own S S' A B
 | .goto t,_,B=>∃ S',Ix (.goto t) i S' B∧Own S S' A B
 | .panic _,_,_=>False
 | .outgrown,_,_=>False
def qdu (d off:Nat) (data:List UInt8) (i:Nat):Value :=
 .slice (some ⟨d,off+((qas data).take i).sum,none⟩) ((qas data).getD i 0) ((qas data).getD i 0)
theorem q60 {S S':Nat→Prop} {A B:World} (h:Own S S' A B):∀ k,S' k→k<B.heap.size:=fun k hk=>(h.2 k hk).1
theorem q1z {n:Nat} {g:Operand} {p:Tmp} {assign body:Code} {Q:Exit→Act→World→Prop} {a:Act} {w:World}
  (box d off cap:Nat) (a0:Option Addr) (data:List UInt8) (hg:a.eval g=.func (.func 123) #[] #[.pointer (some ⟨box,0,none⟩)])
  (ha:0<data.length→a0=some ⟨d,off,none⟩) (hcap:data.length≤cap) (hmax:data.length≤140737488351232)
  (hbox:w.heap[box]?=some (.cells #[.slice a0 data.length cap] 38 (0,0))) (hd:qdj w d off data) (hdw:d≠w.heap.size∧d≠w.heap.size+1)
  (I:Nat→(Nat→Prop)→World→Prop) (Ix:Code→Nat→(Nat→Prop)→World→Prop) (S0:Nat→Prop)
  (hSb:¬ S0 box) (hSd:¬ S0 d) (hSo:∀ k,S0 k→k<w.heap.size) (h0:I 0 S0 w) (hI:qps I) (hIx:∀ c,qps (Ix c)) (a₁:Nat→Act)
  (hassign:∀ (l i:Nat) (W:World) (K:Act→World→Prop),K (a₁ i) W →
   assign.wpIn (FW.inRound l) n Tryz.prog (Exit.then K (fun _ _ _=>False)) { tmps:=a.tmps.setIfInBounds p (qdu d off data i),defers:=[] } W)
  (hbody:∀ (l i:Nat) (S:Nat→Prop) (A:World),i<(qas data).length→I i S A→qdj A d off data→(∀ k,S k→k<A.heap.size)→¬ S d→w.heap.size≤A.heap.size →
   body.wpIn (FW.inRound l) n Tryz.prog (q2e I Ix i S A) (a₁ i) A)
  (hdone:∀ (D:Nat) (S:Nat→Prop) (B:World),w.heap.size≤D→I (qas data).length S B→Own S0 S w B→¬ S D→B.heap[D]?=some (.deferred (some [])) →
   Q .normal { a with defers:={ target:=.collected D,args:=#[] }::a.defers } B)
  (hstop:∀ (D i:Nat) (c:Code) (S:Nat→Prop) (B:World),w.heap.size≤D→i<(qas data).length→Ix c i S B→Own S0 S w B→¬ S D→B.heap[D]?=some (.deferred (some [])) →
   c.wpIn FW (n+1+1) Tryz.prog Q { a with defers:={ target:=.collected D,args:=#[] }::a.defers } B) :
  (Code.rangeFunc g #[p] assign body).wpIn FW (n+1+1) Tryz.prog Q a w:=by
 refine wpIn_rangeFunc ?_
 intro fn _
 obtain ⟨rec,hrec⟩:∃ rec:LoopState→Option Code→Loop,rec=fun st pe=>{ state:=st,pending:=pe,fn,tmps:=a.tmps,params:=#[p],assign,body,defers:=w.heap.size }:=⟨_,rfl⟩
 obtain ⟨W1,hW1⟩:∃ W1,(w.alloc (.deferred (some []))).alloc (.loop (rec .ready none))=W1:=⟨_,rfl⟩
 obtain ⟨L,hL⟩:∃ L,L=w.heap.size+1:=⟨_,rfl⟩
 obtain ⟨D,hD⟩:∃ D,D=w.heap.size:=⟨_,rfl⟩
 have hz1:W1.heap.size=w.heap.size+2:=by rw [← hW1];simp
 have hL1:W1.heap[L]?=some (.loop (rec .ready none)):=by
  rw [← hW1,hL];have:=World.alloc_heap_new (w.alloc (.deferred (some []))) (.loop (rec .ready none));rwa [World.size_alloc] at this
 have hK1:W1.heap[D]?=some (.deferred (some [])):=by
  rw [← hW1,hD];exact (Below.heap_alloc _ _ _ (by simp)).trans (World.alloc_heap_new w _)
 have hs1:Same w W1:=by rw [← hW1];exact ((Mods.refl _ w).alloc _).alloc _
 refine ⟨L,[{ target:=.collected D,args:=#[] }],W1,{ target:=.fn (.func 123) #[.pointer (some ⟨box,0,none⟩)],args:=#[.func (.yield L) #[] #[]] },W1,123,
  #[.func (.yield L) #[] #[]]++#[.pointer (some ⟨box,0,none⟩)],W1,?_,?_,?_,?_,(fun h=>by cases h),?_⟩
 ·rw [← hW1,hrec,hL,hD];exact run_enterLoop_outer _ _ _ _ _
 ·simp only [resolve,hg]
  simp [go_sem]
 ·intro f' _;trivial
 ·have eg:=enters_of (P:=Tryz.prog) Tryz.func123 (by kernel_rfl) rfl
  simp [invoke,go_sem,eg _ W1]
 ·obtain ⟨J,hJ⟩:∃ J:Nat→(Nat→Prop)→World→Prop,J=fun i T A=>∃ S,I i S A∧(∀ q,T q↔S q∨q=L∨q=D)∧¬ S L∧¬ S D∧A.heap[L]?=some (.loop (rec .ready none)) ∧
    A.heap[D]?=some (.deferred (some []))∧(∀ k,S k→k<A.heap.size)∧w.heap.size≤A.heap.size:=⟨_,rfl⟩
  obtain ⟨Jx,hJx⟩:∃ Jx:Nat→(Nat→Prop)→World→Prop,Jx=fun i T A=>∃ c S,Ix c i S A∧(∀ q,T q↔S q∨q=L∨q=D)∧¬ S L∧¬ S D∧A.heap[L]?=some (.loop (rec .done (some c))) ∧
    A.heap[D]?=some (.deferred (some []))∧(∀ k,S k→k<A.heap.size)∧w.heap.size≤A.heap.size:=⟨_,rfl⟩
  have hput:∀ {S:Nat→Prop} {A:World} (o:Obj),¬ S L→Mods (fun k=>¬ S k) A (A.putObj L o):=fun o h=>(Mods.refl _ _).putObj (.inl h) o
  have hbW:=qal hbox
  refine (qwy n L box d off cap a0 data J Jx W1 (fun q=>S0 q∨q=L∨q=D) ha hcap hmax (hs1.at hbox id) (hd.keep hs1 id) ?_ ?_ ?_ ?_ ?_ ?_).mono ?_
  ·rintro (h | h | h)
   ·exact hSb h
   ·omega
   ·omega
  ·rintro (h | h | h)
   ·exact hSd h
   ·omega
   ·omega
  ·rintro q (h | h | h)
   ·have:=hSo q h;omega
   ·omega
   ·omega
  ·rw [hJ]
   exact ⟨S0,hI 0 S0 w W1 h0 hSo (hs1.mods _),fun q=>Iff.rfl,fun h=>by have:=hSo _ h;omega,fun h=>by have:=hSo _ h;omega,hL1,hK1,fun k hk=>by have:=hSo k hk;omega,by omega⟩
  ·-- FRAMED
   rw [hJ]
   rintro i T A B ⟨S,hi,hT,hSL,hSD,hl,hk,ho,hz⟩ hTo hM
   have hM':Mods (fun k=>¬ S k) A B:=hM.mono (fun q hq=>.inl (fun h=>hq ((hT q).2 (.inl h))))
   exact ⟨S,hI i S A B hi ho hM',hT,hSL,hSD,hM.at hl (fun h=>h ((hT L).2 (.inr (.inl rfl)))),hM.at hk (fun h=>h ((hT D).2 (.inr (.inr rfl)))),fun k hk'=>Nat.lt_of_lt_of_le (ho k hk') hM.size,Nat.le_trans hz hM.size⟩
  ·-- ONE ROUND
   rintro i T A hi hj hdA hTo hTd
   rw [hJ] at hj
   obtain ⟨S,hi',hT,hSL,hSD,hl,hk,ho,hz⟩:=hj
   have hSd':¬ S d:=fun h=>hTd ((hT d).2 (.inl h))
   have hlt:=qal hl
   have hy:=run_yield (P:=Tryz.prog) (args:=#[qdu d off data i]) hl (by rw [hrec];rfl)
   rw [hrec] at hy
   have hget:qdu d off data i=.slice (some ⟨d,off+((qas data).take i).sum,none⟩) (qas data)[i] (qas data)[i]:=by
    simp [qdu,List.getD_eq_getElem?_getD,hi]
   rw [← hget]
   have hy':(Instr.yield L #[qdu d off data i]).run Tryz.prog A=.ok (.round L fn (a.tmps.setIfInBounds p (qdu d off data i)) assign body) A:=by
    rw [hy];simp
   refine ⟨fn,_,assign,body,hy',roundIn_of_wpIn trivial (hassign L i A (fun a₁' w₁=>∃ w₂,(Instr.beginRound L).run Tryz.prog w₁=.ok () w₂∧body.wpIn (FW.inRound L) n Tryz.prog (roundPost Tryz.prog L (qjq J Jx i T A)) a₁' w₂) ⟨_,run_beginRound hl (by rw [hrec]),?_⟩)⟩
   obtain ⟨A2,hA2⟩:∃ A2,A2=A.putObj L (.loop { rec .ready none with state:=.busy }):=⟨_,rfl⟩
   rw [← hA2]
   have hl2:A2.heap[L]?=some (.loop (rec .busy none)):=by rw [hA2,World.putObj_heap_same hlt,hrec]
   have hMA:Mods (fun k=>¬ S k) A A2:=by rw [hA2];exact hput _ hSL
   have hMA':Mods (fun k=>k=L) A A2:=by rw [hA2];exact Mods.putObj (S:=fun k=>k=L) (Mods.refl _ _) (r:=L) (Or.inl rfl) _
   have hzA:A2.heap.size=A.heap.size:=by rw [hA2];simp
   have hk2:A2.heap[D]?=some (.deferred (some [])):=hMA'.at hk (by omega)
   refine wpIn_mono (hbody L i S A2 hi (hI i S A A2 hi' ho hMA) (hdA.keep hMA' (by omega)) (fun q hq=>by have:=ho q hq;omega) hSd' (by omega)) ?_
   have fin:∀ (jump:Option Code) (S':Nat→Prop) (B:World),Own S S' A2 B →
     (Instr.endRound L jump).run Tryz.prog B=.ok (.bool jump.isNone) (B.putObj L (.loop (rec (if jump.isNone then .ready else .done) jump))) ∧
     ¬ S' L∧¬ S' D∧(B.putObj L (.loop (rec (if jump.isNone then .ready else .done) jump))).heap[L]?=some (.loop (rec (if jump.isNone then .ready else .done) jump)) ∧
     (B.putObj L (.loop (rec (if jump.isNone then .ready else .done) jump))).heap[D]?=some (.deferred (some [])) ∧
     Mods T A (B.putObj L (.loop (rec (if jump.isNone then .ready else .done) jump)))∧w.heap.size≤B.heap.size∧(∀ k,S' k→k<B.heap.size):=fun jump S' B hO=>by
    have hl3:B.heap[L]?=some (.loop (rec .busy none)):=hO.1.at hl2 hSL
    have hk3:=hO.1.at hk2 hSD
    have hr:=run_endRound (P:=Tryz.prog) jump hl3
    rw [hrec] at hr ⊢
    have hSL':¬ S' L:=fun h=>by
     rcases (hO.2 L h).2 with h' | h'
     ·exact hSL h'
     ·omega
    have hSD':¬ S' D:=fun h=>by
     rcases (hO.2 D h).2 with h' | h'
     ·exact hSD h'
     ·omega
    refine ⟨hr,hSL',hSD',World.putObj_heap_same (qal hl3),(World.putObj_heap_other (by omega)).trans hk3,?_,by have:=hO.1.size;omega,q60 hO⟩
    refine ((hMA'.mono (fun q hq=>.inl ((hT q).2 (.inr (.inl hq))))).trans (hO.1.mono (fun q hq=>.inl ((hT q).2 (.inl hq))))).putObj (.inl ((hT L).2 (.inr (.inl rfl)))) _
   have own':∀ (jump:Option Code) (S':Nat→Prop) (B:World),Own S S' A2 B→∀ k,(S' k∨k=L∨k=D)→k<(B.putObj L (.loop (rec (if jump.isNone then .ready else .done) jump))).heap.size∧(T k∨A.heap.size≤k):=fun jump S' B hO k hk'=>by
    have:=hO.1.size
    have:=qal hk
    rw [World.putObj_size]
    rcases hk' with h | h | h
    ·refine ⟨(hO.2 k h).1,?_⟩
     rcases (hO.2 k h).2 with h' | h'
     ·exact .inl ((hT k).2 (.inl h'))
     ·exact .inr (by omega)
    ·exact ⟨by omega,.inl ((hT k).2 (.inr (.inl h)))⟩
    ·exact ⟨by omega,.inl ((hT k).2 (.inr (.inr h)))⟩
   have left:∀ (c:Code) (S':Nat→Prop) (B:World),Ix c i S' B→Own S S' A2 B→∃ v w',(Instr.endRound L (some c)).run Tryz.prog B=.ok v w'∧qjq J Jx i T A (.returned v) w':=fun c S' B hx hO=>by
    obtain ⟨hr,hSL',hSD',hl4,hk4,hM4,hz4,ho4⟩:=fin (some c) S' B hO
    refine ⟨_,_,hr,.inr ⟨rfl,fun k=>S' k∨k=L∨k=D,?_,hM4,own' (some c) S' B hO⟩⟩
    rw [hJx]
    exact ⟨c,S',hIx c i S' B _ hx ho4 (hput _ hSL'),fun q=>Iff.rfl,hSL',hSD',hl4,hk4,fun k hk'=>by rw [World.putObj_size];exact ho4 k hk',by rw [World.putObj_size];exact hz4⟩
   rintro e a3 B hp
   cases e with
   | normal =>
    obtain ⟨S',hi3,hO⟩:=hp
    obtain ⟨hr,hSL',hSD',hl4,hk4,hM4,hz4,ho4⟩:=fin none S' B hO
    refine ⟨_,_,hr,.inl ⟨rfl,fun k=>S' k∨k=L∨k=D,?_,hM4,own' none S' B hO⟩⟩
    rw [hJ]
    exact ⟨S',hI (i+1) S' B _ hi3 ho4 (hput _ hSL'),fun q=>Iff.rfl,hSL',hSD',hl4,hk4,fun k hk'=>by rw [World.putObj_size];exact ho4 k hk',by rw [World.putObj_size];exact hz4⟩
   | ret=>obtain ⟨S',hx,hO⟩:=hp;exact left _ S' B hx hO
   | exit id=>obtain ⟨S',hx,hO⟩:=hp;exact left _ S' B hx hO
   | goto t=>obtain ⟨S',hx,hO⟩:=hp;exact left _ S' B hx hO
   | panic ch=>exact hp.elim
   | outgrown=>exact hp.elim
  ·-- BEHIND THE ITERATOR
   rintro e B ⟨⟨v,rfl⟩,T,hJJ,hM,hTo⟩
   have hz:=hM.size
   have back:∀ S,(∀ q,T q↔S q∨q=L∨q=D)→¬ S L→¬ S D→∀ o,Own S0 S w (B.putObj L o):=fun S hT hSL hSD o=>by
    refine ⟨((hs1.mods S0).trans' hM (fun q hq=>?_)).putObj (.inr (by omega)) o,fun k hk=>?_⟩
    ·rcases hq with h | h | h
     ·exact .inl h
     ·exact .inr (by omega)
     ·exact .inr (by omega)
    ·rw [World.putObj_size]
     obtain ⟨h1,h2⟩:=hTo k ((hT k).2 (.inl hk))
     refine ⟨h1,?_⟩
     rcases h2 with (h | h | h) | h
     ·exact .inl h
     ·exact absurd (h ▸ hk) hSL
     ·exact absurd (h ▸ hk) hSD
     ·exact .inr (by omega)
   rcases hJJ with hj | ⟨i,hiN,hx⟩
   ·rw [hJ] at hj
    obtain ⟨S,hi,hT,hSL,hSD,hl,hk,ho,hzz⟩:=hj
    have hr:=run_endLoop (P:=Tryz.prog) hl (by rw [hrec];simp)
    rw [hrec] at hr
    refine ⟨none,_,hr,?_⟩
    exact hdone D S _ (by omega) (hI _ S B _ hi ho (hput _ hSL)) (back S hT hSL hSD _) hSD ((World.putObj_heap_other (by omega)).trans hk)
   ·rw [hJx] at hx
    obtain ⟨c,S,hi,hT,hSL,hSD,hl,hk,ho,hzz⟩:=hx
    have hr:=run_endLoop (P:=Tryz.prog) hl (by rw [hrec];simp)
    rw [hrec] at hr
    refine ⟨some c,_,hr,?_⟩
    exact hstop D i c S _ (by omega) hiN (hIx c _ S B _ hi ho (hput _ hSL)) (back S hT hSL hSD _) hSD ((World.putObj_heap_other (by omega)).trans hk)
def postT (J:Nat→HF→Prop) (i:Nat) (F:HF) (A:World):Exit→Act→World→Prop
 | .normal,_,B=>∃ F',J (i+1) F'∧Turns F F' A B
 | .ret,_,_=>False
 | .exit _,_,_=>False
 | .goto _,_,_=>False
 | .panic _,_,_=>False
 | .outgrown,_,_=>False
theorem qzk {n:Nat} {g:Operand} {p:Tmp} {assign body:Code} {Q:Exit→Act→World→Prop} {a:Act} {w:World}
  (box d off cap:Nat) (a0:Option Addr) (data:List UInt8) (hg:a.eval g=.func (.func 123) #[] #[.pointer (some ⟨box,0,none⟩)])
  (ha:0<data.length→a0=some ⟨d,off,none⟩) (hcap:data.length≤cap) (hmax:data.length≤140737488351232)
  (hbox:w.heap[box]?=some (.cells #[.slice a0 data.length cap] 38 (0,0))) (hd:qdj w d off data) (hdw:d≠w.heap.size∧d≠w.heap.size+1)
  (J:Nat→HF→Prop) (F0:HF) (h0:J 0 F0) (hs:Sat w F0) (hSb:box∉dom F0) (hSd:d∉dom F0) (a₁:Nat→Act)
  (hassign:∀ (l i:Nat) (W:World) (K:Act→World→Prop),K (a₁ i) W →
   assign.wpIn (FW.inRound l) n Tryz.prog (Exit.then K (fun _ _ _=>False)) { tmps:=a.tmps.setIfInBounds p (qdu d off data i),defers:=[] } W)
  (hbody:∀ (l i:Nat) (F:HF) (A:World),i<(qas data).length→J i F→Sat A F→qdj A d off data→d∉dom F→w.heap.size≤A.heap.size →
   body.wpIn (FW.inRound l) n Tryz.prog (postT J i F A) (a₁ i) A)
  (hdone:∀ (D:Nat) (F:HF) (B:World),w.heap.size≤D→J (qas data).length F→Turns F0 F w B→D∉dom F→B.heap[D]?=some (.deferred (some [])) →
   Q .normal { a with defers:={ target:=.collected D,args:=#[] }::a.defers } B) :
  (Code.rangeFunc g #[p] assign body).wpIn FW (n+1+1) Tryz.prog Q a w:=by
 refine q1z box d off cap a0 data hg ha hcap hmax hbox hd hdw (fun i S A=>∃ F,J i F∧Sat A F∧∀ q,S q↔q∈dom F) (fun _ _ _ _=>False) (fun q=>q∈dom F0) hSb hSd (fun k hk=>hs.lt hk) ⟨F0,h0,hs,fun _=>Iff.rfl⟩
  ?_ (fun _ _ _ _ _ h=>h.elim) a₁ hassign ?_ ?_ (fun _ _ _ _ _ _ _ h=>h.elim)
 ·rintro i S A B ⟨F,hJ,hF,hS⟩ hlt hM
  exact ⟨F,hJ,hF.frame hM (fun b hb hn=>hn ((hS b).2 hb)),hS⟩
 ·rintro l i S A hi ⟨F,hJ,hF,hS⟩ hdA hlt hSd' hle
  refine wpIn_mono (hbody l i F A hi hJ hF hdA (fun h=>hSd' ((hS d).2 h)) hle) ?_
  intro e a3 B hp
  cases e with
  | normal =>
   obtain ⟨F',hJ',hT⟩:=hp
   refine ⟨fun q=>q∈dom F',⟨F',hJ',hT.sat,fun _=>Iff.rfl⟩,hT.mods.mono (fun b hb=>.inl ((hS b).2 hb)),fun k hk=>⟨hT.sat.lt hk,?_⟩⟩
   rcases hT.fresh k hk with h | h
   ·exact .inl ((hS k).2 h)
   ·exact .inr h
  | _=>exact hp.elim
 ·rintro D S B hD ⟨F,hJ,hF,hS⟩ hO hSD hK
  exact hdone D F B hD hJ ⟨hO.1,hF,fun b hb=>(hO.2 b ((hS b).2 hb)).2⟩ (fun h=>hSD ((hS D).2 h)) hK
theorem qkh {P:Program} {fn:Func} {p q:Tmp} {t1 t2:TypeId} (h:fn.results=#[.cell p t1,.cell q t2]) (tmps:Array Value) (w:World) (b c:Nat) (u v:Value) {d1 d2:TypeDesc}
  (hu1:P.underlying t1=some d1) (hd1:qe6 d1=true) (hu2:P.underlying t2=some d2) (hd2:qe6 d2=true)
  (hp:tmps.getD p undef=.pointer (some ⟨b,0,none⟩)) (hq:tmps.getD q undef=.pointer (some ⟨c,0,none⟩)) (hb:w.cell? ⟨b,0,none⟩=some u) (hc:w.cell? ⟨c,0,none⟩=some v) :
  (results fn tmps).run P w=.ok (.tuple #[u,v]) w:=by
 have hp':tmps[p]?.getD undef=.pointer (some ⟨b,0,none⟩):=by simpa using hp
 have hq':tmps[q]?.getD undef=.pointer (some ⟨c,0,none⟩):=by simpa using hq
 have e1:(loadVar t1 ⟨b,0,none⟩).run P w=.ok u w:=by
  cases d1<;>simp [qe6] at hd1<;>simp [loadVar,isAgg,underlying,hu1,Result.andThen,hb]
 have e2:(loadVar t2 ⟨c,0,none⟩).run P w=.ok v w:=by
  cases d2<;>simp [qe6] at hd2<;>simp [loadVar,isAgg,underlying,hu2,Result.andThen,hc]
 simp [results,h,hp',hq',asAddr,e1,e2]
structure RecL where
 val:Value
 bytes:Bs
def qc5 (v:Value) (l:List RecL):HF:=rowF 38 1 v (l.map (·.val)).length (l.map (·.val))++l.flatMap fun r=>bRow r.val r.bytes
def recOk (v:Value) (l:List RecL):Prop:=RowOk 1 v (l.map (·.val)).length (l.map (·.val))∧∀ r∈l,bOk r.val r.bytes
end Go.Proofs.YtdhobpbngkainaaGreatDoor
namespace Go.Proofs.YtdhobpbngkainaaGreatDoor
open Go.RowKit
theorem qu4 {n:Int} (h1 : -9223372036854775808≤n) (h2:n≤9223372036854775807):IntKind.i64.wrap n=n:=by
 unfold IntKind.wrap
 simp only [show IntKind.i64.bits=64 from rfl,show IntKind.i64.signed=true from rfl,Bool.true_and,decide_eq_true_eq]
 split<;>omega
theorem qot {P:Program} {t:TypeId} {a b:Int} (h1 : -9223372036854775808≤a+b) (h2:a+b≤9223372036854775807) (w:World):(binOp .add t (.int .i64 a) (.int .i64 b)).run P w=.ok (.int .i64 (a+b)) w:=by
 simp [binOp,Op.intArith,qu4 h1 h2]
theorem q4d {P:Program} {t:TypeId} {a b:Int} (h1 : -9223372036854775808≤a-b) (h2:a-b≤9223372036854775807) (w:World):(binOp .sub t (.int .i64 a) (.int .i64 b)).run P w=.ok (.int .i64 (a-b)) w:=by
 simp [binOp,Op.intArith,qu4 h1 h2]
theorem q3r {P:Program} {t:TypeId} {a b:Int} (w:World):(binOp .gtr t (.int .i64 a) (.int .i64 b)).run P w=.ok (.bool (decide (b<a))) w:=by
 simp [binOp,Op.intCmp]
theorem w_bin {P:Program} {o:Oper} {a:Act} {w:World} {K:Act→World→Prop} {Q:Exit→Act→World→Prop} (op:BinOp) (tx ty:TypeId) (x y:Operand) {u v r:Value} (ho:o.op=.binOp op tx x y ty) (hx:a.eval x=u) (hy:a.eval y=v)
  (h:(binOp op tx u v).run P w=.ok r w) (hs:(match op with | .shl | .shr | .eql | .neq=>false | _=>true)=true) (hk:K (a.put o.dst r) w):o.wp P a w K Q:=by
 refine qag (v:=r) (w':=w) ?_ hk
 have:execOp a.eval o=(do let v ← binOp op tx u v;pure (.value v)):=by
  unfold execOp
  rw [ho]
  cases op<;>simp [eqGuard] at hs ⊢<;>simp [hx,hy]
 rw [this]
 simp [h]
theorem qvl {P:Program} {o:Oper} {a:Act} {w:World} {K:Act→World→Prop} {Q:Exit→Act→World→Prop} (t e:TypeId) (x i:Operand) (ho:o.op=.indexAddr t x i) (ht:P.underlying t=some (.slice e)) {sz:Nat} (hsz:(P.info? e).map (·.size)=some sz)
  {g off n c:Nat} {k:Int} (hx:a.eval x=.slice (some ⟨g,off,none⟩) n c) (hi:a.eval i=.int .i64 k) (h0:0≤k) (h1:k<n) (hk:K (a.put o.dst (.pointer (some ⟨g,off+k.toNat*sz,none⟩))) w):o.wp P a w K Q:=by
 have he:P.elem t=e:=by simp [Program.elem,ht]
 obtain ⟨j,hj,hjs⟩:=Option.map_eq_some_iff.1 hsz
 refine qag (v:=.pointer (some ⟨g,off+k.toNat*sz,none⟩)) (w':=w) ?_ hk
 have hr:=run_indexAt_slice (P:=P) w t ⟨g,off,none⟩ n c .i64 k (by rw [he];exact ht)
 rw [if_pos ⟨h0,h1⟩,he] at hr
 have hso:(sizeOf e).run P w=.ok sz w:=by simp [sizeOf,typeInfo,hj,hjs]
 rw [hso] at hr
 simp only [execOp,ho,hx,hi]
 simp only [Sem.run_bind,hr,Result.andThen_ok,Sem.run_pure,Addr.add_lit]
end Go.Proofs.YtdhobpbngkainaaGreatDoor
namespace Go.Proofs.YtdhobpbngkainaaGreatDoor
open Go.RowKit Go.Maps Go.Shelf
theorem qfo (has:List Bs) (c:Bs):∀ (l acc:List Bs),qbp has acc (l++[c])=if c∈has∨c∈qbp has acc l then qbp has acc l else qbp has acc l++[c]
 | [],acc=>by simp only [List.nil_append,qbp];congr
 | x::l,acc=>by
  simp only [List.cons_append,qbp]
  split<;>exact qfo has c l _
theorem qgb (has:List Bs):∀ (l acc:List Bs),∀ c∈qbp has acc l,c∈acc∨(c∈l∧c∉has)
 | [],acc=>fun c h=>.inl h
 | x::l,acc=>fun c h=>by
  simp only [qbp] at h
  split at h
  ·rcases qgb has l acc c h with h' | ⟨h1,h2⟩
   ·exact .inl h'
   ·exact .inr ⟨List.mem_cons_of_mem _ h1,h2⟩
  ·rename_i hn
   rcases qgb has l _ c h with h' | ⟨h1,h2⟩
   ·rcases List.mem_append.1 h' with h' | h'
    ·exact .inl h'
    ·simp only [List.mem_singleton] at h';subst h';exact .inr ⟨by simp,fun hh=>hn (.inl hh)⟩
   ·exact .inr ⟨List.mem_cons_of_mem _ h1,h2⟩
theorem qgj (has:List Bs):∀ (l acc:List Bs),acc.Nodup→(qbp has acc l).Nodup
 | [],acc,h=>h
 | x::l,acc,h=>by
  simp only [qbp]
  split
  ·exact qgj has l acc h
  ·rename_i hn
   refine qgj has l _ (List.nodup_append.2 ⟨h,by simp,?_⟩)
   intro a ha b hb e
   simp only [List.mem_singleton] at hb
   exact hn (.inr (hb ▸ e ▸ ha))
theorem qht (has:List Bs):∀ (l acc:List Bs),(qbp has acc l).length≤acc.length+l.length
 | [],acc=>by simp [qbp]
 | x::l,acc=>by
  simp only [qbp]
  split
  ·have:=qht has l acc;simp;omega
  ·have:=qht has l (acc++[x]);simp at this ⊢;omega
def qed (q:Nat×Nat):Value:=.agg #[.int .i64 q.1,.int .i64 q.2]
def qba:Nat→Nat→List Bs→List (Ent Bs)
 | _,_,[]=>[]
 | at_,b,c::r=>⟨c,qed (at_,c.length),b⟩::qba (at_+c.length+9) (b+1) r
theorem qeb:∀ (l:List Bs) (at_ b:Nat),(qba at_ b l).map (·.key)=l
 | [],_,_=>rfl
 | c::r,at_,b=>by simp [qba,qeb r]
theorem qk6 (l:List Bs) (at_ b:Nat):(qba at_ b l).length=l.length:=by
 have:=congrArg List.length (qeb l at_ b)
 simpa using this
theorem qeh (c:Bs) (r:List Bs):qa1 (c::r)=c.length+9+qa1 r:=rfl
theorem qqn (l:List Bs) (c:Bs):qa1 (l++[c])=qa1 l+(c.length+9):=by simp [qa1]
theorem qlx (m:List Bs):∀ (l:List Bs) (at_ b:Nat),qba at_ b (l++m)=qba at_ b l++qba (at_+qa1 l) (b+l.length) m
 | [],at_,b=>by simp [qba,qa1]
 | c::r,at_,b=>by
  simp only [List.cons_append,qba,qlx m r,qeh,List.length_cons]
  rw [show at_+c.length+9+qa1 r=at_+(c.length+9+qa1 r) by omega,show b+1+r.length=b+(r.length+1) by omega]
theorem qjy:∀ (l:List Bs) (at_ b:Nat),∀ e∈qba at_ b l,b≤e.born∧e.born<b+l.length
 | [],_,_,e,h=>by simp [qba] at h
 | c::r,at_,b,e,h=>by
  simp only [qba,List.mem_cons] at h
  rcases h with rfl | h
  ·simp
  ·have:=qjy r _ _ e h;simp;omega
theorem qmr:∀ (l:List Bs) (at_ b:Nat),((qba at_ b l).map (·.born)).Nodup
 | [],_,_=>by simp [qba]
 | c::r,at_,b=>by
  simp only [qba,List.map_cons,List.nodup_cons]
  refine ⟨fun h=>?_,qmr r _ _⟩
  obtain ⟨e,he,hb⟩:=List.mem_map.1 h
  have:=qjy r _ _ e he
  omega
theorem qrx {l:List Bs} (h:l.Nodup) (hs:∀ c∈l,OkS c) (at_:Nat):MapOk OkS (qba at_ 0 l) l.length where
 nodup:=by rw [qeb];exact h
 borns:=qmr l at_ 0
 lt:=fun e he=>by have:=qjy l at_ 0 e he;omega
 ok:=fun e he=>hs _ (by rw [← qeb l at_ 0];exact List.mem_map.2 ⟨e,he,rfl⟩)
theorem qlu:∀ (l:List Bs) (at_ b:Nat),∀ e∈qba at_ b l,∃ q,(e.key,q)∈qbo at_ l∧e.val=qed q
 | [],_,_,e,h=>by simp [qba] at h
 | c::r,at_,b,e,h=>by
  simp only [qba,List.mem_cons] at h
  rcases h with rfl | h
  ·exact ⟨_,List.mem_cons_self,rfl⟩
  ·obtain ⟨q,h1,h2⟩:=qlu r _ _ e h
   exact ⟨q,List.mem_cons_of_mem _ h1,h2⟩
theorem qqb:∀ (l:List Bs) (at_ b:Nat),(qba at_ b l).map (fun e=>(e.key,e.val))=(qbo at_ l).map (fun p=>(p.1,qed p.2))
 | [],_,_=>rfl
 | c::r,at_,b=>by simp [qba,qbo,qqb r]
theorem qih (l:List Bs) (at_ b:Nat) (c:Bs):hasE (qba at_ b l) c=decide (c∈l):=by
 rw [Bool.eq_iff_iff,q30,decide_eq_true_eq]
 have hk:=qeb l at_ b
 constructor
 ·rintro ⟨e,he,rfl⟩
  rw [← hk];exact List.mem_map.2 ⟨e,he,rfl⟩
 ·intro h
  rw [← hk] at h
  obtain ⟨e,he,h2⟩:=List.mem_map.1 h
  exact ⟨e,he,h2⟩
theorem qyn {l:List Bs} {at_ b:Nat} {c:Bs} (h:c∈l):∃ q,(c,q)∈qbo at_ l∧getE (qba at_ b l) c=some (qed q):=by
 have h1:=qih l at_ b c
 rw [decide_eq_true h,qfb] at h1
 cases hg:getE (qba at_ b l) c with
 | none=>rw [hg] at h1;cases h1
 | some v =>
  obtain ⟨e,he,hk,hv⟩:=qmd hg
  obtain ⟨q,hq,h2⟩:=qlu l at_ b e he
  exact ⟨q,hk ▸ hq,by rw [← hv,h2]⟩
theorem qz7 {l:List Bs} {at_:Nat} {c:Bs} (h:c∉l):putE (qba at_ 0 l) l.length c (qed (at_+qa1 l,c.length))=qba at_ 0 (l++[c])∧putC (qba at_ 0 l) l.length c=(l++[c]).length:=by
 have h1:=qih l at_ 0 c
 rw [decide_eq_false h] at h1
 unfold putE putC
 rw [h1,qlx]
 simp [qba]
theorem qnz (l:List Bs) (c:Bs) (at_:Nat):qbo at_ (l++[c])=qbo at_ l++[(c,at_+qa1 l,c.length)]:=by rw [qst];rfl
theorem qbz (D:Bs):(qav D).length=(qas D).length:=qce _ _
def qi6 (D:Bs) (i:Nat):Bs:=(D.drop ((qas D).take i).sum).take ((qas D).getD i 0)
theorem qd0 {D:Bs} {i:Nat} (h:i<(qas D).length):(qav D).take (i+1)=(qav D).take i++[qi6 D i]:=by
 have h':i<(qav D).length:=by rw [qbz];exact h
 have e:(qav D)[i]=(D.drop ((qas D).take i).sum).take (qas D)[i]:=qgf _ _ _ h
 rw [List.take_succ_eq_append_getElem h',e]
 unfold qi6
 simp [List.getD_eq_getElem?_getD,h]
theorem qj6 (l:List Nat) (i:Nat) (h:i<l.length):(l.take i).sum+l[i]≤l.sum:=by
 conv=>rhs;rw [← List.take_append_drop (i+1) l,List.sum_append,List.take_succ_eq_append_getElem h,List.sum_append]
 simp
theorem qpj {D:Bs} {i:Nat} (h:i<(qas D).length):(qi6 D i).length=(qas D).getD i 0:=by
 have h1:=qj6 (qas D) i h
 rw [qex] at h1
 unfold qi6
 rw [List.length_take,List.length_drop]
 simp only [List.getD_eq_getElem?_getD,h,List.getElem?_eq_getElem,Option.getD_some]
 omega
theorem qtl {w:World} {d off:Nat} {D:Bs} {i:Nat} (hD:qdj w d off D) (h:i<(qas D).length):qaj w (some ⟨d,off+((qas D).take i).sum,none⟩) ((qi6 D i).map enc8):=fun _=>by
 refine ⟨d,_,rfl,fun j hj=>?_⟩
 have hl:=qpj h
 have h1:=qj6 (qas D) i h
 rw [qex] at h1
 have e:(qas D).getD i 0=(qas D)[i]:=by simp [List.getD_eq_getElem?_getD,h]
 rw [List.length_map,hl,e] at hj
 have:=hD (((qas D).take i).sum+j) (by omega)
 rw [← Nat.add_assoc] at this
 rw [this]
 simp [qi6,enc8]
def intO (n:Int):Obj:=.cells #[.int .i64 n] 3 (0,0)
def boxA (a:Nat):Obj:=.cells #[.pointer (some ⟨a,0,none⟩)] 32 (0,0)
def errO (v:Value):Obj:=.cells #[v] 45 (0,0)
def vboxO (b:Nat):Obj:=.cells #[.pointer (some ⟨b,0,none⟩)] 149 (0,0)
def recsO (v:Value):Obj:=.cells #[v] 61 (0,0)
def fmapO (b:Nat):Obj:=.cells #[.map (some b)] 154 (0,0)
def PutJ (S:AS) (D:Bs) (B9 B11 B12 B13 Bm Bv num:Nat) (R:HF) (i:Nat) (F:HF):Prop :=
 ∃ (sp:List (Nat×Nat×Nat)) (acc:List Bs) (fv rv:Value) (chs:List (Nat×Nat)) (recs:List RecL),
  acc=qbp (S.K.map (·.1)) [] ((qav D).take i)∧AreaOk { S.A with spare:=sp }∧recs.map (·.bytes)=acc.map (frame 1)∧recOk rv recs∧qbl fv chs∧chs.length=i ∧
  (∀ e∈((qav D).take i).zip chs,e∈S.K++qbo S.data.length acc) ∧
  F=(B13,Is (intO ((S.data.length+qa1 acc:Nat):Int)))::(B12,Is (fmapO Bm))::(Bm,Is (mapO str (qba S.data.length 0 acc) acc.length))::(B11,Is (recsO rv)) ::
   (qc5 rv recs++((B9,Is (vboxO Bv))::(verF ⟨Bv,num,D.length,fv,chs,0⟩++(R++arF { S with A:={ S.A with spare:=sp } }))))
theorem q6x {l:List Bs} {chs:List (Nat×Nat)} {c:Bs} {q:Nat×Nat} {T T':List (Bs×Nat×Nat)} (hl:l.length=chs.length) (h:∀ e∈l.zip chs,e∈T) (hT:∀ e∈T,e∈T') (hq:(c,q)∈T'):∀ e∈(l++[c]).zip (chs++[q]),e∈T':=by
 intro e he
 rw [List.zip_append hl] at he
 rcases List.mem_append.1 he with h' | h'
 ·exact hT e (h e h')
 ·simp only [List.zip_cons_cons,List.zip_nil_right,List.mem_singleton] at h'
  subst h';exact hq
theorem qde {D:Bs} {c:Bs} (h:c∈qav D):c.length≤D.length:=by
 obtain ⟨i,hi,rfl⟩:=List.mem_iff_getElem.1 h
 have hi':i<(qas D).length:=by rw [← qbz];exact hi
 have e:(qav D)[i]=(D.drop ((qas D).take i).sum).take (qas D)[i]:=qgf _ _ _ hi'
 rw [e,List.length_take,List.length_drop]
 omega
theorem q62 {S:AS} {D:Bs} {i:Nat} (hD:D.length≤4000):∀ c∈qbp (S.K.map (·.1)) [] ((qav D).take i),OkS c:=fun c hc=>by
 rcases qgb _ _ _ c hc with h | ⟨h,_⟩
 ·simp at h
 ·have:=qde (List.mem_of_mem_take h)
  unfold OkS;omega
theorem qme:∀ (l:List Bs) (m:Nat),(∀ c∈l,c.length≤m)→qa1 l≤l.length*(m+9)
 | [],_,_=>by simp [qa1]
 | c::r,m,h=>by
  have h1:=h c (by simp)
  have h2:=qme r m (fun x hx=>h x (by simp [hx]))
  rw [qeh,List.length_cons,Nat.add_mul]
  omega
def qkb:Code→Option (Code×Code)
 | .rangeFunc _ _ a b=>some (a,b)
 | .seq a b=>match qkb a with | some r=>some r | none=>qkb b
 | .block _ c=>qkb c
 | .scope c=>qkb c
 | _=>none
def q2z:Code→Option Code
 | .seq a b=>if (qkb a).isSome then some b else q2z b
 | _=>none
noncomputable def q7p:Code:=((Tryz.f25.body.bind qkb).map (·.2)).getD .skip
noncomputable def q7n:Code:=(Tryz.f25.body.bind q2z).getD .skip
end Go.Proofs.YtdhobpbngkainaaGreatDoor
namespace Go.Proofs.YtdhobpbngkainaaGreatDoor
open Go.RowKit Go.Maps
def rec1O (v:Value):Obj:=.cells #[v] 38 (0,0)
theorem q11 {v:Value} {l:List (Nat×Nat)} (h:qbl v l) {w:World} (hs:Sat w (qa2 v l)):v.oneCell'=true∧v.cells=#[v]:=by
 obtain ⟨sl,cap,rfl,_⟩:=qe9 hs h
 exact ⟨rfl,rfl⟩
theorem qjg {w:World} {v:Value} {l:Bs} (h:bOk v l) (hs:Sat w (bRow v l)):v.oneCell'=true∧v.cells=#[v]∧∃ a cap,v=.slice a l.length cap:=by
 obtain ⟨a,cap,rfl,_⟩:=qbk (bOwns hs h)
 exact ⟨rfl,rfl,a,cap,rfl⟩
theorem qxy {w:World} {e:Nat} {v:Value} {l:List Value} (hs:Sat w (rowF e 1 v l.length l)) (h:RowOk 1 v l.length l):v.oneCell'=true∧v.cells=#[v]:=by
 obtain ⟨a,cap,rfl,_⟩:=qbk (qbm hs h)
 exact ⟨rfl,rfl⟩
theorem put28 {lb n:Nat} (F1 Z:HF) (A:World) (B15 B9 Bv:Nat) (VV:VerL) (q:Nat×Nat) (fv:Value) (chs:List (Nat×Nat)) {Q:Exit→Act→World→Prop} {w:World} {u0 u1 u2 u3 u4 u5 u6 u7 u8 u10 u11 u12 u13 u14 u16 u17 u18 u19 u20 u21 u22 u23 u24 u25 u26 u27 u28 u29 u30 u31 u32 u33 u34 u35 u36 u37 u38 u39 u40 u41 u42 u43 u44 u45 u46 u47 u48 u49 u50 u51 u52 u53 u54 u55 u56 u57 u58 u59 u60 u61 u62 u63 u64 u65 u66 u67 u68 u69 u70 u71 u72 u73 u74 u75 u76 u77 u78 u79 u80 u81 u82 u83 u84 u85 u86 u87 u88 u89 u90 u91 u92 u93 u94 u95 u96 u97 u98 u99 u100 u101 u102 u103 u104 u105 u106 u107 u108 u109 u110 u111 u112 u113 u114 u115 u116 u117 u118 u119 u120 u121 u122 u123 u124 u125 u126 u127 u128 u129 u130 u131 u132 u133 u134 u135 u136 u137 u138 u139 u140 u141 u142 u143 u144 u145 u146 u147 u148 u149 u150 u151 u152 u153 u154 u155 u156 u157 u158 u159 u160 u161 u162 u163 u164 u165 u166 u167 u168 u169 u170 u171 u172 u173 u174 u175 u176:Value} {ds:List Deferred} (hT:Turns F1 ((B15,Is (qau q))::(B9,Is (vboxO Bv))::(Bv,Is (verO VV))::(qa2 fv chs++Z)) A w) (hpo:qbl fv chs) (hcv:VV.cv=fv) (hcl:chs.length≤100000)
  (hQo:¬ LetsOut Q) (hk:∀ (y129 y130 y131 y132 y133 y134 y135 y136 y137 y138:Value) (w':World),qbl y136 (chs++[q])→Turns F1 ((Bv,Is (.cells ((qdl VV).setIfInBounds 2 y136) 152 (0,0)))::(B15,Is (qau q))::(B9,Is (vboxO Bv))::(qa2 y136 (chs++[q])++Z)) A w'→Q .normal { tmps:=#[u0,u1,u2,u3,u4,u5,u6,u7,u8,.pointer (some ⟨B9,0,none⟩),u10,u11,u12,u13,u14,.pointer (some ⟨B15,0,none⟩),u16,u17,u18,u19,u20,u21,u22,u23,u24,u25,u26,u27,u28,u29,u30,u31,u32,u33,u34,u35,u36,u37,u38,u39,u40,u41,u42,u43,u44,u45,u46,u47,u48,u49,u50,u51,u52,u53,u54,u55,u56,u57,u58,u59,u60,u61,u62,u63,u64,u65,u66,u67,u68,u69,u70,u71,u72,u73,u74,u75,u76,u77,u78,u79,u80,u81,u82,u83,u84,u85,u86,u87,u88,u89,u90,u91,u92,u93,u94,u95,u96,u97,u98,u99,u100,u101,u102,u103,u104,u105,u106,u107,u108,u109,u110,u111,u112,u113,u114,u115,u116,u117,u118,u119,u120,u121,u122,u123,u124,u125,u126,u127,u128,y129,y130,y131,y132,y133,y134,y135,y136,y137,y138,u139,u140,u141,u142,u143,u144,u145,u146,u147,u148,u149,u150,u151,u152,u153,u154,u155,u156,u157,u158,u159,u160,u161,u162,u163,u164,u165,u166,u167,u168,u169,u170,u171,u172,u173,u174,u175,u176],defers:=ds } w') :
  (regOf 28 Tryz.f25).wpIn (Fence.wide.inRound lb) n Tryz.prog Q { tmps:=#[u0,u1,u2,u3,u4,u5,u6,u7,u8,.pointer (some ⟨B9,0,none⟩),u10,u11,u12,u13,u14,.pointer (some ⟨B15,0,none⟩),u16,u17,u18,u19,u20,u21,u22,u23,u24,u25,u26,u27,u28,u29,u30,u31,u32,u33,u34,u35,u36,u37,u38,u39,u40,u41,u42,u43,u44,u45,u46,u47,u48,u49,u50,u51,u52,u53,u54,u55,u56,u57,u58,u59,u60,u61,u62,u63,u64,u65,u66,u67,u68,u69,u70,u71,u72,u73,u74,u75,u76,u77,u78,u79,u80,u81,u82,u83,u84,u85,u86,u87,u88,u89,u90,u91,u92,u93,u94,u95,u96,u97,u98,u99,u100,u101,u102,u103,u104,u105,u106,u107,u108,u109,u110,u111,u112,u113,u114,u115,u116,u117,u118,u119,u120,u121,u122,u123,u124,u125,u126,u127,u128,u129,u130,u131,u132,u133,u134,u135,u136,u137,u138,u139,u140,u141,u142,u143,u144,u145,u146,u147,u148,u149,u150,u151,u152,u153,u154,u155,u156,u157,u158,u159,u160,u161,u162,u163,u164,u165,u166,u167,u168,u169,u170,u171,u172,u173,u174,u175,u176],defers:=ds } w:=by
 have HM:=Lib.hid (show Tryz.prog.follows .mixedOrders=true by kernel_rfl)
 conv=>arg 4;whnf
 refine qfe (A:=?A) (hA:=?hA) HM.out (by kernel_rfl) hQo (phiL [fun v=>v=.pointer (some ⟨Bv,0,none⟩),fun v=>v=.pointer (some ⟨Bv,0,none⟩),fun v=>v=.pointer (some ⟨Bv,0,none⟩),fun v=>v=.pointer (some ⟨Bv,2,none⟩),fun v=>v=fv,fun v=>v=.agg #[.int .i64 q.1,.int .i64 q.2],fun _=>True,fun _=>True,fun v=>v=.pointer (some ⟨Bv,0,none⟩),fun v=>v=.pointer (some ⟨Bv,2,none⟩),fun _=>True])
  (fun vs1 W=>match vs1 with
  | []=>Turns F1 (qa2 fv chs++((B15,Is (qau q))::(B9,Is (vboxO Bv))::(Bv,Is (verO VV))::Z)) A W
  | [v]=>∃ n:Nat,v=.slice (some ⟨n,0,none⟩) 1 1∧Turns F1 (qa2 fv chs++((n,Is (qau q))::(B15,Is (qau q))::(B9,Is (vboxO Bv))::(Bv,Is (verO VV))::Z)) A W
  | [_,u]=>∃ n:Nat,qbl u (chs++[q])∧Turns F1 (qa2 u (chs++[q])++((n,Is (qau q))::(B15,Is (qau q))::(B9,Is (vboxO Bv))::(Bv,Is (verO VV))::Z)) A W
  | [_,u,_]=>∃ n:Nat,qbl u (chs++[q])∧Turns F1 ((Bv,Is (.cells ((qdl VV).setIfInBounds 2 u) 152 (0,0)))::(qa2 u (chs++[q])++((n,Is (qau q))::(B15,Is (qau q))::(B9,Is (vboxO Bv))::Z))) A W
  | _=>False)
  (fun W=>W.heap[B9]?=some (vboxO Bv)∧W.heap[Bv]?=some (verO VV)∧W.heap[B15]?=some (qau q)) [6,7,10] ?hC (by kernel_rfl) (by kernel_rfl) (by kernel_rfl) (by decide) (by decide) ?h0 ?hs ?he
 case hA=>intro x;simp only [qam,Act.put,List.setIfInBounds_toArray,List.set_cons_zero,List.set_cons_succ,Nat.reduceAdd];rfl
 case hs =>
  refine ⟨qab rfl rfl (fun x wq hd hC K hK hKw=>?_),qab rfl rfl (fun x wq hd hC K hK hKw=>?_),qab rfl rfl (fun x wq hd hC K hK hKw=>?_),qab rfl rfl (fun x wq hd hC K hK hKw=>?_),qab rfl rfl (fun x wq hd hC K hK hKw=>?_),qab rfl rfl (fun x wq hd hC K hK hKw=>?_),qap 0 rfl rfl (fun x wq hd hS K hK=>?_),qap 1 rfl rfl (fun x wq hd hS K hK=>?_),qab rfl rfl (fun x wq hd hC K hK hKw=>?_),qab rfl rfl (fun x wq hd hC K hK hKw=>?_),qap 2 rfl rfl (fun x wq hd hS K hK=>?_),trivial⟩
  ·exact qat Tryz.underlying149 rfl rfl (by rfl) (qac hC.1 0 rfl) (hK _ rfl)
  ·exact qat Tryz.underlying149 rfl rfl (by rfl) (qac hC.1 0 rfl) (hK _ rfl)
  ·have h1:x 1=.pointer (some ⟨Bv,0,none⟩):=qae hd 1 (by kernel_rfl)
   exact qag (by rw [h1];kernel_rfl) (hK _ rfl)
  ·have h2:x 2=.pointer (some ⟨Bv,0,none⟩):=qae hd 2 (by kernel_rfl)
   exact qag (by rw [h2];kernel_rfl) (hK _ rfl)
  ·have h3:x 3=.pointer (some ⟨Bv,2,none⟩):=qae hd 3 (by kernel_rfl)
   exact qat Tryz.underlying150 rfl rfl (by rw [h3];rfl) (qac hC.2.1 2 (by rw [← hcv];rfl)) (hK _ rfl)
  ·exact wp_load_mid 161 (.tmp 15) rfl B15 0 rfl [.int .i64 q.1,.int .i64 q.2] _ (fun j v hv=>qac hC.2.2 (0+j) (by rw [Nat.zero_add,← Array.getElem?_toList];exact hv)) Tryz.underlying161 rfl (by kernel_rfl) (hK _ rfl)
  ·have h5:x 5=.agg #[.int .i64 q.1,.int .i64 q.2]:=qae hd 5 (by kernel_rfl)
   refine qag (v:=.slice (some ⟨wq.heap.size,0,none⟩) 1 1) (w':=wq.alloc (qau q)) (by rw [h5];kernel_rfl) (hK _ _ trivial ⟨wq.heap.size,rfl,?_⟩)
   have h:=Turns.allocIs hS (qau q)
   exact h.to (qaf fun _=>by simp only [qad,qaa,qah]<;>omega)
  ·have h4:x 4=fv:=qae hd 4 (by kernel_rfl)
   obtain ⟨n,en,hT⟩:=hS
   have hno:=hT.sat.memIs (b:=n) (o:=qau q) (by simp)
   exact qjw (.tmp 133) (.tmp 135) rfl fv chs (by rw [h4];rfl) hT hpo (some ⟨n,0,none⟩) 1 1 (by rw [en];rfl) [q] rfl (fun _=>⟨_,rfl,fun j u hu=>by
     rw [Addr.add_lit,Nat.zero_add]
     exact qac hno j (by rw [← Array.getElem?_toList];exact hu)⟩) (by simp;omega) (fun v1 w1 h1 h2=>hK _ _ trivial ⟨n,h1,h2⟩)
  ·have h0:x 0=.pointer (some ⟨Bv,0,none⟩):=qae hd 0 (by kernel_rfl)
   exact qag (by rw [h0];kernel_rfl) (hK _ rfl)
  ·have h8:x 8=.pointer (some ⟨Bv,0,none⟩):=qae hd 8 (by kernel_rfl)
   exact qag (by rw [h8];kernel_rfl) (hK _ rfl)
  ·have h9:x 9=.pointer (some ⟨Bv,2,none⟩):=qae hd 9 (by kernel_rfl)
   obtain ⟨n,ho,hT⟩:=hS
   have h1:=q11 ho hT.sat.left
   exact qa0 150 (.tmp 138) (.tmp 136) rfl Bv 2 (qdl VV) 152 (x 7) (hT.to (H:=(Bv,Is (verO VV))::(qa2 (x 7) (chs++[q])++((n,Is (qau q))::(B15,Is (qau q))::(B9,Is (vboxO Bv))::Z))) (qaf fun _=>by simp only [qad,qaa,qah]<;>omega)) (by rw [h9];rfl) rfl (by simp [qdl]) (by kernel_rfl) h1.1 h1.2 (fun w9 h9=>hK _ _ trivial ⟨n,ho,h9⟩)
 case hC =>
  intro vs1 W hlt hS
  match vs1,hS,hlt with
  | [],hT,_=>exact ⟨hT.sat.memIs (by simp),hT.sat.memIs (by simp),hT.sat.memIs (by simp)⟩
  | [_],⟨_,_,hT⟩,_=>exact ⟨hT.sat.memIs (by simp),hT.sat.memIs (by simp),hT.sat.memIs (by simp)⟩
  | [_,_],⟨_,_,hT⟩,_=>exact ⟨hT.sat.memIs (by simp),hT.sat.memIs (by simp),hT.sat.memIs (by simp)⟩
  | [_,_,_],_,hlt=>exact absurd hlt (Nat.lt_irrefl _)
 case h0 =>
  exact (hT.to (H:=qa2 fv chs++((B15,Is (qau q))::(B9,Is (vboxO Bv))::(Bv,Is (verO VV))::Z)) (qaf fun _=>by simp only [qad,qaa,qah]<;>omega)).drew
 case he =>
  intro x w3 hφ hS
  obtain ⟨n,hok3,hT3⟩:=hS
  exact hk (x 0) (x 1) (x 2) (x 3) (x 4) (x 5) (x 6) (x 7) (x 8) (x 9) w3 hok3 (hT3.drop (fun _=>by simp only [qad,qaa,qah]<;>omega))
theorem put26 {lb n:Nat} (F1 Z:HF) (A:World) (B11:Nat) (rv:Value) (l:List Value) (c:Bs) (csl:Option Addr) (ccap:Nat) {Q:Exit→Act→World→Prop} {w:World} {u0 u1 u2 u3 u4 u5 u6 u7 u8 u9 u10 u12 u13 u15 u16 u17 u18 u19 u20 u21 u22 u23 u24 u25 u26 u27 u28 u29 u30 u31 u32 u33 u34 u35 u36 u37 u38 u39 u40 u41 u42 u43 u44 u45 u46 u47 u48 u49 u50 u51 u52 u53 u54 u55 u56 u57 u58 u59 u60 u61 u62 u63 u64 u65 u66 u67 u68 u69 u70 u71 u72 u73 u74 u75 u76 u77 u78 u79 u80 u81 u82 u83 u84 u85 u86 u87 u88 u89 u90 u91 u92 u93 u94 u95 u96 u97 u98 u99 u100 u101 u102 u103 u104 u105 u106 u107 u108 u109 u110 u111 u112 u113 u114 u115 u116 u117 u118 u119 u120 u121 u122 u123 u124 u125 u126 u127 u128 u129 u130 u131 u132 u133 u134 u135 u136 u137 u138 u139 u140 u141 u142 u143 u144 u145 u146 u147 u148 u149 u150 u151 u152 u153 u154 u155 u156 u157 u158 u159 u160 u161 u162 u163 u164 u165 u166 u167 u168 u169 u170 u171 u172 u173 u174 u175 u176:Value} {ds:List Deferred} (hT:Turns F1 ((B11,Is (recsO rv))::(rowF 38 1 rv l.length l++Z)) A w) (hro:RowOk 1 rv l.length l) (hl:l.length≤1000000) (hcc:∀ W G,Turns F1 G A W→qaj W csl (c.map enc8)) (hcl:c.length≤1000000)
  (hQo:¬ LetsOut Q) (hk:∀ (y119 y120 y121 y122 y123:Value) (w':World),bOk y121 (frame 1 c)→RowOk 1 y123 (l++[y121]).length (l++[y121])→Turns F1 ((B11,Is (recsO y123))::(rowF 38 1 y123 (l++[y121]).length (l++[y121])++(bRow y121 (frame 1 c)++Z))) A w'→Q .normal { tmps:=#[u0,u1,u2,u3,u4,u5,u6,u7,u8,u9,u10,.pointer (some ⟨B11,0,none⟩),u12,u13,.slice csl c.length ccap,u15,u16,u17,u18,u19,u20,u21,u22,u23,u24,u25,u26,u27,u28,u29,u30,u31,u32,u33,u34,u35,u36,u37,u38,u39,u40,u41,u42,u43,u44,u45,u46,u47,u48,u49,u50,u51,u52,u53,u54,u55,u56,u57,u58,u59,u60,u61,u62,u63,u64,u65,u66,u67,u68,u69,u70,u71,u72,u73,u74,u75,u76,u77,u78,u79,u80,u81,u82,u83,u84,u85,u86,u87,u88,u89,u90,u91,u92,u93,u94,u95,u96,u97,u98,u99,u100,u101,u102,u103,u104,u105,u106,u107,u108,u109,u110,u111,u112,u113,u114,u115,u116,u117,u118,y119,y120,y121,y122,y123,u124,u125,u126,u127,u128,u129,u130,u131,u132,u133,u134,u135,u136,u137,u138,u139,u140,u141,u142,u143,u144,u145,u146,u147,u148,u149,u150,u151,u152,u153,u154,u155,u156,u157,u158,u159,u160,u161,u162,u163,u164,u165,u166,u167,u168,u169,u170,u171,u172,u173,u174,u175,u176],defers:=ds } w') :
  (regOf 26 Tryz.f25).wpIn (Fence.wide.inRound lb) n Tryz.prog Q { tmps:=#[u0,u1,u2,u3,u4,u5,u6,u7,u8,u9,u10,.pointer (some ⟨B11,0,none⟩),u12,u13,.slice csl c.length ccap,u15,u16,u17,u18,u19,u20,u21,u22,u23,u24,u25,u26,u27,u28,u29,u30,u31,u32,u33,u34,u35,u36,u37,u38,u39,u40,u41,u42,u43,u44,u45,u46,u47,u48,u49,u50,u51,u52,u53,u54,u55,u56,u57,u58,u59,u60,u61,u62,u63,u64,u65,u66,u67,u68,u69,u70,u71,u72,u73,u74,u75,u76,u77,u78,u79,u80,u81,u82,u83,u84,u85,u86,u87,u88,u89,u90,u91,u92,u93,u94,u95,u96,u97,u98,u99,u100,u101,u102,u103,u104,u105,u106,u107,u108,u109,u110,u111,u112,u113,u114,u115,u116,u117,u118,u119,u120,u121,u122,u123,u124,u125,u126,u127,u128,u129,u130,u131,u132,u133,u134,u135,u136,u137,u138,u139,u140,u141,u142,u143,u144,u145,u146,u147,u148,u149,u150,u151,u152,u153,u154,u155,u156,u157,u158,u159,u160,u161,u162,u163,u164,u165,u166,u167,u168,u169,u170,u171,u172,u173,u174,u175,u176],defers:=ds } w:=by
 have HM:=Lib.hid (show Tryz.prog.follows .mixedOrders=true by kernel_rfl)
 conv=>arg 4;whnf
 refine qfe (A:=?A) (hA:=?hA) HM.out (by kernel_rfl) hQo (phiL [fun v=>v=rv,fun v=>v=.slice csl c.length ccap,fun _=>True,fun _=>True,fun _=>True,fun _=>True])
  (fun vs1 W=>match vs1 with
  | []=>Turns F1 (rowF 38 1 rv l.length l++((B11,Is (recsO rv))::Z)) A W
  | [v]=>bOk v (frame 1 c)∧Turns F1 (rowF 38 1 rv l.length l++((B11,Is (recsO rv))::(bRow v (frame 1 c)++Z))) A W
  | [v,s]=>∃ n:Nat,bOk v (frame 1 c)∧s=.slice (some ⟨n,0,none⟩) 1 1∧Turns F1 (rowF 38 1 rv l.length l++((B11,Is (recsO rv))::(n,Is (rec1O v))::(bRow v (frame 1 c)++Z))) A W
  | [v,_,u]=>∃ n:Nat,bOk v (frame 1 c)∧RowOk 1 u (l++[v]).length (l++[v])∧Turns F1 (rowF 38 1 u (l++[v]).length (l++[v])++((B11,Is (recsO rv))::(n,Is (rec1O v))::(bRow v (frame 1 c)++Z))) A W
  | [v,_,u,_]=>∃ n:Nat,bOk v (frame 1 c)∧RowOk 1 u (l++[v]).length (l++[v])∧Turns F1 ((B11,Is (recsO u))::(rowF 38 1 u (l++[v]).length (l++[v])++((n,Is (rec1O v))::(bRow v (frame 1 c)++Z)))) A W
  | _=>False)
  (fun W=>(∃ G,Turns F1 G A W)∧W.heap[B11]?=some (recsO rv)) [2,3,4,5] ?hC (by kernel_rfl) (by kernel_rfl) (by kernel_rfl) (by decide) (by decide) ?h0 ?hs ?he
 case hA=>intro x;simp only [qam,Act.put,List.setIfInBounds_toArray,List.set_cons_zero,List.set_cons_succ,Nat.reduceAdd];rfl
 case hs =>
  refine ⟨qab rfl rfl (fun x wq hd hC K hK hKw=>?_),qab rfl rfl (fun x wq hd hC K hK hKw=>?_),qap 0 rfl rfl (fun x wq hd hS K hK=>?_),qap 1 rfl rfl (fun x wq hd hS K hK=>?_),qap 2 rfl rfl (fun x wq hd hS K hK=>?_),qap 3 rfl rfl (fun x wq hd hS K hK=>?_),trivial⟩
  ·exact qat Tryz.underlying61 rfl rfl (by rfl) (qac hC.2 0 rfl) (hK _ rfl)
  ·exact qag (by kernel_rfl) (hK _ rfl)
  ·have h1:x 1=.slice csl c.length ccap:=qae hd 1 (by kernel_rfl)
   refine qbe (by rw [h1];kernel_rfl) (qjz 1 csl ccap c wq (hcc wq _ hS) (by omega)) ?_
   rintro e w3 ⟨v3,rfl,hb3,hT3⟩
   refine ⟨_,rfl,hK _ _ trivial ⟨hb3,?_⟩⟩
   have h:=Turns.newIn hS hT3
   exact h.to (qaf fun _=>by simp only [qad,qaa,qah]<;>omega)
  ·obtain ⟨hb,hT⟩:=hS
   obtain ⟨-,-,av,cv,hv⟩:=qjg hb (hT.sat.sub (G:=bRow (x 2) (frame 1 c)) (fun _=>by simp only [qad,qaa,qah]<;>omega))
   refine qag (v:=.slice (some ⟨wq.heap.size,0,none⟩) 1 1) (w':=wq.alloc (rec1O (x 2))) (by rw [hv];kernel_rfl) (hK _ _ trivial ⟨wq.heap.size,hb,rfl,?_⟩)
   have h:=Turns.allocIs hT (rec1O (x 2))
   exact h.to (qaf fun _=>by simp only [qad,qaa,qah]<;>omega)
  ·have h0:x 0=rv:=qae hd 0 (by kernel_rfl)
   obtain ⟨n,hb,en,hT⟩:=hS
   have hno:=hT.sat.memIs (b:=n) (o:=rec1O (x 2)) (by simp)
   obtain ⟨h1,-,-⟩:=qjg hb (hT.sat.sub (G:=bRow (x 2) (frame 1 c)) (fun _=>by simp only [qad,qaa,qah]<;>omega))
   exact qis (.tmp 119) (.tmp 122) rfl rv l (by rw [h0];rfl) hT hro n (x 2) (by rw [en];rfl) h1 (qac hno 0 rfl) hl (fun v1 w1 k1 k2=>hK _ _ trivial ⟨n,hb,k1,k2⟩)
  ·obtain ⟨n,hb,ho,hT⟩:=hS
   have h1:=qxy hT.sat.left ho
   exact qa0 61 (.tmp 11) (.tmp 123) rfl B11 0 #[rv] 61 (x 4) (hT.to (H:=(B11,Is (recsO rv))::(rowF 38 1 (x 4) (l++[(x 2)]).length (l++[(x 2)])++((n,Is (rec1O (x 2)))::(bRow (x 2) (frame 1 c)++Z)))) (qaf fun _=>by simp only [qad,qaa,qah]<;>omega)) rfl rfl (by simp) (by kernel_rfl) h1.1 h1.2 (fun w9 h9=>hK _ _ trivial ⟨n,hb,ho,h9⟩)
 case hC =>
  intro vs1 W hlt hS
  match vs1,hS,hlt with
  | [],hT,_=>exact ⟨⟨_,hT⟩,hT.sat.memIs (by simp)⟩
  | [_],⟨_,hT⟩,_=>exact ⟨⟨_,hT⟩,hT.sat.memIs (by simp)⟩
  | [_,_],⟨_,_,_,hT⟩,_=>exact ⟨⟨_,hT⟩,hT.sat.memIs (by simp)⟩
  | [_,_,_],⟨_,_,_,hT⟩,_=>exact ⟨⟨_,hT⟩,hT.sat.memIs (by simp)⟩
  | [_,_,_,_],_,hlt=>exact absurd hlt (Nat.lt_irrefl _)
 case h0 =>
  exact (hT.to (H:=rowF 38 1 rv l.length l++((B11,Is (recsO rv))::Z)) (qaf fun _=>by simp only [qad,qaa,qah]<;>omega)).drew
 case he =>
  intro x w3 hφ hS
  obtain ⟨n,hb,hok3,hT3⟩:=hS
  exact hk (x 0) (x 1) (x 2) (x 3) (x 4) w3 hb hok3 (hT3.drop (fun _=>by simp only [qad,qaa,qah]<;>omega))
theorem put27 {lb n:Nat} (F1 Z:HF) (A:World) (B13:Nat) (e:Int) (c:Bs) (csl:Option Addr) (ccap:Nat) {Q:Exit→Act→World→Prop} {w:World} {u0 u1 u2 u3 u4 u5 u6 u7 u8 u9 u10 u11 u12 u15 u16 u17 u18 u19 u20 u21 u22 u23 u24 u25 u26 u27 u28 u29 u30 u31 u32 u33 u34 u35 u36 u37 u38 u39 u40 u41 u42 u43 u44 u45 u46 u47 u48 u49 u50 u51 u52 u53 u54 u55 u56 u57 u58 u59 u60 u61 u62 u63 u64 u65 u66 u67 u68 u69 u70 u71 u72 u73 u74 u75 u76 u77 u78 u79 u80 u81 u82 u83 u84 u85 u86 u87 u88 u89 u90 u91 u92 u93 u94 u95 u96 u97 u98 u99 u100 u101 u102 u103 u104 u105 u106 u107 u108 u109 u110 u111 u112 u113 u114 u115 u116 u117 u118 u119 u120 u121 u122 u123 u124 u125 u126 u127 u128 u129 u130 u131 u132 u133 u134 u135 u136 u137 u138 u139 u140 u141 u142 u143 u144 u145 u146 u147 u148 u149 u150 u151 u152 u153 u154 u155 u156 u157 u158 u159 u160 u161 u162 u163 u164 u165 u166 u167 u168 u169 u170 u171 u172 u173 u174 u175 u176:Value} {ds:List Deferred} (hT:Turns F1 ((B13,Is (intO e))::Z) A w) (hcl:c.length≤1000000) (he : -4611686018427387904≤e∧e≤4611686018427387904)
  (hQo:¬ LetsOut Q) (hk:∀ (y124 y125 y126 y127 y128:Value) (w':World),Turns F1 ((B13,Is (intO (e+(c.length+9))))::Z) A w'→Q .normal { tmps:=#[u0,u1,u2,u3,u4,u5,u6,u7,u8,u9,u10,u11,u12,.pointer (some ⟨B13,0,none⟩),.slice csl c.length ccap,u15,u16,u17,u18,u19,u20,u21,u22,u23,u24,u25,u26,u27,u28,u29,u30,u31,u32,u33,u34,u35,u36,u37,u38,u39,u40,u41,u42,u43,u44,u45,u46,u47,u48,u49,u50,u51,u52,u53,u54,u55,u56,u57,u58,u59,u60,u61,u62,u63,u64,u65,u66,u67,u68,u69,u70,u71,u72,u73,u74,u75,u76,u77,u78,u79,u80,u81,u82,u83,u84,u85,u86,u87,u88,u89,u90,u91,u92,u93,u94,u95,u96,u97,u98,u99,u100,u101,u102,u103,u104,u105,u106,u107,u108,u109,u110,u111,u112,u113,u114,u115,u116,u117,u118,u119,u120,u121,u122,u123,y124,y125,y126,y127,y128,u129,u130,u131,u132,u133,u134,u135,u136,u137,u138,u139,u140,u141,u142,u143,u144,u145,u146,u147,u148,u149,u150,u151,u152,u153,u154,u155,u156,u157,u158,u159,u160,u161,u162,u163,u164,u165,u166,u167,u168,u169,u170,u171,u172,u173,u174,u175,u176],defers:=ds } w') :
  (regOf 27 Tryz.f25).wpIn (Fence.wide.inRound lb) n Tryz.prog Q { tmps:=#[u0,u1,u2,u3,u4,u5,u6,u7,u8,u9,u10,u11,u12,.pointer (some ⟨B13,0,none⟩),.slice csl c.length ccap,u15,u16,u17,u18,u19,u20,u21,u22,u23,u24,u25,u26,u27,u28,u29,u30,u31,u32,u33,u34,u35,u36,u37,u38,u39,u40,u41,u42,u43,u44,u45,u46,u47,u48,u49,u50,u51,u52,u53,u54,u55,u56,u57,u58,u59,u60,u61,u62,u63,u64,u65,u66,u67,u68,u69,u70,u71,u72,u73,u74,u75,u76,u77,u78,u79,u80,u81,u82,u83,u84,u85,u86,u87,u88,u89,u90,u91,u92,u93,u94,u95,u96,u97,u98,u99,u100,u101,u102,u103,u104,u105,u106,u107,u108,u109,u110,u111,u112,u113,u114,u115,u116,u117,u118,u119,u120,u121,u122,u123,u124,u125,u126,u127,u128,u129,u130,u131,u132,u133,u134,u135,u136,u137,u138,u139,u140,u141,u142,u143,u144,u145,u146,u147,u148,u149,u150,u151,u152,u153,u154,u155,u156,u157,u158,u159,u160,u161,u162,u163,u164,u165,u166,u167,u168,u169,u170,u171,u172,u173,u174,u175,u176],defers:=ds } w:=by
 have HM:=Lib.hid (show Tryz.prog.follows .mixedOrders=true by kernel_rfl)
 conv=>arg 4;whnf
 refine qfe (A:=?A) (hA:=?hA) HM.out (by kernel_rfl) hQo (phiL [fun v=>v=.int .i64 e,fun v=>v=.slice csl c.length ccap,fun v=>v=.int .i64 c.length,fun v=>v=.int .i64 (c.length+9),fun v=>v=.int .i64 (e+(c.length+9)),fun _=>True])
  (fun vs1 W=>match vs1 with
  | []=>Turns F1 ((B13,Is (intO e))::Z) A W
  | [_]=>Turns F1 ((B13,Is (intO (e+(c.length+9))))::Z) A W
  | _=>False)
  (fun W=>W.heap[B13]?=some (intO e)) [5] ?hC (by kernel_rfl) (by kernel_rfl) (by kernel_rfl) (by decide) (by decide) ?h0 ?hs ?he
 case hA=>intro x;simp only [qam,Act.put,List.setIfInBounds_toArray,List.set_cons_zero,List.set_cons_succ,Nat.reduceAdd];rfl
 case hs =>
  refine ⟨qab rfl rfl (fun x wq hd hC K hK hKw=>?_),qab rfl rfl (fun x wq hd hC K hK hKw=>?_),qab rfl rfl (fun x wq hd hC K hK hKw=>?_),qab rfl rfl (fun x wq hd hC K hK hKw=>?_),qab rfl rfl (fun x wq hd hC K hK hKw=>?_),qap 0 rfl rfl (fun x wq hd hS K hK=>?_),trivial⟩
  ·exact qat Tryz.underlying3 rfl rfl (by rfl) (qac hC 0 rfl) (hK _ rfl)
  ·exact qag (by kernel_rfl) (hK _ rfl)
  ·have h1:x 1=.slice csl c.length ccap:=qae hd 1 (by kernel_rfl)
   exact qag (by rw [h1];kernel_rfl) (hK _ rfl)
  ·have h2:x 2=.int .i64 c.length:=qae hd 2 (by kernel_rfl)
   refine qbe (by rw [h2];kernel_rfl) (qew c.length (by omega) (by omega) wq) ?_
   rintro e2 w3 ⟨rfl,rfl⟩
   exact ⟨_,rfl,hK _ rfl⟩
  ·have h0:x 0=.int .i64 e:=qae hd 0 (by kernel_rfl)
   have h3:x 3=.int .i64 (c.length+9):=qae hd 3 (by kernel_rfl)
   exact w_bin .add 3 3 (.tmp 124) (.tmp 127) rfl (by rw [h0];rfl) (by rw [h3];rfl) (qot (by omega) (by omega) wq) rfl (hK _ rfl)
  ·have h4:x 4=.int .i64 (e+(c.length+9)):=qae hd 4 (by kernel_rfl)
   exact qa0 3 (.tmp 13) (.tmp 128) rfl B13 0 #[.int .i64 e] 3 (.int .i64 (e+(c.length+9))) hS rfl (by rw [h4];rfl) (by simp) (by kernel_rfl) rfl rfl (fun w9 h9=>hK _ _ trivial h9)
 case hC =>
  intro vs1 W hlt hS
  match vs1,hS,hlt with
  | [],hT,_=>exact hT.sat.memIs (by simp)
  | [_],_,hlt=>exact absurd hlt (Nat.lt_irrefl _)
 case h0 =>
  exact hT.drew
 case he =>
  intro x w3 hφ hS
  exact hk (x 0) (x 1) (x 2) (x 3) (x 4) w3 hS
theorem q2n (w:World) (l:Bs):∃ cap w',(convert 9 38 (str l)).run Tryz.prog w=.ok (.slice (some ⟨w.heap.size,0,none⟩) l.length cap) w'∧Same w w'∧qaj w' (some ⟨w.heap.size,0,none⟩) (l.map enc8):=by
 refine ⟨_,_,Go.Lib.run_convert_string_bytes w 9 38 5 ⟨l.toArray⟩ Tryz.underlying9 Tryz.underlying38 Tryz.underlying5,⟨rfl,rfl,rfl,?_,fun k hk _=>?_⟩,fun _=>⟨_,_,rfl,fun j hj=>?_⟩⟩
 ·rw [Go.Lib.bytesWorld_size];omega
 ·exact Go.Lib.bytesWorld_at_old w _ _ k hk
 ·have hj':j<l.length:=by simpa using hj
  rw [Nat.zero_add,Go.Lib.bytesWorld_cell w _ _ j (by simpa [ByteArray.size] using hj')]
  simp [enc8,List.getD,hj']
theorem qyx {o:Oper} {a:Act} {w:World} {K:Act→World→Prop} {Q:Exit→Act→World→Prop} (x:Operand) (ho:o.op=.convert 9 38 x) (l:Bs) (hx:a.eval x=str l)
  (hk:∀ n cap w',Same w w'→qaj w' (some ⟨n,0,none⟩) (l.map enc8)→w.heap.size≤n→K (a.put o.dst (.slice (some ⟨n,0,none⟩) l.length cap)) w'):o.wp Tryz.prog a w K Q:=by
 obtain ⟨cap,w',h1,h2,h3⟩:=q2n w l
 refine qag (v:=.slice (some ⟨w.heap.size,0,none⟩) l.length cap) (w':=w') ?_ (hk _ cap w' h2 h3 (Nat.le_refl _))
 simp [execOp,ho,hx,h1,Result.andThen]
theorem put29 (F1 Z:HF) (A:World) (B11 B9:Nat) (V:VerL) (rv:Value) (rl:List Value) (l:Bs) {Q:Exit→Act→World→Prop} {w:World} {u0 u2 u3 u4 u5 u6 u7 u8 u10 u12 u13 u14 u15 u16 u17 u18 u19 u20 u21 u22 u23 u24 u25 u26 u27 u28 u29 u30 u31 u32 u33 u34 u35 u36 u37 u38 u39 u40 u41 u42 u43 u44 u45 u46 u47 u48 u49 u50 u51 u52 u53 u54 u55 u56 u57 u58 u59 u60 u61 u62 u63 u64 u65 u66 u67 u68 u69 u70 u71 u72 u73 u74 u75 u76 u77 u78 u79 u80 u81 u82 u83 u84 u85 u86 u87 u88 u89 u90 u91 u92 u93 u94 u95 u96 u97 u98 u99 u100 u101 u102 u103 u104 u105 u106 u107 u108 u109 u110 u111 u112 u113 u114 u115 u116 u117 u118 u119 u120 u121 u122 u123 u124 u125 u126 u127 u128 u129 u130 u131 u132 u133 u134 u135 u136 u137 u138 u139 u140 u141 u142 u143 u144 u145 u146 u147 u148 u149 u150 u151 u152 u153 u154 u155 u156 u157 u158 u159 u160 u161 u162 u163 u164 u165 u166 u167 u168 u169 u170 u171 u172 u173 u174 u175 u176:Value} {ds:List Deferred} (hT:Turns F1 (rowF 38 1 rv rl.length rl++((B11,Is (recsO rv))::(B9,Is (vboxO V.blk))::(verF V++Z))) A w) (hro:RowOk 1 rv rl.length rl) (hl:rl.length≤1000000) (hpo:qbl V.cv V.chs) (hcl:V.chs.length≤100000) (hpl:l.length≤255) (hnum:I64 V.num) (hsize:I64 V.size) (hat:∀ n∈atsOf V.chs,I64 n)
  (hk:∀ (y139 y140 y141 y142 y143 y144 y145 y146:Value) (w':World),bOk y144 (frame 2 (verB l V.num V.size (atsOf V.chs)))→RowOk 1 y146 (rl++[y144]).length (rl++[y144])→Turns F1 ((B11,Is (recsO y146))::(rowF 38 1 y146 (rl++[y144]).length (rl++[y144])++(bRow y144 (frame 2 (verB l V.num V.size (atsOf V.chs)))++((B9,Is (vboxO V.blk))::(verF V++Z))))) A w'→Q .normal { tmps:=#[u0,str l,u2,u3,u4,u5,u6,u7,u8,.pointer (some ⟨B9,0,none⟩),u10,.pointer (some ⟨B11,0,none⟩),u12,u13,u14,u15,u16,u17,u18,u19,u20,u21,u22,u23,u24,u25,u26,u27,u28,u29,u30,u31,u32,u33,u34,u35,u36,u37,u38,u39,u40,u41,u42,u43,u44,u45,u46,u47,u48,u49,u50,u51,u52,u53,u54,u55,u56,u57,u58,u59,u60,u61,u62,u63,u64,u65,u66,u67,u68,u69,u70,u71,u72,u73,u74,u75,u76,u77,u78,u79,u80,u81,u82,u83,u84,u85,u86,u87,u88,u89,u90,u91,u92,u93,u94,u95,u96,u97,u98,u99,u100,u101,u102,u103,u104,u105,u106,u107,u108,u109,u110,u111,u112,u113,u114,u115,u116,u117,u118,u119,u120,u121,u122,u123,u124,u125,u126,u127,u128,u129,u130,u131,u132,u133,u134,u135,u136,u137,u138,y139,y140,y141,y142,y143,y144,y145,y146,u147,u148,u149,u150,u151,u152,u153,u154,u155,u156,u157,u158,u159,u160,u161,u162,u163,u164,u165,u166,u167,u168,u169,u170,u171,u172,u173,u174,u175,u176],defers:=ds } w') :
  (regOf 29 Tryz.f25).wp Tryz.prog Q { tmps:=#[u0,str l,u2,u3,u4,u5,u6,u7,u8,.pointer (some ⟨B9,0,none⟩),u10,.pointer (some ⟨B11,0,none⟩),u12,u13,u14,u15,u16,u17,u18,u19,u20,u21,u22,u23,u24,u25,u26,u27,u28,u29,u30,u31,u32,u33,u34,u35,u36,u37,u38,u39,u40,u41,u42,u43,u44,u45,u46,u47,u48,u49,u50,u51,u52,u53,u54,u55,u56,u57,u58,u59,u60,u61,u62,u63,u64,u65,u66,u67,u68,u69,u70,u71,u72,u73,u74,u75,u76,u77,u78,u79,u80,u81,u82,u83,u84,u85,u86,u87,u88,u89,u90,u91,u92,u93,u94,u95,u96,u97,u98,u99,u100,u101,u102,u103,u104,u105,u106,u107,u108,u109,u110,u111,u112,u113,u114,u115,u116,u117,u118,u119,u120,u121,u122,u123,u124,u125,u126,u127,u128,u129,u130,u131,u132,u133,u134,u135,u136,u137,u138,u139,u140,u141,u142,u143,u144,u145,u146,u147,u148,u149,u150,u151,u152,u153,u154,u155,u156,u157,u158,u159,u160,u161,u162,u163,u164,u165,u166,u167,u168,u169,u170,u171,u172,u173,u174,u175,u176],defers:=ds } w:=by
 have HM:=Lib.hid (show Tryz.prog.follows .mixedOrders=true by kernel_rfl)
 conv=>arg 2;whnf
 refine qbu (A:=?A) (hA:=?hA) HM.out (phiL [fun v=>v=rv,fun v=>v=str l,fun v=>v=.pointer (some ⟨V.blk,0,none⟩),fun _=>True,fun _=>True,fun _=>True,fun _=>True,fun _=>True,fun _=>True])
  (fun vs1 W=>match vs1 with
  | []=>Turns F1 (rowF 38 1 rv rl.length rl++((B11,Is (recsO rv))::(B9,Is (vboxO V.blk))::(verF V++Z))) A W
  | [v]=>∃ av cv,v=.agg #[.int .u8 2,str l,.int .i64 V.num,.int .i64 V.size,.slice av (atsOf V.chs).length cv]∧qaj W av ((atsOf V.chs).map encI)∧Turns F1 (rowF 38 1 rv rl.length rl++((B11,Is (recsO rv))::(B9,Is (vboxO V.blk))::(verF V++Z))) A W
  | [_,f]=>∃ av cv,f=.iface 173 (.agg #[.int .u8 2,str l,.int .i64 V.num,.int .i64 V.size,.slice av (atsOf V.chs).length cv])∧qaj W av ((atsOf V.chs).map encI)∧Turns F1 (rowF 38 1 rv rl.length rl++((B11,Is (recsO rv))::(B9,Is (vboxO V.blk))::(verF V++Z))) A W
  | [_,_,r]=>bOk r (frame 2 (verB l V.num V.size (atsOf V.chs)))∧Turns F1 (rowF 38 1 rv rl.length rl++(bRow r (frame 2 (verB l V.num V.size (atsOf V.chs)))++((B11,Is (recsO rv))::(B9,Is (vboxO V.blk))::(verF V++Z)))) A W
  | [_,_,r,s]=>∃ n:Nat,bOk r (frame 2 (verB l V.num V.size (atsOf V.chs)))∧s=.slice (some ⟨n,0,none⟩) 1 1∧Turns F1 (rowF 38 1 rv rl.length rl++((n,Is (rec1O r))::(bRow r (frame 2 (verB l V.num V.size (atsOf V.chs)))++((B11,Is (recsO rv))::(B9,Is (vboxO V.blk))::(verF V++Z))))) A W
  | [_,_,r,_,u]=>∃ n:Nat,bOk r (frame 2 (verB l V.num V.size (atsOf V.chs)))∧RowOk 1 u (rl++[r]).length (rl++[r])∧Turns F1 (rowF 38 1 u (rl++[r]).length (rl++[r])++((n,Is (rec1O r))::(bRow r (frame 2 (verB l V.num V.size (atsOf V.chs)))++((B11,Is (recsO rv))::(B9,Is (vboxO V.blk))::(verF V++Z))))) A W
  | [_,_,r,_,u,_]=>∃ n:Nat,bOk r (frame 2 (verB l V.num V.size (atsOf V.chs)))∧RowOk 1 u (rl++[r]).length (rl++[r])∧Turns F1 ((B11,Is (recsO u))::(rowF 38 1 u (rl++[r]).length (rl++[r])++((n,Is (rec1O r))::(bRow r (frame 2 (verB l V.num V.size (atsOf V.chs)))++((B9,Is (vboxO V.blk))::(verF V++Z)))))) A W
  | _=>False)
  (fun W=>W.heap[B11]?=some (recsO rv)∧W.heap[B9]?=some (vboxO V.blk)) [3,4,5,6,7,8] ?hC (by kernel_rfl) (by kernel_rfl) (by kernel_rfl) (by decide) (by decide) ?h0 ?hs ?he
 case hA=>intro x;simp only [qam,Act.put,List.setIfInBounds_toArray,List.set_cons_zero,List.set_cons_succ,Nat.reduceAdd];rfl
 case hs =>
  refine ⟨qab rfl rfl (fun x wq hd hC K hK hKw=>?_),qab rfl rfl (fun x wq hd hC K hK hKw=>?_),qab rfl rfl (fun x wq hd hC K hK hKw=>?_),qap 0 rfl rfl (fun x wq hd hS K hK=>?_),qap 1 rfl rfl (fun x wq hd hS K hK=>?_),qap 2 rfl rfl (fun x wq hd hS K hK=>?_),qap 3 rfl rfl (fun x wq hd hS K hK=>?_),qap 4 rfl rfl (fun x wq hd hS K hK=>?_),qap 5 rfl rfl (fun x wq hd hS K hK=>?_),trivial⟩
  ·exact qat Tryz.underlying61 rfl rfl (by rfl) (qac hC.1 0 rfl) (hK _ rfl)
  ·exact qag (by kernel_rfl) (hK _ rfl)
  ·exact qat Tryz.underlying149 rfl rfl (by rfl) (qac hC.2 0 rfl) (hK _ rfl)
  ·have h1:x 1=str l:=qae hd 1 (by kernel_rfl)
   have h2:x 2=.pointer (some ⟨V.blk,0,none⟩):=qae hd 2 (by kernel_rfl)
   refine qbe (by rw [h1,h2];kernel_rfl) (qma l V wq (hS.sat.sub (fun _=>by simp only [qad,qaa,qah]<;>omega)) hpo hcl) ?_
   rintro e w3 ⟨av,cv,rfl,hc,hs⟩
   exact ⟨_,rfl,hK _ _ trivial ⟨av,cv,rfl,hc,hS.thenSame hs⟩⟩
  ·obtain ⟨av,cv,e3,hc,hT⟩:=hS
   exact qag (v:=.iface 173 (x 3)) (by rw [e3];kernel_rfl) (hK _ _ trivial ⟨av,cv,by rw [e3],hc,hT⟩)
  ·obtain ⟨av,cv,e4,hc,hT⟩:=hS
   refine qbe (by rw [e4];kernel_rfl) (qqw 2 l V.num V.size av cv (atsOf V.chs) wq hc hpl hnum hsize hat (by unfold atsOf;rw [List.length_map];exact hcl)) ?_
   rintro e w3 ⟨v3,rfl,hb3,hT3⟩
   refine ⟨_,rfl,hK _ _ trivial ⟨hb3,?_⟩⟩
   have h:=Turns.newIn hT hT3
   exact h.to (qaf fun _=>by simp only [qad,qaa,qah]<;>omega)
  ·obtain ⟨hb,hT⟩:=hS
   obtain ⟨-,-,av,cv,hv⟩:=qjg hb (hT.sat.sub (G:=bRow (x 5) (frame 2 (verB l V.num V.size (atsOf V.chs)))) (fun _=>by simp only [qad,qaa,qah]<;>omega))
   refine qag (v:=.slice (some ⟨wq.heap.size,0,none⟩) 1 1) (w':=wq.alloc (rec1O (x 5))) (by rw [hv];kernel_rfl) (hK _ _ trivial ⟨wq.heap.size,hb,rfl,?_⟩)
   have h:=Turns.allocIs hT (rec1O (x 5))
   exact h.to (qaf fun _=>by simp only [qad,qaa,qah]<;>omega)
  ·have h0:x 0=rv:=qae hd 0 (by kernel_rfl)
   obtain ⟨n,hb,en,hT⟩:=hS
   have hno:=hT.sat.memIs (b:=n) (o:=rec1O (x 5)) (by simp)
   obtain ⟨h1,-,-⟩:=qjg hb (hT.sat.sub (G:=bRow (x 5) (frame 2 (verB l V.num V.size (atsOf V.chs)))) (fun _=>by simp only [qad,qaa,qah]<;>omega))
   exact qis (.tmp 139) (.tmp 145) rfl rv rl (by rw [h0];rfl) hT hro n (x 5) (by rw [en];rfl) h1 (qac hno 0 rfl) hl (fun v1 w1 k1 k2=>hK _ _ trivial ⟨n,hb,k1,k2⟩)
  ·obtain ⟨n,hb,ho,hT⟩:=hS
   have h1:=qxy hT.sat.left ho
   exact qa0 61 (.tmp 11) (.tmp 146) rfl B11 0 #[rv] 61 (x 7) (hT.to (H:=(B11,Is (recsO rv))::(rowF 38 1 (x 7) (rl++[(x 5)]).length (rl++[(x 5)])++((n,Is (rec1O (x 5)))::(bRow (x 5) (frame 2 (verB l V.num V.size (atsOf V.chs)))++((B9,Is (vboxO V.blk))::(verF V++Z)))))) (qaf fun _=>by simp only [qad,qaa,qah]<;>omega)) rfl rfl (by simp) (by kernel_rfl) h1.1 h1.2 (fun w9 h9=>hK _ _ trivial ⟨n,hb,ho,h9⟩)
 case hC =>
  intro vs1 W hlt hS
  match vs1,hS,hlt with
  | [],hT,_=>exact ⟨hT.sat.memIs (by simp),hT.sat.memIs (by simp)⟩
  | [_],⟨_,_,_,_,hT⟩,_=>exact ⟨hT.sat.memIs (by simp),hT.sat.memIs (by simp)⟩
  | [_,_],⟨_,_,_,_,hT⟩,_=>exact ⟨hT.sat.memIs (by simp),hT.sat.memIs (by simp)⟩
  | [_,_,_],⟨_,hT⟩,_=>exact ⟨hT.sat.memIs (by simp),hT.sat.memIs (by simp)⟩
  | [_,_,_,_],⟨_,_,_,hT⟩,_=>exact ⟨hT.sat.memIs (by simp),hT.sat.memIs (by simp)⟩
  | [_,_,_,_,_],⟨_,_,_,hT⟩,_=>exact ⟨hT.sat.memIs (by simp),hT.sat.memIs (by simp)⟩
  | [_,_,_,_,_,_],_,hlt=>exact absurd hlt (Nat.lt_irrefl _)
 case h0 =>
  exact hT.drew
 case he =>
  intro x w3 hφ hS
  obtain ⟨n,hb,hok3,hT3⟩:=hS
  exact hk (x 0) (x 1) (x 2) (x 3) (x 4) (x 5) (x 6) (x 7) w3 hb hok3 (hT3.drop (fun _=>by simp only [qad,qaa,qah]<;>omega))
theorem put36 (F1 Z:HF) (A:World) (B3 B22 a:Nat) (X:ArchL) (cs:List ChkL) (cc:Nat) (c:Bs) (q:Nat×Nat) {Q:Exit→Act→World→Prop} {w:World} {u0 u1 u2 u4 u5 u6 u7 u8 u9 u10 u11 u12 u13 u14 u15 u16 u17 u18 u19 u20 u23 u24 u25 u26 u27 u28 u29 u30 u31 u32 u33 u34 u35 u36 u37 u38 u39 u40 u41 u42 u43 u44 u45 u46 u47 u48 u49 u50 u51 u52 u53 u54 u55 u56 u57 u58 u59 u60 u61 u62 u63 u64 u65 u66 u67 u68 u69 u70 u71 u72 u73 u74 u75 u76 u77 u78 u79 u80 u81 u82 u83 u84 u85 u86 u87 u88 u89 u90 u91 u92 u93 u94 u95 u96 u97 u98 u99 u100 u101 u102 u103 u104 u105 u106 u107 u108 u109 u110 u111 u112 u113 u114 u115 u116 u117 u118 u119 u120 u121 u122 u123 u124 u125 u126 u127 u128 u129 u130 u131 u132 u133 u134 u135 u136 u137 u138 u139 u140 u141 u142 u143 u144 u145 u146 u147 u148 u149 u150 u151 u152 u153 u154 u155 u156 u157 u158 u159 u160 u161 u162 u163 u164 u165 u166 u167 u168 u169 u170 u171 u172 u173 u174 u175 u176:Value} {ds:List Deferred} (hT:Turns F1 (((a,Is (.cells (qa4 X) 128 (0,0)))::qbd X.cm cs cc)++((B3,Is (boxA a))::(B22,Is (qau q))::Z)) A w) (hok:ChunksOk cs cc) (hlen:(qa5 cs (be (sumOf 1 c) 4)).length≤100000) (hbl:c.length≤1000000) (hsc : -4611686018427387904≤X.sc∧X.sc≤4611686018427387904) (hsb : -4611686018427387904≤X.sb∧X.sb≤4611686018427387904)
  (hk:∀ (y160 y161 y162 y163 y164 y165 y166:Value) (w':World),(∃ v',qbl v' (qa5 cs (be (sumOf 1 c) 4)++[q])∧Turns F1 (((a,Is (.cells (((qa4 X).setIfInBounds 3 (.int .i64 (X.sc+1))).setIfInBounds 4 (.int .i64 (X.sb+c.length))) 128 (0,0)))::qbd X.cm (setG cs cc (be (sumOf 1 c) 4) v' (qa5 cs (be (sumOf 1 c) 4)++[q])) (putC (cs.map entG) cc (be (sumOf 1 c) 4)))++((B3,Is (boxA a))::(B22,Is (qau q))::Z)) A w')→Q .normal { tmps:=#[u0,u1,u2,.pointer (some ⟨B3,0,none⟩),u4,u5,u6,u7,u8,u9,u10,u11,u12,u13,u14,u15,u16,u17,u18,u19,u20,str c,.pointer (some ⟨B22,0,none⟩),u23,u24,u25,u26,u27,u28,u29,u30,u31,u32,u33,u34,u35,u36,u37,u38,u39,u40,u41,u42,u43,u44,u45,u46,u47,u48,u49,u50,u51,u52,u53,u54,u55,u56,u57,u58,u59,u60,u61,u62,u63,u64,u65,u66,u67,u68,u69,u70,u71,u72,u73,u74,u75,u76,u77,u78,u79,u80,u81,u82,u83,u84,u85,u86,u87,u88,u89,u90,u91,u92,u93,u94,u95,u96,u97,u98,u99,u100,u101,u102,u103,u104,u105,u106,u107,u108,u109,u110,u111,u112,u113,u114,u115,u116,u117,u118,u119,u120,u121,u122,u123,u124,u125,u126,u127,u128,u129,u130,u131,u132,u133,u134,u135,u136,u137,u138,u139,u140,u141,u142,u143,u144,u145,u146,u147,u148,u149,u150,u151,u152,u153,u154,u155,u156,u157,u158,u159,y160,y161,y162,y163,y164,y165,y166,u167,u168,u169,u170,u171,u172,u173,u174,u175,u176],defers:=ds } w') :
  (regOf 36 Tryz.f25).wp Tryz.prog Q { tmps:=#[u0,u1,u2,.pointer (some ⟨B3,0,none⟩),u4,u5,u6,u7,u8,u9,u10,u11,u12,u13,u14,u15,u16,u17,u18,u19,u20,str c,.pointer (some ⟨B22,0,none⟩),u23,u24,u25,u26,u27,u28,u29,u30,u31,u32,u33,u34,u35,u36,u37,u38,u39,u40,u41,u42,u43,u44,u45,u46,u47,u48,u49,u50,u51,u52,u53,u54,u55,u56,u57,u58,u59,u60,u61,u62,u63,u64,u65,u66,u67,u68,u69,u70,u71,u72,u73,u74,u75,u76,u77,u78,u79,u80,u81,u82,u83,u84,u85,u86,u87,u88,u89,u90,u91,u92,u93,u94,u95,u96,u97,u98,u99,u100,u101,u102,u103,u104,u105,u106,u107,u108,u109,u110,u111,u112,u113,u114,u115,u116,u117,u118,u119,u120,u121,u122,u123,u124,u125,u126,u127,u128,u129,u130,u131,u132,u133,u134,u135,u136,u137,u138,u139,u140,u141,u142,u143,u144,u145,u146,u147,u148,u149,u150,u151,u152,u153,u154,u155,u156,u157,u158,u159,u160,u161,u162,u163,u164,u165,u166,u167,u168,u169,u170,u171,u172,u173,u174,u175,u176],defers:=ds } w:=by
 have HM:=Lib.hid (show Tryz.prog.follows .mixedOrders=true by kernel_rfl)
 conv=>arg 2;whnf
 refine qbu (A:=?A) (hA:=?hA) HM.out (phiL [fun v=>v=.pointer (some ⟨a,0,none⟩),fun v=>v=.pointer (some ⟨a,0,none⟩),fun v=>v=.pointer (some ⟨a,0,none⟩),fun v=>v=str c,fun _=>True,fun v=>v=.agg #[.int .i64 q.1,.int .i64 q.2],fun _=>True])
  (fun vs1 W=>match vs1 with
  | []=>Turns F1 (((a,Is (.cells (qa4 X) 128 (0,0)))::qbd X.cm cs cc)++((B3,Is (boxA a))::(B22,Is (qau q))::Z)) A W
  | [v]=>∃ (n cap:Nat),v=.slice (some ⟨n,0,none⟩) c.length cap∧qaj W (some ⟨n,0,none⟩) (c.map enc8)∧Turns F1 (((a,Is (.cells (qa4 X) 128 (0,0)))::qbd X.cm cs cc)++((B3,Is (boxA a))::(B22,Is (qau q))::Z)) A W
  | [_,_]=>∃ v',qbl v' (qa5 cs (be (sumOf 1 c) 4)++[q])∧Turns F1 (((a,Is (.cells (((qa4 X).setIfInBounds 3 (.int .i64 (X.sc+1))).setIfInBounds 4 (.int .i64 (X.sb+c.length))) 128 (0,0)))::qbd X.cm (setG cs cc (be (sumOf 1 c) 4) v' (qa5 cs (be (sumOf 1 c) 4)++[q])) (putC (cs.map entG) cc (be (sumOf 1 c) 4)))++((B3,Is (boxA a))::(B22,Is (qau q))::Z)) A W
  | _=>False)
  (fun W=>W.heap[B3]?=some (boxA a)∧W.heap[B22]?=some (qau q)) [4,6] ?hC (by kernel_rfl) (by kernel_rfl) (by kernel_rfl) (by decide) (by decide) ?h0 ?hs ?he
 case hA=>intro x;simp only [qam,Act.put,List.setIfInBounds_toArray,List.set_cons_zero,List.set_cons_succ,Nat.reduceAdd];rfl
 case hs =>
  refine ⟨qab rfl rfl (fun x wq hd hC K hK hKw=>?_),qab rfl rfl (fun x wq hd hC K hK hKw=>?_),qab rfl rfl (fun x wq hd hC K hK hKw=>?_),qab rfl rfl (fun x wq hd hC K hK hKw=>?_),qap 0 rfl rfl (fun x wq hd hS K hK=>?_),qab rfl rfl (fun x wq hd hC K hK hKw=>?_),qap 1 rfl rfl (fun x wq hd hS K hK=>?_),trivial⟩
  ·exact qat Tryz.underlying32 rfl rfl (by rfl) (qac hC.1 0 rfl) (hK _ rfl)
  ·have h0:x 0=.pointer (some ⟨a,0,none⟩):=qae hd 0 (by kernel_rfl)
   exact qag (by rw [h0];kernel_rfl) (hK _ rfl)
  ·have h1:x 1=.pointer (some ⟨a,0,none⟩):=qae hd 1 (by kernel_rfl)
   exact qag (by rw [h1];kernel_rfl) (hK _ rfl)
  ·exact qag (by kernel_rfl) (hK _ rfl)
  ·have h3:x 3=str c:=qae hd 3 (by kernel_rfl)
   exact qyx (.tmp 163) rfl c (by rw [h3];rfl) (fun n cap w1 h1 h2 h4=>hK _ _ trivial ⟨n,cap,rfl,h2,hS.thenSame h1⟩)
  ·exact wp_load_mid 161 (.tmp 22) rfl B22 0 rfl [.int .i64 q.1,.int .i64 q.2] _ (fun j v hv=>qac hC.2 (0+j) (by rw [Nat.zero_add,← Array.getElem?_toList];exact hv)) Tryz.underlying161 rfl (by kernel_rfl) (hK _ rfl)
  ·have h2:x 2=.pointer (some ⟨a,0,none⟩):=qae hd 2 (by kernel_rfl)
   have h5:x 5=.agg #[.int .i64 q.1,.int .i64 q.2]:=qae hd 5 (by kernel_rfl)
   obtain ⟨n,cap,e4,hc,hT⟩:=hS
   refine qbe (by rw [h2,h5];rw [e4];kernel_rfl) (qpq a X.pm X.tm X.cm cc X.sc X.sb X.used cs c (some ⟨n,0,none⟩) cap q (qa4 X) 128 wq hT.sat.left ⟨rfl,rfl,rfl,rfl,rfl,rfl⟩ hok hc hlen hbl hsc hsb) ?_
   rintro e w3 ⟨v',rfl,hp,hT3⟩
   exact ⟨_,rfl,hK _ _ trivial ⟨v',hp,hT.step (List.Perm.refl _) hT3⟩⟩
 case hC =>
  intro vs1 W hlt hS
  match vs1,hS,hlt with
  | [],hT,_=>exact ⟨hT.sat.memIs (by simp),hT.sat.memIs (by simp)⟩
  | [_],⟨_,_,_,_,hT⟩,_=>exact ⟨hT.sat.memIs (by simp),hT.sat.memIs (by simp)⟩
  | [_,_],_,hlt=>exact absurd hlt (Nat.lt_irrefl _)
 case h0 =>
  exact hT.drew
 case he =>
  intro x w3 hφ hS
  exact hk (x 0) (x 1) (x 2) (x 3) (x 4) (x 5) (x 6) w3 hS
theorem put37 (F1 Z:HF) (A:World) (B3 B9 a:Nat) (X:ArchL) (ps:List PathL) (pc:Nat) (l:Bs) (V:VerL) {Q:Exit→Act→World→Prop} {w:World} {u0 u2 u4 u5 u6 u7 u8 u10 u11 u12 u13 u14 u15 u16 u17 u18 u19 u20 u21 u22 u23 u24 u25 u26 u27 u28 u29 u30 u31 u32 u33 u34 u35 u36 u37 u38 u39 u40 u41 u42 u43 u44 u45 u46 u47 u48 u49 u50 u51 u52 u53 u54 u55 u56 u57 u58 u59 u60 u61 u62 u63 u64 u65 u66 u67 u68 u69 u70 u71 u72 u73 u74 u75 u76 u77 u78 u79 u80 u81 u82 u83 u84 u85 u86 u87 u88 u89 u90 u91 u92 u93 u94 u95 u96 u97 u98 u99 u100 u101 u102 u103 u104 u105 u106 u107 u108 u109 u110 u111 u112 u113 u114 u115 u116 u117 u118 u119 u120 u121 u122 u123 u124 u125 u126 u127 u128 u129 u130 u131 u132 u133 u134 u135 u136 u137 u138 u139 u140 u141 u142 u143 u144 u145 u146 u147 u148 u149 u150 u151 u152 u153 u154 u155 u156 u157 u158 u159 u160 u161 u162 u163 u164 u165 u166 u167 u168 u169 u170 u171 u172 u173 u174 u175 u176:Value} {ds:List Deferred} (hT:Turns F1 (((a,Is (.cells (qa4 X) 128 (0,0)))::(qbc X.pm ps pc++verF V))++((B3,Is (boxA a))::(B9,Is (vboxO V.blk))::Z)) A w) (hok:PathsOk ps pc) (hl:OkS l) (hlen:(qaq ps l).length≤100000) (hus : -4611686018427387904≤X.used∧X.used+V.size≤4611686018427387904) (hvs:V.size≤4611686018427387904)
  (hk:∀ (y167 y168 y169 y170 y171 y172:Value) (w':World),(∃ v',ptrOk v' (qaq ps l++[V])∧Turns F1 (((a,Is (.cells ((qa4 X).setIfInBounds 5 (.int .i64 (X.used+V.size))) 128 (0,0)))::qbc X.pm (addP ps pc l v' V) (putC (ps.map entG) pc l))++((B3,Is (boxA a))::(B9,Is (vboxO V.blk))::Z)) A w')→Q .normal { tmps:=#[u0,str l,u2,.pointer (some ⟨B3,0,none⟩),u4,u5,u6,u7,u8,.pointer (some ⟨B9,0,none⟩),u10,u11,u12,u13,u14,u15,u16,u17,u18,u19,u20,u21,u22,u23,u24,u25,u26,u27,u28,u29,u30,u31,u32,u33,u34,u35,u36,u37,u38,u39,u40,u41,u42,u43,u44,u45,u46,u47,u48,u49,u50,u51,u52,u53,u54,u55,u56,u57,u58,u59,u60,u61,u62,u63,u64,u65,u66,u67,u68,u69,u70,u71,u72,u73,u74,u75,u76,u77,u78,u79,u80,u81,u82,u83,u84,u85,u86,u87,u88,u89,u90,u91,u92,u93,u94,u95,u96,u97,u98,u99,u100,u101,u102,u103,u104,u105,u106,u107,u108,u109,u110,u111,u112,u113,u114,u115,u116,u117,u118,u119,u120,u121,u122,u123,u124,u125,u126,u127,u128,u129,u130,u131,u132,u133,u134,u135,u136,u137,u138,u139,u140,u141,u142,u143,u144,u145,u146,u147,u148,u149,u150,u151,u152,u153,u154,u155,u156,u157,u158,u159,u160,u161,u162,u163,u164,u165,u166,y167,y168,y169,y170,y171,y172,u173,u174,u175,u176],defers:=ds } w') :
  (regOf 37 Tryz.f25).wp Tryz.prog Q { tmps:=#[u0,str l,u2,.pointer (some ⟨B3,0,none⟩),u4,u5,u6,u7,u8,.pointer (some ⟨B9,0,none⟩),u10,u11,u12,u13,u14,u15,u16,u17,u18,u19,u20,u21,u22,u23,u24,u25,u26,u27,u28,u29,u30,u31,u32,u33,u34,u35,u36,u37,u38,u39,u40,u41,u42,u43,u44,u45,u46,u47,u48,u49,u50,u51,u52,u53,u54,u55,u56,u57,u58,u59,u60,u61,u62,u63,u64,u65,u66,u67,u68,u69,u70,u71,u72,u73,u74,u75,u76,u77,u78,u79,u80,u81,u82,u83,u84,u85,u86,u87,u88,u89,u90,u91,u92,u93,u94,u95,u96,u97,u98,u99,u100,u101,u102,u103,u104,u105,u106,u107,u108,u109,u110,u111,u112,u113,u114,u115,u116,u117,u118,u119,u120,u121,u122,u123,u124,u125,u126,u127,u128,u129,u130,u131,u132,u133,u134,u135,u136,u137,u138,u139,u140,u141,u142,u143,u144,u145,u146,u147,u148,u149,u150,u151,u152,u153,u154,u155,u156,u157,u158,u159,u160,u161,u162,u163,u164,u165,u166,u167,u168,u169,u170,u171,u172,u173,u174,u175,u176],defers:=ds } w:=by
 have HM:=Lib.hid (show Tryz.prog.follows .mixedOrders=true by kernel_rfl)
 conv=>arg 2;whnf
 refine qbu (A:=?A) (hA:=?hA) HM.out (phiL [fun v=>v=.pointer (some ⟨a,0,none⟩),fun v=>v=.pointer (some ⟨a,0,none⟩),fun v=>v=.pointer (some ⟨a,0,none⟩),fun v=>v=str l,fun v=>v=.pointer (some ⟨V.blk,0,none⟩),fun _=>True])
  (fun vs1 W=>match vs1 with
  | []=>Turns F1 (((a,Is (.cells (qa4 X) 128 (0,0)))::(qbc X.pm ps pc++verF V))++((B3,Is (boxA a))::(B9,Is (vboxO V.blk))::Z)) A W
  | [_]=>∃ v',ptrOk v' (qaq ps l++[V])∧Turns F1 (((a,Is (.cells ((qa4 X).setIfInBounds 5 (.int .i64 (X.used+V.size))) 128 (0,0)))::qbc X.pm (addP ps pc l v' V) (putC (ps.map entG) pc l))++((B3,Is (boxA a))::(B9,Is (vboxO V.blk))::Z)) A W
  | _=>False)
  (fun W=>W.heap[B3]?=some (boxA a)∧W.heap[B9]?=some (vboxO V.blk)) [5] ?hC (by kernel_rfl) (by kernel_rfl) (by kernel_rfl) (by decide) (by decide) ?h0 ?hs ?he
 case hA=>intro x;simp only [qam,Act.put,List.setIfInBounds_toArray,List.set_cons_zero,List.set_cons_succ,Nat.reduceAdd];rfl
 case hs =>
  refine ⟨qab rfl rfl (fun x wq hd hC K hK hKw=>?_),qab rfl rfl (fun x wq hd hC K hK hKw=>?_),qab rfl rfl (fun x wq hd hC K hK hKw=>?_),qab rfl rfl (fun x wq hd hC K hK hKw=>?_),qab rfl rfl (fun x wq hd hC K hK hKw=>?_),qap 0 rfl rfl (fun x wq hd hS K hK=>?_),trivial⟩
  ·exact qat Tryz.underlying32 rfl rfl (by rfl) (qac hC.1 0 rfl) (hK _ rfl)
  ·have h0:x 0=.pointer (some ⟨a,0,none⟩):=qae hd 0 (by kernel_rfl)
   exact qag (by rw [h0];kernel_rfl) (hK _ rfl)
  ·have h1:x 1=.pointer (some ⟨a,0,none⟩):=qae hd 1 (by kernel_rfl)
   exact qag (by rw [h1];kernel_rfl) (hK _ rfl)
  ·exact qag (by kernel_rfl) (hK _ rfl)
  ·exact qat Tryz.underlying149 rfl rfl (by rfl) (qac hC.2 0 rfl) (hK _ rfl)
  ·have h2:x 2=.pointer (some ⟨a,0,none⟩):=qae hd 2 (by kernel_rfl)
   have h3:x 3=str l:=qae hd 3 (by kernel_rfl)
   have h4:x 4=.pointer (some ⟨V.blk,0,none⟩):=qae hd 4 (by kernel_rfl)
   refine qbe (by rw [h2,h3,h4];kernel_rfl) (qrm a X.pm X.tm X.cm pc X.sc X.sb X.used ps l V (qa4 X) 128 wq hS.sat.left ⟨rfl,rfl,rfl,rfl,rfl,rfl⟩ hok hl hlen hus hvs) ?_
   rintro e w3 ⟨v',rfl,hp,hT3⟩
   exact ⟨_,rfl,hK _ _ trivial ⟨v',hp,hS.step (List.Perm.refl _) hT3⟩⟩
 case hC =>
  intro vs1 W hlt hS
  match vs1,hS,hlt with
  | [],hT,_=>exact ⟨hT.sat.memIs (by simp),hT.sat.memIs (by simp)⟩
  | [_],_,hlt=>exact absurd hlt (Nat.lt_irrefl _)
 case h0 =>
  exact hT.drew
 case he =>
  intro x w3 hφ hS
  exact hk (x 0) (x 1) (x 2) (x 3) (x 4) (x 5) w3 hS
theorem qgc (c:Bs) (r:List Bs):qb4 (c::r)=frame 1 c++qb4 r:=by simp [qb4]
theorem qdi:∀ l:List Bs,(qb4 l).length=qa1 l
 | []=>rfl
 | c::r=>by rw [qgc,List.length_append,qca,qeh,qdi r]
theorem qm3 (rest:Bs):∀ (l:List Bs) (data:Bs),(∀ c∈l,c.length<65536)→∀ e∈qbo data.length l,e.2.2=e.1.length∧qek (data++qb4 l++rest) e.2.1 e.1
 | [],_,_,e,h=>by simp [qbo] at h
 | c::r,data,hl,e,h=>by
  simp only [qbo,List.mem_cons] at h
  rcases h with rfl | h
  ·refine ⟨rfl,?_⟩
   have:=qek.frame (data:=data) (body:=c) (rest:=qb4 r++rest) (hl c (by simp))
   rw [qgc]
   simpa [List.append_assoc] using this
  ·have h2:=qm3 rest r (data++frame 1 c) (fun x hx=>hl x (by simp [hx])) e (by rw [List.length_append,qca,← Nat.add_assoc];exact h)
   rw [qgc]
   simpa [List.append_assoc] using h2
theorem qnx {ps:List PathL} {pc:Nat} (hok:PathsOk ps pc) {l:Bs} (hl:OkS l) {v:Value} {V:VerL} (hv:ptrOk v (qaq ps l++[V])) (hV:qbl V.cv V.chs):PathsOk (addP ps pc l v V) (putC (ps.map entG) pc l) where
 map:=by unfold addP;rw [qlo];exact hok.map.put hl v
 rows:=fun p hp=>by
  rcases qlc hp with ⟨h1,_⟩ | ⟨_,h2,h3⟩
  ·exact hok.rows p h1
  ·refine ⟨by rw [h2,h3];exact hv,fun U hU=>?_⟩
   rw [h3] at hU
   rcases List.mem_append.1 hU with h | h
   ·unfold qaq gOf at h
    cases hf:ps.find? (fun p=>decide (p.key=l)) with
    | none=>rw [hf] at h;simp at h
    | some p'=>rw [hf] at h;exact (hok.rows p' (List.mem_of_find?_eq_some hf)).2 U h
   ·simp only [List.mem_singleton] at h;subst h;exact hV
theorem qcu {ps:List PathL} {l:Bs} (h:qaq ps l≠[]):∃ p∈ps,p.key=l∧p.g=qaq ps l:=by
 unfold qaq gOf at h ⊢
 cases hf:ps.find? (fun p=>decide (p.key=l)) with
 | none=>rw [hf] at h;exact absurd rfl h
 | some p=>exact ⟨p,List.mem_of_find?_eq_some hf,by simpa using List.find?_some hf,rfl⟩
theorem q4k {γ:Type} (ps:List (GE γ)) (c:Nat) (l:Bs) (v:Value) (g:γ):(setG ps c l v g).length≤ps.length+1:=by
 unfold setG;split<;>simp
theorem qh6 {α β:Type}:∀ {l:List α} {m:List β},l.length=m.length→∀ b∈m,∃ a∈l,(a,b)∈l.zip m
 | [],[],_,b,hb=>by simp at hb
 | a::l,x::m,h,b,hb=>by
  rcases List.mem_cons.1 hb with rfl | hb
  ·exact ⟨a,by simp,by simp⟩
  ·obtain ⟨a',h1,h2⟩:=qh6 (by simpa using h) b hb
   exact ⟨a',by simp [h1],by simp [h2]⟩
theorem qxn:∀ {l:List Bs} {m:List (Nat×Nat)},l.length=m.length→(∀ e∈l.zip m,e.2.2=e.1.length)→(m.map (·.2)).sum=(l.map List.length).sum
 | [],[],_,_=>rfl
 | c::l,q::m,h,hz=>by
  have h1:=hz (c,q) (by simp)
  have h2:=qxn (l:=l) (m:=m) (by simpa using h) (fun e he=>hz e (by simp [he]))
  simp only [List.map_cons,List.sum_cons]
  rw [h2]
  simp only at h1
  rw [h1]
theorem qka:∀ (l:List Nat) (d:Bs),l.sum=d.length→((qck l d).map List.length).sum=d.length
 | [],d,h=>by simpa [qck] using h
 | n::r,d,h=>by
  simp only [List.sum_cons] at h
  simp only [qck,List.map_cons,List.sum_cons,List.length_take]
  rw [qka r (d.drop n) (by rw [List.length_drop];omega),List.length_drop]
  omega
theorem qmo (D:Bs):((qav D).map List.length).sum=D.length:=qka _ _ (qex D)
theorem qnc (has:List Bs):∀ (l acc:List Bs),((qbp has acc l).map List.length).sum≤(acc.map List.length).sum+(l.map List.length).sum
 | [],acc=>by simp [qbp]
 | c::l,acc=>by
  simp only [qbp]
  split
  ·have:=qnc has l acc;simp;omega
  ·have:=qnc has l (acc++[c]);simp at this ⊢;omega
theorem qg9 (l:List Bs):qa1 l=(l.map List.length).sum+9*l.length:=by
 induction l with
 | nil=>rfl
 | cons c r ih=>rw [qeh,ih];simp;omega
theorem qfz (S:AS) (D:Bs):((qa8 S D).map List.length).sum≤D.length:=by
 have:=qnc (S.K.map (·.1)) (qav D) []
 rw [qmo] at this
 unfold qa8
 simpa using this
theorem qk8 (S:AS) (D:Bs):(qa8 S D).length≤D.length:=by
 have h1:=qht (S.K.map (·.1)) (qav D) []
 have h2:=qcy D
 rw [qbz] at h1
 unfold qa8
 simp at h1;omega
theorem qlh {S:AS} {D c:Bs} (h:c∈qa8 S D):c∈qav D∧c∉S.K.map (·.1):=by
 rcases qgb _ _ _ c h with h | h
 ·simp at h
 ·exact h
theorem qp2 (data:Bs):(qbs data).length=128:=by
 unfold qbs
 have:=qdy data
 simp [zeros]
 omega
theorem qpa {S:AS} {b:Nat} (hB:ArB S b) (l:Bs):qc7 (qaq S.ps l)≤4294967296+b:=by
 unfold qc7
 cases hg:(qaq S.ps l).getLast? with
 | none=>simp
 | some V =>
  have hV:=List.mem_of_getLast? hg
  obtain ⟨p,hp,_,h2⟩:=qcu (ps:=S.ps) (l:=l) (fun e=>by rw [e] at hV;simp at hV)
  rw [← h2] at hV
  exact ((hB.vers p hp).2.2 V hV).1
theorem qfs (l:Bs) (n s:Int) (chs:List (Nat×Nat)):(frame 2 (verB l n s (atsOf chs))).length=l.length+16+4*chs.length:=by
 simp only [qca,verB,List.length_append,qfd,qb6,qeg,atsOf,List.length_map]
 omega
theorem q4b {S:AS} {l D:Bs} {b:Nat} (hok:ArOk S) (hB:ArB S b) (hl:l.length≤20) (hD:D.length≤4000) {sp:List (Nat×Nat×Nat)} (hA:AreaOk { S.A with spare:=sp }) {V:VerL} (hnum:V.num=qc7 (qaq S.ps l)+1) (hsize:V.size=D.length) (hheld:V.held=0)
  (hnc:V.chs.length=(qav D).length) (hchs:∀ e∈(qav D).zip V.chs,e∈S.K++qbo S.data.length (qa8 S D)) (hV:qbl V.cv V.chs) {L':DevL} (hL:DevOk L') (hLn:L'.n=S.L.n)
  (hdat:qdt L'.now S.A.first S.A.count (S.data++qb4 (qa8 S D)++frame 2 (verB l V.num V.size (atsOf V.chs)))) (hoth:∀ f2 c2,(f2+c2≤S.A.first∨S.A.first+S.A.count≤f2)→qax L'.now f2 c2=qax S.L.now f2 c2)
  (hLc:L'.chs.length≤S.L.chs.length+(qb4 (qa8 S D)++frame 2 (verB l V.num V.size (atsOf V.chs))).length) {cs':List ChkL} {cc':Nat} (hcs:ChunksOk cs' cc')
  (hkin:∀ k,(qa5 cs' k).Perm (((S.K++qbo S.data.length (qa8 S D)).filter (fun e=>decide (keyB e.1=k))).map (·.2))) {v':Value} (hv:ptrOk v' (qaq S.ps l++[V])) :
  ∀ S',S'={ S with X:={ S.X with sc:=S.X.sc+(qa8 S D).length,sb:=S.X.sb+((qa8 S D).map List.length).sum,used:=S.X.used+D.length },A:={ S.A with spare:=sp,end_:=(S.data++qb4 (qa8 S D)++frame 2 (verB l V.num V.size (atsOf V.chs))).length,tail:=qbs (S.data++qb4 (qa8 S D)++frame 2 (verB l V.num V.size (atsOf V.chs))) },L:=L',ps:=addP S.ps S.pc l v' V,pc:=putC (S.ps.map entG) S.pc l,cs:=cs',cc:=cc',data:=S.data++qb4 (qa8 S D)++frame 2 (verB l V.num V.size (atsOf V.chs)),K:=S.K++qbo S.data.length (qa8 S D) } →
  PutStep S S' l D V∧ArOk S'∧PutB S D b S':=by
 rintro S' rfl
 have hfl:=qk8 S D
 have hfs:=qfz S D
 have hkat:∀ e∈S.K++qbo S.data.length (qa8 S D),e.2.2=e.1.length∧qek (S.data++qb4 (qa8 S D)++frame 2 (verB l V.num V.size (atsOf V.chs))) e.2.1 e.1:=fun e he=>by
  rcases List.mem_append.1 he with h | h
  ·refine ⟨(hok.kat e h).1,?_⟩
   rw [List.append_assoc]
   exact (hok.kat e h).2.more
  ·exact qm3 _ _ _ (fun c hc=>by have:=qde (qlh hc).1;omega) e h
 have hpl:(qbo S.data.length (qa8 S D)).length=(qa8 S D).length:=by
  have:=congrArg List.length (qqb (qa8 S D) S.data.length 0)
  simp only [List.length_map] at this
  rw [← this,qk6]
 have hln:=qpa hB l
 have hcn:=qcy D
 rw [qbz] at hnc
 have hvers:∀ p∈addP S.ps S.pc l v' V,(p∈S.ps∧p.key≠l)∨(p.key=l∧p.g=qaq S.ps l++[V]):=fun p hp=>by
  rcases qlc hp with h | ⟨h1,_,h3⟩
  ·exact .inl h
  ·exact .inr ⟨h1,h3⟩
 refine ⟨⟨rfl,rfl,rfl,rfl,rfl,hLn,rfl,rfl,rfl,rfl,rfl,fun m=>?_,hnum,hsize,hheld,by rw [hnc,qbz],hchs,rfl,hoth⟩,?_,?_⟩
 ·simp only [qaq,addP,qon]
 ·exact {
   dev:=hL,n16:=by rw [hLn];exact hok.n16,nmax:=by rw [hLn];exact hok.nmax,area:=⟨qp2 _,hA.few,hA.caps⟩,first:=by rw [hLn];exact hok.first,count:=by rw [hLn];exact hok.count
   end_:=rfl,tail:=rfl,dat:=hdat,paths:=qnx hok.paths (by unfold OkS;omega) hv hV,tags:=hok.tags,chunks:=hcs,kin:=hkin,kat:=hkat
   vers:=fun p hp U hU=>by
    have old:∀ p∈S.ps,∀ U∈p.g,(∀ q∈U.chs,∃ e∈S.K++qbo S.data.length (qa8 S D),e.2=q)∧U.size=(U.chs.map (·.2)).sum:=fun p hp U hU =>
     ⟨fun q hq=>by obtain ⟨e,he,h⟩:=(hok.vers p hp U hU).1 q hq;exact ⟨e,List.mem_append_left _ he,h⟩,(hok.vers p hp U hU).2⟩
    rcases hvers p hp with ⟨h1,_⟩ | ⟨_,h3⟩
    ·exact old p h1 U hU
    ·rw [h3] at hU
     rcases List.mem_append.1 hU with h | h
     ·obtain ⟨p',hp',_,h2⟩:=qcu (ps:=S.ps) (l:=l) (fun e=>by rw [e] at h;simp at h)
      rw [← h2] at h
      exact old p' hp' U h
     ·simp only [List.mem_singleton] at h
      subst h
      have hll:(qav D).length=U.chs.length:=by rw [hnc,qbz]
      refine ⟨fun q hq=>?_,?_⟩
      ·obtain ⟨c,_,h2⟩:=qh6 hll q hq
       exact ⟨(c,q),hchs _ h2,rfl⟩
      ·rw [hsize,qxn hll (fun e he=>(hkat e (hchs e he)).1),qmo]
   some:=fun p hp=>by
    rcases hvers p hp with ⟨h1,_⟩ | ⟨_,h3⟩
    ·exact hok.some p h1
    ·rw [h3];simp
   sound:=hok.sound,ep:=hok.ep }
 ·intro b' hb1 hb3
  rw [qbz] at hb3
  have hfr:(qb4 (qa8 S D)++frame 2 (verB l V.num V.size (atsOf V.chs))).length≤262144*2:=by
   rw [List.length_append,qdi,qg9,qfs]
   omega
  have hb2:b≤b':=by omega
  exact {
   K:=by have:=hB.K;simp only [List.length_append,hpl];omega
   np:=by have h1:=q4k S.ps S.pc l v' (qaq S.ps l++[V]);have:=hB.np;show (setG S.ps S.pc l v' (qaq S.ps l++[V])).length≤_;omega
   nt:=by have:=hB.nt;show S.ts.length≤_;omega
   vers:=fun p hp=>by
    have old:∀ U:VerL,U.num≤4294967296+b∧U.chs.length≤b∧U.size≤65536*b∧U.held.natAbs≤b→U.num≤4294967296+b'∧U.chs.length≤b'∧U.size≤65536*b'∧U.held.natAbs≤b':=fun U h=>by omega
    rcases hvers p hp with ⟨h1,_⟩ | ⟨h0,h3⟩
    ·obtain ⟨k1,k2,k3⟩:=hB.vers p h1
     exact ⟨k1,by omega,fun U hU=>old U (k3 U hU)⟩
    ·rw [h0,h3]
     have hlen:(qaq S.ps l).length≤b∧∀ U∈qaq S.ps l,U.num≤4294967296+b∧U.chs.length≤b∧U.size≤65536*b∧U.held.natAbs≤b:=by
      by_cases hn:qaq S.ps l=[]
      ·rw [hn];exact ⟨by simp,fun U hU=>by simp at hU⟩
      ·obtain ⟨p',hp',_,h2⟩:=qcu hn
       rw [← h2];exact ⟨(hB.vers p' hp').2.1,(hB.vers p' hp').2.2⟩
     refine ⟨by omega,by simp;omega,fun U hU=>?_⟩
     rcases List.mem_append.1 hU with h | h
     ·exact old U (hlen.2 U h)
     ·simp only [List.mem_singleton] at h
      subst h
      rw [hnum,hsize,hheld,hnc]
      exact ⟨by omega,by omega,by omega,by simp⟩
   tags:=fun p hp=>by obtain ⟨k1,k2,k3⟩:=hB.tags p hp;exact ⟨k1,k2,by omega⟩
   used:=by have:=hB.used;simp only;omega
   sc:=by have:=hB.sc;simp only;omega
   sb:=by have:=hB.sb;simp only;omega
   quota:=hB.quota
   chs:=by have:=hB.chs;simp only at hLc ⊢;omega }
def OkI (n:Int):Prop:=-9223372036854775808≤n∧n≤9223372036854775807
theorem qub:EncOk Tryz.prog 3 encI OkI where
 keyed:=int_keyed Tryz.underlying3
 inj:=fun a b h=>by simpa [encI] using h
 key:=fun a h=>⟨_,Go.Maps.keyOf_int_mk Tryz.underlying3 (by
  unfold OkI at h
  simp [Lit.wf,IntKind.wrap,IntKind.signed,IntKind.bits,IntKind.min,IntKind.max]
  omega)⟩
theorem zeroI (w:World):(zeroValue 3).run Tryz.prog w=.ok (.int .i64 0) w:=by kernel_rfl
def chsOf (szf:Int→Option Nat):List Int→Option (List (Nat×Nat))
 | []=>some []
 | a::r=>match szf a,chsOf szf r with
  | some s,some l=>some ((a.toNat,s)::l)
  | _,_=>none
theorem qli (szf:Int→Option Nat) (a:Int):∀ l:List Int,chsOf szf (l++[a])=match chsOf szf l,szf a with | some m,some s=>some (m++[(a.toNat,s)]) | _,_=>none
 | []=>by simp only [List.nil_append,chsOf];cases szf a<;>rfl
 | b::r=>by
  simp only [List.cons_append,chsOf,qli szf a r]
  cases szf b<;>cases chsOf szf r<;>cases szf a<;>rfl
theorem qpt {szf:Int→Option Nat}:∀ {l m:List Int},chsOf szf l=none→chsOf szf (l++m)=none
 | [],_,h=>by cases h
 | b::r,m,h=>by
  simp only [List.cons_append,chsOf] at h ⊢
  cases hb:szf b with
  | none=>rfl
  | some s =>
   rw [hb] at h
   cases hr:chsOf szf r with
   | none=>rw [qpt hr]
   | some l=>rw [hr] at h;cases h
theorem qrp {szf:Int→Option Nat}:∀ {l:List Int} {m:List (Nat×Nat)},chsOf szf l=some m→m.length=l.length
 | [],m,h=>by simp only [chsOf,Option.some.injEq] at h;subst h;rfl
 | b::r,m,h=>by
  simp only [chsOf] at h
  cases hb:szf b with
  | none=>rw [hb] at h;cases h
  | some s =>
   cases hr:chsOf szf r with
   | none=>rw [hb,hr] at h;cases h
   | some l=>rw [hb,hr] at h;simp only [Option.some.injEq] at h;subst h;simp [qrp hr]
theorem qr5 {szf:Int→Option Nat} (hs:∀ a s,szf a=some s→s≤65535):∀ {l:List Int} {m:List (Nat×Nat)},chsOf szf l=some m→(m.map (·.2)).sum≤65535*l.length
 | [],m,h=>by simp only [chsOf,Option.some.injEq] at h;subst h;simp
 | b::r,m,h=>by
  simp only [chsOf] at h
  cases hb:szf b with
  | none=>rw [hb] at h;cases h
  | some s =>
   cases hr:chsOf szf r with
   | none=>rw [hb,hr] at h;cases h
   | some l =>
    rw [hb,hr] at h
    simp only [Option.some.injEq] at h
    subst h
    have h1:=qr5 hs hr
    have h2:=hs b s hb
    simp only [List.map_cons,List.sum_cons,List.length_cons]
    omega
theorem q09 (X:ArchL) (s:Int):(qa4 X).setIfInBounds 5 (.int .i64 s)=qa4 { X with used:=s }:=rfl
theorem q63 (F1 Z:HF) (A:World) (a tb:Nat) (X:ArchL) (ps:List PathL) (pc:Nat) (p:Bs) (n m:Nat) (v:Value) (V:VerL) {Q:Exit→Act→World→Prop} {w:World} {u1 u2 u3 u4 u5 u6 u9 u10 u11 u12 u13 u14 u15 u16 u17 u18 u19 u20 u21 u22 u23 u24 u25 u26 u27 u28 u29 u30 u31 u32 u33 u34 u35 u36 u37 u38 u39 u40 u41 u42 u43 u44 u45 u46 u47 u48 u49 u50 u51 u52 u53 u54 u55 u56 u57 u58 u59 u60 u61 u62 u63 u64 u65 u66 u67 u68 u69 u70 u71 u72 u73 u74 u75 u76 u77 u78 u79 u80 u81 u82 u83 u84 u85 u86 u87 u88 u89 u90 u91 u92 u93 u94 u95 u96 u97 u98 u99 u100 u101 u102 u103 u104 u105 u106 u107 u108 u109 u110 u111 u112 u113 u114 u115 u116 u117 u118 u119 u120 u121 u122:Value} {ds:List Deferred} (hT:Turns F1 ((a,Is (archO X))::((qbc X.pm ps pc++verF V)++((tb,Is (verO1 p n m v))::Z))) A w) (hok:PathsOk ps pc) (hl:OkS p) (hlen:(qaq ps p).length≤100000) (hus : -4611686018427387904≤X.used∧X.used+V.size≤4611686018427387904) (hvs:V.size≤4611686018427387904)
  (hk:∀ (y64 y65 y66 y67 y68 y69 y70 y71:Value) (w':World),(∃ v',ptrOk v' (qaq ps p++[V])∧Turns F1 ((a,Is (archO { X with used:=X.used+V.size }))::(qbc X.pm (addP ps pc p v' V) (putC (ps.map entG) pc p)++((tb,Is (verO1 p n m v))::Z))) A w')→Q .normal { tmps:=#[.pointer (some ⟨a,0,none⟩),u1,u2,u3,u4,u5,u6,.pointer (some ⟨tb,0,none⟩),ptrV V,u9,u10,u11,u12,u13,u14,u15,u16,u17,u18,u19,u20,u21,u22,u23,u24,u25,u26,u27,u28,u29,u30,u31,u32,u33,u34,u35,u36,u37,u38,u39,u40,u41,u42,u43,u44,u45,u46,u47,u48,u49,u50,u51,u52,u53,u54,u55,u56,u57,u58,u59,u60,u61,u62,u63,y64,y65,y66,y67,y68,y69,y70,y71,u72,u73,u74,u75,u76,u77,u78,u79,u80,u81,u82,u83,u84,u85,u86,u87,u88,u89,u90,u91,u92,u93,u94,u95,u96,u97,u98,u99,u100,u101,u102,u103,u104,u105,u106,u107,u108,u109,u110,u111,u112,u113,u114,u115,u116,u117,u118,u119,u120,u121,u122],defers:=ds } w') :
  (regOf 17 Tryz.f100).wp Tryz.prog Q { tmps:=#[.pointer (some ⟨a,0,none⟩),u1,u2,u3,u4,u5,u6,.pointer (some ⟨tb,0,none⟩),ptrV V,u9,u10,u11,u12,u13,u14,u15,u16,u17,u18,u19,u20,u21,u22,u23,u24,u25,u26,u27,u28,u29,u30,u31,u32,u33,u34,u35,u36,u37,u38,u39,u40,u41,u42,u43,u44,u45,u46,u47,u48,u49,u50,u51,u52,u53,u54,u55,u56,u57,u58,u59,u60,u61,u62,u63,u64,u65,u66,u67,u68,u69,u70,u71,u72,u73,u74,u75,u76,u77,u78,u79,u80,u81,u82,u83,u84,u85,u86,u87,u88,u89,u90,u91,u92,u93,u94,u95,u96,u97,u98,u99,u100,u101,u102,u103,u104,u105,u106,u107,u108,u109,u110,u111,u112,u113,u114,u115,u116,u117,u118,u119,u120,u121,u122],defers:=ds } w:=by
 have HM:=Lib.hid (show Tryz.prog.follows .mixedOrders=true by kernel_rfl)
 conv=>arg 2;whnf
 refine qbu (A:=?A) (hA:=?hA) HM.out (phiL [fun v=>v=.pointer (some ⟨a,0,none⟩),fun v=>v=.pointer (some ⟨a,0,none⟩),fun v=>v=.pointer (some ⟨a,0,none⟩),fun v=>v=.pointer (some ⟨tb,0,none⟩),fun v=>v=.pointer (some ⟨tb,1,none⟩),fun v=>v=str p,fun v=>v=ptrV V,fun _=>True])
  (fun vs1 W=>match vs1 with
  | []=>Turns F1 (((a,Is (archO X))::(qbc X.pm ps pc++verF V))++((tb,Is (verO1 p n m v))::Z)) A W
  | [_]=>∃ v',ptrOk v' (qaq ps p++[V])∧Turns F1 ((a,Is (archO { X with used:=X.used+V.size }))::(qbc X.pm (addP ps pc p v' V) (putC (ps.map entG) pc p)++((tb,Is (verO1 p n m v))::Z))) A W
  | _=>False)
  (fun W=>W.heap[tb]?=some (verO1 p n m v)) [7] ?hC (by kernel_rfl) (by kernel_rfl) (by kernel_rfl) (by decide) (by decide) ?h0 ?hs ?he
 case hA=>intro x;simp only [qam,Act.put,List.setIfInBounds_toArray,List.set_cons_zero,List.set_cons_succ,Nat.reduceAdd];rfl
 case hs =>
  refine ⟨qab rfl rfl (fun x wq hd hC K hK hKw=>?_),qab rfl rfl (fun x wq hd hC K hK hKw=>?_),qab rfl rfl (fun x wq hd hC K hK hKw=>?_),qab rfl rfl (fun x wq hd hC K hK hKw=>?_),qab rfl rfl (fun x wq hd hC K hK hKw=>?_),qab rfl rfl (fun x wq hd hC K hK hKw=>?_),qab rfl rfl (fun x wq hd hC K hK hKw=>?_),qap 0 rfl rfl (fun x wq hd hS K hK=>?_),trivial⟩
  ·exact qag (by kernel_rfl) (hK _ rfl)
  ·have h0:x 0=.pointer (some ⟨a,0,none⟩):=qae hd 0 (by kernel_rfl)
   exact qag (by rw [h0];kernel_rfl) (hK _ rfl)
  ·have h1:x 1=.pointer (some ⟨a,0,none⟩):=qae hd 1 (by kernel_rfl)
   exact qag (by rw [h1];kernel_rfl) (hK _ rfl)
  ·exact qag (by kernel_rfl) (hK _ rfl)
  ·have h3:x 3=.pointer (some ⟨tb,0,none⟩):=qae hd 3 (by kernel_rfl)
   exact qag (by rw [h3];kernel_rfl) (hK _ rfl)
  ·have h4:x 4=.pointer (some ⟨tb,1,none⟩):=qae hd 4 (by kernel_rfl)
   exact qat Tryz.underlying9 rfl rfl (by rw [h4];rfl) (qac hC 1 rfl) (hK _ rfl)
  ·exact qag (by kernel_rfl) (hK _ rfl)
  ·have h2:x 2=.pointer (some ⟨a,0,none⟩):=qae hd 2 (by kernel_rfl)
   have h5:x 5=str p:=qae hd 5 (by kernel_rfl)
   have h6:x 6=ptrV V:=qae hd 6 (by kernel_rfl)
   refine qbe (by rw [h2,h5,h6];kernel_rfl) (qrm a X.pm X.tm X.cm pc X.sc X.sb X.used ps p V (qa4 X) 128 wq hS.sat.left ⟨rfl,rfl,rfl,rfl,rfl,rfl⟩ hok hl hlen hus hvs) ?_
   rintro e w3 ⟨v',rfl,hp,hT3⟩
   exact ⟨_,rfl,hK _ _ trivial ⟨v',hp,(hS.step (List.Perm.refl _) hT3).to (by rw [q09];exact List.Perm.refl _)⟩⟩
 case hC =>
  intro vs1 W hlt hS
  match vs1,hS,hlt with
  | [],hT,_=>exact hT.sat.memIs (by simp)
  | [_],_,hlt=>exact absurd hlt (Nat.lt_irrefl _)
 case h0 =>
  exact hT.drew
 case he =>
  intro x w3 hφ hS
  exact hk (x 0) (x 1) (x 2) (x 3) (x 4) (x 5) (x 6) (x 7) w3 hS
theorem q12 (c:Array Value) (w:World):(Instr.typeAssert (.iface 173 (.agg c)) 215 173 true).run Tryz.prog w=.ok (.tuple #[.agg c,.bool true]) w:=by kernel_rfl
def redoF (a:Nat) (X:ArchL) (ps:List PathL) (pc sm:Nat) (sz:List (Ent Int)) (szc:Nat) (v:Value) (ats:List Int):HF :=
 (a,Is (archO X))::(qbc X.pm ps pc++((sm,Is (mapO encI sz szc))::iRow v ats))
def q3b (a:Nat) (X:ArchL) (ps:List PathL) (pc sm:Nat) (sz:List (Ent Int)) (szc:Nat) (v:Value) (szf:Int→Option Nat) (p:Bs) (n m:Nat) (ats:List Int) (w:World) (e:Ending) (w':World):Prop :=
 ((∀ chs,chsOf szf ats=some chs→(chs.map (·.2)).sum≠m)∧e=.returned (.bool false)∧Turns (redoF a X ps pc sm sz szc v ats) (redoF a X ps pc sm sz szc v ats) w w') ∨
 (∃ chs b cv v',chsOf szf ats=some chs∧(chs.map (·.2)).sum=m∧e=.returned (.bool true)∧qbl cv chs∧ptrOk v' (qaq ps p++[⟨b,n,m,cv,chs,0⟩]) ∧
  Turns (redoF a X ps pc sm sz szc v ats) (redoF a { X with used:=X.used+m } (addP ps pc p v' ⟨b,n,m,cv,chs,0⟩) (putC (ps.map entG) pc p) sm sz szc v ats) w w')
def q48 (F1:HF) (szf:Int→Option Nat) (ats:List Int) (n m tb:Nat) (p:Bs) (v:Value) (vb:Nat) (w:World) (sum i:Value) (W:World):Prop :=
 ∃ (k:Nat) (cv:Value) (chs:List (Nat×Nat)) (J:HF),k≤ats.length∧i=.int .i64 k∧chsOf szf (ats.take k)=some chs∧sum=.int .i64 ((chs.map (·.2)).sum:Nat)∧qbl cv chs ∧
  Turns F1 ((vb,Is (verO ⟨vb,n,m,cv,chs,0⟩))::(qa2 cv chs++((tb,Is (verO1 p n m v))::(F1++J)))) w W
theorem qv4 (a:Nat) (X:ArchL) (ps:List PathL) (pc sm:Nat) (sz:List (Ent Int)) (szc:Nat) (v:Value) (szf:Int→Option Nat) (p:Bs) (n m:Nat) (ats:List Int) (w:World)
  (h:Sat w (redoF a X ps pc sm sz szc v ats)) (hio:iOk v ats) (hsz:MapOk OkI sz szc) (hz:∀ k,getE sz k=(szf k).map (fun s=>.int .i64 (s:Nat))) (hs:∀ a s,szf a=some s→s≤65535) (hat:∀ x∈ats,0≤x∧x≤4294967296) (hal:ats.length≤100000)
  (hok:PathsOk ps pc) (hl:OkS p) (hlen:(qaq ps p).length≤100000) (hus : -2305843009213693952≤X.used∧X.used≤2305843009213693952) (hm:m≤4294967296) :
  Calls Tryz.prog 100 #[.pointer (some ⟨a,0,none⟩),recV (.ver p n m ats) v,.map (some sm)] w (q3b a X ps pc sm sz szc v szf p n m ats w):=by
 obtain ⟨F1,hF1⟩:∃ F1,F1=redoF a X ps pc sm sz szc v ats:=⟨_,rfl⟩
 have hsm:=h.memIs (b:=sm) (o:=mapO encI sz szc) (by simp [redoF])
 obtain ⟨av,cap,hv,-,hcap,hcap2,hcell⟩:∃ av cap,v=.slice av ats.length cap∧True∧ats.length≤cap∧cap≤9223372036854775807∧qaj w av (ats.map encI):=by
  obtain ⟨a',c',e1,-,h3,h4,h5⟩:=qbk (qbm (h.sub (G:=iRow v ats) (fun x=>by simp only [redoF,qad,qaa];omega)) hio)
  exact ⟨a',c',e1,trivial,h3,by have:=qdv (h.sub (G:=iRow v ats) (fun x=>by simp only [redoF,qad,qaa];omega)) hio;obtain ⟨-,-,a2,c2,e2,-,h2⟩:=this;rw [e1] at e2;simp only [Value.slice.injEq] at e2;obtain ⟨-,-,rfl⟩:=e2;exact h2,h4⟩
 have HH:=Lib.hid (And.intro h (And.intro hio (And.intro hsz (And.intro hz (And.intro hs (And.intro hat (And.intro hok (And.intro hl (And.intro hlen (And.intro hus (And.intro hF1 hv)))))))))))
 clear h hio hsz hz hs hat hok hl hlen hcell
 have hT0:Turns F1 F1 w w:=by rw [hF1];exact Turns.refl HH.out.1
 subst hv
 unfold recV
 obtain ⟨tb,htb⟩:∃ tb,tb=w.heap.size:=⟨_,rfl⟩
 obtain ⟨vb,hvb⟩:∃ vb,vb=w.heap.size+1:=⟨_,rfl⟩
 have hT1:Turns F1 ((vb,Is (verO ⟨vb,n,m,.slice none 0 0,[],0⟩))::((tb,Is (verO1 p n m (.slice av ats.length cap)))::F1)) w ((w.alloc (verO1 p n m (.slice av ats.length cap))).alloc (verO ⟨vb,n,m,.slice none 0 0,[],0⟩)):=by
  have:=(hT0.allocIs (verO1 p n m (.slice av ats.length cap))).allocIs (verO ⟨vb,n,m,.slice none 0 0,[],0⟩)
  rw [World.size_alloc,← htb] at this
  rw [hvb,← htb]
  exact this
 have HT1:=Lib.hid hT1
 have HB:=Lib.hid (And.intro htb (And.intro hvb hF1))
 clear hT0 hT1 hF1 hsm htb hvb
 go_enter Tryz.func100,Tryz.ntmps100
 have hta:=q12 #[.int .u8 2,str p,.int .i64 n,.int .i64 m,.slice av ats.length cap] w
 go_wp2_with fail
 rw [← HB.out.2.1,← HB.out.1]
 clear hta
 go_loopw [9,32] (fun sum i wr=>q48 F1 szf ats n m tb p (.slice av ats.length cap) vb w sum i wr) (fun _ i _=>ats.length-(intOf i).toNat)
 case atStart=>exact ⟨0,.slice none 0 0,[],[],Nat.zero_le _,rfl,rfl,rfl,⟨rfl,fun _=>⟨rfl,rfl⟩⟩,by rw [List.append_nil];exact HT1.out⟩
 case round =>
  obtain ⟨k,cv,chs,J,hk,rfl,hch,rfl,hpo,hT⟩:=hrel
  obtain ⟨sm1,hsm1⟩:∃ sm1,sm1=(chs.map (·.2)).sum:=⟨_,rfl⟩
  have hsl:sm1≤65535*k:=by have:=qr5 HH.out.2.2.2.2.1 hch;rw [List.length_take] at this;rw [hsm1];omega
  have hcl:chs.length=k:=by rw [qrp hch,List.length_take];omega
  rw [← hsm1]
  have htb:=hT.sat.memIs (b:=tb) (o:=verO1 p n m (.slice av ats.length cap)) (by simp)
  have t2:wr.cell? ⟨tb,3,none⟩=some (.int .i64 m):=qac htb 3 rfl
  have htl:=qal htb
  by_cases hlt:k<ats.length
  ·have hrow:qaj wr av (ats.map encI):=by
    have hs:=hT.sat.sub (G:=iRow (.slice av ats.length cap) ats) (fun x=>by rw [HB.out.2.2];simp only [redoF,qad,qaa];omega)
    obtain ⟨a',c',e1,-,-,h4,-⟩:=qbk (qbm hs HH.out.2.1)
    simp only [Value.slice.injEq] at e1
    obtain ⟨rfl,-,-⟩:=e1
    exact h4
   obtain ⟨g,off,hg,hcell⟩:=hrow (by rw [List.length_map];omega)
   subst hg
   have hc1:=hcell k (by rw [List.length_map];exact hlt)
   rw [List.getElem_map] at hc1
   obtain ⟨x,hx⟩:∃ x,x=ats[k]:=⟨_,rfl⟩
   rw [← hx] at hc1
   unfold encI at hc1
   have hxr:=HH.out.2.2.2.2.2.1 x (by rw [hx];exact List.getElem_mem hlt)
   have htk:ats.take (k+1)=ats.take k++[x]:=by rw [List.take_succ_eq_append_getElem hlt,hx]
   have hsb:=hT.sat.memIs (b:=sm) (o:=mapO encI sz szc) (by rw [HB.out.2.2];simp [redoF])
   have hget:=HH.out.2.2.2.1 x
   have hhas:=qfb (l:=sz) (k:=x)
   have hvbo:=hT.sat.memIs (b:=vb) (o:=verO ⟨vb,n,m,cv,chs,0⟩) (by simp)
   have v2:wr.cell? ⟨vb,2,none⟩=some cv:=qac hvbo 2 rfl
   have hvl:=qal hvbo
   rw [hget] at hhas
   cases hzx:szf x with
   | none =>
    rw [hzx] at hget hhas
    have HR:=Lib.hid (And.intro hT (And.intro hsb (And.intro hget (And.intro hhas (And.intro htk (And.intro hzx hxr))))))
    clear hT hsb hget hhas htk hzx hx hcell hrow hpo hvbo htb hxr
    go_wp2_with ((refine qak rfl (qom qub (.tmp 37) (.tmp 38) rfl Tryz.underlying212 HR.out.2.1 HH.out.2.2.1 (zeroI _) x rfl rfl ⟨by have:=HR.out.2.2.2.2.2.2;omega,by have:=HR.out.2.2.2.2.2.2;omega⟩ ?_);rw [HR.out.2.2.1,HR.out.2.2.2.1];simp only [Option.map_none,Option.getD_none,Option.isSome_none]))
    refine bodyPost_ret (results_tmp rfl _ _ _) rfl (.inl ⟨fun c' hc'=>?_,rfl,?_⟩)
    ·have h1:chsOf szf (ats.take (k+1))=none:=by rw [HR.out.2.2.2.2.1,qli,HR.out.2.2.2.2.2.1];cases chsOf szf (ats.take k)<;>rfl
     have h2:=qpt (m:=ats.drop (k+1)) h1
     rw [List.take_append_drop] at h2
     rw [h2] at hc';cases hc'
    ·rw [← HB.out.2.2]
     exact HR.out.1.drop (fun x=>by simp only [qad,qaa];omega)
   | some s =>
    rw [hzx] at hget hhas
    have hs6:=HH.out.2.2.2.2.1 x s hzx
    have hch2:chsOf szf (ats.take (k+1))=some (chs++[(x.toNat,s)]):=by rw [htk,qli,hch,hzx]
    have hx2:(x.toNat:Int)=x:=by omega
    have hTp:=hT.to (H:=qa2 cv chs++((vb,Is (verO ⟨vb,n,m,cv,chs,0⟩))::((tb,Is (verO1 p n m (.slice (some ⟨g,off,none⟩) ats.length cap)))::(F1++J)))) (qaf fun _=>by simp only [qad,qaa,qah]<;>omega)
    have HR:=Lib.hid (And.intro hTp (And.intro hsb (And.intro hget (And.intro hhas (And.intro hch2 (And.intro hpo (And.intro hxr (And.intro hsm1 hx2))))))))
    clear hT hTp hsb hget hhas htk hzx hx hcell hrow hpo hvbo htb hxr hch2 hch hx2 hsm1
    go_wp2_with (first
     | (refine qak rfl (qom qub (.tmp 37) (.tmp 38) rfl Tryz.underlying212 HR.out.2.1 HH.out.2.2.1 (zeroI _) x rfl rfl ⟨by have:=HR.out.2.2.2.2.2.2.1;omega,by have:=HR.out.2.2.2.2.2.2.1;omega⟩ ?_);rw [HR.out.2.2.1,HR.out.2.2.2.1];simp only [Option.map_some,Option.getD_some,Option.isSome_some])
     | (at_builtin;refine qak rfl ?_;refine qjw (.tmp 51) (.tmp 55) rfl _ chs rfl (HR.out.1.alloc _) HR.out.2.2.2.2.2.1 _ 1 1 rfl [(x.toNat,s)] rfl (fun _=>⟨_,rfl,fun j u hu=>qff _ _ _ j u (by simpa only [qb2,List.flatMap_cons,List.flatMap_nil,List.append_nil,qke,HR.out.2.2.2.2.2.2.2.2] using hu)⟩) (by simp;omega) ?_;intro v5 w5 hok5 hT5;have hb5:=hT5.sat.memIs (b:=vb) (o:=verO ⟨vb,n,m,cv,chs,0⟩) (by simp);have v5c:w5.cell? ⟨vb,2,none⟩=some cv:=qac hb5 2 rfl;have hv5l:=qal hb5;have h51:=qdv hT5.sat.left hok5;have H5:=Lib.hid (And.intro hok5 (And.intro hT5 h51));clear hok5 hT5 hb5 h51)
     | (refine qak rfl (qa0 150 (.tmp 58) (.tmp 56) rfl vb 2 (qdl ⟨vb,n,m,cv,chs,0⟩) 152 v5 (H5.out.2.1.to (H:=(vb,Is (verO ⟨vb,n,m,cv,chs,0⟩))::(qa2 v5 (chs++[(x.toNat,s)])++((tb,Is (verO1 p n m (.slice (some ⟨g,off,none⟩) ats.length cap)))::(F1++J)))) (qaf fun _=>by simp only [qad,qaa,qah]<;>omega)) rfl rfl (by simp [qdl]) (by kernel_rfl) H5.out.2.2.1 H5.out.2.2.2.1 ?_);intro w6 hT6;have HT6:=Lib.hid hT6;clear hT6;simp only [Act.put])
     | fail)
    go_roundw
    case rel =>
     refine ⟨k+1,v5,chs++[(x.toNat,s)],J,by omega,by go_num,HR.out.2.2.2.2.1,?_,H5.out.1,?_⟩
     ·rw [List.map_append,List.sum_append,← HR.out.2.2.2.2.2.2.2.1];simp
     ·exact HT6.out
    case measure=>simp [intOf];omega
  ·obtain rfl:k=ats.length:=by omega
   rw [List.take_length] at hch
   by_cases hse:sm1=m
   ·have hTp:=hT.to (H:=(tb,Is (verO1 p n m (.slice av ats.length cap)))::((a,Is (archO X))::((qbc X.pm ps pc++verF ⟨vb,n,m,cv,chs,0⟩)++((sm,Is (mapO encI sz szc))::(iRow (.slice av ats.length cap) ats++J))))) (by rw [HB.out.2.2];unfold redoF verF;exact (qaf fun _=>by simp only [qad,qaa,qah]<;>omega))
    have HR:=Lib.hid (And.intro hTp (And.intro hch (And.intro hpo hsm1)))
    clear hT hTp hch hpo hsm1 htb
    subst hse
    go_upto_region 17 with (fail)
    refine q63 F1 ((sm,Is (mapO encI sz szc))::(iRow (.slice av ats.length cap) ats++J)) w a tb X ps pc p n sm1 (.slice av ats.length cap) ⟨vb,n,sm1,cv,chs,0⟩ (HR.out.1.to (qaf fun _=>by simp only [qad,qaa,qah]<;>omega)) HH.out.2.2.2.2.2.2.1 HH.out.2.2.2.2.2.2.2.1 HH.out.2.2.2.2.2.2.2.2.1 (by have:=HH.out.2.2.2.2.2.2.2.2.2.1;simp only;omega) (by simp only;omega) ?_
    intro _ _ _ _ _ _ _ _ w7 h7
    have H7:=Lib.hid h7
    clear h7
    go_wp2_with fail
    obtain ⟨v7,hv7,hT7⟩:=H7.out
    refine bodyPost_ret (results_tmp rfl _ _ _) rfl (.inr ⟨chs,vb,cv,v7,HR.out.2.1,HR.out.2.2.2.symm,rfl,HR.out.2.2.1,hv7,?_⟩)
    rw [← HB.out.2.2]
    exact hT7.drop (fun x=>by unfold redoF;simp only [qad,qaa];omega)
   ·have HR:=Lib.hid (And.intro hT (And.intro hch hsm1))
    have hse2:¬ ((sm1:Int)=(m:Int)):=by omega
    clear hT hch hpo hsm1 htb
    go_wp2_with fail
    refine bodyPost_ret (results_tmp rfl _ _ _) rfl (.inl ⟨fun c' hc'=>?_,rfl,?_⟩)
    ·rw [HR.out.2.1] at hc'
     obtain rfl:=Option.some.inj hc'
     rw [← HR.out.2.2];exact hse
    ·rw [← HB.out.2.2]
     exact HR.out.1.drop (fun x=>by simp only [qad,qaa];omega)
end Go.Proofs.YtdhobpbngkainaaGreatDoor
