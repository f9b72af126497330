/- Ours. A part of the proof, made small by a program. -/
import Derived.Test.YtdhobpbngkainaaGreatDoorCo12
import Derived.Test.YtdhobpbngkainaaGreatDoorCo07
import Derived.Test.YtdhobpbngkainaaGreatDoorProg
import Derived.Test.YtdhobpbngkainaaGreatDoorCo01
import Derived.RegionTactic
import Derived.Test.YtdhobpbngkainaaGreatDoorCo10
import Derived.Lib.MinMax
import Derived.BigQuiet
set_option maxRecDepth 100000
set_option maxHeartbeats 4000000
namespace Go.Proofs.YtdhobpbngkainaaGreatDoor
open Go.RowKit Go.Maps
theorem qvw {K K':List (Bs×Nat×Nat)} {q:Nat×Nat} (h:∃ e∈K,e.2=q):qcb (K++K') q=qcb K q:=by
 unfold qcb
 rw [List.find?_append]
 obtain ⟨e,he,hq⟩:=h
 cases hf:K.find? (fun e=>decide (e.2=q)) with
 | some x=>simp
 | none=>exact absurd hq (by simpa using List.find?_eq_none.1 hf e he)
theorem qmy {α β:Type} {f g:α→List β}:∀ {l:List α},(∀ x∈l,f x=g x)→l.flatMap f=l.flatMap g
 | [],_=>rfl
 | a::r,h=>by rw [List.flatMap_cons,List.flatMap_cons,h a (by simp),qmy (fun x hx=>h x (by simp [hx]))]
theorem q0n {S S':AS} {K':List (Bs×Nat×Nat)} (hK:S'.K=S.K++K') {V:VerL} (h:∀ q∈V.chs,∃ e∈S.K,e.2=q):contV S' V=contV S V:=by
 unfold contV
 rw [hK]
 exact qmy (fun q hq=>qvw (h q hq))
theorem qpo {vs:List RVer} (hs:vs.Pairwise (fun a b=>bsLt b.path a.path=false)) (p:Bs):∀ k,k≤vs.length→(∀ i (h:i<vs.length),i<atTo vs p k→bsLt p vs[i].path=false)∧(∀ i (h:i<vs.length),atTo vs p k≤i→i<k→bsLt p vs[i].path=true)
 | 0,_=>⟨fun i _ h=>by simp [atTo] at h,fun i _ _ h=>by omega⟩
 | k+1,hk=>by
  obtain ⟨h1,h2⟩:=qpo hs p k (by omega)
  rw [qrf (by omega)]
  cases hb:bsLt p vs[k].path with
  | true =>
   rw [if_pos rfl]
   refine ⟨h1,fun i hi h3 h4=>?_⟩
   by_cases hik:i=k
   ·subst hik;exact hb
   ·exact h2 i hi h3 (by omega)
  | false =>
   rw [if_neg (by simp)]
   refine ⟨fun i hi h3=>?_,fun i hi h3 h4=>by omega⟩
   by_cases hik:i=k
   ·subst hik;exact hb
   ·have h5:=List.pairwise_iff_getElem.1 hs i k hi (by omega) (by omega)
    cases hb2:bsLt p vs[i].path with
    | false=>rfl
    | true =>
     exfalso
     cases h6:bsLt vs[k].path p with
     | true=>rw [qgz h6 hb2] at h5;cases h5
     | false =>
      have:=qhc _ _ hb h6
      rw [this] at hb2
      rw [h5] at hb2;cases hb2
theorem qt1 {vs:List RVer} (hs:vs.Pairwise (fun a b=>bsLt b.path a.path=false)) (p:Bs):(∀ v∈vs.take (atTo vs p vs.length),bsLt p v.path=false)∧(∀ v∈vs.drop (atTo vs p vs.length),bsLt p v.path=true):=by
 obtain ⟨h1,h2⟩:=qpo hs p vs.length (Nat.le_refl _)
 refine ⟨fun v hv=>?_,fun v hv=>?_⟩
 ·obtain ⟨i,hi,rfl⟩:=List.getElem_of_mem hv
  rw [List.length_take] at hi
  rw [List.getElem_take]
  exact h1 i (by omega) (by omega)
 ·obtain ⟨i,hi,rfl⟩:=List.getElem_of_mem hv
  rw [List.length_drop] at hi
  rw [List.getElem_drop]
  exact h2 _ (by omega) (by omega) (by omega)
theorem q0p {vs:List RVer} (hs:vs.Pairwise (fun a b=>bsLt b.path a.path=false)) {p:Bs} {x:RVer} (hx:x.path=p):(qch vs p x).Pairwise (fun a b=>bsLt b.path a.path=false):=by
 obtain ⟨h1,h2⟩:=qt1 hs p
 have h3:(vs.take (atTo vs p vs.length)++vs.drop (atTo vs p vs.length)).Pairwise (fun a b=>bsLt b.path a.path=false):=by rw [List.take_append_drop];exact hs
 rw [List.pairwise_append] at h3
 unfold qch
 rw [List.pairwise_append,List.pairwise_append]
 refine ⟨⟨h3.1,List.pairwise_singleton _ _,fun a ha b hb=>?_⟩,h3.2.1,fun a ha b hb=>?_⟩
 ·obtain rfl:=List.mem_singleton.1 hb
  rw [hx];exact h1 a ha
 ·rcases List.mem_append.1 ha with ha | ha
  ·exact h3.2.2 a ha b hb
  ·obtain rfl:=List.mem_singleton.1 ha
   rw [hx];exact qlp (h2 b hb)
theorem qzm {vs:List RVer} (hs:vs.Pairwise (fun a b=>bsLt b.path a.path=false)) {p:Bs} {x:RVer} (hx:x.path=p) (q:Bs):qbg (qch vs p x) q=if q=p then qbg vs p++[x] else qbg vs q:=by
 obtain ⟨h1,h2⟩:=qt1 hs p
 have hsplit:∀ q,qbg vs q=qbg (vs.take (atTo vs p vs.length)) q++qbg (vs.drop (atTo vs p vs.length)) q:=fun q=>by
  unfold qbg;rw [← List.filter_append,List.take_append_drop]
 have hno:qbg (vs.drop (atTo vs p vs.length)) p=[]:=by
  unfold qbg
  rw [List.filter_eq_nil_iff]
  intro v hv
  simp only [decide_eq_true_eq]
  intro e
  have:=h2 v hv
  rw [e,qc0] at this;cases this
 have e1:qbg (qch vs p x) q=qbg (vs.take (atTo vs p vs.length)) q++(if p=q then [x] else [])++qbg (vs.drop (atTo vs p vs.length)) q:=by
  unfold qch qbg
  rw [List.filter_append,List.filter_append]
  congr 2
  by_cases h:p=q<;>simp [hx,h]
 rw [e1]
 by_cases hq:q=p
 ·subst hq
  rw [if_pos rfl,if_pos rfl,hsplit,hno,List.append_nil,List.append_nil]
 ·rw [if_neg (fun e=>hq e.symm),if_neg hq,List.append_nil,← hsplit]
theorem q7m {vs:List RVer} {p:Bs} {x v:RVer}:v∈qch vs p x↔v∈vs∨v=x:=by
 unfold qch
 rw [List.mem_append,List.mem_append,List.mem_singleton]
 constructor
 ·rintro ((h | h) | h)
  ·exact .inl (List.mem_of_mem_take h)
  ·exact .inr h
  ·exact .inl (List.mem_of_mem_drop h)
 ·rintro (h | h)
  ·rw [← List.take_append_drop (atTo vs p vs.length) vs] at h
   rcases List.mem_append.1 h with h | h
   ·exact .inl (.inl h)
   ·exact .inr h
  ·exact .inl (.inr h)
theorem q36 {vs:List RVer} {p:Bs} {x:RVer}:usedR (qch vs p x)=usedR vs+x.cont.length:=by
 unfold qch usedR
 rw [List.map_append,List.map_append,List.sum_append,List.sum_append]
 have:(vs.map (·.cont.length)).sum=((vs.take (atTo vs p vs.length)).map (·.cont.length)).sum+((vs.drop (atTo vs p vs.length)).map (·.cont.length)).sum:=by
  rw [← List.sum_append,← List.map_append,List.take_append_drop]
 simp only [List.map_cons,List.map_nil,List.sum_cons,List.sum_nil]
 omega
theorem q6p {vs:List RVer} {p:Bs} {x:RVer}:(qch vs p x).length=vs.length+1:=by
 unfold qch
 have:=qqy vs p vs.length
 simp;omega
theorem qjo (vs:List RVer) (p:Bs):∀ k,k≤vs.length→nrTo vs p k=((qbg (vs.take k) p).getLast?.map (·.num)).getD 0+1
 | 0,_=>by simp [nrTo,qbg]
 | k+1,hk=>by
  rw [qrw (by omega),List.take_succ_eq_append_getElem (by omega),qj2]
  by_cases h:vs[k].path=p
  ·rw [if_pos h,if_pos h];simp
  ·rw [if_neg h,if_neg h,List.append_nil]
   exact qjo vs p k (by omega)
theorem Link.nr {S:AS} {R:RefL} (L:Link S R) (l:Bs):nrTo R.vs l R.vs.length=(qc7 (qaq S.ps l):Nat)+1:=by
 rw [qjo _ _ _ (Nat.le_refl _),List.take_length]
 have h:=congrArg List.getLast? (L.vers l)
 rw [List.getLast?_map,List.getLast?_map] at h
 unfold qc7
 cases h1:(qaq S.ps l).getLast? with
 | none =>
  rw [h1] at h
  cases h2:(qbg R.vs l).getLast? with
  | none=>rfl
  | some v=>rw [h2] at h;cases h
 | some V =>
  rw [h1] at h
  cases h2:(qbg R.vs l).getLast? with
  | none=>rw [h2] at h;cases h
  | some v =>
   rw [h2] at h
   simp only [Option.map_some,Option.some.injEq] at h
   have:(V.num:Int)=v.num:=congrArg (fun t:Trip=>t.1) h
   simp only [Option.map_some,Option.getD_some]
   omega
theorem qzn {ts:List RTag} {p:Bs} {n:Int} (h:∀ t∈ts,¬ (t.path=p∧t.num=n)):heldR ts p n=0:=by
 unfold heldR
 rw [List.countP_eq_zero.2 (fun t ht=>by simpa using h t ht)]
 rfl
theorem Link.put {S S':AS} {R:RefL} (L:Link S R) (hok:ArOk S) (hok':ArOk S') {l D:Bs} {V:VerL} (h:PutStep S S' l D V) (hl:qa6 l=true) (hD:D.length≤4000) {vv cv:Value} :
  Link S' { R with vv:=vv,vs:=qch R.vs l ⟨l,nrTo R.vs l R.vs.length,D,cv,0⟩ }:=by
 have hnr:=L.nr l
 have hpos:∀ v∈qbg R.vs l,1≤v.num∧v.num<nrTo R.vs l R.vs.length:=by
  intro v hv
  refine ⟨(L.each v (List.mem_filter.1 hv).1).1,?_⟩
  rw [qjo _ _ _ (Nat.le_refl _),List.take_length]
  have ha:=L.asc l
  obtain ⟨i,hi,rfl⟩:=List.getElem_of_mem hv
  rw [List.getLast?_eq_getElem?,List.getElem?_eq_getElem (by omega)]
  simp only [Option.map_some,Option.getD_some]
  by_cases hlast:i=(qbg R.vs l).length-1
  ·subst hlast;omega
  ·have:=List.pairwise_iff_getElem.1 ha i ((qbg R.vs l).length-1) (by simpa using hi) (by simp;omega) (by omega)
   simp only [List.getElem_map] at this
   omega
 obtain ⟨x,hx⟩:∃ x:RVer,x=⟨l,nrTo R.vs l R.vs.length,D,cv,0⟩:=⟨_,rfl⟩
 have hxp:x.path=l:=by rw [hx]
 have hins:=qzm L.sorted hxp
 rw [hx] at hins
 have hnr1:1≤nrTo R.vs l R.vs.length:=by rw [hnr];omega
 refine ⟨?_,?_,?_,fun p=>?_,q0p L.sorted rfl,fun p=>?_,fun v hv=>?_,?_,L.tsort,fun t ht=>?_,fun v hv=>?_⟩
 ·simp only;rw [h.closed];exact L.closed
 ·simp only;rw [h.quota];exact L.quota
 ·simp only
  rw [h.used,L.used,q36];simp only;omega
 ·simp only
  rw [h.vers,hins]
  have hold:∀ q,(qaq S.ps q).map (tripV S')=(qaq S.ps q).map (tripV S):=fun q=>by
   refine List.map_congr_left (fun V' hV'=>?_)
   obtain ⟨p',hp',hk,hg⟩:=qcu (List.ne_nil_of_mem hV')
   unfold tripV
   rw [q0n h.K (hok.vers p' hp' V' (hg ▸ hV')).1]
  by_cases hp:p=l
  ·subst hp
   rw [if_pos rfl,if_pos rfl,List.map_append,List.map_append,hold,L.vers]
   congr 1
   simp only [List.map_cons,List.map_nil,tripV,tripR]
   rw [q4v hok' h.nchs h.chs,h.held,h.num,hnr]
   simp
  ·rw [if_neg hp,if_neg hp,hold,L.vers]
 ·simp only
  rw [hins]
  by_cases hp:p=l
  ·subst hp
   rw [if_pos rfl,List.map_append,List.pairwise_append]
   refine ⟨L.asc p,List.pairwise_singleton _ _,fun a ha b hb=>?_⟩
   obtain ⟨v,hv,rfl⟩:=List.mem_map.1 ha
   simp only [List.map_cons,List.map_nil,List.mem_singleton] at hb
   subst hb
   exact (hpos v hv).2
  ·rw [if_neg hp];exact L.asc p
 ·rcases q7m.1 hv with hv | rfl
  ·exact L.each v hv
  ·exact ⟨hnr1,hl,hD⟩
 ·simp only;rw [h.ts];exact L.tags
 ·obtain ⟨h1,v,hv,h2⟩:=L.teach t ht
  exact ⟨h1,v,q7m.2 (.inl hv),h2⟩
 ·rcases q7m.1 hv with hv | rfl
  ·exact L.held v hv
  ·refine (qzn (fun t ht=>?_)).symm
   rintro ⟨e1,e2⟩
   obtain ⟨-,v,hv,e3,e4⟩:=L.teach t ht
   simp only at e1 e2
   have:=hpos v (List.mem_filter.2 ⟨hv,by simp [e3,e1]⟩)
   omega
end Go.Proofs.YtdhobpbngkainaaGreatDoor
namespace Go.Proofs.YtdhobpbngkainaaGreatDoor
open Go.RowKit
def qty (b:Bool) (w:World) (e:Ending) (w':World):Prop:=e=.returned (.bool b)∧Drew w w'
theorem qib (a1 a2:Option Addr) (c1 c2:Nat) (xs ys:List Int) (w:World) (h1:qaj w a1 (xs.map encI)) (h2:qaj w a2 (ys.map encI)) (hx:xs.length≤1099511627776) (hy:ys.length≤1099511627776) :
  Calls Tryz.prog 107 #[.slice a1 xs.length c1,.slice a2 ys.length c2] w (qty (decide (xs=ys)) w):=by
 by_cases hl:xs.length=ys.length
 ·have hb:((xs.length:Int) != (ys.length:Int))=false:=by simp;omega
  have HL:=Lib.hid hl
  clear hl
  go_enter Tryz.func107,Tryz.ntmps107
  go_wp2
  go_loopw [5] (fun i wr=>∃ k:Nat,k≤xs.length∧i=.int .i64 k∧xs.take k=ys.take k∧Drew w wr) (fun i _=>xs.length-(intOf i).toNat)
  case atStart=>exact ⟨0,Nat.zero_le _,rfl,rfl,Drew.refl _⟩
  case round =>
   obtain ⟨k,hk,rfl,ht,n,rfl⟩:=hrel
   have HT:=Lib.hid ht
   clear ht
   by_cases hlt:k<xs.length
   ·have hlt2:k<ys.length:=by have:=HL.out;omega
    obtain ⟨g1,o1,rfl,hc1⟩:=qhu encI h1 (by omega)
    obtain ⟨g2,o2,rfl,hc2⟩:=qhu encI h2 (by omega)
    have k1:=hc1 k hlt
    have k2:=hc2 k hlt2
    unfold encI at k1 k2
    clear hc1 hc2 h1 h2
    obtain ⟨x,hxk⟩:∃ x,x=xs[k]:=⟨_,rfl⟩
    obtain ⟨y,hyk⟩:∃ y,y=ys[k]:=⟨_,rfl⟩
    rw [← hxk] at k1
    rw [← hyk] at k2
    have HX:=Lib.hid (And.intro hxk hyk)
    clear hxk hyk
    by_cases he:x=y
    ·have hq:(x != y)=false:=by simp [he]
     have HE:=Lib.hid he
     clear he
     go_wp2
     go_region
     go_wp2
     go_roundw
     case rel=>exact ⟨k+1,by omega,by go_num,qmn HT.out hlt hlt2 (by rw [← HX.out.1,← HX.out.2,HE.out]),(Drew.drewN (Drew.refl w) n).drew⟩
     case measure=>simp [intOf];omega
    ·have hq:(x != y)=true:=by simp [he]
     have hne:decide (xs=ys)=false:=by
      apply decide_eq_false
      rintro rfl
      exact he (HX.out.1.trans HX.out.2.symm)
     have HN:=Lib.hid hne
     clear he hne
     go_wp2
     go_region
     go_wp2
     go_ret
     exact ⟨qhf HN.out.symm,(Drew.drewN (Drew.refl w) n).drew⟩
   ·have hkx:k=xs.length:=by omega
    have heq:decide (xs=ys)=true:=by
     apply decide_eq_true
     have:=HT.out
     rw [hkx,List.take_length,List.take_of_length_le (by have:=HL.out;omega)] at this
     exact this
    have HN:=Lib.hid heq
    clear heq hkx
    go_wp2
    go_ret
    exact ⟨qhf HN.out.symm,Drew.drewN (Drew.refl w) n⟩
 ·have hb:((xs.length:Int) != (ys.length:Int))=true:=by simp;omega
  have hne:decide (xs=ys)=false:=by apply decide_eq_false;rintro rfl;exact hl rfl
  have HN:=Lib.hid hne
  clear hne
  go_enter Tryz.func107,Tryz.ntmps107
  go_wp2
  go_ret
  exact ⟨qhf HN.out.symm,Drew.refl w⟩
theorem qfy (a1 a2:Option Addr) (c1 c2:Nat) (xs ys:List UInt8) (w:World) (h1:qaj w a1 (xs.map enc8)) (h2:qaj w a2 (ys.map enc8)) (hx:xs.length≤1099511627776) (hy:ys.length≤1099511627776) :
  Calls Tryz.prog 28 #[.slice a1 xs.length c1,.slice a2 ys.length c2] w (qty (decide (xs=ys)) w):=by
 by_cases hl:xs.length=ys.length
 ·have hb:((xs.length:Int) != (ys.length:Int))=false:=by simp;omega
  have HL:=Lib.hid hl
  clear hl
  go_enter Tryz.func28,Tryz.ntmps28
  go_wp2
  go_loopw [5] (fun i wr=>∃ k:Nat,k≤xs.length∧i=.int .i64 k∧xs.take k=ys.take k∧Drew w wr) (fun i _=>xs.length-(intOf i).toNat)
  case atStart=>exact ⟨0,Nat.zero_le _,rfl,rfl,Drew.refl _⟩
  case round =>
   obtain ⟨k,hk,rfl,ht,n,rfl⟩:=hrel
   have HT:=Lib.hid ht
   clear ht
   by_cases hlt:k<xs.length
   ·have hlt2:k<ys.length:=by have:=HL.out;omega
    obtain ⟨g1,o1,rfl,hc1⟩:=qhu enc8 h1 (by omega)
    obtain ⟨g2,o2,rfl,hc2⟩:=qhu enc8 h2 (by omega)
    have k1:=hc1 k hlt
    have k2:=hc2 k hlt2
    unfold enc8 at k1 k2
    clear hc1 hc2 h1 h2
    obtain ⟨x,hxk⟩:∃ x,x=xs[k]:=⟨_,rfl⟩
    obtain ⟨y,hyk⟩:∃ y,y=ys[k]:=⟨_,rfl⟩
    rw [← hxk] at k1
    rw [← hyk] at k2
    have HX:=Lib.hid (And.intro hxk hyk)
    clear hxk hyk
    by_cases he:x=y
    ·have hq:(((x.toNat:Nat):Int) != ((y.toNat:Nat):Int))=false:=by simp [he]
     have HE:=Lib.hid he
     clear he
     go_wp2
     go_region
     go_wp2
     go_roundw
     case rel=>exact ⟨k+1,by omega,by go_num,qmn HT.out hlt hlt2 (by rw [← HX.out.1,← HX.out.2,HE.out]),(Drew.drewN (Drew.refl w) n).drew⟩
     case measure=>simp [intOf];omega
    ·have hq:(((x.toNat:Nat):Int) != ((y.toNat:Nat):Int))=true:=by
      simp only [bne_iff_ne];intro h;exact he (UInt8.toNat_inj.1 (by omega))
     have hne:decide (xs=ys)=false:=by
      apply decide_eq_false
      rintro rfl
      exact he (HX.out.1.trans HX.out.2.symm)
     have HN:=Lib.hid hne
     clear he hne
     go_wp2
     go_region
     go_wp2
     go_ret
     exact ⟨qhf HN.out.symm,(Drew.drewN (Drew.refl w) n).drew⟩
   ·have hkx:k=xs.length:=by omega
    have heq:decide (xs=ys)=true:=by
     apply decide_eq_true
     have:=HT.out
     rw [hkx,List.take_length,List.take_of_length_le (by have:=HL.out;omega)] at this
     exact this
    have HN:=Lib.hid heq
    clear heq hkx
    go_wp2
    go_ret
    exact ⟨qhf HN.out.symm,Drew.drewN (Drew.refl w) n⟩
 ·have hb:((xs.length:Int) != (ys.length:Int))=true:=by simp;omega
  have hne:decide (xs=ys)=false:=by apply decide_eq_false;rintro rfl;exact hl rfl
  have HN:=Lib.hid hne
  clear hne
  go_enter Tryz.func28,Tryz.ntmps28
  go_wp2
  go_ret
  exact ⟨qhf HN.out.symm,Drew.refl w⟩
end Go.Proofs.YtdhobpbngkainaaGreatDoor
namespace Go.Proofs.YtdhobpbngkainaaGreatDoor
open Go.RowKit Go.Maps
def qiy (w0:World) (X:WS) (e:Ending) (W':World):Prop:=∃ sp ov wv D,e=.returned (.bool true)∧WsOk w0 W' (outX X sp ov wv D)
theorem qsn (w0 W:World) (X:WS) (o:OpL) (b:Nat) (h:WsOk w0 W X) (hB:ArB X.S b) (hb:b≤90000) (hl:X.R.vs.length≤100000) (hE:qbi w0) (ho:OpOk w0 o) (hk:o.kind=2) :
  Calls Tryz.prog 57 #[.pointer (some ⟨X.U.blk,0,none⟩),opA o] W (qiy w0 X):=by
 have HM:=Lib.hid (show Tryz.prog.follows .mixedOrders=true by kernel_rfl)
 have HH:=Lib.hid (And.intro h (And.intro hB (And.intro hb (And.intro hl (And.intro hE (And.intro ho hk))))))
 have hk':=hk
 obtain ⟨ok,oa,ob_,oc,os,ot,odv,od⟩:=o
 simp only at hk'
 subst hk'
 clear h hB hb hl hE ho hk
 unfold opA opV
 go_enter Tryz.func57,Tryz.ntmps57
 go_upto_region 9 with (fail)
 obtain ⟨ob,hob⟩:∃ ob,ob=W.heap.size:=⟨_,rfl⟩
 have hT1:Turns [] ((ob,Is (oO ⟨2,oa,ob_,oc,os,ot,odv,od⟩))::wsF X) w0 (W.alloc (.cells #[.int .i64 2,.int .i64 oa,.int .i64 ob_,.int .i64 oc,str os,str ot,odv] 65)):=by
  rw [hob];exact HH.out.1.turns.allocIs _
 have hsame:Same W (W.alloc (.cells #[.int .i64 2,.int .i64 oa,.int .i64 ob_,.int .i64 oc,str os,str ot,odv] 65)):=(Mods.refl _ _).alloc _
 rw [← hob]
 generalize W.alloc (.cells #[.int .i64 2,.int .i64 oa,.int .i64 ob_,.int .i64 oc,str os,str ot,odv] 65)=W1 at hT1 hsame ⊢
 have hcells:∀ (W:World) (G:HF),Turns [] (G++((ob,Is (oO ⟨2,oa,ob_,oc,os,ot,odv,od⟩))::(X.U.blk,Is (qao X.U))::(refF X.R++qay X))) w0 W →
   W.cell? ⟨X.U.blk,1,none⟩=some (.pointer (some ⟨X.S.a,0,none⟩))∧W.cell? ⟨X.U.blk,2,none⟩=some (.pointer (some ⟨X.R.blk,0,none⟩))∧W.cell? ⟨ob,4,none⟩=some (str os)∧W.cell? ⟨ob,1,none⟩=some (.int .i64 oa)∧W.cell? ⟨ob,2,none⟩=some (.int .i64 ob_)∧W.cell? ⟨ob,3,none⟩=some (.int .i64 oc):=by
  intro W G hT
  have hu:W.heap[X.U.blk]?=some (qao X.U):=hT.sat.memIs (by simp)
  have ho:W.heap[ob]?=some (oO ⟨2,oa,ob_,oc,os,ot,odv,od⟩):=hT.sat.memIs (by simp)
  refine ⟨?_,?_,qac ho 4 rfl,qac ho 1 rfl,qac ho 2 rfl,qac ho 3 rfl⟩
  ·have:=qac hu 1 (v:=ptrO X.U.a) rfl
   rw [HH.out.1.a] at this;exact this
  ·have:=qac hu 2 (v:=.pointer (some ⟨X.U.r,0,none⟩)) rfl
   rw [HH.out.1.r] at this;exact this
 have HCE:=Lib.hid hcells
 have hT2:Turns [] (arF X.S++((ob,Is (oO ⟨2,oa,ob_,oc,os,ot,odv,od⟩))::(X.U.blk,Is (qao X.U))::(refF X.R++qay X))) w0 W1:=by
  unfold wsF at hT1;exact hT1.to (qaf fun _=>by simp only [qad,qaa,qah]<;>omega)
 have HT1:=Lib.hid (And.intro hT2 hsame)
 clear hT1 hsame hcells hob hT2
 refine q6z ob X.U.blk X.S.a X.R.blk os ot oa ob_ oc (Post:=fun r W=>qx3 X.S os oa W1.drew (.returned r) W) ?c0 ?c1 ?pt ?call ?_
 case c0=>obtain ⟨h1,-,h4,h5,-,-⟩:=HCE.out W1 _ HT1.out.1;exact ⟨h1,h4,h5⟩
 case c1 =>
  intro r W hp
  obtain ⟨G,hG⟩:∃ G,Turns (arF X.S) G W1.drew W:=by
   rcases hp with ⟨_,_,_,hG⟩ | ⟨_,_,_,_,_,_,_,hG⟩<;>exact ⟨_,hG⟩
  obtain ⟨h1,-,h4,h5,-,-⟩:=HCE.out W _ (HT1.out.1.drew.step (List.Perm.refl _) hG);exact ⟨h1,h4,h5⟩
 case pt =>
  intro r W hp
  rcases hp with ⟨_,_,he,_⟩ | ⟨_,_,_,_,he,_⟩<;>(simp only [Ending.returned.injEq] at he;exact ⟨_,_,he⟩)
 case call =>
  refine (q25 X.S os oa b W1.drew (HT1.out.1.drew.sat.left) HH.out.1.ar HH.out.2.1 HH.out.2.2.1 (by have:=HH.out.2.2.2.2.2.1.s;simp only at this;omega)).mono ?_
  intro e w' hp
  rcases hp with ⟨k,h1,rfl,h3⟩ | ⟨V,v,sp,h1,rfl,h3⟩
  ·exact ⟨_,rfl,.inl ⟨k,h1,rfl,h3⟩⟩
  ·exact ⟨_,rfl,.inr ⟨V,v,sp,h1,rfl,h3⟩⟩
 intro bv ev W3 hp
 rcases hp with ⟨k,hfe,he,hG⟩ | ⟨V,v,sp,hf,he,hbo,hA,hG⟩
 ·simp only [Ending.returned.injEq,Value.tuple.injEq,Array.mk.injEq,List.cons.injEq,and_true] at he
  obtain ⟨rfl,rfl⟩:=he
  have hT3:=HT1.out.1.drew.step (List.Perm.refl _) hG
  have hE3:qbi W3:=HH.out.2.2.2.2.1.keep hT3.mods (fun h=>by simp at h)
  have HT3:=Lib.hid (And.intro hT3 (And.intro hE3 hfe))
  clear hG hT3 hE3 hfe
  go_upto_region 10 with (fail)
  refine qxq ob X.U.blk X.S.a X.R.blk os ot oa ob_ oc (Post:=fun r W=>Same W3.drew W∧r=.tuple #[.slice none 0 0,.int .i64 k]) ?c0 ?c1 ?pt ?call ?_
  case c0=>obtain ⟨-,h2,h4,h5,-,-⟩:=HCE.out W3 _ HT3.out.1;exact ⟨h2,h4,h5⟩
  case c1 =>
   rintro r W ⟨hs,rfl⟩
   obtain ⟨-,h2,h4,h5,-,-⟩:=HCE.out W _ (HT3.out.1.drew.thenSame hs);exact ⟨h2,h4,h5⟩
  case pt=>rintro r W ⟨_,rfl⟩;exact ⟨_,_,rfl⟩
  case call =>
   refine (qid X.R X.P os oa W3.drew (HH.out.1.refAt' HH.out.2.2.2.1 (HT3.out.1.drew.sat.right.tail.tail))).mono ?_
   rintro e w' ⟨hs,hm⟩
   rw [HH.out.1.link.err HT3.out.2.2] at hm
   exact ⟨_,hm,hs,rfl⟩
  rintro cv fv W4 ⟨hs4,he⟩
  simp only [Value.tuple.injEq,Array.mk.injEq,List.cons.injEq,and_true] at he
  obtain ⟨rfl,rfl⟩:=he
  have hT4:=HT3.out.1.drew.thenSame hs4
  have hE4:qbi W4:=HH.out.2.2.2.2.1.keep hT4.mods (fun h=>by simp at h)
  have HT4:=Lib.hid (And.intro hT4 hE4)
  clear hs4 hT4 hE4
  go_wp2_with fail
  refine (qcl (errV k) k W4 HT4.out.2 (.inr (.inl rfl))).mono ?_
  rintro e W5 ⟨rfl,hs5⟩
  have HS5:=Lib.hid hs5
  clear hs5
  go_wp2_with fail
  refine (qfy none none 0 0 [] [] W5 (qbr _ _) (qbr _ _) (by simp) (by simp)).mono ?_
  rintro e W6 ⟨rfl,hs6⟩
  have hT6:Turns [] ((X.U.blk,Is (qao X.U))::(arF X.S++(refF X.R++(qay X++[(ob,Is (oO ⟨2,oa,ob_,oc,os,ot,odv,od⟩))])))) w0 W6:=((HT4.out.1.thenSame HS5.out).thenSame hs6.same).to (qaf fun _=>by simp only [qad,qaa,qah]<;>omega)
  obtain ⟨Z,hZ⟩:∃ Z,Z=arF X.S++(refF X.R++(qay X++[(ob,Is (oO ⟨2,oa,ob_,oc,os,ot,odv,od⟩))])):=⟨_,rfl⟩
  rw [← hZ] at hT6
  have HT6:=Lib.hid hT6
  have HZ:=Lib.hid hZ
  clear hT6 hs6 hZ
  have hkp:k=9∨k=1∨k=3:=HT3.out.2.2.pos
  rw [show (decide (([]:List UInt8)=[]))=true from rfl]
  have hk0:(k==0)=false:=by simp;omega
  clear hkp
  have heq:∀ W,(binOp .eql 38 (.slice none 0 0) (.slice none 0 0)).run Tryz.prog W=.ok (.bool true) W:=fun W=>by kernel_rfl
  go_wp2_with (first
   | (refine qak rfl (qa0 38 (.tmp 100) (.tmp 98) rfl X.U.blk 3 (qar X.U) 63 (.slice none 0 0) HT6.out rfl rfl (by simp [qar]) (by kernel_rfl) rfl rfl ?_);intro w15 hT15;have HT15:=Lib.hid (show Turns [] ((X.U.blk,Is (qao { X.U with out:=.slice none 0 0 }))::Z) w0 w15 from hT15);clear hT15;simp only [Act.put])
   | (refine qak rfl (qa0 38 (.tmp 104) (.tmp 102) rfl X.U.blk 4 (qar { X.U with out:=.slice none 0 0 }) 63 (.slice none 0 0) HT15.out rfl rfl (by simp [qar]) (by kernel_rfl) rfl rfl ?_);intro w16 hT16;have HT16:=Lib.hid (show Turns [] ((X.U.blk,Is (qao { X.U with out:=.slice none 0 0,want:=.slice none 0 0 }))::Z) w0 w16 from hT16);clear hT16;simp only [Act.put])
   | (refine qak rfl (qa0 38 (.tmp 111) (.const (.slice none 0 0)) rfl X.U.blk 3 (qar { X.U with out:=.slice none 0 0,want:=.slice none 0 0 }) 63 (.slice none 0 0) HT16.out rfl rfl (by simp [qar]) (by kernel_rfl) rfl rfl ?_);intro w18 hT18;have HT18:=Lib.hid (show Turns [] ((X.U.blk,Is (qao { X.U with out:=.slice none 0 0,want:=.slice none 0 0 }))::Z) w0 w18 from hT18);clear hT18;simp only [Act.put])
   | (refine qak rfl (qa0 38 (.tmp 114) (.const (.slice none 0 0)) rfl X.U.blk 4 (qar { X.U with out:=.slice none 0 0,want:=.slice none 0 0 }) 63 (.slice none 0 0) HT18.out rfl rfl (by simp [qar]) (by kernel_rfl) rfl rfl ?_);intro w19 hT19;have HT19:=Lib.hid (show Turns [] ((X.U.blk,Is (qao { X.U with out:=.slice none 0 0,want:=.slice none 0 0 }))::Z) w0 w19 from hT19);clear hT19;simp only [Act.put]))
  go_loopw [11] (fun i W'=>i=.int .i64 0∧W'=w19) (fun _ _=>0)
  case atStart=>exact ⟨rfl,rfl⟩
  case round =>
   obtain ⟨rfl,rfl⟩:=hrel
   go_wp2_with (go_at_call 41;refine (qcr _ _).mono ?_;rintro e w' ⟨rfl,rfl⟩)
   refine bodyPost_ret (results_tmp rfl _ _ _) rfl ⟨X.S.A.spare,.slice none 0 0,.slice none 0 0,[],rfl,HH.out.1.outTo HH.out.1.ar.area qdh (qhg _) (by simp) ?_⟩
   have h19:=HT19.out
   rw [HZ.out] at h19
   refine h19.drop (fun x=>?_)
   unfold wsF outX qay
   rw [show qda X.S X.S.A.spare=X.S from rfl,qfh]
   simp only [qad,qaa,qah]<;>omega
 ·simp only [Ending.returned.injEq,Value.tuple.injEq,Array.mk.injEq,List.cons.injEq,and_true] at he
  obtain ⟨rfl,rfl⟩:=he
  have hT3:=HT1.out.1.drew.step (List.Perm.refl _) hG
  have hE3:qbi W3:=HH.out.2.2.2.2.1.keep hT3.mods (fun h=>by simp at h)
  obtain ⟨rv,hrv,htr,hrm,-⟩:=HH.out.1.link.found hf
  obtain ⟨D,hD⟩:∃ D,D=contV X.S V:=⟨_,rfl⟩
  have hDr:rv.cont=D:=by rw [hD];exact congrArg (fun t:Trip=>t.2.1) htr
  rw [← hD] at hbo hT3
  have hDl:D.length≤4000:=by rw [← hDr];exact (HH.out.1.link.each rv hrm).2.2
  have hpm:(rv.cv,D)∈X.P:=by rw [← hDr];exact HH.out.1.inp rv hrm
  have HT3:=Lib.hid (And.intro hT3 (And.intro hE3 (And.intro hbo (And.intro hA (And.intro hrv hpm)))))
  clear hG hT3 hE3 hbo hA hrv htr hrm hDr hD hpm hf
  have hT3':Turns [] ((bRow bv D++arF (qda X.S sp))++((ob,Is (oO ⟨2,oa,ob_,oc,os,ot,odv,od⟩))::(X.U.blk,Is (qao X.U))::(refF X.R++qay X))) w0 W3:=HT3.out.1
  have HT3':=Lib.hid hT3'
  clear hT3'
  go_upto_region 10 with (fail)
  refine qxq ob X.U.blk X.S.a X.R.blk os ot oa ob_ oc (Post:=fun r W=>Same W3.drew W∧r=.tuple #[rv.cv,.int .i64 0]) ?c0 ?c1 ?pt ?call ?_
  case c0=>obtain ⟨-,h2,h4,h5,-,-⟩:=HCE.out W3 _ HT3'.out;exact ⟨h2,h4,h5⟩
  case c1 =>
   rintro r W ⟨hs,rfl⟩
   obtain ⟨-,h2,h4,h5,-,-⟩:=HCE.out W _ (HT3'.out.drew.thenSame hs);exact ⟨h2,h4,h5⟩
  case pt=>rintro r W ⟨_,rfl⟩;exact ⟨_,_,rfl⟩
  case call =>
   refine (qid X.R X.P os oa W3.drew (HH.out.1.refAt' HH.out.2.2.2.1 (HT3'.out.drew.sat.right.tail.tail))).mono ?_
   rintro e w' ⟨hs,hm⟩
   rw [HT3.out.2.2.2.2.1] at hm
   exact ⟨_,hm.1,hs,rfl⟩
  rintro cv fv W4 ⟨hs4,he⟩
  simp only [Value.tuple.injEq,Array.mk.injEq,List.cons.injEq,and_true] at he
  obtain ⟨rfl,rfl⟩:=he
  have hT4:=HT3'.out.drew.thenSame hs4
  have hE4:qbi W4:=HH.out.2.2.2.2.1.keep hT4.mods (fun h=>by simp at h)
  have HT4:=Lib.hid (And.intro hT4 hE4)
  clear hs4 hT4 hE4
  go_wp2_with fail
  refine (qcl .nilIface 0 W4 HT4.out.2 (.inl ⟨rfl,rfl⟩)).mono ?_
  rintro e W5 ⟨rfl,hs5⟩
  have hT5:=HT4.out.1.thenSame hs5
  obtain ⟨va,vc,hbv,-,hvcap,hvc,-⟩:=qbk (bOwns hT5.sat.left.left HT3.out.2.2.1)
  obtain ⟨csl,ccap,hcv,-,hcc,-⟩:=qf2 HH.out.1.pok (hT5.sat.right.tail.tail.right.left) HT3.out.2.2.2.2.2
  have HW:=Lib.hid (And.intro (q2s (hT5.sat.right.tail.tail.right.left) HH.out.1.pok HT3.out.2.2.2.2.2) hT5)
  have HBV:=Lib.hid (And.intro hbv hcv)
  rw [hbv,hcv]
  have HSC:=Lib.hid (qfy va csl vc ccap D D W5 hvc hcc (by omega) (by omega))
  clear hs5 hT5 hbv hcv hvc hcc
  go_wp2_with fail
  refine HSC.out.mono ?_
  rintro e W6 ⟨rfl,hs6⟩
  rw [decide_eq_true trivial]
  have hT6:Turns [] ((X.U.blk,Is (qao X.U))::(bRow (.slice va D.length vc) D++(arF (qda X.S sp)++(refF X.R++(qay X++[(ob,Is (oO ⟨2,oa,ob_,oc,os,ot,odv,od⟩))]))))) w0 W6:=by
   have:=HW.out.2.thenSame hs6.same
   rw [HBV.out.1] at this
   exact this.to (qaf fun _=>by simp only [qad,qaa,qah]<;>omega)
  obtain ⟨Z,hZ⟩:∃ Z,Z=bRow (.slice va D.length vc) D++(arF (qda X.S sp)++(refF X.R++(qay X++[(ob,Is (oO ⟨2,oa,ob_,oc,os,ot,odv,od⟩))]))):=⟨_,rfl⟩
  rw [← hZ] at hT6
  have HT6:=Lib.hid hT6
  have HZ:=Lib.hid hZ
  clear hT6 hs6 hZ
  by_cases hev:D.length%2=0
  ·have hev1:((D.length:Int).tmod 2==0)=true:=by rw [Int.tmod_eq_emod_of_nonneg (by omega)];simp;omega
   have hev2:((D.length:Int)%2==0)=true:=by simp;omega
   go_wp2_with (first
    | (refine qak rfl (qa0 38 (.tmp 100) (.tmp 98) rfl X.U.blk 3 (qar X.U) 63 (.slice va D.length vc) HT6.out rfl rfl (by simp [qar]) (by kernel_rfl) rfl rfl ?_);intro w15 hT15;have HT15:=Lib.hid (show Turns [] ((X.U.blk,Is (qao { X.U with out:=.slice va D.length vc }))::Z) w0 w15 from hT15);clear hT15;simp only [Act.put])
    | (refine qak rfl (qa0 38 (.tmp 104) (.tmp 102) rfl X.U.blk 4 (qar { X.U with out:=.slice va D.length vc }) 63 (.slice csl D.length ccap) HT15.out rfl rfl (by simp [qar]) (by kernel_rfl) rfl rfl ?_);intro w16 hT16;have HT16:=Lib.hid (show Turns [] ((X.U.blk,Is (qao { X.U with out:=.slice va D.length vc,want:=.slice csl D.length ccap }))::Z) w0 w16 from hT16);clear hT16;simp only [Act.put])
    | (refine qak rfl (qa0 38 (.tmp 111) (.const (.slice none 0 0)) rfl X.U.blk 3 (qar { X.U with out:=.slice va D.length vc,want:=.slice csl D.length ccap }) 63 (.slice none 0 0) HT16.out rfl rfl (by simp [qar]) (by kernel_rfl) rfl rfl ?_);intro w18 hT18;have HT18:=Lib.hid (show Turns [] ((X.U.blk,Is (qao { X.U with out:=.slice none 0 0,want:=.slice csl D.length ccap }))::Z) w0 w18 from hT18);clear hT18;simp only [Act.put])
    | (refine qak rfl (qa0 38 (.tmp 114) (.const (.slice none 0 0)) rfl X.U.blk 4 (qar { X.U with out:=.slice none 0 0,want:=.slice csl D.length ccap }) 63 (.slice none 0 0) HT18.out rfl rfl (by simp [qar]) (by kernel_rfl) rfl rfl ?_);intro w19 hT19;have HT19:=Lib.hid (show Turns [] ((X.U.blk,Is (qao { X.U with out:=.slice none 0 0,want:=.slice none 0 0 }))::Z) w0 w19 from hT19);clear hT19;simp only [Act.put]))
   by_cases hD0:D=[]
   ·have hDz:D.length=0:=by rw [hD0];rfl
    have HD0:=Lib.hid hD0
    clear hD0
    rw [hDz]
    go_loopw [11] (fun i W'=>i=.int .i64 0∧W'=w19) (fun _ _=>0)
    case atStart=>exact ⟨rfl,rfl⟩
    case round =>
     obtain ⟨rfl,rfl⟩:=hrel
     go_wp2_with (go_at_call 41;refine (qcr _ _).mono ?_;rintro e w' ⟨rfl,rfl⟩)
     refine bodyPost_ret (results_tmp rfl _ _ _) rfl ⟨sp,.slice none 0 0,.slice none 0 0,[],rfl,HH.out.1.outTo HT3.out.2.2.2.1 qdh (qhg _) (by simp) ?_⟩
     have h19:=HT19.out
     rw [HZ.out] at h19
     refine h19.drop (fun x=>?_)
     unfold wsF outX qay
     rw [qfh]
     simp only [qad,qaa,qah]<;>omega
   ·have h19:=HT19.out
    rw [HZ.out] at h19
    obtain ⟨g,cap,hg,hT⟩:=qxm (h19.to (H:=bRow (.slice va D.length vc) D++((X.U.blk,Is (qao { X.U with out:=.slice none 0 0,want:=.slice none 0 0 }))::(arF (qda X.S sp)++(refF X.R++(qay X++[(ob,Is (oO ⟨2,oa,ob_,oc,os,ot,odv,od⟩))]))))) (qaf fun _=>by simp only [qad,qaa,qah]<;>omega)) (HBV.out.1 ▸ HT3.out.2.2.1) hD0
    simp only [Value.slice.injEq,true_and] at hg
    obtain ⟨rfl,rfl⟩:=hg
    have HT:=Lib.hid hT
    clear hT h19 hD0
    go_loopw [11] (fun i W'=>∃ k:Nat,k≤D.length∧i=.int .i64 k∧Turns [] ((g,AnyP D.length)::((X.U.blk,Is (qao { X.U with out:=.slice none 0 0,want:=.slice none 0 0 }))::(arF (qda X.S sp)++(refF X.R++(qay X++[(ob,Is (oO ⟨2,oa,ob_,oc,os,ot,odv,od⟩))]))))) w0 W') (fun i _=>D.length-(intOf i).toNat)
    case atStart=>exact ⟨0,Nat.zero_le _,rfl,HT.out⟩
    case round =>
     obtain ⟨k,hk,rfl,hTk⟩:=hrel
     by_cases hlt:k<D.length
     ·obtain ⟨x,hx,hfz,hgl⟩:=quh hTk hlt
      have HTk:=Lib.hid hTk
      clear hTk
      go_wp2_with fail
      go_roundw
      case rel=>exact ⟨k+1,by omega,by go_num,qx0 HTk.out _ _⟩
      case measure=>simp [intOf];omega
     ·obtain rfl:k=D.length:=by omega
      have HTk:=Lib.hid hTk
      clear hTk
      go_wp2_with (go_at_call 41;refine (qcr _ _).mono ?_;rintro e w' ⟨rfl,rfl⟩)
      refine bodyPost_ret (results_tmp rfl _ _ _) rfl ⟨sp,.slice none 0 0,.slice none 0 0,[],rfl,HH.out.1.outTo HT3.out.2.2.2.1 qdh (qhg _) (by simp) ?_⟩
      refine HTk.out.drop (fun x=>?_)
      unfold wsF outX qay
      rw [qfh]
      simp only [qad,qaa,qah]<;>omega
  ·have hev1:((D.length:Int).tmod 2==0)=false:=by rw [Int.tmod_eq_emod_of_nonneg (by omega)];simp;omega
   have hev2:((D.length:Int)%2==0)=false:=by simp;omega
   go_wp2_with (first
    | (refine qak rfl (qa0 38 (.tmp 100) (.tmp 98) rfl X.U.blk 3 (qar X.U) 63 (.slice va D.length vc) HT6.out rfl rfl (by simp [qar]) (by kernel_rfl) rfl rfl ?_);intro w15 hT15;have HT15:=Lib.hid (show Turns [] ((X.U.blk,Is (qao { X.U with out:=.slice va D.length vc }))::Z) w0 w15 from hT15);clear hT15;simp only [Act.put])
    | (refine qak rfl (qa0 38 (.tmp 104) (.tmp 102) rfl X.U.blk 4 (qar { X.U with out:=.slice va D.length vc }) 63 (.slice csl D.length ccap) HT15.out rfl rfl (by simp [qar]) (by kernel_rfl) rfl rfl ?_);intro w16 hT16;have HT16:=Lib.hid (show Turns [] ((X.U.blk,Is (qao { X.U with out:=.slice va D.length vc,want:=.slice csl D.length ccap }))::Z) w0 w16 from hT16);clear hT16;simp only [Act.put])
    | (go_at_call 41;refine (qcr _ _).mono ?_;rintro e w' ⟨rfl,rfl⟩))
   refine bodyPost_ret (results_tmp rfl _ _ _) rfl ⟨sp,.slice va D.length vc,.slice csl D.length ccap,D,rfl,HH.out.1.outTo HT3.out.2.2.2.1 (HBV.out.1 ▸ HT3.out.2.2.1) (HBV.out.2 ▸ HW.out.1) (by omega) ?_⟩
   have h16:=HT16.out
   rw [HZ.out] at h16
   refine h16.drop (fun x=>?_)
   unfold wsF outX qay
   simp only [qad,qaa,qah]<;>omega
theorem qkr {l:Bs} (h:qa6 l=true):l.length≤20:=by
 unfold qa6 at h
 simp only [Bool.and_eq_true,decide_eq_true_eq] at h
 exact h.1.2
def qfn (l:List VerL):List Int:=l.map (fun V=>(V.num:Int))
def qnf (S:AS) (l:Bs) (w:World) (e:Ending) (w':World):Prop :=
 (∃ k,qin S l 0 k∧e=.returned (.tuple #[.slice none 0 0,errV k])∧Turns (arF S) (arF S) w w') ∨
 (∃ V v,Found S l 0 V∧e=.returned (.tuple #[v,.nilIface])∧iOk v (qfn (qaq S.ps l))∧Turns (arF S) (iRow v (qfn (qaq S.ps l))++arF S) w w')
def qw4 (S:AS) (vs:List VerL) (w:World) (out i:Value) (W:World):Prop :=
 ∃ (j:Nat) (J:HF),j≤vs.length∧i=.int .i64 j∧iOk out (qfn (vs.take j))∧Turns (arF S) (iRow out (qfn (vs.take j))++(arF S++J)) w W
theorem q6b {S:AS} {b:Nat} (hB:ArB S b) (l:Bs):(qaq S.ps l).length≤b:=by
 unfold qaq gOf
 cases hg:S.ps.find? (fun p=>decide (p.key=l)) with
 | none=>simp
 | some p=>exact (hB.vers p (List.mem_of_find?_eq_some hg)).2.1
theorem qqq (S:AS) (l:Bs) (b:Nat) (w:World) (h:Sat w (arF S)) (hok:ArOk S) (hB:ArB S b) (hb:b≤90000) :
  Calls Tryz.prog 105 #[.pointer (some ⟨S.a,0,none⟩),str l] w (qnf S l w):=by
 have HF:=Lib.hid (qk0 S.a S.X S.ps S.pc l 0 w h.headIs (h.tail.right.right.left) hok.paths)
 have HH:=Lib.hid (And.intro h (And.intro hok (And.intro hB hb)))
 clear h hok hB hb
 go_enter Tryz.func105,Tryz.ntmps105
 go_wp2_with fail
 refine HF.out.mono ?_
 intro e w1 hp
 obtain ⟨hs,⟨k,hk,rfl⟩ | ⟨V,hV,rfl⟩⟩:=qlv hp
 ·have HK:=Lib.hid (And.intro hk hs)
  clear hp hs hk
  unfold errV
  go_wp2_with fail
  exact bodyPost_ret (results_tmp2 rfl _ _ _) rfl (.inl ⟨k,HK.out.1,rfl,(Turns.same HH.out.1 HK.out.2)⟩)
 ·have hT1:Turns (arF S) (arF S) w w1:=Turns.same HH.out.1 hs
  have ha1:=hT1.sat.headIs
  have c0:w1.cell? ⟨S.a,0,none⟩=some (.map (some S.X.pm)):=qac ha1 0 rfl
  have hpm:=hT1.sat.memIs (b:=S.X.pm) (o:=mapO str (S.ps.map entG) S.pc) (by simp [arF,qbc])
  have hal:=qal ha1
  obtain ⟨sl,cap,e1,e2,e3,e4,-,-⟩:=qik (hT1.sat.tail.right.right.left) HH.out.2.1.paths l
  obtain ⟨vs,hvs⟩:∃ vs,vs=qaq S.ps l:=⟨_,rfl⟩
  rw [← hvs] at e1 e2 e4
  have hvl:vs.length≤90000:=by rw [hvs];have:=q6b HH.out.2.2.1 l;have:=HH.out.2.2.2;omega
  have hOl:OkS l:=by have:=qkr hV.2.1;unfold OkS;omega
  have HV:=Lib.hid (And.intro hV (And.intro hT1 (And.intro hpm (And.intro e1 (And.intro e4 (And.intro hvs hOl))))))
  clear hp hs hV hT1 ha1 hpm e1 e4 hvs hOl
  unfold ptrV
  go_wp2_with ((refine qhp qh4 rfl _ _ rfl Tryz.underlying119 HV.out.2.2.1 HH.out.2.1.paths.map (qh2 _) l rfl rfl HV.out.2.2.2.2.2.2 ?_;rw [qeu,HV.out.2.2.2.1]))
  go_loopw [8,28] (fun out i wr=>qw4 S vs w out i wr) (fun _ i _=>vs.length-(intOf i).toNat)
  case atStart=>exact ⟨0,[],Nat.zero_le _,rfl,qno,by rw [List.append_nil];exact HV.out.2.1⟩
  case round =>
   obtain ⟨j,J,hj,rfl,hio,hT⟩:=hrel
   have HR:=Lib.hid (And.intro hio hT)
   clear hio hT
   by_cases hlt:j<vs.length
   ·obtain ⟨sl2,cap2,e1',-,-,e4',e5',-⟩:=qik (w:=wr) (HR.out.2.sat.sub (G:=qbc S.X.pm S.ps S.pc) (fun x=>by simp only [arF,qad,qaa]<;>omega)) HH.out.2.1.paths l
    rw [HV.out.2.2.2.1] at e1'
    simp only [Value.slice.injEq] at e1'
    obtain ⟨rfl,-,rfl⟩:=e1'
    rw [← HV.out.2.2.2.2.2.1] at e4' e5'
    obtain ⟨g,off,hg,hcell⟩:=e4' (by rw [List.length_map];omega)
    subst hg
    have hc1:=hcell j (by rw [List.length_map];exact hlt)
    rw [List.getElem_map] at hc1
    obtain ⟨U,hU⟩:∃ U,U=vs[j]:=⟨_,rfl⟩
    rw [← hU] at hc1
    unfold ptrV at hc1
    have hub:=e5' U (by rw [hU];exact List.getElem_mem hlt)
    have hc2:wr.cell? ⟨U.blk,0,none⟩=some (.int .i64 U.num):=qac hub 0 rfl
    have htk:qfn (vs.take (j+1))=qfn (vs.take j)++[(U.num:Int)]:=by
     unfold qfn;rw [List.take_succ_eq_append_getElem hlt,hU,List.map_append];rfl
    have hlen:(qfn (vs.take j)).length≤90000:=by simp [qfn];omega
    have HU:=Lib.hid (And.intro htk hlen)
    obtain ⟨ns,hns⟩:∃ ns,ns=qfn (vs.take j):=⟨_,rfl⟩
    rw [← hns] at HR HU
    clear e4' e5' hcell hU hub htk hlen hns
    go_wp2_with ((at_builtin;refine qak rfl ?_;refine qii (.tmp 32) (.tmp 37) rfl _ ns rfl (HR.out.2.alloc _) HR.out.1 _ 1 1 rfl [(U.num:Int)] rfl (fun _=>⟨_,rfl,fun j u hu=>qff _ _ _ j u hu⟩) (by have:=HU.out.2;simp;omega) ?_;intro av cv w5 hok5 hT5;have H5:=Lib.hid (And.intro hok5 hT5);clear hok5 hT5))
    go_roundw
    case rel =>
     refine ⟨j+1,J,by omega,by go_num,?_,?_⟩
     ·rw [HU.out.1];have:=H5.out.1;rw [List.length_append] at this;exact this
     ·rw [HU.out.1];have:=H5.out.2;rw [List.length_append] at this;exact this
    case measure=>simp [intOf];omega
   ·obtain rfl:j=vs.length:=by omega
    rw [List.take_length] at HR
    go_wp2_with fail
    refine bodyPost_ret (results_tmp2 rfl _ _ _) rfl (.inr ⟨V,u8,HV.out.1,rfl,?_,?_⟩)
    ·rw [← HV.out.2.2.2.2.2.1];exact HR.out.1
    ·rw [← HV.out.2.2.2.2.2.1];exact HR.out.2.drop (fun x=>by simp only [qaa];omega)
theorem WsOk.back {w0 W W':World} {X:WS} (h:WsOk w0 W X) (hT:Turns [] (wsF X) w0 W'):WsOk w0 W' X:={ h with turns:=hT }
theorem qs9 (w0 W:World) (X:WS) (o:OpL) (b:Nat) (h:WsOk w0 W X) (hB:ArB X.S b) (hb:b≤90000) (hl:X.R.vs.length≤100000) (hE:qbi w0) (ho:OpOk w0 o) (hk:o.kind=4) :
  Calls Tryz.prog 57 #[.pointer (some ⟨X.U.blk,0,none⟩),opA o] W (qiy w0 X):=by
 have HM:=Lib.hid (show Tryz.prog.follows .mixedOrders=true by kernel_rfl)
 have HH:=Lib.hid (And.intro h (And.intro hB (And.intro hb (And.intro hl (And.intro hE (And.intro ho hk))))))
 have hk':=hk
 obtain ⟨ok,oa,ob_,oc,os,ot,odv,od⟩:=o
 simp only at hk'
 subst hk'
 clear h hB hb hl hE ho hk
 unfold opA opV
 go_enter Tryz.func57,Tryz.ntmps57
 go_upto_region 26 with (fail)
 obtain ⟨ob,hob⟩:∃ ob,ob=W.heap.size:=⟨_,rfl⟩
 have hT1:Turns [] ((ob,Is (oO ⟨4,oa,ob_,oc,os,ot,odv,od⟩))::wsF X) w0 (W.alloc (.cells #[.int .i64 4,.int .i64 oa,.int .i64 ob_,.int .i64 oc,str os,str ot,odv] 65)):=by
  rw [hob];exact HH.out.1.turns.allocIs _
 have hsame:Same W (W.alloc (.cells #[.int .i64 4,.int .i64 oa,.int .i64 ob_,.int .i64 oc,str os,str ot,odv] 65)):=(Mods.refl _ _).alloc _
 rw [← hob]
 generalize W.alloc (.cells #[.int .i64 4,.int .i64 oa,.int .i64 ob_,.int .i64 oc,str os,str ot,odv] 65)=W1 at hT1 hsame ⊢
 have hcells:∀ (W:World) (G:HF),Turns [] (G++((ob,Is (oO ⟨4,oa,ob_,oc,os,ot,odv,od⟩))::(X.U.blk,Is (qao X.U))::(refF X.R++qay X))) w0 W →
   W.cell? ⟨X.U.blk,1,none⟩=some (.pointer (some ⟨X.S.a,0,none⟩))∧W.cell? ⟨X.U.blk,2,none⟩=some (.pointer (some ⟨X.R.blk,0,none⟩))∧W.cell? ⟨ob,4,none⟩=some (str os)∧W.cell? ⟨ob,1,none⟩=some (.int .i64 oa)∧W.cell? ⟨ob,2,none⟩=some (.int .i64 ob_)∧W.cell? ⟨ob,3,none⟩=some (.int .i64 oc):=by
  intro W G hT
  have hu:W.heap[X.U.blk]?=some (qao X.U):=hT.sat.memIs (by simp)
  have ho:W.heap[ob]?=some (oO ⟨4,oa,ob_,oc,os,ot,odv,od⟩):=hT.sat.memIs (by simp)
  refine ⟨?_,?_,qac ho 4 rfl,qac ho 1 rfl,qac ho 2 rfl,qac ho 3 rfl⟩
  ·have:=qac hu 1 (v:=ptrO X.U.a) rfl
   rw [HH.out.1.a] at this;exact this
  ·have:=qac hu 2 (v:=.pointer (some ⟨X.U.r,0,none⟩)) rfl
   rw [HH.out.1.r] at this;exact this
 have HCE:=Lib.hid hcells
 have hT2:Turns [] (arF X.S++((ob,Is (oO ⟨4,oa,ob_,oc,os,ot,odv,od⟩))::(X.U.blk,Is (qao X.U))::(refF X.R++qay X))) w0 W1:=by
  unfold wsF at hT1;exact hT1.to (qaf fun _=>by simp only [qad,qaa,qah]<;>omega)
 have HT1:=Lib.hid (And.intro hT2 hsame)
 clear hT1 hsame hcells hob hT2
 refine q6e ob X.U.blk X.S.a X.R.blk os ot oa ob_ oc (Post:=fun r W=>qnf X.S os W1.drew (.returned r) W) ?c0 ?c1 ?pt ?call ?_
 case c0=>obtain ⟨h1,-,h4,-⟩:=HCE.out W1 _ HT1.out.1;exact ⟨h1,h4⟩
 case c1 =>
  intro r W hp
  obtain ⟨G,hG⟩:∃ G,Turns (arF X.S) G W1.drew W:=by
   rcases hp with ⟨_,_,_,hG⟩ | ⟨_,_,_,_,_,hG⟩<;>exact ⟨_,hG⟩
  obtain ⟨h1,-,h4,-⟩:=HCE.out W _ (HT1.out.1.drew.step (List.Perm.refl _) hG);exact ⟨h1,h4⟩
 case pt =>
  intro r W hp
  rcases hp with ⟨_,_,he,_⟩ | ⟨_,_,_,he,_⟩<;>(simp only [Ending.returned.injEq] at he;exact ⟨_,_,he⟩)
 case call =>
  refine (qqq X.S os b W1.drew (HT1.out.1.drew.sat.left) HH.out.1.ar HH.out.2.1 HH.out.2.2.1).mono ?_
  intro e w' hp
  rcases hp with ⟨k,h1,rfl,h3⟩ | ⟨V,v,h1,rfl,h3⟩
  ·exact ⟨_,rfl,.inl ⟨k,h1,rfl,h3⟩⟩
  ·exact ⟨_,rfl,.inr ⟨V,v,h1,rfl,h3⟩⟩
 intro lv ev W3 hp
 rcases hp with ⟨k,hfe,he,hG⟩ | ⟨V,v,hf,he,hbo,hG⟩
 ·simp only [Ending.returned.injEq,Value.tuple.injEq,Array.mk.injEq,List.cons.injEq,and_true] at he
  obtain ⟨rfl,rfl⟩:=he
  have hT3:=HT1.out.1.drew.step (List.Perm.refl _) hG
  have HT3:=Lib.hid (And.intro hT3 hfe)
  clear hG hT3 hfe
  go_upto_region 27 with (fail)
  refine qya ob X.U.blk X.S.a X.R.blk os ot oa ob_ oc (Post:=fun r W=>Same W3.drew W∧r=.tuple #[.slice none 0 0,.int .i64 k]) ?c0 ?c1 ?pt ?call ?_
  case c0=>obtain ⟨-,h2,h4,-⟩:=HCE.out W3 _ HT3.out.1;exact ⟨h2,h4⟩
  case c1 =>
   rintro r W ⟨hs,rfl⟩
   obtain ⟨-,h2,h4,-⟩:=HCE.out W _ (HT3.out.1.drew.thenSame hs);exact ⟨h2,h4⟩
  case pt=>rintro r W ⟨_,rfl⟩;exact ⟨_,_,rfl⟩
  case call =>
   refine (qj7 X.R X.P os W3.drew (HH.out.1.refAt' HH.out.2.2.2.1 (HT3.out.1.drew.sat.right.tail.tail))).mono ?_
   intro e w' hm
   unfold qfg at hm
   rw [HH.out.1.link.err HT3.out.2] at hm
   exact ⟨_,hm.2,hm.1,rfl⟩
  rintro cv fv W4 ⟨hs4,he⟩
  simp only [Value.tuple.injEq,Array.mk.injEq,List.cons.injEq,and_true] at he
  obtain ⟨rfl,rfl⟩:=he
  have hT4:=HT3.out.1.drew.thenSame hs4
  have hE4:qbi W4:=HH.out.2.2.2.2.1.keep hT4.mods (fun h=>by simp at h)
  have HT4:=Lib.hid (And.intro hT4 hE4)
  clear hs4 hT4 hE4
  go_wp2_with fail
  refine (qcl (errV k) k W4 HT4.out.2 (.inr (.inl rfl))).mono ?_
  rintro e W5 ⟨rfl,hs5⟩
  have HS5:=Lib.hid hs5
  clear hs5
  go_wp2_with fail
  refine (qib none none 0 0 [] [] W5 (qbr _ _) (qbr _ _) (by simp) (by simp)).mono ?_
  rintro e W6 ⟨rfl,hs6⟩
  have HT6:=Lib.hid ((HT4.out.1.thenSame HS5.out).thenSame hs6.same)
  clear hs6
  have hkp:k=9∨k=1∨k=3:=HT3.out.2.pos
  rw [show (decide (([]:List Int)=[]))=true from rfl]
  have hk0:(k==0)=false:=by simp;omega
  clear hkp
  have heq:∀ W,(binOp .eql 171 (.slice none 0 0) (.slice none 0 0)).run Tryz.prog W=.ok (.bool true) W:=fun W=>by kernel_rfl
  go_wp2_with (go_at_call 41;refine (qcr _ _).mono ?_;rintro e w' ⟨rfl,rfl⟩)
  refine bodyPost_ret (results_tmp rfl _ _ _) rfl ⟨X.S.A.spare,X.U.out,X.U.want,X.O,rfl,(HH.out.1.back ?_:WsOk w0 _ X)⟩
  exact HT6.out.drop (fun x=>by unfold wsF;simp only [qad,qaa]<;>omega)
 ·simp only [Ending.returned.injEq,Value.tuple.injEq,Array.mk.injEq,List.cons.injEq,and_true] at he
  obtain ⟨rfl,rfl⟩:=he
  have hT3:=HT1.out.1.drew.step (List.Perm.refl _) hG
  obtain ⟨rv,hrv,-,-,-⟩:=HH.out.1.link.found hf
  obtain ⟨ns,hns⟩:∃ ns,ns=qfn (qaq X.S.ps os):=⟨_,rfl⟩
  have hnr:numsR X.R.vs os=ns:=by
   rw [hns]
   have:=congrArg (List.map (fun t:Trip=>t.1)) (HH.out.1.link.vers os)
   rw [List.map_map,List.map_map] at this
   exact this.symm
  have hnl:ns.length≤100000:=by rw [← hnr];have:=qr3 X.R.vs os;have:=HH.out.2.2.2.1;omega
  rw [← hns] at hbo hT3
  have HT3:=Lib.hid (And.intro hT3 (And.intro hbo (And.intro hrv hnr)))
  have hT3':Turns [] ((iRow lv ns++arF X.S)++((ob,Is (oO ⟨4,oa,ob_,oc,os,ot,odv,od⟩))::(X.U.blk,Is (qao X.U))::(refF X.R++qay X))) w0 W3:=hT3
  have HT3':=Lib.hid hT3'
  clear hG hT3 hT3' hbo hrv hnr hns hf
  go_upto_region 27 with (fail)
  refine qya ob X.U.blk X.S.a X.R.blk os ot oa ob_ oc (Post:=fun r W=>∃ mv,r=.tuple #[mv,.int .i64 0]∧iOk mv ns∧Turns [] (iRow mv ns) W3.drew W) ?c0 ?c1 ?pt ?call ?_
  case c0=>obtain ⟨-,h2,h4,-⟩:=HCE.out W3 _ HT3'.out;exact ⟨h2,h4⟩
  case c1 =>
   rintro r W ⟨mv,rfl,_,hG⟩
   obtain ⟨-,h2,h4,-⟩:=HCE.out W (iRow mv ns++(iRow lv ns++arF X.S)) (by have:=HT3'.out.drew.step (F:=[]) (R:=(iRow lv ns++arF X.S)++((ob,Is (oO ⟨4,oa,ob_,oc,os,ot,odv,od⟩))::(X.U.blk,Is (qao X.U))::(refF X.R++qay X))) (by simp) hG;exact this.to (qaf fun _=>by simp only [qad,qaa,qah]<;>omega))
   exact ⟨h2,h4⟩
  case pt=>rintro r W ⟨mv,rfl,_⟩;exact ⟨_,_,rfl⟩
  case call =>
   refine (qj7 X.R X.P os W3.drew (HH.out.1.refAt' HH.out.2.2.2.1 (HT3'.out.drew.sat.right.tail.tail))).mono ?_
   intro e w' hm
   unfold qfg at hm
   rw [HT3.out.2.2.1] at hm
   obtain ⟨mv,h1,h2,h3⟩:=hm
   rw [HT3.out.2.2.2] at h2 h3
   exact ⟨_,h1,mv,rfl,h2,h3⟩
  rintro cv fv W4 ⟨mv,he,hmo,hGm⟩
  simp only [Value.tuple.injEq,Array.mk.injEq,List.cons.injEq,and_true] at he
  obtain ⟨rfl,rfl⟩:=he
  have hT4:Turns [] (iRow cv ns++(iRow lv ns++(arF X.S++((ob,Is (oO ⟨4,oa,ob_,oc,os,ot,odv,od⟩))::(X.U.blk,Is (qao X.U))::(refF X.R++qay X))))) w0 W4:=by
   have:=HT3'.out.drew.step (F:=[]) (R:=(iRow lv ns++arF X.S)++((ob,Is (oO ⟨4,oa,ob_,oc,os,ot,odv,od⟩))::(X.U.blk,Is (qao X.U))::(refF X.R++qay X))) (by simp) hGm;exact this.to (qaf fun _=>by simp only [qad,qaa,qah]<;>omega)
  have hE4:qbi W4:=HH.out.2.2.2.2.1.keep hT4.mods (fun h=>by simp at h)
  have HT4:=Lib.hid (And.intro hT4 (And.intro hE4 hmo))
  clear hGm hT4 hE4 hmo
  go_wp2_with fail
  refine (qcl .nilIface 0 W4 HT4.out.2.1 (.inl ⟨rfl,rfl⟩)).mono ?_
  rintro e W5 ⟨rfl,hs5⟩
  have hT5:=HT4.out.1.thenSame hs5
  obtain ⟨ca,cc,hcv,-,-,hcc,-⟩:=qcq (hT5.sat.left) HT4.out.2.2 (by decide)
  obtain ⟨la,lc,hlv,-,-,hlc,-⟩:=qcq (hT5.sat.right.left) HT3.out.2.1 (by decide)
  have HSC:=Lib.hid (qib la ca lc cc ns ns W5 hlc hcc (by omega) (by omega))
  have HT5:=Lib.hid hT5
  rw [hcv,hlv]
  clear hs5 hT5 hcv hlv hcc hlc
  go_wp2_with fail
  refine HSC.out.mono ?_
  rintro e W6 ⟨rfl,hs6⟩
  rw [decide_eq_true trivial]
  have HT6:=Lib.hid (HT5.out.thenSame hs6.same)
  clear hs6
  go_wp2_with (go_at_call 41;refine (qcr _ _).mono ?_;rintro e w' ⟨rfl,rfl⟩)
  refine bodyPost_ret (results_tmp rfl _ _ _) rfl ⟨X.S.A.spare,X.U.out,X.U.want,X.O,rfl,(HH.out.1.back ?_:WsOk w0 _ X)⟩
  exact HT6.out.drop (fun x=>by unfold wsF;simp only [qad,qaa]<;>omega)
theorem qq5 (w0 W:World) (X:WS) (o:OpL) (b:Nat) (h:WsOk w0 W X) (hB:ArB X.S b) (hb:b≤90000) (hl:X.R.vs.length≤100000) (hE:qbi w0) (ho:OpOk w0 o) (hk:o.kind=5) :
  Calls Tryz.prog 57 #[.pointer (some ⟨X.U.blk,0,none⟩),opA o] W (qiy w0 X):=by
 have HM:=Lib.hid (show Tryz.prog.follows .mixedOrders=true by kernel_rfl)
 have HH:=Lib.hid (And.intro h (And.intro hB (And.intro hb (And.intro hl (And.intro hE (And.intro ho hk))))))
 have hk':=hk
 obtain ⟨ok,oa,ob_,oc,os,ot,odv,od⟩:=o
 simp only at hk'
 subst hk'
 clear h hB hb hl hE ho hk
 unfold opA opV
 go_enter Tryz.func57,Tryz.ntmps57
 go_upto_region 32 with (fail)
 obtain ⟨ob,hob⟩:∃ ob,ob=W.heap.size:=⟨_,rfl⟩
 have hT1:Turns [] ((ob,Is (oO ⟨5,oa,ob_,oc,os,ot,odv,od⟩))::wsF X) w0 (W.alloc (.cells #[.int .i64 5,.int .i64 oa,.int .i64 ob_,.int .i64 oc,str os,str ot,odv] 65)):=by
  rw [hob];exact HH.out.1.turns.allocIs _
 have hsame:Same W (W.alloc (.cells #[.int .i64 5,.int .i64 oa,.int .i64 ob_,.int .i64 oc,str os,str ot,odv] 65)):=(Mods.refl _ _).alloc _
 rw [← hob]
 generalize W.alloc (.cells #[.int .i64 5,.int .i64 oa,.int .i64 ob_,.int .i64 oc,str os,str ot,odv] 65)=W1 at hT1 hsame ⊢
 have hcells:∀ (W:World) (G:HF),Turns [] (G++((ob,Is (oO ⟨5,oa,ob_,oc,os,ot,odv,od⟩))::(X.U.blk,Is (qao X.U))::(refF X.R++qay X))) w0 W →
   W.cell? ⟨X.U.blk,1,none⟩=some (.pointer (some ⟨X.S.a,0,none⟩))∧W.cell? ⟨X.U.blk,2,none⟩=some (.pointer (some ⟨X.R.blk,0,none⟩))∧W.cell? ⟨ob,4,none⟩=some (str os)∧W.cell? ⟨ob,1,none⟩=some (.int .i64 oa)∧W.cell? ⟨ob,2,none⟩=some (.int .i64 ob_)∧W.cell? ⟨ob,3,none⟩=some (.int .i64 oc):=by
  intro W G hT
  have hu:W.heap[X.U.blk]?=some (qao X.U):=hT.sat.memIs (by simp)
  have ho:W.heap[ob]?=some (oO ⟨5,oa,ob_,oc,os,ot,odv,od⟩):=hT.sat.memIs (by simp)
  refine ⟨?_,?_,qac ho 4 rfl,qac ho 1 rfl,qac ho 2 rfl,qac ho 3 rfl⟩
  ·have:=qac hu 1 (v:=ptrO X.U.a) rfl
   rw [HH.out.1.a] at this;exact this
  ·have:=qac hu 2 (v:=.pointer (some ⟨X.U.r,0,none⟩)) rfl
   rw [HH.out.1.r] at this;exact this
 have HCE:=Lib.hid hcells
 have hT2:Turns [] (arF X.S++((ob,Is (oO ⟨5,oa,ob_,oc,os,ot,odv,od⟩))::(X.U.blk,Is (qao X.U))::(refF X.R++qay X))) w0 W1:=by
  unfold wsF at hT1;exact hT1.to (qaf fun _=>by simp only [qad,qaa,qah]<;>omega)
 have HT1:=Lib.hid (And.intro hT2 hsame)
 clear hT1 hsame hcells hob hT2
 refine q6k ob X.U.blk X.S.a X.R.blk os ot oa ob_ oc (Post:=fun r W=>quk X.S os W1.drew (.returned r) W) ?c0 ?c1 ?pt ?call ?_
 case c0=>obtain ⟨h1,-,h4,-⟩:=HCE.out W1 _ HT1.out.1;exact ⟨h1,h4⟩
 case c1 =>
  intro r W hp
  obtain ⟨G,hG⟩:∃ G,Turns (arF X.S) G W1.drew W:=by
   rcases hp with ⟨_,_,hG⟩ | ⟨_,_,_,_,_,_,hG⟩<;>exact ⟨_,hG⟩
  obtain ⟨h1,-,h4,-⟩:=HCE.out W _ (HT1.out.1.drew.step (List.Perm.refl _) hG);exact ⟨h1,h4⟩
 case pt =>
  intro r W hp
  rcases hp with ⟨_,he,_⟩ | ⟨_,_,_,he,_⟩<;>(simp only [Ending.returned.injEq] at he;exact ⟨_,_,he⟩)
 case call =>
  refine (qyk X.S os b W1.drew (HT1.out.1.drew.sat.left) HH.out.1.ar HH.out.2.1 HH.out.2.2.1).mono ?_
  intro e w' hp
  rcases hp with ⟨h1,rfl,h3⟩ | ⟨h1,v,es,rfl,h3⟩
  ·exact ⟨_,rfl,.inl ⟨h1,rfl,h3⟩⟩
  ·exact ⟨_,rfl,.inr ⟨h1,v,es,rfl,h3⟩⟩
 intro lv ev W3 hp
 rcases hp with ⟨hcl,he,hG⟩ | ⟨hcl,v,es,he,hso,heo,hG⟩
 ·simp only [Ending.returned.injEq,Value.tuple.injEq,Array.mk.injEq,List.cons.injEq,and_true] at he
  obtain ⟨rfl,rfl⟩:=he
  have hT3:=HT1.out.1.drew.step (List.Perm.refl _) hG
  have HT3:=Lib.hid (And.intro hT3 hcl)
  clear hG hT3 hcl
  go_upto_region 33 with (fail)
  refine qx1 ob X.U.blk X.S.a X.R.blk os ot oa ob_ oc (Post:=fun r W=>Same W3.drew W∧r=.tuple #[.slice none 0 0,.int .i64 9]) ?c0 ?c1 ?pt ?call ?_
  case c0=>obtain ⟨-,h2,h4,-⟩:=HCE.out W3 _ HT3.out.1;exact ⟨h2,h4⟩
  case c1 =>
   rintro r W ⟨hs,rfl⟩
   obtain ⟨-,h2,h4,-⟩:=HCE.out W _ (HT3.out.1.drew.thenSame hs);exact ⟨h2,h4⟩
  case pt=>rintro r W ⟨_,rfl⟩;exact ⟨_,_,rfl⟩
  case call =>
   refine (qn1 X.R X.P os W3.drew (HH.out.1.refAt' HH.out.2.2.2.1 (HT3.out.1.drew.sat.right.tail.tail))).mono ?_
   intro e w' hm
   rcases hm with ⟨_,he,hs⟩ | ⟨hc,_⟩
   ·exact ⟨_,he,hs,rfl⟩
   ·rw [HH.out.1.link.closed,HT3.out.2] at hc;cases hc
  rintro cv fv W4 ⟨hs4,he⟩
  simp only [Value.tuple.injEq,Array.mk.injEq,List.cons.injEq,and_true] at he
  obtain ⟨rfl,rfl⟩:=he
  have hT4:=HT3.out.1.drew.thenSame hs4
  have hE4:qbi W4:=HH.out.2.2.2.2.1.keep hT4.mods (fun h=>by simp at h)
  have HT4:=Lib.hid (And.intro hT4 hE4)
  clear hs4 hT4 hE4
  go_wp2_with fail
  refine (qcl (errV 9) 9 W4 HT4.out.2 (.inr (.inl rfl))).mono ?_
  rintro e W5 ⟨rfl,hs5⟩
  have HS5:=Lib.hid hs5
  clear hs5
  go_wp2_with fail
  refine (qic [] [] none none 0 0 W5 (qbr _ _) (qbr _ _) (by simp) (by simp)).mono ?_
  rintro e W6 ⟨b6,rfl,hb6,hs6⟩
  obtain rfl:=hb6 rfl
  have HT6:=Lib.hid ((HT4.out.1.thenSame HS5.out).thenSame hs6)
  clear hs6 hb6
  have heq:∀ W,(binOp .eql 181 (.slice none 0 0) (.slice none 0 0)).run Tryz.prog W=.ok (.bool true) W:=fun W=>by kernel_rfl
  go_wp2_with (go_at_call 41;refine (qcr _ _).mono ?_;rintro e w' ⟨rfl,rfl⟩)
  refine bodyPost_ret (results_tmp rfl _ _ _) rfl ⟨X.S.A.spare,X.U.out,X.U.want,X.O,rfl,(HH.out.1.back ?_:WsOk w0 _ X)⟩
  exact HT6.out.drop (fun x=>by unfold wsF;simp only [qad,qaa]<;>omega)
 ·simp only [Ending.returned.injEq,Value.tuple.injEq,Array.mk.injEq,List.cons.injEq,and_true] at he
  obtain ⟨rfl,rfl⟩:=he
  have hT3:=HT1.out.1.drew.step (List.Perm.refl _) hG
  have hes:=HH.out.1.link.list HH.out.1.ar os hso
  subst hes
  have hnl:(entsR os X.R.vs).length≤100000:=by have:=qrb os X.R.vs;have:=HH.out.2.2.2.1;omega
  obtain ⟨ns,hns⟩:∃ ns,ns=entsR os X.R.vs:=⟨_,rfl⟩
  rw [← hns] at hnl heo hT3
  have HT3:=Lib.hid (And.intro hT3 (And.intro heo (And.intro hcl hns)))
  have hT3':Turns [] ((qb5 lv ns++arF X.S)++((ob,Is (oO ⟨5,oa,ob_,oc,os,ot,odv,od⟩))::(X.U.blk,Is (qao X.U))::(refF X.R++qay X))) w0 W3:=hT3
  have HT3':=Lib.hid hT3'
  clear hG hT3 hT3' heo hcl hns hso
  go_upto_region 33 with (fail)
  refine qx1 ob X.U.blk X.S.a X.R.blk os ot oa ob_ oc (Post:=fun r W=>∃ mv,r=.tuple #[mv,.int .i64 0]∧reOk mv ns∧Turns [] (reRow mv ns) W3.drew W) ?c0 ?c1 ?pt ?call ?_
  case c0=>obtain ⟨-,h2,h4,-⟩:=HCE.out W3 _ HT3'.out;exact ⟨h2,h4⟩
  case c1 =>
   rintro r W ⟨mv,rfl,_,hG⟩
   obtain ⟨-,h2,h4,-⟩:=HCE.out W (reRow mv ns++(qb5 lv ns++arF X.S)) (by have:=HT3'.out.drew.step (F:=[]) (R:=(qb5 lv ns++arF X.S)++((ob,Is (oO ⟨5,oa,ob_,oc,os,ot,odv,od⟩))::(X.U.blk,Is (qao X.U))::(refF X.R++qay X))) (by simp) hG;exact this.to (qaf fun _=>by simp only [qad,qaa,qah]<;>omega))
   exact ⟨h2,h4⟩
  case pt=>rintro r W ⟨mv,rfl,_⟩;exact ⟨_,_,rfl⟩
  case call =>
   refine (qn1 X.R X.P os W3.drew (HH.out.1.refAt' HH.out.2.2.2.1 (HT3'.out.drew.sat.right.tail.tail))).mono ?_
   intro e w' hm
   rcases hm with ⟨hc,_⟩ | ⟨_,mv,h1,h2,h3⟩
   ·rw [HH.out.1.link.closed,HT3.out.2.2.1] at hc;cases hc
   ·rw [← HT3.out.2.2.2] at h2 h3
    exact ⟨_,h1,mv,rfl,h2,h3⟩
  rintro cv fv W4 ⟨mv,he,hmo,hGm⟩
  simp only [Value.tuple.injEq,Array.mk.injEq,List.cons.injEq,and_true] at he
  obtain ⟨rfl,rfl⟩:=he
  have hT4:Turns [] (reRow cv ns++(qb5 lv ns++(arF X.S++((ob,Is (oO ⟨5,oa,ob_,oc,os,ot,odv,od⟩))::(X.U.blk,Is (qao X.U))::(refF X.R++qay X))))) w0 W4:=by
   have:=HT3'.out.drew.step (F:=[]) (R:=(qb5 lv ns++arF X.S)++((ob,Is (oO ⟨5,oa,ob_,oc,os,ot,odv,od⟩))::(X.U.blk,Is (qao X.U))::(refF X.R++qay X))) (by simp) hGm;exact this.to (qaf fun _=>by simp only [qad,qaa,qah]<;>omega)
  have hE4:qbi W4:=HH.out.2.2.2.2.1.keep hT4.mods (fun h=>by simp at h)
  have HT4:=Lib.hid (And.intro hT4 (And.intro hE4 hmo))
  clear hGm hT4 hE4 hmo
  go_wp2_with fail
  refine (qcl .nilIface 0 W4 HT4.out.2.1 (.inl ⟨rfl,rfl⟩)).mono ?_
  rintro e W5 ⟨rfl,hs5⟩
  have hT5:=HT4.out.1.thenSame hs5
  obtain ⟨ca,cc,hcv,-,-,hcc,-⟩:=qcq (hT5.sat.left) HT4.out.2.2 (by decide)
  obtain ⟨la,lc,hlv,-,-,hlc,-⟩:=qcq (hT5.sat.right.left) HT3.out.2.1 (by decide)
  have HSC:=Lib.hid (qic ns ns la ca lc cc W5 hlc hcc (by omega) (by omega))
  have HT5:=Lib.hid hT5
  rw [hcv,hlv]
  clear hs5 hT5 hcv hlv hcc hlc
  go_wp2_with fail
  refine HSC.out.mono ?_
  rintro e W6 ⟨b6,rfl,hb6,hs6⟩
  obtain rfl:=hb6 rfl
  have HT6:=Lib.hid (HT5.out.thenSame hs6)
  clear hs6 hb6
  go_wp2_with (go_at_call 41;refine (qcr _ _).mono ?_;rintro e w' ⟨rfl,rfl⟩)
  refine bodyPost_ret (results_tmp rfl _ _ _) rfl ⟨X.S.A.spare,X.U.out,X.U.want,X.O,rfl,(HH.out.1.back ?_:WsOk w0 _ X)⟩
  exact HT6.out.drop (fun x=>by unfold wsF;simp only [qad,qaa]<;>omega)
end Go.Proofs.YtdhobpbngkainaaGreatDoor
namespace Go.Proofs.YtdhobpbngkainaaGreatDoor
open Go.RowKit
def qr6 (l:List UInt8) (w:World) (e:Ending) (w':World):Prop :=
 e=.returned (.slice (some ⟨w.heap.size,0,none⟩) l.length (l.length+2))∧w'.heap[w.heap.size]?=some (.cells (row8 (l++[71,72])) 5 (0,0))∧Same w w'
theorem q20 (n:Nat) (hn:n≤1099511627776) (w:World):(Instr.makeSlice 38 (.int .i64 ((n:Int)+2)) (.int .i64 ((n:Int)+2))).run Tryz.prog w =
  .ok (.slice (some ⟨w.heap.size,0,none⟩) (n+2) (n+2)) (w.alloc (.cells (row8 (List.replicate (n+2) 0)) 5)):=by
 obtain ⟨i,hi,hz,hs,hb⟩:=info_parts qfc
 rw [run_make w 38 5 i (.int .u8 0) Tryz.underlying38 hi hz .i64 .i64 _ _ (by omega) (by omega) (by rw [hb];omega) (by omega)]
 have e1:((n:Int)+2).toNat=n+2:=by omega
 rw [e1,hs]
 congr 4
 apply Array.ext'
 rw [Nat.mul_one]
 rw [show (Value.int IntKind.u8 0).cells=#[Value.int .u8 0] from rfl,toList_madeCells_one]
 simp [row8,enc8]
theorem qw6 (a:Option Addr) (cap:Nat) (l:List UInt8) (w:World) (hl:l.length≤1000000) (h:qaj w a (l.map enc8)) :
  Calls Tryz.prog 58 #[.slice a l.length cap] w (qr6 l w):=by
 have hmk:=q20 l.length (by omega)
 obtain ⟨i0,hi0,hz1,hz2,hz3⟩:=info_parts qfc
 have hsz:(Tryz.prog.info? 5).map (·.size)=some 1:=by rw [hi0];simp [hz2]
 have hw1:=qa7 w (.cells (row8 (List.replicate (l.length+2) 0)) 5)
 have hsrc:0<(l.map enc8).length→some (⟨w.heap.size,0,none⟩:Addr)=some ⟨w.heap.size,0,none⟩∧∃ ad,a=some ad∧∀ j v,(l.map enc8)[j]?=some v→(w.alloc (.cells (row8 (List.replicate (l.length+2) 0)) 5)).cell? (ad.add j)=some v:=fun hp=>by
  obtain ⟨g,off,ha,hc⟩:=h.keep ((Mods.refl (fun _=>False) w).alloc (.cells (row8 (List.replicate (l.length+2) 0)) 5)) (fun _ _ _=>id) hp
  refine ⟨rfl,_,ha,fun j v hv=>?_⟩
  obtain ⟨hj,rfl⟩:=List.getElem?_eq_some_iff.1 hv
  have:=hc j hj
  simp only [List.getElem_map] at this ⊢;rw [Addr.add_lit];exact this
 have HS:=Lib.hid (And.intro hsrc hw1)
 clear hsrc hw1 h
 go_enter Tryz.func58,Tryz.ntmps58
 go_wp2_with (refine qfx rfl (.tmp 10) (.tmp 11) 38 38 rfl 5 Tryz.underlying38 hsz _ _ _ _ _ _ rfl rfl w.heap.size 0 ((List.replicate (l.length+2) 0).map enc8) 5 HS.out.2 (l.map enc8) ?c1 HS.out.1 ?c2 ?c3 ?c4)
 case c3=>intro x _;rfl
 case c4 =>
  intro w2 hg2 hM2 hz2
  have e2:(splice (List.replicate (l.length+2) (enc8 0)) 0 (List.map enc8 l)).toArray=row8 (l++[0,0]):=by
   simp [splice,row8,List.drop_replicate]
  rw [e2] at hg2
  have c71:=qac hg2 l.length (qdw _ _ (by simp))
  have c72:=qac hg2 (l.length+1) (qdw _ _ (by simp))
  have f71:=qa9 hg2 l.length
  have f72:=qa9 hg2 (l.length+1)
  have HG:=Lib.hid (And.intro hg2 (And.intro hM2 hz2))
  clear hg2 hM2 hz2
  go_wp2
  go_ret
  obtain ⟨hg2,hM2,hz2⟩:=HG.out
  refine ⟨rfl,?_,?_⟩
  ·have h3:=qbf (qbf hg2 l.length (enc8 71)) (l.length+1) (enc8 72)
   rw [qol,qol] at h3
   refine h3.trans ?_
   congr 2
   simp
  ·exact (((((Mods.refl _ w).alloc _).trans' hM2 (fun i hi=>.inr (by omega))).setNew (Nat.le_refl _) _).setNew (Nat.le_refl _) _)
def q18 (B:Nat) (w:World) (e:Ending) (w':World):Prop:=e=.returned (.bool true)∧Mods (fun k=>k=B) w w'
def qkg (w:World) (B n:Nat):Prop:=∃ cs:Array Value,w.heap[B]?=some (.cells cs 5 (0,0))∧cs.size=n∧∀ j,j<n→∃ x:Int,cs[j]?=some (.int .u8 x)
theorem qv0 (w:World) (B:Nat) (l:List UInt8) (h:w.heap[B]?=some (.cells (row8 l) 5 (0,0))):qkg w B l.length :=
 ⟨_,h,by simp [row8],fun j hj=>⟨_,qdw l j hj⟩⟩
theorem qw1 {w:World} {B n:Nat} (h:qkg w B n) (i:Nat) (x:Int):qkg (w.setCell ⟨B,i,none⟩ (.int .u8 x)) B n:=by
 obtain ⟨cs,hc,hs,hx⟩:=h
 refine ⟨_,qbf hc i _,by simpa using hs,fun j hj=>?_⟩
 rw [Array.getElem?_setIfInBounds]
 split
 ·rw [if_pos (by omega)];exact ⟨x,rfl⟩
 ·exact hx j hj
theorem qnw (B:Nat) (a:Option Addr) (cap:Nat) (l:List UInt8) (w:World) (hl:l.length≤1000000) (hB:w.heap[B]?=some (.cells (row8 (l++[71,72])) 5 (0,0))) (h:qaj w a (l.map enc8)) :
  Calls Tryz.prog 59 #[.slice (some ⟨B,0,none⟩) l.length (l.length+2),.slice a l.length cap] w (q18 B w):=by
 have c71:=qac hB l.length (qdw _ _ (by simp))
 have c72:=qac hB (l.length+1) (qdw _ _ (by simp))
 simp [enc8] at c71 c72
 have hA:qaj w (some ⟨B,0,none⟩) (l.map enc8):=fun hp=>⟨B,0,rfl,fun j hj=>by
  have hj':j<l.length:=by simpa using hj
  rw [Nat.zero_add,qac hB j (qdw _ j (by simp;omega))]
  simp [List.getElem_append_left hj']⟩
 have HB:=Lib.hid (And.intro hB (And.intro hA h))
 clear hB hA h
 go_enter Tryz.func59,Tryz.ntmps59
 go_wp2_with (first | (go_at_call 28;refine (qfy _ _ _ _ l l w HB.out.2.1 HB.out.2.2 (by omega) (by omega)).mono ?_;rintro e w2 ⟨rfl,n,rfl⟩))
 go_loopw [8] (fun i wr=>∃ k:Nat,k≤l.length+2∧i=.int .i64 k∧qkg wr B (l.length+2)∧Mods (fun q=>q=B) w wr) (fun i _=>l.length+2-(intOf i).toNat)
 case atStart =>
  refine ⟨0,by omega,rfl,?_,(Mods.refl _ w).drewN n⟩
  have:=qv0 (w.drewN n) B (l++[71,72]) HB.out.1
  simpa using this
 case round =>
  obtain ⟨k,hk,rfl,hrow,hM⟩:=hrel
  by_cases hlt:k<l.length+2
  ·obtain ⟨cs,hc,hs,hx⟩:=hrow
   obtain ⟨x,hxk⟩:=hx k hlt
   have hck:=qac hc k hxk
   have hfk:=qa9 hc k
   have HR:=Lib.hid (And.intro (show qkg wr B (l.length+2) from ⟨cs,hc,hs,hx⟩) hM)
   clear hc hs hx hxk hM
   go_wp2
   go_roundw
   case rel=>exact ⟨k+1,by omega,by go_num,qw1 HR.out.1 _ _,HR.out.2.set1 _⟩
   case measure=>simp [intOf];omega
  ·have HR:=Lib.hid hM
   clear hM hrow
   go_wp2
   go_ret
   exact ⟨by simp,HR.out⟩
end Go.Proofs.YtdhobpbngkainaaGreatDoor
namespace Go.Proofs.YtdhobpbngkainaaGreatDoor
open Go.RowKit Go.Maps
def putR (X:WS) (o:OpL) (vv cv:Value):RefL:={ X.R with vv:=vv,vs:=qch X.R.vs o.s ⟨o.s,nrTo X.R.vs o.s X.R.vs.length,o.d,cv,0⟩ }
def putX (X:WS) (o:OpL) (S':AS) (vv cv mv:Value) (M':List SlB):WS:={ U:={ X.U with most:=mv },S:=S',R:=putR X o vv cv,P:=X.P++[(cv,o.d)],M:=M',O:=X.O }
def q7a (w0:World) (X:WS) (o:OpL) (b:Nat) (e:Ending) (W':World):Prop :=
 e=.returned (.bool true)∧(WsOk w0 W' X∨∃ S' V vv cv mv M',X.S.X.closed=false∧PutStep X.S S' o.s o.d V∧PutB X.S o.d b S'∧o.d.length≤4000∧M'.map (·.bs)=addBs (X.M.map (·.bs)) (qav o.d)∧WsOk w0 W' (putX X o S' vv cv mv M'))
def qun (S:AS) (l D:Bs) (n:Int):Prop :=
 (S.X.closed=true∧n=9)∨(S.X.closed=false∧qa6 l=false∧n=1)∨(S.X.closed=false∧qa6 l=true∧4000<D.length∧n=2) ∨
   (S.X.closed=false∧qa6 l=true∧D.length≤4000∧S.X.quota<S.X.used+D.length∧n=7)
theorem qun.ref {S:AS} {R:RefL} (L:Link S R) {l D:Bs} {n:Int} (h:qun S l D n) {w w':World} {e:Ending} (hr:qhj R l D w e w'):e=.returned (.tuple #[.int .i64 0,.int .i64 n])∧Same w w':=by
 have hc:=L.closed
 have hu:=L.used
 have hq:=L.quota
 rcases hr with ⟨k,rfl,hs,hk⟩ | ⟨h1,h2,h3,h4,-⟩
 ·refine ⟨?_,hs⟩
  have:k=n:=by
   rw [hc,hq] at hk
   rcases h with ⟨a1,rfl⟩ | ⟨a1,a2,rfl⟩ | ⟨a1,a2,a3,rfl⟩ | ⟨a1,a2,a3,a4,rfl⟩<;>rcases hk with ⟨b1,rfl⟩ | ⟨b1,b2,rfl⟩ | ⟨b1,b2,b3,rfl⟩ | ⟨b1,b2,b3,b4,rfl⟩<;>first | rfl | (exfalso;simp_all;done) | (exfalso;simp_all;omega) | omega
  rw [this]
 ·exfalso
  rw [hc] at h1
  rw [hq] at h4
  rcases h with ⟨a1,-⟩ | ⟨-,a2,-⟩ | ⟨-,-,a3,-⟩ | ⟨-,-,-,a4,-⟩
  ·rw [h1] at a1;cases a1
  ·rw [h2] at a2;cases a2
  ·omega
  ·omega
theorem qun.no {S:AS} {R:RefL} (L:Link S R) {l D:Bs} (h1:S.X.closed=false) (h2:qa6 l=true) (h3:D.length≤4000) (h4:S.X.used+D.length≤S.X.quota) {w w':World} {e:Ending} (hr:qhj R l D w e w') :
  ∃ vv' cv,e=.returned (.tuple #[.int .i64 (nrTo R.vs l R.vs.length),.int .i64 0])∧bOk cv D∧RefOk { R with vv:=vv',vs:=qch R.vs l ⟨l,nrTo R.vs l R.vs.length,D,cv,0⟩ } ∧
   Turns (refF R) (refF { R with vv:=vv',vs:=qch R.vs l ⟨l,nrTo R.vs l R.vs.length,D,cv,0⟩ }++bRow cv D) w w':=by
 rcases hr with ⟨k,-,-,hk⟩ | ⟨-,-,-,-,h⟩
 ·exfalso
  rw [L.closed,L.quota] at hk
  have hu:=L.used
  rcases hk with ⟨b1,-⟩ | ⟨-,b2,-⟩ | ⟨-,-,b3,-⟩ | ⟨-,-,-,b4,-⟩
  ·rw [h1] at b1;cases b1
  ·rw [h2] at b2;cases b2
  ·omega
  ·omega
 ·exact h
theorem qun.ne {S:AS} {l D:Bs} {n:Int} (h:qun S l D n):n=9∨n=1∨n=2∨n=7:=by
 rcases h with ⟨_,h⟩ | ⟨_,_,h⟩ | ⟨_,_,_,h⟩ | ⟨_,_,_,_,h⟩<;>omega
theorem qxw {S:AS} {R:RefL} (L:Link S R) {b:Nat} (hB:ArB S b) (hb:b≤90000):∀ v∈R.vs,0≤v.num∧v.num≤1099511627776:=fun v hv=>by
 have h1:=(L.each v hv).1
 have h2:v∈qbg R.vs v.path:=List.mem_filter.2 ⟨hv,by simp⟩
 have h3:tripR v∈(qaq S.ps v.path).map (tripV S):=by rw [L.vers];exact List.mem_map.2 ⟨v,h2,rfl⟩
 obtain ⟨V,hV,hVv⟩:=List.mem_map.1 h3
 obtain ⟨p,hp,-,hg⟩:=qcu (List.ne_nil_of_mem hV)
 have h4:=((hB.vers p hp).2.2 V (hg ▸ hV)).1
 have h5:(V.num:Int)=v.num:=congrArg (fun t:Trip=>t.1) hVv
 omega
theorem qu1 {S:AS} {l D:Bs} (hl:l.length≤20) {n s:Int} {chs:List (Nat×Nat)} (hc:chs.length=(qav D).length):(qb4 (qa8 S D)).length+(frame 2 (verB l n s (atsOf chs))).length≤2*D.length+100:=by
 have h1:=qph D
 have h2:(qav D).length=(qas D).length:=by unfold qav;rw [qce]
 have h3:=qfz S D
 have h4:(qa8 S D).length≤(qav D).length:=by
  unfold qa8
  have:∀ (has l acc:List Bs),(qbp has acc l).length≤acc.length+l.length:=by
   intro has l
   induction l with
   | nil=>intro acc;simp [qbp]
   | cons c r ih =>
    intro acc
    simp only [qbp]
    split
    ·have:=ih acc;simp only [List.length_cons];omega
    ·have:=ih (acc++[c]);simp only [List.length_append,List.length_cons,List.length_nil] at this ⊢;omega
  simpa using this (S.K.map (·.1)) (qav D) []
 rw [qdi,qg9,qfs,hc]
 omega
theorem qwv {l:Bs} {w w':World} {e:Ending} (h:qr6 l w e w'):e=.returned (.slice (some ⟨w.heap.size,0,none⟩) l.length (l.length+2))∧Turns [] [(w.heap.size,Is (.cells (row8 (l++[71,72])) 5 (0,0)))] w w':=by
 obtain ⟨h1,h2,h3⟩:=h
 refine ⟨h1,h3.mods _,Sat.one h2 Is.rfl,fun b hb=>?_⟩
 simp at hb
 exact .inr (by omega)
theorem qz4 {W:World} {B:Nat} {l:Bs} (h:W.heap[B]?=some (.cells (row8 (l++[71,72])) 5 (0,0))):qaj W (some ⟨B,0,none⟩) (l.map enc8):=fun hp =>
 ⟨B,0,rfl,fun j hj=>by
  rw [Nat.zero_add]
  rw [List.length_map] at hj
  refine qac h j ?_
  unfold row8
  simp only [List.map_append,List.getElem?_toArray]
  rw [List.getElem?_append_left (by simpa using hj)]
  simp [hj]⟩
theorem Turns.modHead {F G:HF} {a w w':World} {b:Nat} {φ:Obj→Prop} (h:Turns F ((b,φ)::G) a w) (hm:Mods (fun k=>k=b) w w'):Turns F G a w':=by
 have k:Turns [(b,φ)] [] w w':=⟨hm.mono (fun x hx=>.inl (by simp [hx])),Sat.nil _,fun x hx=>by simp at hx⟩
 have:=h.step (F:=[(b,φ)]) (R:=G) (List.Perm.refl _) k
 simpa using this
theorem qs8 (w0 W:World) (X:WS) (o:OpL) (b:Nat) (h:WsOk w0 W X) (hB:ArB X.S b) (hb:b≤90000) (hl:X.R.vs.length≤100000) (hE:qbi w0) (ho:OpOk w0 o) (hk:o.kind=1) (hd6:o.d.length≤60000) (hML:X.M.length≤800000) (hroom:X.S.data.length+2*o.d.length+100≤128*X.S.A.count) (hq : -4611686018427387904≤X.S.X.quota) :
  Calls Tryz.prog 23 #[.pointer (some ⟨X.U.blk,0,none⟩),opA o] W (q7a w0 X o b):=by
 have HM:=Lib.hid (show Tryz.prog.follows .mixedOrders=true by kernel_rfl)
 obtain ⟨dsl,dcap,hdv,hdc,hdc9,hdcell⟩:=ho.dv
 have HH:=Lib.hid (And.intro h (And.intro hB (And.intro hb (And.intro hl (And.intro hE (And.intro ho hk))))))
 have HQ:=Lib.hid (And.intro hML (And.intro hroom (And.intro hq (And.intro hdc hdc9))))
 have HD:=Lib.hid (And.intro hdv hdcell)
 have hk':=hk
 obtain ⟨ok,oa,ob_,oc,os,ot,odv,od⟩:=o
 simp only at hk' hdv hdc hdcell hd6
 subst hk'
 subst hdv
 clear h hB hb hl hE ho hk hML hroom hq hdcell
 unfold opA opV
 go_enter Tryz.func23,Tryz.ntmps23
 go_upto_region 9 with (fail)
 obtain ⟨ob,hob⟩:∃ ob,ob=W.heap.size:=⟨_,rfl⟩
 have hT1:Turns [] ((ob,Is (oO ⟨1,oa,ob_,oc,os,ot,.slice dsl od.length dcap,od⟩))::wsF X) w0 (W.alloc (.cells #[.int .i64 1,.int .i64 oa,.int .i64 ob_,.int .i64 oc,str os,str ot,.slice dsl od.length dcap] 65)):=by
  rw [hob];exact HH.out.1.turns.allocIs _
 rw [← hob]
 generalize W.alloc (.cells #[.int .i64 1,.int .i64 oa,.int .i64 ob_,.int .i64 oc,str os,str ot,.slice dsl od.length dcap] 65)=W1 at hT1 ⊢
 have o6:W1.cell? ⟨ob,6,none⟩=some (.slice dsl od.length dcap):=qac hT1.sat.headIs 6 rfl
 have hDW:∀ (W:World) (G:HF),Turns [] G w0 W→qaj W dsl (od.map enc8):=fun W G hG=>HD.out.2.turns (by exact hG)
 have HDW:=Lib.hid hDW
 have HT1:=Lib.hid hT1
 clear hT1 hDW hob
 go_wp2_with fail
 refine (qw6 dsl dcap od W1 (by omega) (HDW.out _ _ HT1.out)).mono ?_
 intro e W2 hr
 obtain ⟨rfl,hrT⟩:=qwv hr
 obtain ⟨B,hBd⟩:∃ B,B=W1.heap.size:=⟨_,rfl⟩
 rw [← hBd] at hrT ⊢
 have hT2:Turns [] (arF X.S++((ob,Is (oO ⟨1,oa,ob_,oc,os,ot,.slice dsl od.length dcap,od⟩))::(B,Is (.cells (row8 (od++[71,72])) 5 (0,0)))::(X.U.blk,Is (qao X.U))::(refF X.R++qay X))) w0 W2:=by
  have:=HT1.out.newIn hrT
  unfold wsF at this
  exact this.to (qaf fun _=>by simp only [qad,qaa,qah]<;>omega)
 have HT2:=Lib.hid hT2
 clear hr hrT hT2 hBd o6
 go_upto_region 10 with (fail)
 have hcells:∀ (W:World) (G:HF),Turns [] (G++((ob,Is (oO ⟨1,oa,ob_,oc,os,ot,.slice dsl od.length dcap,od⟩))::(B,Is (.cells (row8 (od++[71,72])) 5 (0,0)))::(X.U.blk,Is (qao X.U))::(refF X.R++qay X))) w0 W →
   W.cell? ⟨X.U.blk,1,none⟩=some (.pointer (some ⟨X.S.a,0,none⟩))∧W.cell? ⟨ob,4,none⟩=some (str os):=by
  intro W G hT
  have hu:W.heap[X.U.blk]?=some (qao X.U):=hT.sat.memIs (by simp)
  have ho:W.heap[ob]?=some (oO ⟨1,oa,ob_,oc,os,ot,.slice dsl od.length dcap,od⟩):=hT.sat.memIs (by simp)
  refine ⟨?_,qac ho 4 rfl⟩
  have:=qac hu 1 (v:=ptrO X.U.a) rfl
  rw [HH.out.1.a] at this;exact this
 have HCE:=Lib.hid hcells
 clear hcells
 refine q5i ob X.U.blk X.S.a X.R.blk os ot oa ob_ oc (.slice (some ⟨B,0,none⟩) od.length (od.length+2)) (.slice dsl od.length dcap) (Post:=fun r W=>qqx X.S os od b W2.drew (.returned r) W) ?c0 ?c1 ?pt ?call ?_
 case c0=>exact HCE.out W2 _ HT2.out
 case c1 =>
  intro r W hp
  obtain ⟨G,hG⟩:∃ G,Turns (arF X.S) G W2.drew W:=by
   rcases hp with ⟨_,_,hG,_⟩ | ⟨_,_,_,_,⟨_,_,_,_,hG,_⟩ | ⟨_,_,_,_,_,_,hG⟩⟩<;>exact ⟨_,hG⟩
  exact HCE.out W _ (HT2.out.drew.step (List.Perm.refl _) hG)
 case pt =>
  intro r W hp
  rcases hp with ⟨_,he,_⟩ | ⟨_,_,_,_,⟨_,_,he,_⟩ | ⟨_,_,he,_⟩⟩<;>(simp only [Ending.returned.injEq] at he;exact ⟨_,_,he⟩)
 case call =>
  refine (q1w X.S os od (some ⟨B,0,none⟩) (od.length+2) b W2.drew (HT2.out.drew.sat.left) HH.out.1.ar HH.out.2.1 HH.out.2.2.1 (qz4 (HT2.out.drew.sat.memIs (by simp))) (by omega) (by omega) (fun x hx hd=>?_) (by have:=HH.out.2.2.2.2.2.1.s;simp only at this;omega) HQ.out.2.2.1).mono ?_
  ·obtain rfl:=Option.some.inj hx
   exact HT2.out.drew.sat.disj hd (by simp)
  ·intro e w' hp
   rcases hp with ⟨n,rfl,hp⟩ | ⟨h1,h2,h3,h4,⟨sp,chs,rfl,hp⟩ | ⟨S',V,rfl,hp⟩⟩
   ·exact ⟨_,rfl,.inl ⟨n,rfl,hp⟩⟩
   ·exact ⟨_,rfl,.inr ⟨h1,h2,h3,h4,.inl ⟨sp,chs,rfl,hp⟩⟩⟩
   ·exact ⟨_,rfl,.inr ⟨h1,h2,h3,h4,.inr ⟨S',V,rfl,hp⟩⟩⟩
 intro kv ev W3 hp
 rcases hp with ⟨n,he,hG,hn⟩ | ⟨h1,h2,h3,h4,⟨sp,chs,-,-,-,hfull,hch⟩ | ⟨S',V,he,hps,hok',hpb,hG⟩⟩
 ·simp only [Ending.returned.injEq,Value.tuple.injEq,Array.mk.injEq,List.cons.injEq,and_true] at he
  obtain ⟨rfl,rfl⟩:=he
  have hT3:=HT2.out.drew.step (List.Perm.refl _) hG
  have hn':qun X.S os od n:=hn
  have HT3:=Lib.hid (And.intro hT3 hn')
  clear hG hT3 hn hn'
  have o6:W3.cell? ⟨ob,6,none⟩=some (.slice dsl od.length dcap):=qac (HT3.out.1.sat.memIs (b:=ob) (o:=oO ⟨1,oa,ob_,oc,os,ot,.slice dsl od.length dcap,od⟩) (by simp)) 6 rfl
  go_wp2_with fail
  refine (qnw B dsl dcap od W3 (by omega) (HT3.out.1.sat.memIs (by simp)) (HDW.out _ _ HT3.out.1)).mono ?_
  rintro e W4 ⟨rfl,hs4⟩
  have hT4:Turns [] (arF X.S++((ob,Is (oO ⟨1,oa,ob_,oc,os,ot,.slice dsl od.length dcap,od⟩))::(X.U.blk,Is (qao X.U))::(refF X.R++qay X))) w0 W4 :=
   (HT3.out.1.to (H:=(B,Is (.cells (row8 (od++[71,72])) 5 (0,0)))::(arF X.S++((ob,Is (oO ⟨1,oa,ob_,oc,os,ot,.slice dsl od.length dcap,od⟩))::(X.U.blk,Is (qao X.U))::(refF X.R++qay X)))) (qaf fun _=>by simp only [qad,qaa,qah]<;>omega)).modHead hs4
  have hc4:∀ (W:World) (F:HF),Turns [] (F++((ob,Is (oO ⟨1,oa,ob_,oc,os,ot,.slice dsl od.length dcap,od⟩))::(X.U.blk,Is (qao X.U))::qay X)) w0 W→W.cell? ⟨X.U.blk,2,none⟩=some (.pointer (some ⟨X.R.blk,0,none⟩))∧W.cell? ⟨ob,4,none⟩=some (str os)∧W.cell? ⟨ob,6,none⟩=some (.slice dsl od.length dcap):=by
   intro W F hT
   have hu:W.heap[X.U.blk]?=some (qao X.U):=hT.sat.memIs (by simp)
   have ho:W.heap[ob]?=some (oO ⟨1,oa,ob_,oc,os,ot,.slice dsl od.length dcap,od⟩):=hT.sat.memIs (by simp)
   refine ⟨?_,qac ho 4 rfl,qac ho 6 rfl⟩
   have:=qac hu 2 (v:=.pointer (some ⟨X.U.r,0,none⟩)) rfl
   rw [HH.out.1.r] at this;exact this
  have HT4:=Lib.hid (And.intro hT4 hc4)
  clear hs4 hT4 hc4 o6
  go_upto_region 12 with (fail)
  refine qxl ob X.U.blk X.S.a X.R.blk os ot oa ob_ oc (.slice none 0 0) (.slice dsl od.length dcap) (Post:=fun r W=>qhj X.R os od W4.drew (.returned r) W) ?c0 ?c1 ?pt ?call ?_
  case c0=>exact HT4.out.2 W4 (arF X.S++refF X.R) (HT4.out.1.to (qaf fun _=>by simp only [qad,qaa,qah]<;>omega))
  case c1 =>
   intro r W hp
   obtain ⟨G,hG⟩:∃ G,Turns (refF X.R) G W4.drew W:=by
    rcases hp with ⟨_,_,hs,_⟩ | ⟨_,_,_,_,_,_,_,_,_,hG⟩
    ·exact ⟨_,Turns.same (HT4.out.1.drew.sat.sub (G:=refF X.R) (fun _=>by simp only [qad,qaa,qah]<;>omega)) hs⟩
    ·exact ⟨_,hG⟩
   have:=(HT4.out.1.drew.to (H:=refF X.R++(arF X.S++((ob,Is (oO ⟨1,oa,ob_,oc,os,ot,.slice dsl od.length dcap,od⟩))::(X.U.blk,Is (qao X.U))::qay X))) (qaf fun _=>by simp only [qad,qaa,qah]<;>omega)).step (List.Perm.refl _) hG
   exact HT4.out.2 W (G++arF X.S) (this.to (qaf fun _=>by simp only [qad,qaa,qah]<;>omega))
  case pt =>
   intro r W hp
   rcases hp with ⟨_,he,_⟩ | ⟨_,_,_,_,_,_,he,_⟩<;>(simp only [Ending.returned.injEq] at he;exact ⟨_,_,he⟩)
  case call =>
   refine (qo2 X.R X.P os od dsl dcap W4.drew (HH.out.1.refAt' HH.out.2.2.2.1 (HT4.out.1.drew.sat.right.tail.tail)) (qxw HH.out.1.link HH.out.2.1 HH.out.2.2.1) (HDW.out _ _ HT4.out.1.drew) (by omega)).mono ?_
   intro e w' hp
   rcases hp with ⟨k,rfl,hp⟩ | ⟨h1,h2,h3,h4,vv,cv,rfl,hp⟩
   ·exact ⟨_,rfl,.inl ⟨k,rfl,hp⟩⟩
   ·exact ⟨_,rfl,.inr ⟨h1,h2,h3,h4,vv,cv,rfl,hp⟩⟩
  intro mv fv W5 hp
  obtain ⟨he,hs5⟩:=HT3.out.2.ref HH.out.1.link hp
  simp only [Ending.returned.injEq,Value.tuple.injEq,Array.mk.injEq,List.cons.injEq,and_true] at he
  obtain ⟨rfl,rfl⟩:=he
  have hT5:=HT4.out.1.drew.thenSame hs5
  have hE5:qbi W5:=HH.out.2.2.2.2.1.keep hT5.mods (fun h=>by simp at h)
  have HT5:=Lib.hid (And.intro hT5 hE5)
  have hnn:=HT3.out.2.ne
  have hn0:(n==0)=false:=by simp;omega
  clear hp hs5 hT5 hE5 hnn
  go_wp2_with fail
  refine (qcl (errV n) n W5 HT5.out.2 (.inr (.inl rfl))).mono ?_
  rintro e W6 ⟨rfl,hs6⟩
  have HT6:=Lib.hid (HT5.out.1.thenSame hs6)
  clear hs6
  go_wp2_with (go_at_call 41;refine (qcr _ _).mono ?_;rintro e w' ⟨rfl,rfl⟩)
  refine bodyPost_ret (results_tmp rfl _ _ _) rfl ⟨rfl,.inl (HH.out.1.back ?_)⟩
  exact HT6.out.drop (fun x=>by unfold wsF;simp only [qad,qaa]<;>omega)
 ·exfalso
  have:=qu1 (S:=X.S) (D:=od) (qkr h2) (n:=(qc7 (qaq X.S.ps os):Int)+1) (s:=od.length) hch
  have hr:=HQ.out.2.1
  omega
 ·simp only [Ending.returned.injEq,Value.tuple.injEq,Array.mk.injEq,List.cons.injEq,and_true] at he
  obtain ⟨rfl,rfl⟩:=he
  have hT3:=HT2.out.drew.step (List.Perm.refl _) hG
  have HT3:=Lib.hid (And.intro hT3 (And.intro hps (And.intro hok' (And.intro hpb (And.intro h1 (And.intro h2 (And.intro h3 h4)))))))
  clear hG hT3 hps hok' hpb h1 h2 h3 h4
  have o6:W3.cell? ⟨ob,6,none⟩=some (.slice dsl od.length dcap):=qac (HT3.out.1.sat.memIs (b:=ob) (o:=oO ⟨1,oa,ob_,oc,os,ot,.slice dsl od.length dcap,od⟩) (by simp)) 6 rfl
  go_wp2_with fail
  refine (qnw B dsl dcap od W3 (by omega) (HT3.out.1.sat.memIs (by simp)) (HDW.out _ _ HT3.out.1)).mono ?_
  rintro e W4 ⟨rfl,hs4⟩
  have hT4:Turns [] (arF S'++((ob,Is (oO ⟨1,oa,ob_,oc,os,ot,.slice dsl od.length dcap,od⟩))::(X.U.blk,Is (qao X.U))::(refF X.R++qay X))) w0 W4 :=
   (HT3.out.1.to (H:=(B,Is (.cells (row8 (od++[71,72])) 5 (0,0)))::(arF S'++((ob,Is (oO ⟨1,oa,ob_,oc,os,ot,.slice dsl od.length dcap,od⟩))::(X.U.blk,Is (qao X.U))::(refF X.R++qay X)))) (qaf fun _=>by simp only [qad,qaa,qah]<;>omega)).modHead hs4
  have hc4:∀ (W:World) (F:HF),Turns [] (F++((ob,Is (oO ⟨1,oa,ob_,oc,os,ot,.slice dsl od.length dcap,od⟩))::(X.U.blk,Is (qao X.U))::qay X)) w0 W→W.cell? ⟨X.U.blk,2,none⟩=some (.pointer (some ⟨X.R.blk,0,none⟩))∧W.cell? ⟨ob,4,none⟩=some (str os)∧W.cell? ⟨ob,6,none⟩=some (.slice dsl od.length dcap):=by
   intro W F hT
   have hu:W.heap[X.U.blk]?=some (qao X.U):=hT.sat.memIs (by simp)
   have ho:W.heap[ob]?=some (oO ⟨1,oa,ob_,oc,os,ot,.slice dsl od.length dcap,od⟩):=hT.sat.memIs (by simp)
   refine ⟨?_,qac ho 4 rfl,qac ho 6 rfl⟩
   have:=qac hu 2 (v:=.pointer (some ⟨X.U.r,0,none⟩)) rfl
   rw [HH.out.1.r] at this;exact this
  have HT4:=Lib.hid (And.intro hT4 hc4)
  clear hs4 hT4 hc4 o6
  go_upto_region 12 with (fail)
  refine qxl ob X.U.blk X.S.a X.R.blk os ot oa ob_ oc (.slice none 0 0) (.slice dsl od.length dcap) (Post:=fun r W=>qhj X.R os od W4.drew (.returned r) W) ?c0 ?c1 ?pt ?call ?_
  case c0=>exact HT4.out.2 W4 (arF S'++refF X.R) (HT4.out.1.to (qaf fun _=>by simp only [qad,qaa,qah]<;>omega))
  case c1 =>
   intro r W hp
   obtain ⟨G,hG⟩:∃ G,Turns (refF X.R) G W4.drew W:=by
    rcases hp with ⟨_,_,hs,_⟩ | ⟨_,_,_,_,_,_,_,_,_,hG⟩
    ·exact ⟨_,Turns.same (HT4.out.1.drew.sat.sub (G:=refF X.R) (fun _=>by simp only [qad,qaa,qah]<;>omega)) hs⟩
    ·exact ⟨_,hG⟩
   have:=(HT4.out.1.drew.to (H:=refF X.R++(arF S'++((ob,Is (oO ⟨1,oa,ob_,oc,os,ot,.slice dsl od.length dcap,od⟩))::(X.U.blk,Is (qao X.U))::qay X))) (qaf fun _=>by simp only [qad,qaa,qah]<;>omega)).step (List.Perm.refl _) hG
   exact HT4.out.2 W (G++arF S') (this.to (qaf fun _=>by simp only [qad,qaa,qah]<;>omega))
  case pt =>
   intro r W hp
   rcases hp with ⟨_,he,_⟩ | ⟨_,_,_,_,_,_,he,_⟩<;>(simp only [Ending.returned.injEq] at he;exact ⟨_,_,he⟩)
  case call =>
   refine (qo2 X.R X.P os od dsl dcap W4.drew (HH.out.1.refAt' HH.out.2.2.2.1 (HT4.out.1.drew.sat.right.tail.tail)) (qxw HH.out.1.link HH.out.2.1 HH.out.2.2.1) (HDW.out _ _ HT4.out.1.drew) (by omega)).mono ?_
   intro e w' hp
   rcases hp with ⟨k,rfl,hp⟩ | ⟨h1,h2,h3,h4,vv,cv,rfl,hp⟩
   ·exact ⟨_,rfl,.inl ⟨k,rfl,hp⟩⟩
   ·exact ⟨_,rfl,.inr ⟨h1,h2,h3,h4,vv,cv,rfl,hp⟩⟩
  intro mv fv W5 hp
  obtain ⟨vv,cv,he,hco,hro,hG⟩:=qun.no HH.out.1.link HT3.out.2.2.2.2.1 HT3.out.2.2.2.2.2.1 HT3.out.2.2.2.2.2.2.1 HT3.out.2.2.2.2.2.2.2 hp
  rw [HH.out.1.link.nr] at he
  simp only [Ending.returned.injEq,Value.tuple.injEq,Array.mk.injEq,List.cons.injEq,and_true] at he
  obtain ⟨rfl,rfl⟩:=he
  have hT5:Turns [] ((X.U.blk,Is (qao X.U))::(ob,Is (oO ⟨1,oa,ob_,oc,os,ot,.slice dsl od.length dcap,od⟩))::(slRow X.U.most X.M++(arF S'++(refF (putR X ⟨1,oa,ob_,oc,os,ot,.slice dsl od.length dcap,od⟩ vv cv)++(bRow cv od++(poolF X.P++bRow X.U.out X.O)))))) w0 W5:=by
   have:=(HT4.out.1.drew.to (H:=refF X.R++(arF S'++((ob,Is (oO ⟨1,oa,ob_,oc,os,ot,.slice dsl od.length dcap,od⟩))::(X.U.blk,Is (qao X.U))::qay X))) (qaf fun _=>by simp only [qad,qaa,qah]<;>omega)).step (List.Perm.refl _) hG
   unfold qay at this
   exact this.to (by unfold putR;exact (qaf fun _=>by simp only [qad,qaa,qah]<;>omega))
  have hE5:qbi W5:=HH.out.2.2.2.2.1.keep hT5.mods (fun h=>by simp at h)
  have HT5:=Lib.hid (And.intro hT5 (And.intro hE5 (And.intro hco hro)))
  clear hp hG hT5 hE5 hco hro
  go_wp2_with fail
  refine (qcl .nilIface 0 W5 HT5.out.2.1 (.inl ⟨rfl,rfl⟩)).mono ?_
  rintro e W6 ⟨rfl,hs6⟩
  have HT6:=Lib.hid (HT5.out.1.thenSame hs6)
  clear hs6
  go_upto_region 15 with (fail)
  refine q5v [] (slRow X.U.most X.M++(arF S'++(refF (putR X ⟨1,oa,ob_,oc,os,ot,.slice dsl od.length dcap,od⟩ vv cv)++(bRow cv od++(poolF X.P++bRow X.U.out X.O))))) w0 X.U.blk ob X.U ⟨1,oa,ob_,oc,os,ot,.slice dsl od.length dcap,od⟩
   (fun v G=>∃ M',slOk v M'∧M'.map (·.bs)=addBs (X.M.map (·.bs)) (qav od)∧(∀ x∈M',x∈X.M∨qi7 dsl dcap od x)∧G=slRow v M'++(arF S'++(refF (putR X ⟨1,oa,ob_,oc,os,ot,.slice dsl od.length dcap,od⟩ vv cv)++(bRow cv od++(poolF X.P++bRow X.U.out X.O))))) HT6.out ?call ?one ?_
  case call =>
   intro Wx hTx
   have hx:=hTx.to (H:=slRow X.U.most X.M++((X.U.blk,Is (qao X.U))::(ob,Is (oO ⟨1,oa,ob_,oc,os,ot,.slice dsl od.length dcap,od⟩))::(arF S'++(refF (putR X ⟨1,oa,ob_,oc,os,ot,.slice dsl od.length dcap,od⟩ vv cv)++(bRow cv od++(poolF X.P++bRow X.U.out X.O)))))) (qaf fun _=>by simp only [qad,qaa,qah]<;>omega)
   refine (qzg dsl dcap od X.U.most X.M Wx hx.sat.left HH.out.1.most (fun W' G hG x hxm=>?_) (fun W' G hG=>?_) HQ.out.2.2.2.1 HQ.out.2.2.2.2 (by omega) (by have:=HQ.out.1;omega)).mono ?_
   ·have hy:=hx.step (List.Perm.refl _) hG
    exact (HH.out.1.ms x hxm).at hy (hy.sat.sub (G:=poolF X.P) (fun _=>by simp only [qad,qaa,qah]<;>omega)) HH.out.1.pok
   ·exact HDW.out _ _ (hx.step (List.Perm.refl _) hG)
   ·rintro e W' ⟨v,M',rfl,g1,g2,g3,g4⟩
    exact ⟨v,rfl,_,⟨M',g1,g2,g3,rfl⟩,(hx.step (List.Perm.refl _) g4).to (qaf fun _=>by simp only [qad,qaa,qah]<;>omega)⟩
  case one =>
   rintro v G Wx ⟨M',g1,-,-,rfl⟩ hTx
   obtain ⟨h1,h2,-⟩:=qdv (hTx.sat.tail.tail.left) g1
   exact ⟨h1,h2⟩
  intro y77 y78 y79 y80 y81 y82 y83 y84 y85 y86 W7 ⟨G,⟨M',g1,g2,g3,hG⟩,hT7⟩
  subst hG
  have HT7:=Lib.hid (And.intro hT7 (And.intro g1 (And.intro g2 g3)))
  clear hT7 g1 g2 g3
  go_wp2_with (go_at_call 41;refine (qcr _ _).mono ?_;rintro e w' ⟨rfl,rfl⟩)
  refine bodyPost_ret (results_tmp rfl _ _ _) rfl ⟨rfl,.inr ⟨S',V,vv,cv,y84,M',HT3.out.2.2.2.2.1,HT3.out.2.1,HT3.out.2.2.2.1,HT3.out.2.2.2.2.2.2.1,HT7.out.2.2.1,?_⟩⟩
  have hmem:∀ p∈X.P,p∈X.P++[(cv,od)]:=fun p hp=>List.mem_append_left _ hp
  refine ⟨HT7.out.1.drop (fun x=>?_),?_,HH.out.1.r,?_,HT3.out.2.2.1,HT5.out.2.2.2,?_,?_,HH.out.1.out,HH.out.1.want.grow hmem,HT7.out.2.1,?_,HH.out.1.link.put HH.out.1.ar HT3.out.2.2.1 HT3.out.2.1 HT3.out.2.2.2.2.2.1 HT3.out.2.2.2.2.2.2.1,HH.out.1.olen⟩
  ·unfold wsF qay putX poolF
   simp only [List.flatMap_append,List.flatMap_cons,List.flatMap_nil,List.append_nil,qad,qaa]<;>omega
  ·show X.U.a=some S'.a
   rw [HT3.out.2.1.a];exact HH.out.1.a
  ·show X.U.d=S'.X.d
   rw [HT3.out.2.1.d];exact HH.out.1.d
  ·intro p hp
   rcases List.mem_append.1 hp with hp | hp
   ·exact HH.out.1.pok p hp
   ·obtain rfl:=List.mem_singleton.1 hp
    exact HT5.out.2.2.1
  ·intro v hv
   rcases q7m.1 hv with hv | rfl
   ·exact hmem _ (HH.out.1.inp v hv)
   ·exact List.mem_append_right _ (List.mem_singleton.2 rfl)
  ·intro x hx
   rcases HT7.out.2.2.2 x hx with hx | hx
   ·exact (HH.out.1.ms x hx).grow hmem
   ·exact .inl (hx.at HD.out.2 HQ.out.2.2.2.1 HQ.out.2.2.2.2)
def qd8 (X:Bs) (a e:Nat):Bs:=(X.take e).drop a
theorem qy4 (X bo:Bs) (a e:Nat):qd8 (X++bo) a e=qd8 X a e++(bo.take (min (e-X.length) bo.length)).drop (a-X.length):=by
 unfold qd8
 rw [List.take_append,List.drop_append,List.length_take]
 congr 1
 rw [← List.take_take,List.take_length]
 by_cases h:e≤X.length
 ·rw [Nat.sub_eq_zero_of_le h];simp
 ·rw [Nat.min_eq_right (by omega)]
def qqi (S:AS) (l:Bs) (n a c:Int) (w:World) (e:Ending) (w':World):Prop :=
 (∃ k,qin S l n k∧e=.returned (.tuple #[.slice none 0 0,errV k])∧Turns (arF S) (arF S) w w') ∨
 (∃ V,Found S l n V∧(a<0∨c<0∨(V.size:Int)<a)∧e=.returned (.tuple #[.slice none 0 0,errV 4])∧Turns (arF S) (arF S) w w') ∨
 (∃ V v sp,Found S l n V∧¬ (a<0∨c<0∨(V.size:Int)<a)∧e=.returned (.tuple #[v,.nilIface])∧bOk v (((contV S V).drop a.toNat).take c.toNat)∧AreaOk { S.A with spare:=sp }∧Turns (arF S) (bRow v (((contV S V).drop a.toNat).take c.toNat)++arF { S with A:={ S.A with spare:=sp } }) w w')
def q6u (S:AS) (V:VerL) (a m:Nat) (w:World) (out fr i:Value) (W:World):Prop :=
 ∃ (j:Nat) (sp:List (Nat×Nat×Nat)) (J:HF),j≤V.chs.length∧i=.int .i64 j∧fr=.int .i64 (((V.chs.take j).flatMap (qcb S.K)).length:Nat)∧bOk out (qd8 ((V.chs.take j).flatMap (qcb S.K)) a (a+m))∧AreaOk { S.A with spare:=sp } ∧
  Turns (arF S) (bRow out (qd8 ((V.chs.take j).flatMap (qcb S.K)) a (a+m))++(arF { S with A:={ S.A with spare:=sp } }++J)) w W
theorem q3t {X:Bs} {a c m size:Nat} (hX:X.length=size) (ha:a≤size) (hm:min (c:Int) ((size:Int)-a)=m):qd8 X a (a+m)=(X.drop a).take c:=by
 unfold qd8
 rw [List.drop_take]
 have:a+m-a=min c (size-a):=by omega
 rw [this,← List.take_take,List.take_of_length_le (i:=size-a) (by rw [List.length_drop];omega)]
theorem qvu (S:AS) (l:Bs) (n a c:Int) (b:Nat) (w:World) (h:Sat w (arF S)) (hok:ArOk S) (hB:ArB S b) (hb:b≤90000) (hl:l.length≤9223372036854775807) (hc2:c≤9223372036854775807) :
  Calls Tryz.prog 103 #[.pointer (some ⟨S.a,0,none⟩),str l,.int .i64 n,.int .i64 a,.int .i64 c] w (qqi S l n a c w):=by
 have HF:=Lib.hid (qk0 S.a S.X S.ps S.pc l n w h.headIs (h.tail.right.right.left) hok.paths)
 have HH:=Lib.hid (And.intro h (And.intro hok (And.intro hB hb)))
 clear h hok hB hb
 go_enter Tryz.func103,Tryz.ntmps103
 go_wp2_with fail
 refine HF.out.mono ?_
 intro e w1 hp
 obtain ⟨hs,⟨k,hk,rfl⟩ | ⟨V,hV,rfl⟩⟩:=qlv hp
 ·have HK:=Lib.hid (And.intro hk hs)
  clear hp hs hk
  unfold errV
  go_wp2_with fail
  exact bodyPost_ret (results_tmp2 rfl _ _ _) rfl (.inl ⟨k,HK.out.1,rfl,(Turns.same HH.out.1 HK.out.2)⟩)
 ·obtain ⟨p,hpm,hpk,hVp⟩:=qnl hV.2.2
  have hT1:Turns (arF S) (arF S) w w1:=Turns.same HH.out.1 hs
  have hps:Sat w1 (pathR p.val p.g):=Sat.flat (f:=fun p:PathL=>pathR p.val p.g) (hT1.sat.tail.right.right.left).tail hpm
  have hvf:Sat w1 (verF V):=Sat.flat (f:=verF) hps.right hVp
  have hpo:qbl V.cv V.chs:=(HH.out.2.1.paths.rows p hpm).2 V hVp
  obtain ⟨sl,cap,hcv,e2,e3,hcell⟩:=qe9 hvf.tail hpo
  have v1:w1.cell? ⟨V.blk,1,none⟩=some (.int .i64 V.size):=qac hvf.headIs 1 rfl
  have v2:w1.cell? ⟨V.blk,2,none⟩=some (.slice sl V.chs.length cap):=by rw [← hcv];exact qac hvf.headIs 2 rfl
  have hvl:=qal hvf.headIs
  have hcl:V.chs.length≤90000∧V.size≤65536*90000:=by
   have h1:=(HH.out.2.2.1.vers p hpm).2.2 V hVp
   have:=HH.out.2.2.2
   omega
  have hclen:=qh1 HH.out.2.1 hpm hVp
  have HV:=Lib.hid (And.intro hV (And.intro hpm (And.intro hVp (And.intro hT1 (And.intro hcell (And.intro hpo (And.intro hcv hclen)))))))
  clear hp hs hV hpm hpk hVp hT1 hps hvf hpo hcv hcell hclen
  unfold ptrV
  by_cases h1:a<0
  ·go_wp2_with fail
   exact bodyPost_ret (results_tmp2 rfl _ _ _) rfl (.inr (.inl ⟨V,HV.out.1,.inl h1,rfl,HV.out.2.2.2.1⟩))
  ·by_cases h2:c<0
   ·go_wp2_with fail
    exact bodyPost_ret (results_tmp2 rfl _ _ _) rfl (.inr (.inl ⟨V,HV.out.1,.inr (.inl h2),rfl,HV.out.2.2.2.1⟩))
   ·by_cases h3:(V.size:Int)<a
    ·go_wp2_with fail
     exact bodyPost_ret (results_tmp2 rfl _ _ _) rfl (.inr (.inl ⟨V,HV.out.1,.inr (.inr h3),rfl,HV.out.2.2.2.1⟩))
    ·obtain ⟨a,rfl⟩:∃ a':Nat,a=a':=⟨a.toNat,by omega⟩
     obtain ⟨c,rfl⟩:∃ c':Nat,c=c':=⟨c.toNat,by omega⟩
     obtain ⟨m,hm⟩:∃ m:Nat,min (c:Int) ((V.size:Int)-a)=m:=⟨(min (c:Int) ((V.size:Int)-a)).toNat,by omega⟩
     have hHm:=Lib.hid (And.intro hm h3)
     have hms:a+m≤V.size:=by omega
     go_wp2_with fail
     clear hm
     have d1:decide ((a:Int)<0)=false:=decide_eq_false (by omega)
     have d2:decide ((c:Int)<0)=false:=decide_eq_false (by omega)
     have d3:decide (V.size<a)=false:=decide_eq_false (by omega)
     simp only [d1,d2,d3,Bool.or_false]
     clear d1 d2 d3
     go_loopw [14,15,60] (fun out fr i wr=>q6u S V a m w out fr i wr) (fun _ _ i _=>V.chs.length-(intOf i).toNat)
     case atStart=>exact ⟨0,S.A.spare,[],Nat.zero_le _,rfl,rfl,by simpa [qd8] using qdh,HH.out.2.1.area,by rw [List.append_nil];simp only [List.take_zero,List.flatMap_nil,qd8,List.take_nil,List.drop_nil];exact HV.out.2.2.2.1⟩
     case round =>
      obtain ⟨j,sp,J,hj,rfl,rfl,hbo,hAo,hT⟩:=hrel
      obtain ⟨X,hX⟩:∃ X,X=(V.chs.take j).flatMap (qcb S.K):=⟨_,rfl⟩
      rw [← hX] at hbo hT ⊢
      have hXl:X.length≤V.size:=by
       have h1:X.length≤(contV S V).length:=by
        unfold contV
        conv=>rhs;rw [← List.take_append_drop j V.chs,List.flatMap_append,List.length_append,← hX]
        omega
       rw [HV.out.2.2.2.2.2.2.2] at h1;exact h1
      have HR:=Lib.hid (And.intro hbo (And.intro hAo (And.intro hT hX)))
      clear hbo hAo hT hX
      by_cases hlt:j<V.chs.length
      ·obtain ⟨hver,hcells⟩:=qrr HH.out.2.1 HV.out.2.1 HV.out.2.2.1 HV.out.2.2.2.2.2.2.1 (W:=wr) (HR.out.2.2.1.sat.sub (fun x=>by simp only [arF,qad,qaa]<;>omega))
       obtain ⟨g,off,hg,hcell⟩:=hcells (by rw [qef];omega)
       subst hg
       obtain ⟨hc1,hc2⟩:=qkt hcell hlt
       obtain ⟨q,hq⟩:∃ q,q=V.chs[j]:=⟨_,rfl⟩
       rw [← hq] at hc1 hc2
       have hbK:=chs_K HH.out.2.1 HV.out.2.1 HV.out.2.2.1 (q:=q) (by rw [hq];exact List.getElem_mem hlt)
       obtain ⟨bo,hbo⟩:∃ bo,bo=qcb S.K q:=⟨_,rfl⟩
       rw [← hbo] at hbK
       have hq2:q.2=bo.length:=(HH.out.2.1.kat _ hbK).1
       have hbody:=(HH.out.2.1.kat _ hbK).2.chunkAt HH.out.2.1.dat
       have htk:(V.chs.take (j+1)).flatMap (qcb S.K)=X++bo:=by
        rw [List.take_succ_eq_append_getElem hlt,List.flatMap_append,hbo,hq,HR.out.2.2.2];simp
       have hXb:X.length+q.2≤V.size:=by
        have h1:((V.chs.take (j+1)).flatMap (qcb S.K)).length≤(contV S V).length:=by
         unfold contV
         conv=>rhs;rw [← List.take_append_drop (j+1) V.chs,List.flatMap_append,List.length_append]
         omega
        rw [HV.out.2.2.2.2.2.2.2,htk,List.length_append] at h1
        omega
       have hpa:=qy4 X bo a (a+m)
       obtain ⟨B8,hB8⟩:∃ B8,B8=wr.heap.size:=⟨_,rfl⟩
       obtain ⟨bs,hbs⟩:∃ bs,bs=qd8 X a (a+m):=⟨_,rfl⟩
       rw [← hbs] at hpa HR
       have hbsl:bs.length≤V.size:=by rw [hbs];unfold qd8;rw [List.length_drop,List.length_take];omega
       have hT8:Turns (arF S) (areaF S.X.ab S.X.d { S.A with spare:=sp }++((B8,Is (qau q))::(bRow u14 bs++((S.a,Is (archO S.X))::(devF S.X.d S.L++(qbc S.X.pm S.ps S.pc++(tagsF S.X.tm S.ts S.tc++(qbd S.X.cm S.cs S.cc++J)))))))) w (wr.alloc (qau q)):=by
        rw [hB8]
        exact (HR.out.2.2.1.allocIs (qau q)).to (by unfold arF;exact (qaf fun _=>by simp only [qad,qaa,qah]<;>omega))
       have HLd:=Lib.hid (fun (W:World) hT=>qkx S.a S.X S.X.ab S.X.d rfl { S.A with spare:=sp } S.L q.1 bo ((B8,Is (qau q))::(bRow u14 bs++((S.a,Is (archO S.X))::(devF S.X.d S.L++(qbc S.X.pm S.ps S.pc++(tagsF S.X.tm S.ts S.tc++(qbd S.X.cm S.cs S.cc++J))))))) W hT (fun x=>by simp only [qad,qaa];omega) HH.out.2.1.dev HR.out.2.1 HH.out.2.1.fits HH.out.2.1.nmax hbody)
       rw [← hq2] at HLd
       obtain ⟨fr,hfr⟩:∃ fr,fr=X.length:=⟨_,rfl⟩
       rw [← hfr] at hXl hXb hpa ⊢
       have HQ:=Lib.hid (And.intro hbK (And.intro hq2 (And.intro htk (And.intro hpa (And.intro hT8 (And.intro hB8 (And.intro hbsl hfr)))))))
       clear hver hcells hcell hq hbK hbo hq2 hbody htk hpa hT8 hB8 hbs hbsl hfr
       obtain ⟨lo,m1⟩:∃ lo:Nat,max ((a:Int)-fr) 0=lo:=⟨(max ((a:Int)-fr) 0).toNat,by omega⟩
       obtain ⟨hi,m2⟩:∃ hi:Int,min ((a:Int)+m-fr) q.2=hi:=⟨_,rfl⟩
       have s1:IntKind.i64.wrap ((a:Int)-fr)=(a:Int)-fr:=IntWalk.i64_in _ (by omega)
       have s2:IntKind.i64.wrap ((a:Int)+m)=(a:Int)+m:=IntWalk.i64_in _ (by omega)
       have s3:IntKind.i64.wrap ((a:Int)+m-fr)=(a:Int)+m-fr:=IntWalk.i64_in _ (by omega)
       have s4:IntKind.i64.wrap ((fr:Int)+q.2)=((fr+q.2:Nat):Int):=by rw [IntWalk.i64_in _ (by omega)];omega
       have HM:=Lib.hid (And.intro m1 m2)
       go_wp2_with fail
       go_quiet (fail)
       by_cases hlh:(lo:Int)<hi
       ·obtain ⟨hi,rfl⟩:∃ h':Nat,hi=h':=⟨hi.toNat,by omega⟩
        have hh:hi≤q.2:=by omega
        clear m1 m2 s1 s2 s3
        go_wp2_with fail
        refine (HLd.out _ ((HQ.out.2.2.2.2.1.drewN nq).sat)).mono ?_
        rintro e w4 ⟨av,cv,sp2,rfl,hok4,hAo4,hT4⟩
        have hT5:=(HQ.out.2.2.2.2.1.drewN nq).trans hT4
        obtain ⟨av',cv',hev,-,hcv4,hav,-⟩:=qbk (bOwns hT4.sat.left hok4)
        simp only [Value.slice.injEq,true_and] at hev
        obtain ⟨rfl,rfl⟩:=hev
        rw [← HQ.out.2.2.2.2.2.1]
        have hT6:Turns (arF S) (bRow u14 bs++(arF { S with A:={ S.A with spare:=sp2 } }++((B8,Is (qau q))::(bRow (.slice av bo.length cv) bo++J)))) w w4:=hT5.to (by unfold arF;exact (qaf fun _=>by simp only [qad,qaa,qah]<;>omega))
        have hb8:=hT6.sat.memIs (b:=B8) (o:=qau q) (by simp)
        have p1:w4.cell? ⟨B8,1,none⟩=some (.int .i64 q.2):=qac hb8 1 rfl
        have hb8l:=qal hb8
        rw [← HQ.out.2.1] at hcv4 ⊢
        obtain ⟨g4,off4,hg4,hcl4⟩:=hav (by rw [List.length_map,← HQ.out.2.1];omega)
        subst hg4
        have hcr:qaj w4 (some ⟨g4,off4+lo,none⟩) (((bo.take hi).drop lo).map enc8):=fun _=>⟨g4,off4+lo,rfl,fun j hj=>by
         have hj':j<hi-lo:=by simp at hj;omega
         have h9:=hcl4 (lo+j) (by rw [List.length_map,← HQ.out.2.1];omega)
         rw [Nat.add_assoc,h9]
         simp⟩
        have hrl:hi-lo=((bo.take hi).drop lo).length:=by rw [List.length_drop,List.length_take,← HQ.out.2.1];omega
        have m5:¬ cv=lo:=by omega
        have m6:¬ lo=cv:=by omega
        have H4:=Lib.hid (And.intro hAo4 (And.intro hT6 (And.intro hcr hrl)))
        clear hok4 hAo4 hT4 hT5 hav hT6 hcr hrl hcl4 hb8
        go_wp2_with ((at_builtin;go_loud (refine qak rfl ?_;refine qf0 (.tmp 88) (.tmp 92) rfl u14 bs rfl H4.out.2.1 HR.out.1 _ (hi-lo) _ rfl ((bo.take hi).drop lo) H4.out.2.2.2 H4.out.2.2.1 (by have:=H4.out.2.2.2;have:=HQ.out.2.2.2.2.2.2.1;omega) ?_;intro av2 cv2 w6 hok6 hT6 _;have hb86:=hT6.sat.memIs (b:=B8) (o:=qau q) (by simp);have p6:w6.cell? ⟨B8,1,none⟩=some (.int .i64 q.2):=qac hb86 1 rfl;have hb8l6:=qal hb86;have H6:=Lib.hid (And.intro hok6 hT6);clear hok6 hT6 hb86)))
        go_roundw
        case rel =>
         have e9:qd8 (X++bo) a (a+m)=bs++(bo.take hi).drop lo:=by
          rw [HQ.out.2.2.2.1]
          have:=HM.out.1;have:=HM.out.2;have:=HQ.out.2.1
          rw [show min (a+m-fr) bo.length=hi by omega,show a-fr=lo by omega]
         refine ⟨j+1,sp2,(B8,Is (qau q))::(bRow (.slice (some ⟨g4,off4,none⟩) bo.length cv) bo++J),by omega,by go_num,?_,?_,H4.out.1,?_⟩
         ·rw [HQ.out.2.2.1,List.length_append,← HQ.out.2.1,← HQ.out.2.2.2.2.2.2.2,Int.natCast_add]
         ·rw [HQ.out.2.2.1,e9];have:=H6.out.1;simp only [List.length_append,List.length_drop,List.length_take] at this;exact this
         ·rw [HQ.out.2.2.1,e9];have:=H6.out.2;simp only [List.length_append,List.length_drop,List.length_take] at this;exact this
        case measure=>simp [intOf];omega
       ·clear m1 m2 s1 s2 s3
        have hb8:=(HQ.out.2.2.2.2.1.drewN nq).sat.memIs (b:=B8) (o:=qau q) (by simp)
        rw [HQ.out.2.2.2.2.2.1] at hb8
        have p1:=qac (v:=.int .i64 q.2) hb8 1 rfl
        clear hb8
        go_wp2_with fail
        go_roundw
        case rel =>
         have e9:qd8 (X++bo) a (a+m)=bs:=by
          rw [HQ.out.2.2.2.1]
          have:=HM.out.1;have:=HM.out.2;have:=HQ.out.2.1
          rw [List.drop_eq_nil_of_le (by rw [List.length_take];omega),List.append_nil]
         refine ⟨j+1,sp,(B8,Is (qau q))::J,by omega,by go_num,?_,?_,HR.out.2.1,?_⟩
         ·rw [HQ.out.2.2.1,List.length_append,← HQ.out.2.1,← HQ.out.2.2.2.2.2.2.2,Int.natCast_add]
         ·rw [HQ.out.2.2.1,e9];exact HR.out.1
         ·rw [HQ.out.2.2.1,e9]
          exact (HQ.out.2.2.2.2.1.drewN nq).to (by unfold arF;exact (qaf fun _=>by simp only [qad,qaa,qah]<;>omega))
        case measure=>simp [intOf];omega
      ·obtain rfl:j=V.chs.length:=by omega
       have hXc:X=contV S V:=by rw [HR.out.2.2.2,List.take_length];rfl
       have hpe:qd8 X a (a+m)=((contV S V).drop a).take c:=by
        rw [hXc]
        exact q3t HV.out.2.2.2.2.2.2.2 (by omega) hHm.out.1
       rw [hpe] at HR
       have HE:=Lib.hid (And.intro hXc hpe)
       clear hXc hpe
       go_wp2_with fail
       refine bodyPost_ret (results_tmp2 rfl _ _ _) rfl (.inr (.inr ⟨V,u14,sp,HV.out.1,?_,rfl,HR.out.1,HR.out.2.1,HR.out.2.2.1.drop (fun x=>by simp only [Int.toNat_natCast,qaa];omega)⟩))
       have:=hHm.out.2;omega
end Go.Proofs.YtdhobpbngkainaaGreatDoor
