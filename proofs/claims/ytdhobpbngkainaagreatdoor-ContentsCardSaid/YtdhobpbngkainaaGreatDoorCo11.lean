/- Ours. A part of the proof, made small by a program. -/
import Derived.Test.YtdhobpbngkainaaGreatDoorCo06
import Derived.Test.YtdhobpbngkainaaGreatDoorCo10
import Derived.Test.YtdhobpbngkainaaGreatDoorCo01
import Derived.Test.YtdhobpbngkainaaGreatDoorCo08
import Derived.Test.YtdhobpbngkainaaGreatDoorCo09
import Derived.Test.YtdhobpbngkainaaGreatDoorProg
import Derived.RegionTactic
import Derived.RangeFuncBox
import Derived.Test.YtdhobpbngkainaaGreatDoorCo07
set_option maxRecDepth 100000
set_option maxHeartbeats 4000000
namespace Go.Proofs.YtdhobpbngkainaaGreatDoor
open Go.RowKit Go.Maps
structure WorldL where
 blk:Nat
 d:Nat
 a:Option Nat
 r:Nat
 out:Value
 want:Value
 most:Value
def ptrO:Option Nat→Value
 | none=>.pointer none
 | some b=>.pointer (some ⟨b,0,none⟩)
def qar (U:WorldL):Array Value:=#[.pointer (some ⟨U.d,0,none⟩),ptrO U.a,.pointer (some ⟨U.r,0,none⟩),U.out,U.want,U.most]
def qao (U:WorldL):Obj:=.cells (qar U) 63 (0,0)
def q23 (Φ:AS→Prop) (U:WorldL) (R:RefL) (L:DevL) (q:Int) (w:World) (e:Ending) (w':World):Prop :=
 ∃ S b' vv' tv',e=.returned (.bool true)∧Φ S∧RefOk { R with blk:=b',vv:=vv',tv:=tv',quota:=clip0 q,closed:=false } ∧
  Turns ((U.blk,Is (qao U))::(refF R++devF U.d L)) ((U.blk,Is (qao { U with a:=some S.a,r:=b' }))::(arF S++(refF { R with blk:=b',vv:=vv',tv:=tv',quota:=clip0 q,closed:=false }++refF R))) w w'
theorem qnu (Φ:AS→Prop) (U:WorldL) (R:RefL) (L:DevL) (q:Int) (w:World) (hr:U.r=R.blk) (h:Sat w ((U.blk,Is (qao U))::(refF R++devF U.d L))) (hok:RefOk R) (h1:∀ v∈R.vs,v.cv.oneCell'=true) (hl:R.vs.length≤1000000∧R.ts.length≤1000000) (hE:qbi w) (h0:0∉dom ((U.blk,Is (qao U))::(refF R++devF U.d L)))
  (hO:∀ W,Sat W (devF U.d L)→Calls Tryz.prog 22 #[.pointer (some ⟨U.d,0,none⟩),.int .i64 q] W (fun e W'=>∃ S,e=.returned (.tuple #[.pointer (some ⟨S.a,0,none⟩),.nilIface])∧Φ S∧Turns (devF U.d L) (arF S) W W')) :
  Calls Tryz.prog 74 #[.pointer (some ⟨U.blk,0,none⟩),.int .i64 q] w (q23 Φ U R L q w):=by
 have c0:w.cell? ⟨U.blk,0,none⟩=some (.pointer (some ⟨U.d,0,none⟩)):=qac h.headIs 0 rfl
 have HO:=Lib.hid (hO w h.tail.right)
 have HH:=Lib.hid (And.intro h (And.intro hok (And.intro h1 (And.intro hl (And.intro hE (And.intro h0 hr))))))
 clear h hok h1 hl hE h0 hO hr
 go_enter Tryz.func74,Tryz.ntmps74
 go_wp2_with fail
 refine HO.out.mono ?_
 rintro e w1 ⟨S,rfl,hΦ,hT⟩
 have hT1:Turns ((U.blk,Is (qao U))::(refF R++devF U.d L)) ((U.blk,Is (qao U))::(arF S++refF R)) w w1:=by
  exact ((Turns.refl HH.out.1).step (R:=(U.blk,Is (qao U))::refF R) (qaf fun _=>by simp only [qad,qaa,qah]<;>omega) hT).to (qaf fun _=>by simp only [qad,qaa,qah]<;>omega)
 have HT1:=Lib.hid (qcl .nilIface 0 w1 (HH.out.2.2.2.2.1.keep hT1.mods HH.out.2.2.2.2.2.1) (.inl ⟨rfl,rfl⟩))
 have H1:=Lib.hid (And.intro hΦ hT1)
 clear hΦ hT hT1
 go_wp2_with fail
 refine HT1.out.mono ?_
 rintro e w2 ⟨rfl,hs2⟩
 have hT2:=H1.out.2.thenSame hs2
 have HT2:=Lib.hid hT2
 clear hs2 hT2
 have hne:∀ W,(binOp .eql 32 (.pointer (some ⟨S.a,0,none⟩)) (.pointer none)).run Tryz.prog W=.ok (.bool false) W:=fun W=>by kernel_rfl
 go_wp2_with ((refine qak rfl (qa0 32 (.tmp 28) (.tmp 26) rfl U.blk 1 (qar U) 63 (.pointer (some ⟨S.a,0,none⟩)) HT2.out rfl rfl (by simp [qar]) (by kernel_rfl) rfl rfl ?_);intro w3 hT3;have c2:w3.cell? ⟨U.blk,2,none⟩=some (.pointer (some ⟨U.r,0,none⟩)):=qac hT3.sat.headIs 2 rfl;have HT3:=Lib.hid hT3;clear hT3;simp only [Act.put]))
 have hrb:U.r=R.blk:=HH.out.2.2.2.2.2.2
 rw [hrb] at c2 ⊢
 refine (qss R w3 HT3.out.sat.tail.right HH.out.2.1 HH.out.2.2.1 HH.out.2.2.2.1).mono ?_
 rintro e w4 ⟨b',vv',tv',rfl,hok4,hT4⟩
 obtain ⟨R2,hR2⟩:∃ R2:RefL,R2={ R with blk:=b',vv:=vv',tv:=tv',closed:=false }:=⟨_,rfl⟩
 rw [← hR2] at hok4 hT4
 have hb2:R2.blk=b':=by rw [hR2]
 have hT5:Turns ((U.blk,Is (qao U))::(refF R++devF U.d L)) ((U.blk,Is (.cells ((qar U).setIfInBounds 1 (.pointer (some ⟨S.a,0,none⟩))) 63 (0,0)))::(arF S++(refF R2++refF R))) w w4 :=
  (HT3.out.step (R:=(U.blk,Is (.cells ((qar U).setIfInBounds 1 (.pointer (some ⟨S.a,0,none⟩))) 63 (0,0)))::arF S) (qaf fun _=>by simp only [qad,qaa,qah]<;>omega) hT4).to (qaf fun _=>by simp only [qad,qaa,qah]<;>omega)
 have HT5:=Lib.hid (And.intro hok4 (And.intro hR2 hT5))
 clear hok4 hR2 hT4 hT5
 subst hb2
 go_wp2_with (first
  | (refine qak rfl (qa0 56 (.tmp 36) (.tmp 34) rfl U.blk 2 ((qar U).setIfInBounds 1 (.pointer (some ⟨S.a,0,none⟩))) 63 (.pointer (some ⟨R2.blk,0,none⟩)) HT5.out.2.2 rfl rfl (by simp [qar]) (by kernel_rfl) rfl rfl ?_);intro w5 hT6;have d2:w5.cell? ⟨U.blk,2,none⟩=some (.pointer (some ⟨R2.blk,0,none⟩)):=qac hT6.sat.headIs 2 rfl;have HT6:=Lib.hid hT6;clear hT6;simp only [Act.put])
  | (refine qak rfl (qa0 3 (.tmp 43) (.tmp 41) rfl R2.blk 2 (qbw R2) 60 (.int .i64 q) (HT6.out.to (H:=(R2.blk,Is (refO R2))::((U.blk,Is (.cells (((qar U).setIfInBounds 1 (.pointer (some ⟨S.a,0,none⟩))).setIfInBounds 2 (.pointer (some ⟨R2.blk,0,none⟩))) 63 (0,0)))::(arF S++(rvRow R2.vv R2.vs++(rtRow R2.tv R2.ts++refF R))))) (by unfold refF;exact (qaf fun _=>by simp only [qad,qaa,qah]<;>omega))) rfl rfl (by simp [qbw]) (by kernel_rfl) rfl rfl ?_);intro w6 hT7;have d3:w6.cell? ⟨U.blk,2,none⟩=some (.pointer (some ⟨R2.blk,0,none⟩)):=qac (hT7.sat.memIs (b:=U.blk) (o:=.cells (((qar U).setIfInBounds 1 (.pointer (some ⟨S.a,0,none⟩))).setIfInBounds 2 (.pointer (some ⟨R2.blk,0,none⟩))) 63 (0,0)) (by simp)) 2 rfl;have HT7:=Lib.hid hT7;clear hT7;simp only [Act.put])
  | (refine qak rfl (qa0 3 (.tmp 51) (.const (.int .i64 0)) rfl R2.blk 2 ((qbw R2).setIfInBounds 2 (.int .i64 q)) 60 (.int .i64 0) HT7.out rfl rfl (by simp [qbw]) (by kernel_rfl) rfl rfl ?_);intro w7 hT8;have HT8:=Lib.hid hT8;clear hT8;simp only [Act.put]))
 ·rename_i hq
  have e1:R2.vv=vv':=by rw [HT5.out.2.1]
  have e2:R2.vs=R.vs:=by rw [HT5.out.2.1]
  have e3:R2.tv=tv':=by rw [HT5.out.2.1]
  have e4:R2.ts=R.ts:=by rw [HT5.out.2.1]
  have e5:R2.closed=false:=by rw [HT5.out.2.1]
  have eC:((qbw R2).setIfInBounds 2 (.int .i64 q)).setIfInBounds 2 (.int .i64 0)=qbw { R with blk:=R2.blk,vv:=vv',tv:=tv',quota:=clip0 q,closed:=false }:=by
   have hc:clip0 q=0:=by unfold clip0;split<;>omega
   unfold qbw
   rw [e1,e3,e5,hc]
   rfl
  have eW:((qar U).setIfInBounds 1 (.pointer (some ⟨S.a,0,none⟩))).setIfInBounds 2 (.pointer (some ⟨R2.blk,0,none⟩))=qar { U with a:=some S.a,r:=R2.blk }:=rfl
  have hT9:=HT8.out
  rw [eC,eW,e1,e2,e3,e4] at hT9
  have hok5:=HT5.out.1
  refine bodyPost_ret (results_tmp rfl _ _ _) rfl ⟨S,R2.blk,vv',tv',rfl,H1.out.1,⟨by have:=hok5.vs;rw [e1,e2] at this;exact this,by have:=hok5.ts;rw [e3,e4] at this;exact this⟩,?_⟩
  exact hT9.to (by unfold refF refO qao;exact (qaf fun _=>by simp only [qad,qaa,qah]<;>omega))
 ·rename_i hq
  have e1:R2.vv=vv':=by rw [HT5.out.2.1]
  have e2:R2.vs=R.vs:=by rw [HT5.out.2.1]
  have e3:R2.tv=tv':=by rw [HT5.out.2.1]
  have e4:R2.ts=R.ts:=by rw [HT5.out.2.1]
  have e5:R2.closed=false:=by rw [HT5.out.2.1]
  have eC:(qbw R2).setIfInBounds 2 (.int .i64 q)=qbw { R with blk:=R2.blk,vv:=vv',tv:=tv',quota:=clip0 q,closed:=false }:=by
   have hc:clip0 q=q:=by unfold clip0;split<;>omega
   unfold qbw
   rw [e1,e3,e5,hc]
   rfl
  have eW:((qar U).setIfInBounds 1 (.pointer (some ⟨S.a,0,none⟩))).setIfInBounds 2 (.pointer (some ⟨R2.blk,0,none⟩))=qar { U with a:=some S.a,r:=R2.blk }:=rfl
  have hT9:=HT7.out
  rw [eC,eW,e1,e2,e3,e4] at hT9
  have hok5:=HT5.out.1
  refine bodyPost_ret (results_tmp rfl _ _ _) rfl ⟨S,R2.blk,vv',tv',rfl,H1.out.1,⟨by have:=hok5.vs;rw [e1,e2] at this;exact this,by have:=hok5.ts;rw [e3,e4] at this;exact this⟩,?_⟩
  exact hT9.to (by unfold refF refO qao;exact (qaf fun _=>by simp only [qad,qaa,qah]<;>omega))
theorem qxx {l s:Bs} {o k:Nat} (h:128*(k+1)≤o) (hl:o≤l.length):secOf (putAt l o s) k=secOf l k:=by
 unfold secOf putAt
 have h1:(l.take o).length=o:=by rw [List.length_take];omega
 rw [List.append_assoc,List.drop_append_of_le_length (by omega),List.take_append_of_le_length (by rw [List.length_drop,h1];omega),List.drop_take,List.take_take,Nat.min_eq_left (by omega)]
def qf5 (a pm tm cm d ab ch:Nat) (q:Int) (L:DevL):AS where
 a:=a
 X:=⟨pm,tm,cm,0,0,0,d,ab,1,clip0 q,false,.nilIface⟩
 A:=⟨2+halfN L.n,halfN L.n,0,zeros 128,ch,[]⟩
 L:=L
 ps:=[]
 pc:=0
 cs:=[]
 cc:=0
 ts:=[]
 tc:=0
 data:=[]
 K:=[]
theorem q1i {L L':DevL} (hL:DevOk L) (hn:16≤L.n) (hnow:L'.now=putAt (cutTo L.now (2+halfN L.n) 0 (zeros 128) (halfN L.n)) 128 (qcc 1 0)):qdt L'.now (2+halfN L.n) (halfN L.n) []:=by
 have hh:2+halfN L.n+halfN L.n≤L.n:=by unfold halfN;omega
 have hll:=hL.nowL
 have h1:=qud (l:=L.now) (ws:=zeros (128*halfN L.n)) (first:=2+halfN L.n) (count:=halfN L.n) (end_:=0) (by omega) rfl (qan _) (by omega)
 simp only [List.take_zero,Nat.zero_div,Nat.mul_zero,List.drop_nil,List.nil_append,Nat.zero_mod,Nat.sub_zero] at h1
 have hcl:(cutTo L.now (2+halfN L.n) 0 (zeros 128) (halfN L.n)).length=128*L.n:=qgx hll (qan _) _ (by omega)
 have h2:=qk2 (l:=cutTo L.now (2+halfN L.n) 0 (zeros 128) (halfN L.n)) (s:=qcc 1 0) (first:=1) (count:=1) (q:=0) (f2:=2+halfN L.n) (c2:=halfN L.n) (by rw [qcv];omega) (by rw [hcl];omega) (by omega)
 refine ⟨?_,by simp⟩
 rw [hnow,h2]
 exact h1.1.1
theorem q37 {L L':DevL} (hL:DevOk L) (hL':DevOk L') (hn:16≤L.n) (hn2:L.n≤1073741824) (hnn:L'.n=L.n) (hnow:L'.now=putAt (cutTo L.now (2+halfN L.n) 0 (zeros 128) (halfN L.n)) 128 (qcc 1 0)) (a pm tm cm d ab ch:Nat) (q:Int) :
  ArOk (qf5 a pm tm cm d ab ch q L') where
 dev:=hL'
 n16:=by show 16≤L'.n;omega
 nmax:=by show L'.n≤_;omega
 area:=⟨qan _,by show ([]:List (Nat×Nat×Nat)).length≤2;simp,fun s hs=>by cases hs⟩
 first:=by show 2+halfN L'.n=2+1%2*halfN L'.n;omega
 count:=rfl
 end_:=rfl
 tail:=by show zeros 128=qbs [];unfold qbs qb9;simp
 dat:=by
  show qdt L'.now (2+halfN L'.n) (halfN L'.n) []
  rw [hnn];exact q1i hL hn hnow
 paths:=⟨⟨List.nodup_nil,List.nodup_nil,(fun e he=>by cases he),(fun e he=>by cases he)⟩,(fun p hp=>by cases hp)⟩
 tags:=⟨⟨List.nodup_nil,List.nodup_nil,(fun e he=>by cases he),(fun e he=>by cases he)⟩,(fun p hp=>by cases hp)⟩
 chunks:=⟨⟨List.nodup_nil,List.nodup_nil,(fun e he=>by cases he),(fun e he=>by cases he)⟩,(fun p hp=>by cases hp)⟩
 kin:=fun k=>List.Perm.refl _
 kat:=fun e he=>by cases he
 vers:=fun p hp=>by cases hp
 some:=fun p hp=>by cases hp
 sound:=rfl
 ep:=by show (1:Nat)<4294967296;omega
theorem q47 {L':DevL} (hch:L'.chs=[]) (a pm tm cm d ab ch:Nat) (q:Int) (hq:q≤9223372036854775807):ArB (qf5 a pm tm cm d ab ch q L') 0 where
 K:=by simp [qf5]
 np:=by simp [qf5]
 nt:=by simp [qf5]
 vers:=fun p hp=>by cases hp
 tags:=fun p hp=>by cases hp
 used:=by simp [qf5]
 sc:=by simp [qf5]
 sb:=by simp [qf5]
 quota:=by show (clip0 q).natAbs≤_;unfold clip0;split<;>omega
 chs:=by show L'.chs.length≤_;rw [hch];simp
def qkl (n:Nat) (q:Int) (d:Nat) (S:AS):Prop :=
 ArOk S∧ArB S 0∧S.X.closed=false∧S.X.quota=clip0 q∧S.X.used=0∧S.X.sc=0∧S.X.sb=0∧S.ps=[]∧S.ts=[]∧S.K=[]∧S.data=[]∧S.L.n=n∧S.X.d=d∧S.X.ep=1∧S.L.chs=[]∧secOf S.L.now 1=qcc 1 0∧secOf S.L.now 0=zeros 128
theorem qz3 (d:Nat) (L:DevL) (q:Int) (w:World) (h:Sat w (devF d L)) (hL:DevOk L) (hn:16≤L.n) (hn2:L.n≤1073741824) (hch:L.chs.length≤137438953472) (hz:∀ k,k<2→secOf L.now k=zeros 128) (hq:q≤9223372036854775807) :
  Calls Tryz.prog 22 #[.pointer (some ⟨d,0,none⟩),.int .i64 q] w (fun e w'=>∃ S,e=.returned (.tuple #[.pointer (some ⟨S.a,0,none⟩),.nilIface])∧qkl L.n q d S∧Turns (devF d L) (arF S) w w'):=by
 refine (q0l d L q w h hL hn hn2 hch hz).mono ?_
 rintro e w' ⟨a,ab,pm,tm,cm,ch,L',rfl,hT,hL',hLn,hnow,_,hchs⟩
 have hh:2+halfN L.n+halfN L.n≤L.n:=by unfold halfN;omega
 have hcl:(cutTo L.now (2+halfN L.n) 0 (zeros 128) (halfN L.n)).length=128*L.n:=qgx hL.nowL (qan _) _ (by omega)
 refine ⟨qf5 a pm tm cm d ab ch q L',rfl,⟨q37 hL hL' hn hn2 hLn hnow a pm tm cm d ab ch q,q47 hchs a pm tm cm d ab ch q hq,rfl,rfl,rfl,rfl,rfl,rfl,rfl,rfl,rfl,hLn,rfl,rfl,hchs,?_,?_⟩,?_⟩
 ·show secOf L'.now 1=_
  rw [hnow]
  unfold secOf putAt
  have h1:((cutTo L.now (2+halfN L.n) 0 (zeros 128) (halfN L.n)).take 128).length=128*1:=by rw [List.length_take,hcl];omega
  rw [List.append_assoc,List.drop_left' h1,List.take_left' (qcv _ _)]
 ·show secOf L'.now 0=_
  rw [hnow,qxx (by omega) (by rw [hcl];omega),qoi (qan _) (by rw [hL.nowL];omega),qxx (by omega) (by rw [hL.nowL];omega)]
  exact hz 0 (by omega)
 ·refine hT.to ?_
  unfold arF qf5 qbc tagsF qbd rowsG
  rw [← hLn]
  simp only [List.map_nil,mapO,List.flatMap_nil]
  exact (qaf fun _=>by simp only [qad,qaa,qah]<;>omega)
def q3l (q:Int) (R:RefL):Prop:=RefOk R∧R.vs=[]∧R.ts=[]∧R.quota=clip0 q∧R.closed=false
def qy7 (n:Nat) (q:Int) (w:World) (e:Ending) (w':World):Prop :=
 ∃ (U:WorldL) (S:AS) (R:RefL),e=.returned (.tuple #[.pointer (some ⟨U.blk,0,none⟩),.bool true])∧qkl n q U.d S∧U.a=some S.a∧U.r=R.blk∧q3l q R∧U.out=.slice none 0 0∧U.want=.slice none 0 0∧U.most=.slice none 0 0 ∧
  Turns [] ((U.blk,Is (qao U))::(arF S++refF R)) w w'
theorem qvq (n:Nat) (q:Int) (w:World) (hn:16≤n) (hn2:n≤1073741824) (hE:qbi w) (hq:q≤9223372036854775807) :
  Calls Tryz.prog 24 #[.int .i64 n,.int .i64 q] w (qy7 n q w):=by
 have HN:=Lib.hid (qjk n (by omega) w)
 have HE:=Lib.hid hE
 clear hE
 go_enter Tryz.func24,Tryz.ntmps24
 go_wp2_with fail
 refine HN.out.mono ?_
 rintro e w1 ⟨d,L,rfl,hT,hL,hLn,hnow,hch⟩
 have H1:=Lib.hid (And.intro hT (And.intro hL (And.intro hnow hch)))
 clear hT hL hnow hch
 go_wp2_with fail
 obtain ⟨U,hU⟩:∃ U:WorldL,U=⟨w1.heap.size+1,d,none,w1.heap.size,.slice none 0 0,.slice none 0 0,.slice none 0 0⟩:=⟨_,rfl⟩
 obtain ⟨R,hR⟩:∃ R:RefL,R=⟨w1.heap.size,.slice none 0 0,[],.slice none 0 0,[],0,false⟩:=⟨_,rfl⟩
 have hUb:U.blk=w1.heap.size+1:=by rw [hU]
 have hUd:U.d=d:=by rw [hU]
 have hRo:refO R=.cells #[.slice none 0 0,.slice none 0 0,.int .i64 0,.bool false] 60 (0,0):=by rw [hR];rfl
 have hUo:qao U=.cells #[.pointer (some ⟨d,0,none⟩),.pointer none,.pointer (some ⟨w1.heap.size,0,none⟩),.slice none 0 0,.slice none 0 0,.slice none 0 0] 63 (0,0):=by rw [hU];rfl
 have hT2:Turns [] ((U.blk,Is (qao U))::(refF R++devF U.d L)) w ((w1.alloc (.cells #[.slice none 0 0,.slice none 0 0,.int .i64 0,.bool false] 60)).alloc (.cells #[.pointer (some ⟨d,0,none⟩),.pointer none,.pointer (some ⟨w1.heap.size,0,none⟩),.slice none 0 0,.slice none 0 0,.slice none 0 0] 63)):=by
  have h:=(H1.out.1.allocIs (refO R)).allocIs (qao U)
  rw [World.size_alloc,← hUb] at h
  rw [hUd,← hRo,← hUo]
  have h2:Turns [] ((U.blk,Is (qao U))::(refF R++devF d L)) w ((w1.alloc (refO R)).alloc (qao U)):=by
   refine h.to ?_
   rw [hR]
   unfold refF rvRow rtRow
   simp only [rowF,Value.ownBlock]
   exact (qaf fun _=>by simp only [qad,qaa,qah]<;>omega)
  exact h2
 have h0:0∉dom ((U.blk,Is (qao U))::(refF R++devF U.d L)):=fun h=>by
  have h3:=hT2.newLe h
  have h4:=World.block_lt_of_cell? w _ HE.out
  simp only at h4
  omega
 have HW:=Lib.hid (qnu (qkl n q U.d) U R L q _ (by rw [hU,hR]) hT2.sat (by rw [hR];exact ⟨⟨rfl,fun _=>⟨rfl,rfl⟩⟩,⟨rfl,fun _=>⟨rfl,rfl⟩⟩⟩) (by rw [hR];intro v hv;cases hv) (by rw [hR];simp) (HE.out.keep hT2.mods (fun h=>by simp at h)) h0
  (fun W hW=>by
   have:=qz3 U.d L q W hW H1.out.2.1 (by omega) (by omega) (by rw [H1.out.2.2.2];simp) (fun k hk=>by rw [H1.out.2.2.1];simp only [secOf,zeros,List.drop_replicate,List.take_replicate];congr 1;omega) hq
   rw [hLn] at this
   exact this))
 rw [hUb] at HW
 have HT2:=Lib.hid (And.intro hT2 (And.intro hU hR))
 clear hT2 h0 hU hR hUb hUd hRo hUo
 refine HW.out.mono ?_
 rintro e w2 ⟨S,b',vv',tv',rfl,hΦ,hok,hT3⟩
 have HT3:=Lib.hid (And.intro hΦ (And.intro hok hT3))
 clear hΦ hok hT3
 go_wp2_with fail
 have eb:U.blk=w1.heap.size+1:=by rw [HT2.out.2.1]
 have eR:R.vs=[]∧R.ts=[]:=by rw [HT2.out.2.2];exact ⟨rfl,rfl⟩
 have eU:U.out=.slice none 0 0∧U.want=.slice none 0 0∧U.most=.slice none 0 0:=by rw [HT2.out.2.1];exact ⟨rfl,rfl,rfl⟩
 refine bodyPost_ret (results_tmp2 rfl _ _ _) rfl ⟨{ U with a:=some S.a,r:=b' },S,{ R with blk:=b',vv:=vv',tv:=tv',quota:=clip0 q,closed:=false },by rw [← eb];rfl,HT3.out.1,rfl,rfl,⟨HT3.out.2.1,eR.1,eR.2,rfl,rfl⟩,eU.1,eU.2.1,eU.2.2,?_⟩
 exact (HT2.out.1.trans HT3.out.2.2).drop (fun _=>by simp only [qad,qaa,qah]<;>omega)
theorem q2b:∀ (l:List Nat),(∀ i (h:i<l.length),i+1<l.length→16≤l[i])→16*(l.length-1)≤l.sum
 | [],_=>by simp
 | [a],_=>by simp
 | a::b::r,h=>by
  have h1:=h 0 (by simp) (by simp)
  have h2:=q2b (b::r) (fun i hi hj=>by have:=h (i+1) (by simpa using hi) (by simpa using hj);simpa using this)
  simp only [List.length_cons,List.sum_cons,List.getElem_cons_zero] at h1 h2 ⊢
  omega
theorem qph (D:Bs):(qas D).length≤D.length / 16+1:=by
 have h:=q2b (qas D) (fun i hi hj=>(qly D i hi).2.2 hj)
 rw [qex] at h
 omega
theorem qjm:∀ (l:List Nat) (d:Bs),(qck l d).flatten=d.take l.sum
 | [],d=>by simp [qck]
 | n::r,d=>by
  simp only [qck,List.flatten_cons,List.sum_cons,qjm r]
  rw [List.take_add]
theorem qsr (D:Bs):(qav D).flatten=D:=by
 unfold qav
 rw [qjm,qex,List.take_length]
theorem qrj {S:AS} (hok:ArOk S):∀ {l:List Bs} {m:List (Nat×Nat)},m.length=l.length→(∀ e∈l.zip m,e∈S.K)→m.flatMap (qcb S.K)=l.flatten
 | [],[],_,_=>rfl
 | c::l,q::m,h,hz=>by
  rw [List.flatMap_cons,List.flatten_cons,qyf hok (hz (c,q) (by simp)),qrj hok (by simpa using h) (fun e he=>hz e (by simp [he]))]
theorem q4v {S:AS} (hok:ArOk S) {D:Bs} {V:VerL} (hl:V.chs.length=(qav D).length) (hz:∀ e∈(qav D).zip V.chs,e∈S.K):contV S V=D:=by
 unfold contV
 rw [qrj hok hl hz,qsr]
abbrev Trip:=Int×Bs×Int
def tripV (S:AS) (V:VerL):Trip:=((V.num:Int),contV S V,V.held)
def tripR (v:RVer):Trip:=(v.num,v.cont,v.held)
def qbg (vs:List RVer) (p:Bs):List RVer:=vs.filter (fun v=>decide (v.path=p))
def tagP (p:TagL):Bs×Bs×Int:=(p.key,p.g.1,p.g.2)
def tagR (t:RTag):Bs×Bs×Int:=(t.name,t.path,t.num)
def heldR (ts:List RTag) (p:Bs) (n:Int):Int:=(ts.countP (fun t=>decide (t.path=p∧t.num=n)):Nat)
structure Link (S:AS) (R:RefL):Prop where
 closed:R.closed=S.X.closed
 quota:R.quota=S.X.quota
 used:S.X.used=(usedR R.vs:Nat)
 vers:∀ p,(qaq S.ps p).map (tripV S)=(qbg R.vs p).map tripR
 sorted:R.vs.Pairwise (fun a b=>bsLt b.path a.path=false)
 asc:∀ p,((qbg R.vs p).map (·.num)).Pairwise (·<·)
 each:∀ v∈R.vs,1≤v.num∧qa6 v.path=true∧v.cont.length≤4000
 tags:(S.ts.map tagP).Perm (R.ts.map tagR)
 tsort:R.ts.Pairwise (fun a b=>bsLt a.name b.name=true)
 teach:∀ t∈R.ts,qa6 t.name=true∧∃ v∈R.vs,v.path=t.path∧v.num=t.num
 held:∀ v∈R.vs,v.held=heldR R.ts v.path v.num
def findT:List Trip→Int→Option Trip
 | [],_=>none
 | v::r,n=>if v.1=n∨(n=0∧r=[]) then some v else findT r n
theorem qsf (S:AS) (n:Int):∀ l:List VerL,findT (l.map (tripV S)) n=(findV l n).map (tripV S)
 | []=>rfl
 | V::r=>by
  simp only [List.map_cons,findT,findV,qsf S n r,List.map_eq_nil_iff]
  have e:(tripV S V).1=(V.num:Int):=rfl
  rw [e]
  split<;>rfl
def lastT (l:List Trip) (n:Int):Option Trip:=(l.filter (fun t=>decide (t.1=n∨n=0))).getLast?
theorem qsk {n:Int}:∀ {l:List Trip},(∀ t∈l,n<t.1)→n≠0→l.filter (fun t=>decide (t.1=n∨n=0))=[]
 | [],_,_=>rfl
 | t::r,h,h0=>by
  rw [List.filter_cons_of_neg (by have:=h t (by simp);simp;omega)]
  exact qsk (fun x hx=>h x (by simp [hx])) h0
theorem qkv {n:Int}:∀ {l:List Trip},(l.map (·.1)).Pairwise (·<·)→(∀ t∈l,1≤t.1)→findT l n=lastT l n
 | [],_,_=>rfl
 | t::r,hp,h1=>by
  rw [List.map_cons,List.pairwise_cons] at hp
  have ht:=h1 t (by simp)
  simp only [findT,lastT]
  by_cases h0:n=0
  ·subst h0
   have hne:¬ t.1=0:=by omega
   have hall:∀ (x:List Trip),x.filter (fun t=>decide (t.1=0∨(0:Int)=0))=x:=fun x=>by rw [List.filter_eq_self];simp
   rw [hall]
   cases r with
   | nil=>simp
   | cons a r' =>
    rw [if_neg (by simp [hne])]
    rw [qkv (l:=a::r') hp.2 (fun x hx=>h1 x (by simp [hx]))]
    unfold lastT
    rw [hall,List.getLast?_cons_cons]
  ·by_cases hn:t.1=n
   ·rw [if_pos (.inl hn),List.filter_cons_of_pos (by simp [hn])]
    rw [qsk (fun x hx=>by rw [← hn];exact hp.1 x.1 (List.mem_map.2 ⟨x,hx,rfl⟩)) h0]
    rfl
   ·rw [if_neg (by simp [hn,h0]),List.filter_cons_of_neg (by simp [hn,h0])]
    exact qkv (n:=n) hp.2 (fun x hx=>h1 x (by simp [hx]))
theorem qoe (vs:List RVer) (p:Bs) (n:Int):∀ k,k≤vs.length→(if 0≤qcg vs p n k then vs[(qcg vs p n k).toNat]? else none)=((vs.take k).filter (isVer p n)).getLast?
 | 0,_=>by simp [qcg]
 | k+1,hk=>by
  rw [qn8 (by omega),List.take_succ_eq_append_getElem (by omega),List.filter_append]
  by_cases h:isVer p n vs[k]=true
  ·rw [if_pos h,if_pos (by omega),List.filter_cons_of_pos h]
   simp
  ·rw [if_neg h,List.filter_cons_of_neg h,List.filter_nil,List.append_nil]
   exact qoe vs p n k (by omega)
theorem qpw (R:RefL) (p:Bs) (n:Int):rFind R p n=(R.vs.filter (isVer p n)).getLast?:=by
 unfold rFind
 rw [qoe R.vs p n _ (Nat.le_refl _),List.take_length]
theorem quw (vs:List RVer) (p:Bs) (n:Int):vs.filter (isVer p n)=(qbg vs p).filter (fun v=>decide (v.num=n∨n=0)):=by
 unfold qbg
 rw [List.filter_filter]
 congr 1
 funext v
 unfold isVer
 by_cases h1:v.path=p<;>by_cases h2:v.num=n<;>by_cases h3:n=0<;>simp [h1,h2,h3]
theorem q1r (l:List RVer) (n:Int):lastT (l.map tripR) n=((l.filter (fun v=>decide (v.num=n∨n=0))).getLast?).map tripR:=by
 unfold lastT
 rw [List.filter_map,List.getLast?_map]
 rfl
theorem Link.find {S:AS} {R:RefL} (L:Link S R) (p:Bs) (n:Int):(findV (qaq S.ps p) n).map (tripV S)=(rFind R p n).map tripR:=by
 rw [← qsf,L.vers,qkv,q1r,qpw,quw]
 ·have:=L.asc p
  rw [List.map_map];exact this
 ·intro t ht
  obtain ⟨v,hv,rfl⟩:=List.mem_map.1 ht
  exact (L.each v (List.mem_filter.1 hv).1).1
theorem Link.err {S:AS} {R:RefL} (L:Link S R) {l:Bs} {n k:Int} (h:qin S l n k):rGetR R l n=.error k:=by
 unfold rGetR
 rw [L.closed]
 rcases h with ⟨h1,rfl⟩ | ⟨h1,h2,rfl⟩ | ⟨h1,h2,h3,rfl⟩
 ·rw [if_pos h1]
 ·rw [h1,if_neg (by simp),h2,if_neg (by simp)]
 ·rw [h1,if_neg (by simp),h2,if_pos rfl]
  have:=L.find l n
  rw [h3,Option.map_none] at this
  rw [Option.map_eq_none_iff.1 this.symm]
theorem Link.found {S:AS} {R:RefL} (L:Link S R) {l:Bs} {n:Int} {V:VerL} (h:Found S l n V):∃ v,rGetR R l n=.ok v∧tripR v=tripV S V∧v∈R.vs∧v.path=l:=by
 unfold rGetR
 rw [L.closed,h.1,if_neg (by simp),h.2.1,if_pos rfl]
 have h1:=L.find l n
 rw [h.2.2,Option.map_some] at h1
 obtain ⟨v,hv,hv2⟩:=Option.map_eq_some_iff.1 h1.symm
 have h3:=hv
 rw [qpw] at h3
 have h4:=List.mem_filter.1 (List.mem_of_getLast? h3)
 refine ⟨v,by rw [hv],hv2,h4.1,?_⟩
 have:=h4.2
 unfold isVer at this
 simp only [Bool.and_eq_true,decide_eq_true_eq] at this
 exact this.1
theorem qin.pos {S:AS} {l:Bs} {n k:Int} (h:qin S l n k):k=9∨k=1∨k=3:=by
 rcases h with ⟨_,h⟩ | ⟨_,_,h⟩ | ⟨_,_,_,h⟩<;>omega
def qda (S:AS) (sp:List (Nat×Nat×Nat)):AS:={ S with A:={ S.A with spare:=sp } }
theorem ArOk.spare {S:AS} (h:ArOk S) {sp:List (Nat×Nat×Nat)} (ha:AreaOk { S.A with spare:=sp }):ArOk (qda S sp) where
 dev:=h.dev
 n16:=h.n16
 nmax:=h.nmax
 area:=ha
 first:=h.first
 count:=h.count
 end_:=h.end_
 tail:=h.tail
 dat:=h.dat
 paths:=h.paths
 tags:=h.tags
 chunks:=h.chunks
 kin:=h.kin
 kat:=h.kat
 vers:=h.vers
 some:=h.some
 sound:=h.sound
 ep:=h.ep
theorem ArB.spare {S:AS} {b:Nat} (h:ArB S b) (sp:List (Nat×Nat×Nat)):ArB (qda S sp) b where
 K:=h.K
 np:=h.np
 nt:=h.nt
 vers:=h.vers
 tags:=h.tags
 used:=h.used
 sc:=h.sc
 sb:=h.sb
 quota:=h.quota
 chs:=h.chs
theorem Link.spare {S:AS} {R:RefL} (L:Link S R) (sp:List (Nat×Nat×Nat)):Link (qda S sp) R where
 closed:=L.closed
 quota:=L.quota
 used:=L.used
 vers:=L.vers
 sorted:=L.sorted
 asc:=L.asc
 each:=L.each
 tags:=L.tags
 tsort:=L.tsort
 teach:=L.teach
 held:=L.held
end Go.Proofs.YtdhobpbngkainaaGreatDoor
namespace Go.Proofs.YtdhobpbngkainaaGreatDoor
open Go.RowKit
theorem q3g:(Tryz.prog.info? 3).map (fun i=>(i.zero,i.size,i.bytes))=some (some (.int .i64 0),1,8):=by kernel_rfl
def q3y (c:Nat) (w:World) (e:Ending) (w':World):Prop:=e=.returned (.int .u32 (gearI c))∧w=w'
theorem qzu (c:Nat) (hc:c<256) (w:World):Calls Tryz.prog 144 #[.int .u8 c] w (q3y c w):=by
 go_enter Tryz.func144,Tryz.ntmps144
 go_wp2
 go_ret
 exact ⟨rfl,rfl⟩
theorem qlw (x:Int) (m k:Nat) (hm:m+1=2 ^ k) (hk:k≤32) (h0:0≤x) (h1:x<4294967296):bits BinOp.and IntKind.u32 x m=x%(m+1:Nat):=by
 obtain ⟨n,rfl⟩:=Int.eq_ofNat_of_zero_le h0
 have hp:(2:Nat) ^ k≤2 ^ 32:=Nat.pow_le_pow_right (by omega) hk
 have e1:(BitVec.ofInt 32 (n:Int)).toNat=n:=by rw [BitVec.ofInt_natCast,BitVec.toNat_ofNat];exact Nat.mod_eq_of_lt (by omega)
 have e2:(BitVec.ofInt 32 (m:Int)).toNat=m:=by rw [BitVec.ofInt_natCast,BitVec.toNat_ofNat];exact Nat.mod_eq_of_lt (by omega)
 have e3:n &&& m=n%2 ^ k:=by
  have:=Nat.and_two_pow_sub_one_eq_mod n k
  rw [← hm,Nat.add_sub_cancel] at this
  rw [← hm];exact this
 show IntKind.u32.wrap ((BitVec.ofInt 32 (n:Int) &&& BitVec.ofInt 32 (m:Int)).toNat:Int)=_
 rw [BitVec.toNat_and,e1,e2,e3,IntKind.wrap_u32,hm]
 have:n%2 ^ k<2 ^ k:=Nat.mod_lt _ (Nat.two_pow_pos k)
 omega
theorem q4h (h:Int) (n:Nat) (h0:0≤h) (h1:h<4294967296) :
  endsB h n=(decide (256≤n) || (decide (64≤n)&&(h%16==0)) || (decide (16≤n)&&decide (n<64)&&(h%256==0))):=by
 have e1:=qlw h 15 4 rfl (by omega) h0 h1
 have e2:=qlw h 255 8 rfl (by omega) h0 h1
 unfold endsB
 rw [show ((15:Int))=((15:Nat):Int) from rfl,show ((255:Int))=((255:Nat):Int) from rfl,e1,e2]
 by_cases a:256≤n
 ·simp [a]
 ·by_cases b:64≤n
  ·have c:¬ n<64:=by omega
   simp [a,b,c,bne]
  ·have c:n<64:=by omega
   by_cases d:16≤n<;>simp [a,b,c,d,bne]
def qxe (data:List UInt8) (w:World) (e:Ending) (w':World):Prop :=
 ∃ v,e=.returned v∧w'.ownsRow w.heap.size 3 1 v (qas data).length ((qas data).map fun n:Nat=>Value.int .i64 n)∧Same w w'
theorem q3s (h c:Int) (n:Nat):endsB (hashI h c) (n+1)=true↔(256≤(n:Int)+1∨(64≤(n:Int)+1∧(h*2+gearI c)%16=0)∨(16≤(n:Int)+1∧(n:Int)+1<64∧(h*2+gearI c)%256=0)):=by
 have hr:=qn4 h c
 rw [q4h _ _ hr.1 hr.2]
 have e1:hashI h c%16=(h*2+gearI c)%16:=by unfold hashI;omega
 have e2:hashI h c%256=(h*2+gearI c)%256:=by unfold hashI;omega
 rw [e1,e2]
 simp only [Bool.or_eq_true,Bool.and_eq_true,decide_eq_true_eq,beq_iff_eq]
 omega
def qvo (data:List UInt8) (w:World) (out hh nn ii:Value) (wr:World):Prop :=
 ∃ (k n:Nat) (h:Int) (os:List Nat),k≤data.length∧ii=.int .i64 k∧nn=.int .i64 n∧hh=.int .u32 h∧0≤h∧h<4294967296∧n<256∧n≤k ∧
   os++cutsN h n (data.drop k)=qas data∧os.length≤k∧wr.ownsRow 0 3 1 out os.length (os.map fun n:Nat=>Value.int .i64 n)∧(∀ g,out.ownBlock=some g→w.heap.size≤g)∧Same w wr
theorem q0q {data:List UInt8} {w wr w3:World} {v v':Value} {o:Obj} {k n:Nat} {h:Int} {os:List Nat} {x:UInt8} (hlt:k<data.length) (hx:x=data[k]) (hos:os++cutsN h n (data.drop k)=qas data) (hol:os.length≤k)
  (hbl:∀ g,v.ownBlock=some g→w.heap.size≤g) (hs:Same w wr) (he:k+1=data.length∨endsB (hashI h x.toNat) (n+1)=true)
  (hown:w3.ownsRow 0 3 1 v' (os.length+1) ((os.map fun n:Nat=>Value.int .i64 n)++[.int .i64 ((n:Int)+1)])) (hgrow:(wr.alloc o).grownBy w3 v.ownBlock) (hg:∀ g,v'.ownBlock=some g→v.ownBlock=some g∨(wr.alloc o).heap.size≤g) (m:Int) (hm:m=(k:Int)+1) :
  qvo data w v' (.int .u32 0) (.int .i64 0) (.int .i64 m) w3:=by
 have hd:data.drop k=x::data.drop (k+1):=by rw [hx];exact List.drop_eq_getElem_cons hlt
 have hc:cutsN h n (data.drop k)=(n+1)::cutsN 0 0 (data.drop (k+1)):=by
  rw [hd]
  rcases he with he | he
  ·rw [show data.drop (k+1)=[] from List.drop_of_length_le (by omega),qk1];rfl
  ·exact qne _ _ _ _ he
 refine ⟨k+1,0,0,os++[n+1],by omega,by simp [hm],rfl,rfl,by omega,by omega,by omega,by omega,?_,by simp;omega,?_,?_,?_⟩
 ·rw [← hos,hc];simp
 ·simpa using hown
 ·intro g h'
  have:=hs.size
  rcases hg g h' with h2 | h2
  ·exact hbl g h2
  ·simp at h2;omega
 ·exact (hs.alloc o).grown hgrow (fun k hk=>.inr (hbl k hk))
theorem qwp {data:List UInt8} {w wr:World} {v:Value} {k n:Nat} {h m:Int} {os:List Nat} {x:UInt8} (hlt:k<data.length) (hx:x=data[k]) (hos:os++cutsN h n (data.drop k)=qas data) (hol:os.length≤k) (hnk:n≤k)
  (hown:wr.ownsRow 0 3 1 v os.length (os.map fun n:Nat=>Value.int .i64 n)) (hbl:∀ g,v.ownBlock=some g→w.heap.size≤g) (hs:Same w wr) (he:¬ (k+1=data.length∨endsB (hashI h x.toNat) (n+1)=true)) (hm:m=hashI h x.toNat) :
  qvo data w v (.int .u32 m) (.int .i64 ((n:Int)+1)) (.int .i64 ((k:Int)+1)) wr:=by
 have hd:data.drop k=x::data.drop (k+1):=by rw [hx];exact List.drop_eq_getElem_cons hlt
 have he2:endsB (hashI h x.toNat) (n+1)=false:=by
  cases hz:endsB (hashI h x.toNat) (n+1)
  ·rfl
  ·exact absurd (.inr hz) he
 have hr:=qn4 h x.toNat
 refine ⟨k+1,n+1,hashI h x.toNat,os,by omega,by simp,by simp,by rw [hm],hr.1,hr.2,?_,by omega,?_,by omega,hown,hbl,hs⟩
 ·rcases Nat.lt_or_ge (n+1) 256 with h' | h'
  ·exact h'
  ·rw [qlm h'] at he2;cases he2
 ·rw [← hos,hd,qoy _ _ _ _ he2]
  intro hn
  have:=List.drop_eq_nil_iff.1 hn
  exact he (.inl (by omega))
theorem qsq (a:Option Addr) (cap:Nat) (data:List UInt8) (w:World) (hd:qaj w a (data.map enc8)) (hmax:data.length≤1099511627776) :
  Calls Tryz.prog 109 #[.slice a data.length cap] w (qxe data w):=by
 go_enter Tryz.func109,Tryz.ntmps109
 go_wp2
 obtain ⟨i0,hi0,hz1,hz2,hz3⟩:=info_parts q3g
 go_loopw [3,4,5,6] (qvo data w) (fun _ _ _ ii _=>data.length-(intOf ii).toNat)
 case atStart=>exact ⟨0,0,0,[],by omega,rfl,rfl,rfl,by omega,by omega,by omega,by omega,rfl,by simp,World.ownsRow_nil _ _ _ _,by simp [Value.ownBlock],Mods.refl _ _⟩
 case round =>
  obtain ⟨k,n,h,os,hk,rfl,rfl,rfl,hh0,hh1,hn,hnk,hos,hol,hown,hbl,hs⟩:=hrel
  have HO:=Lib.hid (And.intro hos (And.intro hown (And.intro hbl hs)))
  clear hos hown hbl hs
  by_cases hlt:k<data.length
  ·obtain ⟨g1,o1,rfl,hc1⟩:=hd (by simp;omega)
   have hk1:w.cell? ⟨g1,o1+k,none⟩=some (enc8 data[k]):=by rw [hc1 k (by simpa using hlt)];simp
   have hk2:=(World.cell?_of_block (w:=w) (HO.out.2.2.2.block g1 (World.block_lt_of_cell? w _ hk1) id)).trans hk1
   obtain ⟨x,hx⟩:∃ x,x=data[k]:=⟨_,rfl⟩
   rw [← hx] at hk2
   unfold enc8 at hk2
   have HX:=Lib.hid hx
   have hxl:=x.toNat_lt
   have HE:=Lib.hid (q3s h x.toNat n)
   clear hx hk1 hc1 hd
   go_wp2_with (first
    | (go_at_call 144;refine (qzu _ hxl _).mono ?_;rintro e w2 ⟨rfl,rfl⟩)
    | (at_builtin;refine qe0 _ rfl _ _ 171 rfl 3 i0 (.int .i64 0) 1 8 Tryz.underlying171 hi0 hz1 hz2 hz3 rfl (by decide) _ _ _ rfl (HO.out.2.1.alloc _) ⟨wr.heap.size,0,none⟩ 1 1 [.int .i64 ((n:Int)+1)] rfl rfl (cell_one_new _ _ _) (by simp [Value.oneCell']) (by unfold maxLen;omega) (by omega) ?_;intro v' A3 hown' hgrow _ hgb))
   all_goals go_roundw
   all_goals
    first
    | (
     refine q0q hlt HX.out HO.out.1 hol HO.out.2.2.1 HO.out.2.2.2 ?_ hown' hgrow hgb _ ?_
     ·first
      | exact .inl (by omega)
      | exact .inr (HE.out.2 (.inl (by omega)))
      | exact .inr (HE.out.2 (.inr (.inl ⟨by omega,eq_of_beq (by assumption)⟩)))
      | exact .inr (HE.out.2 (.inr (.inr ⟨by omega,by omega,eq_of_beq (by assumption)⟩)))
      | (
       refine .inr (HE.out.2 (.inl ?_))
       have hq:((k:Int)==(data.length:Int)-1)=true∨((n:Int)+1==256)=true:=by assumption
       rcases hq with h' | h'<;>(have:=eq_of_beq h';omega))
      | (
       exfalso
       have hq:((k:Int)==(data.length:Int)-1)=true∨((n:Int)+1==256)=true:=by assumption
       rcases hq with h' | h'<;>(have:=eq_of_beq h';omega))
     ·omega)
    | (
     refine qwp hlt HX.out HO.out.1 hol hnk HO.out.2.1 HO.out.2.2.1 HO.out.2.2.2 ?_ rfl
     have key:∀ c:Int,0≤c→¬ (256≤(n:Int)+1):=fun _ _=>by
      first
      | omega
      | (
       have hq:((k:Int)==(data.length:Int)-1)=false∧((n:Int)+1==256)=false:=by assumption
       have:=ne_of_beq_false hq.2;omega)
     intro hh
     rcases hh with hh | hh
     ·omega
     ·rcases HE.out.1 hh with h1 | ⟨h1,h2⟩ | ⟨h1,h2,h3⟩
      ·exact key 0 (by omega) h1
      ·first
       | omega
       | exact ne_of_beq_false (by assumption) h2
      ·first
       | omega
       | exact ne_of_beq_false (by assumption) h3)
    | (simp [intOf];omega)
  ·obtain ⟨hos,hown,hbl,hs⟩:=HO.out
   have hkk:k=data.length:=by omega
   have hP':os=qas data:=by rw [hkk,List.drop_length] at hos;simpa [cutsN] using hos
   have hP:=Lib.hid hP'
   clear hP'
   have HF:=Lib.hid (And.intro hown (And.intro hbl hs))
   clear hos hown hbl hs hkk
   go_wp2
   go_ret
   exact ⟨_,rfl,by rw [← hP.out];exact qup HF.out.1 HF.out.2.1,HF.out.2.2⟩
end Go.Proofs.YtdhobpbngkainaaGreatDoor
namespace Go.Proofs.YtdhobpbngkainaaGreatDoor
open Go.RowKit Go.Maps
structure SlB where
 val:Value
 bs:Bs
def SlAt (w:World) (x:SlB):Prop:=∃ sl cap,x.val=.slice sl x.bs.length cap∧x.bs.length≤cap∧cap≤9223372036854775807∧qaj w sl (x.bs.map enc8)
def slRow (v:Value) (l:List SlB):HF:=rowF 38 1 v l.length (l.map (·.val))
def slOk (v:Value) (l:List SlB):Prop:=RowOk 1 v l.length (l.map (·.val))
def addB (l:List Bs) (c:Bs):List Bs:=if c∈l then l else l++[c]
def addBs (l:List Bs) (cs:List Bs):List Bs:=cs.foldl addB l
def qi7 (csl:Option Addr) (ccap:Nat) (c:Bs) (x:SlB):Prop :=
 ∃ g off k,csl=some ⟨g,off,none⟩∧x.val=.slice (some ⟨g,off+k,none⟩) x.bs.length (ccap-k)∧x.bs=(c.drop k).take x.bs.length∧k+x.bs.length≤c.length
theorem qi7.at {csl:Option Addr} {ccap:Nat} {c:Bs} {x:SlB} (h:qi7 csl ccap c x) {w:World} (hc:qaj w csl (c.map enc8)) (hcap:c.length≤ccap) (hc9:ccap≤9223372036854775807):SlAt w x:=by
 obtain ⟨g,off,k,e1,e2,e3,e4⟩:=h
 refine ⟨_,_,e2,by omega,by omega,fun hp=>⟨g,off+k,rfl,fun j hj=>?_⟩⟩
 rw [List.length_map] at hp hj
 obtain ⟨g',off',e5,h5⟩:=hc (by rw [List.length_map];omega)
 rw [e1] at e5
 simp only [Option.some.injEq,Addr.mk.injEq,and_true] at e5
 obtain ⟨rfl,rfl⟩:=e5
 rw [Nat.add_assoc,h5 (k+j) (by rw [List.length_map];omega)]
 simp only [List.getElem_map]
 congr 2
 have:x.bs[j]?=c[k+j]?:=by rw [e3,List.getElem?_take,if_pos hj,List.getElem?_drop]
 rw [List.getElem?_eq_getElem hj,List.getElem?_eq_getElem (by omega)] at this
 exact (Option.some.inj this).symm
theorem qk4 {w:World} {v:Value} {l:List SlB} (hs:Sat w (slRow v l)) (h:slOk v l):∃ sl cap,v=.slice sl l.length cap∧l.length≤cap∧cap≤9223372036854775807∧qaj w sl (l.map (·.val)):=by
 obtain ⟨sl,cap,e,h1,h2,h3,-⟩:=qcq hs h (by decide)
 exact ⟨sl,cap,e,h1,h2,h3⟩
theorem qs6 (a:Option Addr) (cap:Nat) (data:Bs) (w:World) (hd:qaj w a (data.map enc8)) (hmax:data.length≤1099511627776) :
  Calls Tryz.prog 109 #[.slice a data.length cap] w (fun e w'=>∃ v,e=.returned v∧RowOk 1 v (qas data).length ((qas data).map fun n:Nat=>Value.int .i64 n)∧Turns [] (rowF 3 1 v (qas data).length ((qas data).map fun n:Nat=>Value.int .i64 n)) w w'):=by
 refine (qsq a cap data w hd hmax).mono ?_
 rintro e w' ⟨v,rfl,ho,hs⟩
 have ho0:w'.ownsRow 0 3 1 v (qas data).length ((qas data).map fun n:Nat=>Value.int .i64 n):=⟨ho.1,ho.2.imp id (fun ⟨g,cap,cur,h1,_,h2⟩=>⟨g,cap,cur,h1,Nat.zero_le _,h2⟩)⟩
 obtain ⟨h1,h2⟩:=qe5 ho0
 refine ⟨v,rfl,h2,hs.mods _,h1,fun b hb=>.inr ?_⟩
 rw [qfa] at hb
 rcases ho.2 with ⟨rfl,_⟩ | ⟨g,cap,cur,rfl,hg,_⟩
 ·cases hb
 ·obtain rfl:=Option.some.inj hb;exact hg
theorem q6f {P:Program} {t:TypeId} (a b:Bs) (w:World):(binOp .eql t (str a) (str b)).run P w=.ok (.bool (decide (a=b))) w:=by
 unfold str
 simp [binOp,Op.stringOp,Lib.toList_data]
 rw [Bool.eq_iff_iff];simp
theorem qmq {w:World} {sl:Option Addr} {l:Bs} (cap:Nat) (h:qaj w sl (l.map enc8)):(do let v ← convert 38 9 (.slice sl l.length cap);pure (Next.value v)).run Tryz.prog w=.ok (.value (str l)) w:=by
 simp [qgp _ h]
theorem add11 (rv:Value) (M:List SlB) (q:SlB) (bk:Bs) (rg k rcap:Nat) (bv:Value) {Q:Exit→Act→World→Prop} {w:World} {u1 u2 u3 u4 u5 u6 u7 u9 u11 u12 u13 u14 u15 u16 u17 u18 u19 u20 u21 u22 u23 u24 u25 u26 u27 u28 u29 u30 u31 u32 u33 u34 u35 u36 u37 u38 u39 u40 u41 u42 u43 u44 u45 u46 u47 u48 u49 u50 u51 u52 u53 u54 u55 u56 u57 u58:Value} {ds:List Deferred} (h1:w.cell? ⟨rg,k,none⟩=some q.val) (h2:SlAt w q) (h3:∃ sl cap,bv=.slice sl bk.length cap∧qaj w sl (bk.map enc8)) (hk1:k<M.length)
  (hk:∀ (y38 y39 y40 y41 y42 y43 y44 y45 y9:Value) (w':World),y9=.bool (decide (q.bs=bk))∧w'=w.drew→Q .normal { tmps:=#[.slice (some ⟨rg,0,none⟩) M.length rcap,u1,u2,u3,u4,u5,u6,u7,bv,y9,.int .i64 k,u11,u12,u13,u14,u15,u16,u17,u18,u19,u20,u21,u22,u23,u24,u25,u26,u27,u28,u29,u30,u31,u32,u33,u34,u35,u36,u37,y38,y39,y40,y41,y42,y43,y44,y45,u46,u47,u48,u49,u50,u51,u52,u53,u54,u55,u56,u57,u58],defers:=ds } w') :
  (regOf 11 Tryz.f61).wp Tryz.prog Q { tmps:=#[.slice (some ⟨rg,0,none⟩) M.length rcap,u1,u2,u3,u4,u5,u6,u7,bv,u9,.int .i64 k,u11,u12,u13,u14,u15,u16,u17,u18,u19,u20,u21,u22,u23,u24,u25,u26,u27,u28,u29,u30,u31,u32,u33,u34,u35,u36,u37,u38,u39,u40,u41,u42,u43,u44,u45,u46,u47,u48,u49,u50,u51,u52,u53,u54,u55,u56,u57,u58],defers:=ds } w:=by
 have HM:=Lib.hid (show Tryz.prog.follows .mixedOrders=true by kernel_rfl)
 conv=>arg 2;whnf
 refine qbt (A:=?A) (hA:=?hA) HM.out (phiL [fun v=>v=.slice (some ⟨rg,0,none⟩) M.length rcap,fun v=>v=.int .i64 k,fun v=>v=.pointer (some ⟨rg,k,none⟩),fun v=>v=q.val,fun v=>v=str q.bs,fun v=>v=bv,fun v=>v=str bk,fun v=>v=.bool (decide (q.bs=bk)),fun v=>v=.bool (decide (q.bs=bk))])
  (fun vs1 W=>(W.cell? ⟨rg,k,none⟩=some q.val∧SlAt W q∧∃ sl cap,bv=.slice sl bk.length cap∧qaj W sl (bk.map enc8))∧W=w.drew)
  (fun W=>W.cell? ⟨rg,k,none⟩=some q.val∧SlAt W q∧∃ sl cap,bv=.slice sl bk.length cap∧qaj W sl (bk.map enc8)) [] ?hC (by kernel_rfl) (by kernel_rfl) (by decide) (by decide) ?h0 ?hs ?he
 case hA=>intro x;simp only [qam,Act.put,List.setIfInBounds_toArray,List.set_cons_zero,List.set_cons_succ,Nat.reduceAdd];rfl
 case hs =>
  refine ⟨qab rfl rfl (fun x wq hd hC K hK hKw=>?_),qab rfl rfl (fun x wq hd hC K hK hKw=>?_),qab rfl rfl (fun x wq hd hC K hK hKw=>?_),qab rfl rfl (fun x wq hd hC K hK hKw=>?_),qab rfl rfl (fun x wq hd hC K hK hKw=>?_),qab rfl rfl (fun x wq hd hC K hK hKw=>?_),qab rfl rfl (fun x wq hd hC K hK hKw=>?_),qab rfl rfl (fun x wq hd hC K hK hKw=>?_),qab rfl rfl (fun x wq hd hC K hK hKw=>?_),trivial⟩
  ·exact qag (by kernel_rfl) (hK _ rfl)
  ·exact qag (by kernel_rfl) (hK _ rfl)
  ·have h0:x 0=.slice (some ⟨rg,0,none⟩) M.length rcap:=qae hd 0 (by kernel_rfl)
   have h1:x 1=.int .i64 k:=qae hd 1 (by kernel_rfl)
   refine qvl (sz:=1) 61 38 (.tmp 38) (.tmp 39) rfl Tryz.underlying61 (by kernel_rfl) (by rw [h0];rfl) (by rw [h1];rfl) (by omega) (by omega) ?_
   rw [show 0+((k:Int)).toNat*1=k by omega]
   exact hK _ rfl
  ·have h2:x 2=.pointer (some ⟨rg,k,none⟩):=qae hd 2 (by kernel_rfl)
   exact qat Tryz.underlying38 rfl rfl (by rw [h2];rfl) (hC.1) (hK _ rfl)
  ·have h3:x 3=q.val:=qae hd 3 (by kernel_rfl)
   obtain ⟨sl,cap,e,-,-,hc⟩:=hC.2.1
   refine qag (v:=str q.bs) (w':=wq) ?_ (hK _ rfl)
   simp only [execOp]
   rw [h3,e]
   exact qmq _ hc
  ·exact qag (by kernel_rfl) (hK _ rfl)
  ·have h5:x 5=bv:=qae hd 5 (by kernel_rfl)
   obtain ⟨sl,cap,e,hc⟩:=hC.2.2
   refine qag (v:=str bk) (w':=wq) ?_ (hK _ rfl)
   simp only [execOp]
   rw [h5,e]
   exact qmq _ hc
  ·have h4:x 4=str q.bs:=qae hd 4 (by kernel_rfl)
   have h6:x 6=str bk:=qae hd 6 (by kernel_rfl)
   refine qag (v:=.bool (decide (q.bs=bk))) (w':=wq) ?_ (hK _ rfl)
   simp [execOp,h4,h6,eqGuard,q6f,Act.eval]
  ·have h7:x 7=.bool (decide (q.bs=bk)):=qae hd 7 (by kernel_rfl)
   exact qag (by rw [h7];kernel_rfl) (hK _ rfl)
 case hC =>
  intro vs1 W hS
  exact hS.1
 case h0 =>
  exact ⟨⟨h1,h2,h3⟩,rfl⟩
 case he =>
  intro x w3 hφ hS
  have e9:x 8=.bool (decide (q.bs=bk)):=qdo hφ 8 (by decide) (by decide)
  exact hk (x 0) (x 1) (x 2) (x 3) (x 4) (x 5) (x 6) (x 7) (x 8) w3 ⟨e9,hS.2⟩
theorem qpm (l:List Bs) (cs:List Bs) (c:Bs):addBs l (cs++[c])=addB (addBs l cs) c:=by unfold addBs;rw [List.foldl_append];rfl
def q4f (csl:Option Addr) (ccap:Nat) (c:Bs) (v0:Value) (M:List SlB) (w:World) (e:Ending) (w':World):Prop :=
 ∃ v M',e=.returned v∧slOk v M'∧M'.map (·.bs)=addBs (M.map (·.bs)) (qav c)∧(∀ x∈M',x∈M∨qi7 csl ccap c x)∧Turns (slRow v0 M) (slRow v M') w w'
theorem qsc (l cs:List Bs):(addBs l cs).length≤l.length+cs.length:=by
 unfold addBs
 induction cs generalizing l with
 | nil=>simp
 | cons c r ih =>
  have h1:=ih (addB l c)
  have h2:(addB l c).length≤l.length+1:=by unfold addB;split<;>simp
  simp only [List.foldl_cons,List.length_cons];omega
theorem qzg (csl:Option Addr) (ccap:Nat) (c:Bs) (v0:Value) (M:List SlB) (w:World) (hs:Sat w (slRow v0 M)) (hok:slOk v0 M) (hM:∀ W G,Turns (slRow v0 M) G w W→∀ x∈M,SlAt W x) (hc:∀ W G,Turns (slRow v0 M) G w W→qaj W csl (c.map enc8)) (hcap:c.length≤ccap) (hcap9:ccap≤9223372036854775807) (hcl:c.length≤1000000) (hml:M.length+c.length≤900000) :
  Calls Tryz.prog 61 #[v0,.slice csl c.length ccap] w (q4f csl ccap c v0 M w):=by
 obtain ⟨F1,hF1⟩:∃ F1,F1=slRow v0 M:=⟨_,rfl⟩
 have hT0:Turns F1 (slRow v0 M) w w:=by rw [hF1];exact Turns.refl hs
 have hcw:=hc w _ (Turns.refl hs)
 rw [← hF1] at hM hc
 have HC:=Lib.hid (qs6 csl ccap c w hcw (by omega))
 have HH:=Lib.hid (And.intro hM (And.intro hc (And.intro hok (And.intro hT0 hF1))))
 clear hs hM hc hok hT0 hF1 hcw
 obtain ⟨rs0,rc0,hv0,-,-,-⟩:=qk4 HH.out.2.2.2.1.sat HH.out.2.2.1
 have HV0:=Lib.hid hv0
 go_enter Tryz.func61,Tryz.ntmps61
 go_wp2_with fail
 refine HC.out.mono ?_
 rintro e w1 ⟨lv,rfl,hlok,hT1⟩
 obtain ⟨ls,hls⟩:∃ ls,ls=qas c:=⟨_,rfl⟩
 rw [← hls] at hlok hT1
 have hT1':Turns F1 (slRow v0 M++(rowF 3 1 lv ls.length (ls.map fun n:Nat=>Value.int .i64 n)++[])) w w1:=(HH.out.2.2.2.1.trans (by have:=hT1.frame (R:=slRow v0 M) (by simpa using HH.out.2.2.2.1.sat);simpa using this)).to (qaf fun _=>by simp only [qad,qaa,qah]<;>omega)
 have hll:ls.length≤c.length:=by rw [hls];exact qcy c
 have H1:=Lib.hid (And.intro hlok (And.intro hT1' hls))
 clear hlok hT1 hT1' hls
 obtain ⟨lsl,lcap,hlv,hl2,hl3,-,-⟩:=qcq (H1.out.2.1.sat.right.left) H1.out.1 (by decide)
 have HLV:=Lib.hid hlv
 rw [hlv]
 clear hlv
 go_wp2_with fail
 go_loopw [0,6,7] (fun l a i wr=>∃ (k:Nat) (M':List SlB) (J:HF),k≤ls.length∧i=.int .i64 k∧a=.int .i64 ((ls.take k).sum:Nat)∧slOk l M'∧M'.map (·.bs)=addBs (M.map (·.bs)) ((qav c).take k)∧(∀ x∈M',x∈M∨qi7 csl ccap c x)∧Turns F1 (slRow l M'++(rowF 3 1 (.slice lsl ls.length lcap) ls.length (ls.map fun n:Nat=>Value.int .i64 n)++J)) w wr) (fun _ _ i _=>ls.length-(intOf i).toNat)
 case atStart=>exact ⟨0,M,[],Nat.zero_le _,rfl,rfl,hv0 ▸ HH.out.2.2.1,rfl,fun x hx=>.inl hx,by rw [← hv0,← HLV.out];exact H1.out.2.1⟩
 case round =>
  obtain ⟨i,M',J,hi,rfl,rfl,hok,hbs,hpo,hT⟩:=hrel
  obtain ⟨lsl',lcap',hlv',-,-,hlc,-⟩:=qcq (hT.sat.right.left) (HLV.out ▸ H1.out.1) (by decide)
  simp only [Value.slice.injEq,true_and] at hlv'
  obtain ⟨rfl,rfl⟩:=hlv'
  obtain ⟨rsl,rcap,hrv,hr2,hr3,hrc⟩:=qk4 hT.sat.left hok
  subst hrv
  have hm:M'.length≤M.length+i:=by
   have h1:=congrArg List.length hbs
   have h2:=qsc (M.map (·.bs)) ((qav c).take i)
   rw [List.length_map] at h1
   rw [List.length_map,List.length_take] at h2
   omega
  have hm9:M'.length≤900000:=by omega
  have HR:=Lib.hid (And.intro hok (And.intro hbs (And.intro hpo hT)))
  clear hok hbs hpo hT hm
  by_cases hlt:i<ls.length
  ·obtain ⟨lg,loff,hlg,hlcell⟩:=hlc (by rw [List.length_map];omega)
   subst hlg
   have hci:=hlcell i (by rw [List.length_map];exact hlt)
   rw [List.getElem_map] at hci
   obtain ⟨n,hn⟩:∃ n,n=ls[i]:=⟨_,rfl⟩
   rw [← hn] at hci
   have hsum:(ls.take (i+1)).sum=(ls.take i).sum+n:=by rw [List.take_succ_eq_append_getElem hlt,List.sum_append,hn];simp
   have htot:(ls.take (i+1)).sum≤c.length:=by
    have h1:=qex c
    rw [← H1.out.2.2] at h1
    have h2:ls.sum=(ls.take (i+1)).sum+(ls.drop (i+1)).sum:=by rw [← List.sum_append,List.take_append_drop]
    omega
   have hn1:1≤n:=by rw [hn];have h1:=qly c i (by rw [← H1.out.2.2];exact hlt);simp only [← H1.out.2.2] at h1;exact h1.1
   obtain ⟨a,ha⟩:∃ a,a=(ls.take i).sum:=⟨_,rfl⟩
   rw [← ha] at hsum ⊢
   have hbk:(qav c).take (i+1)=(qav c).take i++[(c.drop a).take n]:=by
    have h1:i<(qav c).length:=by unfold qav;rw [qce,← H1.out.2.2];exact hlt
    have hce:(qav c)[i]=(c.drop a).take n:=by
     have h3:=qgf (qas c) c i (by rw [← H1.out.2.2];exact hlt)
     simp only [← H1.out.2.2,← ha,← hn] at h3
     refine Eq.trans ?_ h3
     unfold qav
     simp only [← H1.out.2.2]
    rw [List.take_succ_eq_append_getElem h1,hce]
   obtain ⟨bk,hbkd⟩:∃ bk,bk=(c.drop a).take n:=⟨_,rfl⟩
   have hbl:bk.length=n:=by rw [hbkd,List.length_take,List.length_drop];omega
   obtain ⟨g,off,hg,-⟩:=HH.out.2.1 _ _ HR.out.2.2.2 (by rw [List.length_map];omega)
   have hpart:qi7 csl ccap c ⟨.slice (some ⟨g,off+a,none⟩) n (ccap-a),bk⟩:=⟨g,off,a,hg,by simp only [hbl],by simp only [hbl];exact hbkd,by simp only [hbl];omega⟩
   rw [← hbkd] at hbk
   subst hg
   have hne:¬ ccap=a:=by omega
   have han:a+n≤ccap:=by omega
   have hHX:=Lib.hid (And.intro hsum (And.intro hbk (And.intro hpart (And.intro hbkd hbl))))
   have hx1:((a:Int)+n).toNat=a+n:=by omega
   have hx2:a+n-a=n:=by omega
   have ha9:a≤1000000:=by omega
   have hn9:n≤1000000:=by omega
   have HN:=Lib.hid hn
   clear hlcell hlc hsum hbk hpart hbkd hbl htot hn ha
   rename World=>W0
   go_wp2_with fail
   go_loopw [9,10] (fun th kk W2=>∃ (k:Nat) (b:Bool),k≤M'.length∧kk=.int .i64 k∧th=.bool b∧(b=true→bk∈M'.map (·.bs))∧(b=false→bk∉(M'.take k).map (·.bs))∧Same W0 W2) (fun _ kk _=>M'.length-(intOf kk).toNat)
   case atStart=>exact ⟨0,false,Nat.zero_le _,rfl,rfl,(fun h=>by cases h),(fun _=>by simp),Mods.refl _ _⟩
   case round =>
    obtain ⟨k,b,hk,rfl,rfl,hb1,hb2,hsm⟩:=hrel
    have hT:=HR.out.2.2.2.thenSame hsm
    have hcl':∀ (W:World) (G:HF),Turns F1 (G++(rowF 3 1 (.slice (some ⟨lg,loff,none⟩) ls.length lcap) ls.length (ls.map fun n:Nat=>Value.int .i64 n)++J)) w W→W.cell? ⟨lg,loff+i,none⟩=some (.int .i64 n):=by
     intro W G hTW
     obtain ⟨a',c',e',-,-,hc',-⟩:=qcq (hTW.sat.right.left) (HLV.out ▸ H1.out.1) (by decide)
     simp only [Value.slice.injEq,true_and] at e'
     obtain ⟨rfl,rfl⟩:=e'
     obtain ⟨g',o',e2,h2⟩:=hc' (by rw [List.length_map];omega)
     simp only [Option.some.injEq,Addr.mk.injEq,and_true] at e2
     obtain ⟨rfl,rfl⟩:=e2
     rw [h2 i (by rw [List.length_map];exact hlt),List.getElem_map,← HN.out]
    have hci':=hcl' _ _ hT
    have HCL:=Lib.hid hcl'
    have HB:=Lib.hid (And.intro hb1 (And.intro hb2 (And.intro hsm hT)))
    clear hb1 hb2 hsm hT hcl' hci hrc
    cases b with
    | true =>
     go_wp2_with fail
     all_goals refine ⟨⟨i+1,M',J,by omega,by go_num,by rw [hHX.out.1];go_num,HR.out.1,(by rw [hHX.out.2.1,qpm,HR.out.2.1.symm];unfold addB;rw [if_pos (HB.out.1 (by trivial))]),HR.out.2.2.1,HB.out.2.2.2⟩,?_⟩
     all_goals (simp [intOf];omega)
    | false =>
     by_cases hkm:k<M'.length
     ·obtain ⟨q,hq⟩:∃ q,q=M'[k]:=⟨_,rfl⟩
      obtain ⟨rsl2,rcap2,hrv2,-,-,hrc2⟩:=qk4 HB.out.2.2.2.sat.left HR.out.1
      simp only [Value.slice.injEq,true_and] at hrv2
      obtain ⟨rfl,rfl⟩:=hrv2
      have hown:=HR.out.1.2
      obtain ⟨rg,hrg⟩:∃ rg,rsl=some ⟨rg,0,none⟩:=by
       rcases (qbm HB.out.2.2.2.sat.left HR.out.1).2 with ⟨h1,h2⟩ | ⟨g1,cap1,cur1,h1,-⟩
       ·omega
       ·simp only [Value.slice.injEq] at h1;exact ⟨g1,h1.1⟩
      subst hrg
      obtain ⟨g',o',e2,h2⟩:=hrc2 (by rw [List.length_map];omega)
      simp only [Option.some.injEq,Addr.mk.injEq,and_true] at e2
      obtain ⟨rfl,rfl⟩:=e2
      have hqc:=h2 k (by rw [List.length_map];exact hkm)
      rw [List.getElem_map,← hq,Nat.zero_add] at hqc
      have hqa:SlAt wr q:=by
       rcases HR.out.2.2.1 q (hq ▸ List.getElem_mem hkm) with h3 | h3
       ·exact HH.out.1 _ _ HB.out.2.2.2 q h3
       ·exact h3.at (HH.out.2.1 _ _ HB.out.2.2.2) hcap hcap9
      have hbv:∃ sl cap,(.slice (some ⟨g,off+a,none⟩) n (ccap-a):Value)=.slice sl bk.length cap∧qaj wr sl (bk.map enc8):=by
       obtain ⟨sl,cap,e3,-,-,h4⟩:=hHX.out.2.2.1.at (HH.out.2.1 _ _ HB.out.2.2.2) hcap hcap9
       exact ⟨sl,cap,e3,h4⟩
      have HQ:=Lib.hid (And.intro hqc (And.intro hqa (And.intro hbv hq)))
      clear hqc hqa hbv hq h2 hrc2 hown
      go_wp2_with fail
      refine add11 (.slice (some ⟨rg,0,none⟩) M'.length rcap) M' q bk rg k rcap _ HQ.out.1 HQ.out.2.1 HQ.out.2.2.1 hkm ?_
      intro y38 y39 y40 y41 y42 y43 y44 y45 y9 w2 ⟨hy9,hw2⟩
      subst hy9
      subst hw2
      have hfin:∃ (k':Nat) (b':Bool),k'≤M'.length∧Value.int .i64 ((k:Int)+1)=.int .i64 k'∧Value.bool (decide (q.bs=bk))=.bool b'∧(b'=true→bk∈M'.map (·.bs))∧(b'=false→bk∉(M'.take k').map (·.bs))∧Same W0 wr.drew:=by
       refine ⟨k+1,decide (q.bs=bk),by omega,by go_num,rfl,fun h=>?_,fun h=>?_,HB.out.2.2.1.drew⟩
       ·rw [decide_eq_true_eq] at h
        exact List.mem_map.2 ⟨q,HQ.out.2.2.2 ▸ List.getElem_mem hkm,h⟩
       ·rw [decide_eq_false_iff_not] at h
        rw [List.take_succ_eq_append_getElem hkm,List.map_append,List.mem_append]
        rintro (h5 | h5)
        ·exact HB.out.2.1 (by trivial) h5
        ·simp only [List.map_cons,List.map_nil,List.mem_singleton] at h5
         rw [← HQ.out.2.2.2] at h5;exact h h5.symm
      have HF:=Lib.hid hfin
      clear hfin
      go_wp2_with fail
      go_roundw
      case rel=>exact HF.out
      case measure=>simp [intOf];omega
     ·obtain rfl:k=M'.length:=by omega
      have hnot:bk∉M'.map (·.bs):=by have:=HB.out.2.1 (by trivial);rwa [List.take_length] at this
      have HN2:=Lib.hid hnot
      clear hnot
      go_wp2_with ((at_builtin;refine qak rfl ?_;(refine qis (.tmp 48) (.tmp 50) rfl (.slice rsl M'.length rcap) (M'.map (·.val)) rfl (G:=rowF 3 1 (.slice (some ⟨lg,loff,none⟩) ls.length lcap) ls.length (ls.map fun n:Nat=>Value.int .i64 n)++J) ((by simpa [slRow] using HB.out.2.2.2.alloc _):Turns F1 _ w _) (by simpa [slOk] using HR.out.1) _ (.slice (some ⟨g,off+a,none⟩) n (ccap-a)) rfl rfl (qac (qa7 _ _) 0 rfl) (by rw [List.length_map];omega) ?_);intro v2 w2 hok2 hT2;have hci2:=HCL.out _ _ hT2;have H2:=Lib.hid (And.intro hok2 hT2);clear hok2 hT2))
      have hlast:slOk v2 (M'++[⟨.slice (some ⟨g,off+a,none⟩) n (ccap-a),bk⟩])∧Turns F1 (slRow v2 (M'++[⟨.slice (some ⟨g,off+a,none⟩) n (ccap-a),bk⟩])++(rowF 3 1 (.slice (some ⟨lg,loff,none⟩) ls.length lcap) ls.length (ls.map fun n:Nat=>Value.int .i64 n)++J)) w w2:=by
       have h1:=H2.out.1
       have h2:=H2.out.2
       unfold slOk slRow
       rw [show (M'++[(⟨.slice (some ⟨g,off+a,none⟩) n (ccap-a),bk⟩:SlB)]).map (·.val)=List.map SlB.val M'++[Value.slice (some ⟨g,off+a,none⟩) n (ccap-a)] by simp]
       rw [show (M'++[(⟨.slice (some ⟨g,off+a,none⟩) n (ccap-a),bk⟩:SlB)]).length=(List.map SlB.val M'++[Value.slice (some ⟨g,off+a,none⟩) n (ccap-a)]).length by simp]
       exact ⟨h1,h2⟩
      refine ⟨⟨i+1,M'++[⟨.slice (some ⟨g,off+a,none⟩) n (ccap-a),bk⟩],J,by omega,by go_num,by rw [hHX.out.1];go_num,hlast.1,(by rw [hHX.out.2.1,qpm,HR.out.2.1.symm];unfold addB;rw [if_neg HN2.out,List.map_append];rfl),(fun x hx=>by rcases List.mem_append.1 hx with h3 | h3;exact HR.out.2.2.1 x h3;exact .inr (List.mem_singleton.1 h3 ▸ hHX.out.2.2.1)),hlast.2⟩,?_⟩
      simp [intOf];omega
  ·obtain rfl:i=ls.length:=by omega
   clear hlc hrc
   go_wp2_with fail
   refine bodyPost_ret (results_tmp rfl _ _ _) rfl ⟨.slice rsl M'.length rcap,M',rfl,HR.out.1,?_,HR.out.2.2.1,?_⟩
   ·rw [HR.out.2.1,List.take_of_length_le (by unfold qav;rw [qce,← H1.out.2.2];exact Nat.le_refl _)]
   ·rw [← HV0.out,← HH.out.2.2.2.2];exact HR.out.2.2.2.drop (fun x=>by simp only [qaa];omega)
structure OpL where
 kind:Int
 a:Int
 b:Int
 c:Int
 s:Bs
 t:Bs
 dv:Value
 d:Bs
def opV (o:OpL):List Value:=[.int .i64 o.kind,.int .i64 o.a,.int .i64 o.b,.int .i64 o.c,str o.s,str o.t,o.dv]
def opsV (l:List OpL):List Value:=l.flatMap opV
def I63 (n:Int):Prop:=-9223372036854775808≤n∧n≤9223372036854775807
structure OpOk (w:World) (o:OpL):Prop where
 a:I63 o.a
 b:I63 o.b
 c:I63 o.c
 s:o.s.length≤1125899906842624
 t:o.t.length≤1125899906842624
 d:o.d.length≤1125899906842624
 dv:∃ sl cap,o.dv=.slice sl o.d.length cap∧o.d.length≤cap∧cap≤9223372036854775807∧qaj w sl (o.d.map enc8)
theorem qf9 (l:List OpL):(opsV l).length=l.length*7:=by
 induction l with
 | nil=>rfl
 | cons a r ih=>simp only [opsV,List.flatMap_cons,List.length_append,List.length_cons] at ih ⊢;rw [ih];simp [opV];omega
theorem qq6:∀ (l:List OpL) (i:Nat) (h:i<l.length) (j:Nat) (hj:j<7),(opsV l)[i*7+j]?=(opV l[i])[j]?
 | [],i,h,_,_=>by simp at h
 | a::r,0,_,j,hj=>by
  simp only [opsV,List.flatMap_cons,Nat.zero_mul,Nat.zero_add,List.getElem_cons_zero]
  rw [List.getElem?_append_left (by simpa [opV] using hj)]
 | a::r,i+1,h,j,hj=>by
  simp only [opsV,List.flatMap_cons,List.getElem_cons_succ]
  rw [List.getElem?_append_right (by simp [opV];omega),show (i+1)*7+j-(opV a).length=i*7+j by simp [opV];omega]
  exact qq6 r i (by simpa using h) j hj
theorem op_at {w:World} {sl:Option Addr} {l:List OpL} (h:qaj w sl (opsV l)) {i:Nat} (hi:i<l.length):∃ g off,sl=some ⟨g,off,none⟩ ∧
  w.cell? ⟨g,off+i*7,none⟩=some (.int .i64 l[i].kind)∧w.cell? ⟨g,off+i*7+1,none⟩=some (.int .i64 l[i].a)∧w.cell? ⟨g,off+i*7+2,none⟩=some (.int .i64 l[i].b)∧w.cell? ⟨g,off+i*7+3,none⟩=some (.int .i64 l[i].c) ∧
  w.cell? ⟨g,off+i*7+4,none⟩=some (str l[i].s)∧w.cell? ⟨g,off+i*7+5,none⟩=some (str l[i].t)∧w.cell? ⟨g,off+i*7+6,none⟩=some l[i].dv:=by
 obtain ⟨g,off,e,hc⟩:=h (by rw [qf9];omega)
 have key:∀ j (hj:j<7) (v:Value),(opV l[i])[j]?=some v→w.cell? ⟨g,off+i*7+j,none⟩=some v:=by
  intro j hj v hv
  have h1:=hc (i*7+j) (by rw [qf9];omega)
  rw [← Nat.add_assoc] at h1
  rw [h1]
  have h2:=qq6 l i hi j hj
  rw [hv,List.getElem?_eq_getElem (by rw [qf9];omega)] at h2
  exact h2
 exact ⟨g,off,e,key 0 (by omega) _ rfl,key 1 (by omega) _ rfl,key 2 (by omega) _ rfl,key 3 (by omega) _ rfl,key 4 (by omega) _ rfl,key 5 (by omega) _ rfl,key 6 (by omega) _ rfl⟩
def opLen (o:OpL):Nat:=o.s.length+o.t.length+o.d.length
def qdn (l:List OpL):Nat:=(l.map opLen).sum
def qg2 (l:List OpL):Bool:=decide (l.length≤400)&&decide (qdn l≤60000)
theorem qny {l:List OpL} {k:Nat} (h:k<l.length):qdn (l.take (k+1))=qdn (l.take k)+opLen l[k]:=by
 unfold qdn;rw [List.take_succ_eq_append_getElem h,List.map_append,List.sum_append];simp
theorem qr2 (l:List OpL) (k:Nat):qdn (l.take k)≤qdn l:=by
 unfold qdn
 have:(l.map opLen).sum=((l.take k).map opLen).sum+((l.drop k).map opLen).sum:=by rw [← List.sum_append,← List.map_append,List.take_append_drop]
 omega
theorem qwk (l:List OpL) (sl:Option Addr) (cap:Nat) (w:World) (h:qaj w sl (opsV l)) (hok:∀ o∈l,OpOk w o) (hcap:l.length≤1125899906842624) :
  Calls Tryz.prog 13 #[.slice sl l.length cap] w (fun e w'=>e=.returned (.bool (qg2 l))∧Same w w'):=by
 have HH:=Lib.hid (And.intro h hok)
 clear h hok
 go_enter Tryz.func13,Tryz.ntmps13
 by_cases h4:400<l.length
 ·have hfin:qg2 l=false:=by unfold qg2;rw [decide_eq_false (by omega)];rfl
  have HF:=Lib.hid hfin
  clear hfin
  go_wp2_with fail
  exact bodyPost_ret (results_tmp rfl _ _ _) rfl ⟨by rw [HF.out];rfl,Mods.refl _ _⟩
 ·go_wp2_with fail
  go_loopw [3,4] (fun n i wr=>∃ k:Nat,k≤l.length∧i=.int .i64 k∧n=.int .i64 (qdn (l.take k):Nat)∧qdn (l.take k)≤60000∧Same w wr) (fun _ i _=>l.length-(intOf i).toNat)
  case atStart=>exact ⟨0,Nat.zero_le _,rfl,rfl,by simp [qdn],Mods.refl _ _⟩
  case round =>
   obtain ⟨k,hk,rfl,rfl,hle,hs⟩:=hrel
   by_cases hlt:k<l.length
   ·obtain ⟨g,off,hg,-,-,-,-,h5,h6,h7⟩:=op_at (HH.out.1.keep hs (fun _ _ _=>id)) hlt
    have hoo:=HH.out.2 l[k] (List.getElem_mem hlt)
    obtain ⟨dsl,dcap,hdv,-,-,-⟩:=hoo.dv
    rw [hdv] at h7
    have hnx:=qny hlt
    have hb1:=hoo.s
    have hb2:=hoo.t
    have hb3:=hoo.d
    unfold opLen at hnx
    subst hg
    obtain ⟨os,hos⟩:∃ os,os=l[k].s:=⟨_,rfl⟩
    obtain ⟨ot,hot⟩:∃ ot,ot=l[k].t:=⟨_,rfl⟩
    obtain ⟨od,hod⟩:∃ od,od=l[k].d:=⟨_,rfl⟩
    rw [← hos] at h5 hnx hb1
    rw [← hot] at h6 hnx hb2
    rw [← hod] at h7 hnx hb3
    obtain ⟨n,hn⟩:∃ n,n=qdn (l.take k):=⟨_,rfl⟩
    rw [← hn] at hnx hle ⊢
    have hw1:wrap64 ((n:Int)+os.length)=(n:Int)+os.length:=IntWalk.wrap64_in _ (by omega)
    have hw2:wrap64 ((n:Int)+os.length+ot.length)=(n:Int)+os.length+ot.length:=IntWalk.wrap64_in _ (by omega)
    have hw3:wrap64 ((n:Int)+os.length+ot.length+od.length)=(n:Int)+os.length+ot.length+od.length:=IntWalk.wrap64_in _ (by omega)
    have HX:=Lib.hid (And.intro hnx hs)
    have hk4:k≤400:=by omega
    clear hnx hs hoo hdv hos hot hod hn
    by_cases hbig:(60000:Int)<(n:Int)+os.length+ot.length+od.length
    ·have hfin:qg2 l=false:=by
      unfold qg2
      have h1:=qr2 l (k+1)
      rw [HX.out.1] at h1
      rw [decide_eq_false (p:=qdn l≤60000) (by omega),Bool.and_false]
     have HF:=Lib.hid hfin
     clear hfin
     go_upto_region 7 with (fail)
     go_quiet (fail)
     go_wp2_with fail
     exact bodyPost_ret (results_tmp rfl _ _ _) rfl ⟨by rw [HF.out];rfl,HX.out.2.drewN _⟩
    ·have hbig':¬ (n:Int)+os.length+ot.length+od.length>60000:=hbig
     go_upto_region 7 with (fail)
     go_quiet (fail)
     go_wp2_with fail
     go_roundw
     case rel=>exact ⟨k+1,by omega,by go_num,by rw [HX.out.1];go_num,by rw [HX.out.1];omega,HX.out.2.drewN _⟩
     case measure=>simp [intOf];omega
   ·obtain rfl:k=l.length:=by omega
    rw [List.take_length] at hle
    have hfin:qg2 l=true:=by unfold qg2;rw [decide_eq_true (by omega),decide_eq_true hle];rfl
    have HF:=Lib.hid hfin
    clear hfin
    go_wp2_with fail
    exact bodyPost_ret (results_tmp rfl _ _ _) rfl ⟨by rw [HF.out];rfl,hs⟩
theorem q2t {w:World} {sl:Option Addr} {l:List EntL} (h:qaj w sl (l.flatMap entV)) {i:Nat} (hi:i<l.length):∃ g off,sl=some ⟨g,off,none⟩ ∧
  w.cell? ⟨g,off+i*4,none⟩=some (str l[i].p)∧w.cell? ⟨g,off+i*4+1,none⟩=some (.int .i64 l[i].latest)∧w.cell? ⟨g,off+i*4+2,none⟩=some (.int .i64 l[i].size)∧w.cell? ⟨g,off+i*4+3,none⟩=some (.int .i64 l[i].n):=by
 obtain ⟨g,off,e,hc⟩:=h (by rw [qee];omega)
 have key:∀ j (hj:j<4) (v:Value),(entV l[i])[j]?=some v→w.cell? ⟨g,off+i*4+j,none⟩=some v:=by
  intro j hj v hv
  have h1:=hc (i*4+j) (by rw [qee];omega)
  rw [← Nat.add_assoc] at h1
  rw [h1]
  have h2:=qln l (i*4+j) (by omega)
  rw [show (i*4+j) / 4=i by omega,show (i*4+j)%4=j by omega] at h2
  simp only [List.getElem!_toArray,getElem!_pos l i hi] at h2
  rw [List.getElem?_eq_getElem (by rw [qee];omega)] at h2
  rw [h2]
  have:(entV l[i])[j]! = v := by
   rw [List.getElem!_eq_getElem?_getD,hv];rfl
  rw [this]
 exact ⟨g,off,e,key 0 (by omega) _ rfl,key 1 (by omega) _ rfl,key 2 (by omega) _ rfl,key 3 (by omega) _ rfl⟩
def qn0 (es rs:List EntL) (w:World) (e:Ending) (w':World):Prop:=∃ b,e=.returned (.bool b)∧(es=rs→b=true)∧Same w w'
theorem qic (es rs:List EntL) (a1 a2:Option Addr) (c1 c2:Nat) (w:World) (h1:qaj w a1 (es.flatMap entV)) (h2:qaj w a2 (rs.flatMap entV)) (hx:es.length≤1000000) (hy:rs.length≤1000000) :
  Calls Tryz.prog 91 #[.slice a1 es.length c1,.slice a2 rs.length c2] w (qn0 es rs w):=by
 have HH:=Lib.hid (And.intro h1 h2)
 clear h1 h2
 go_enter Tryz.func91,Tryz.ntmps91
 by_cases hl:es.length=rs.length
 ·have hlI:((es.length:Int) != (rs.length:Int))=false:=by simp [hl]
  have HL:=Lib.hid hl
  clear hl
  go_wp2_with fail
  go_loopw [5] (fun i wr=>∃ k:Nat,k≤es.length∧i=.int .i64 k∧Same w wr) (fun i _=>es.length-(intOf i).toNat)
  case atStart=>exact ⟨0,Nat.zero_le _,rfl,Mods.refl _ _⟩
  case round =>
   obtain ⟨k,hk,rfl,hs⟩:=hrel
   by_cases hlt:k<es.length
   ·obtain ⟨g,off,hg,p0,p1,p2,p3⟩:=q2t (HH.out.1.keep hs (fun _ _ _=>id)) hlt
    obtain ⟨g',off',hg',q0,q1,q2,q3⟩:=q2t (HH.out.2.keep hs (fun _ _ _=>id)) (i:=k) (by rw [← HL.out];exact hlt)
    have hkr:k<rs.length:=by rw [← HL.out];exact hlt
    subst hg
    subst hg'
    obtain ⟨x,hxd⟩:∃ x,x=es[k]:=⟨_,rfl⟩
    obtain ⟨y,hyd⟩:∃ y,y=rs[k]:=⟨_,rfl⟩
    rw [← hxd] at p0 p1 p2 p3
    rw [← hyd] at q0 q1 q2 q3
    obtain ⟨xp,xl,xs,xn⟩:=x
    obtain ⟨yp,yl,ys,yn⟩:=y
    simp only at p0 p1 p2 p3 q0 q1 q2 q3
    have HX:=Lib.hid (And.intro hxd (And.intro hyd hs))
    clear hxd hyd hs
    have hno:∀ (h:¬ (⟨xp,xl,xs,xn⟩:EntL)=⟨yp,yl,ys,yn⟩) (W:World),Same w W→qn0 es rs w (.returned (.bool false)) W:=fun h W hW=>⟨false,rfl,fun he=>by
     exfalso
     apply h
     have e1:=HX.out.1
     have e2:=HX.out.2.1
     subst he
     rw [e1,e2],hW⟩
    have HNO:=Lib.hid hno
    clear hno
    by_cases c1:xp=yp
    ·have c1':=c1.symm
     clear c1
     subst c1'
     by_cases c2:xl=yl
     ·subst c2
      by_cases c3:xs=ys
      ·subst c3
       by_cases c4:xn=yn
       ·subst c4
        go_upto_region 6 with (fail)
        go_quiet (fail)
        go_wp2_with fail
        go_roundw
        case rel=>exact ⟨k+1,by omega,by go_num,HX.out.2.2.drewN _⟩
        case measure=>simp [intOf];omega
       ·have d4:(xn != yn)=true:=by simp [c4]
        go_upto_region 6 with (fail)
        go_quiet (fail)
        go_wp2_with fail
        refine bodyPost_ret (results_tmp rfl _ _ _) rfl ?_;exact HNO.out (by simp [c4]) _ (HX.out.2.2.drewN _)
      ·have d3:(xs != ys)=true:=by simp [c3]
       go_upto_region 6 with (fail)
       go_quiet (fail)
       go_wp2_with fail
       refine bodyPost_ret (results_tmp rfl _ _ _) rfl ?_;exact HNO.out (by simp [c3]) _ (HX.out.2.2.drewN _)
     ·have d2:(xl != yl)=true:=by simp [c2]
      go_upto_region 6 with (fail)
      go_quiet (fail)
      go_wp2_with fail
      refine bodyPost_ret (results_tmp rfl _ _ _) rfl ?_;exact HNO.out (by simp [c2]) _ (HX.out.2.2.drewN _)
    ·have d1:(xp==yp)=false:=by simp [c1]
     go_upto_region 6 with (fail)
     go_quiet (fail)
     go_wp2_with fail
     refine bodyPost_ret (results_tmp rfl _ _ _) rfl ?_;exact HNO.out (by simp [c1]) _ (HX.out.2.2.drewN _)
   ·obtain rfl:k=es.length:=by omega
    go_wp2_with fail
    exact bodyPost_ret (results_tmp rfl _ _ _) rfl ⟨true,rfl,fun _=>rfl,hs⟩
 ·have hlI:((es.length:Int) != (rs.length:Int))=true:=by simp;omega
  go_wp2_with fail
  exact bodyPost_ret (results_tmp rfl _ _ _) rfl ⟨false,rfl,fun he=>by subst he;exact absurd rfl hl,Mods.refl _ _⟩
structure WS where
 U:WorldL
 S:AS
 R:RefL
 P:Pool
 M:List SlB
 O:Bs
def qay (X:WS):HF:=poolF X.P++(slRow X.U.most X.M++bRow X.U.out X.O)
def wsF (X:WS):HF:=(X.U.blk,Is (qao X.U))::(arF X.S++(refF X.R++qay X))
def SlSt (w0:World) (P:Pool) (x:SlB):Prop:=SlAt w0 x∨∃ p∈P,∃ sl cap,p.1=.slice sl p.2.length cap∧p.2.length≤cap∧cap≤9223372036854775807∧qi7 sl cap p.2 x
def qf7 (P:Pool) (v:Value) (b:Bs):Prop:=∃ sl cap,v=.slice sl b.length cap∧(b=[]∨∃ p∈P,∃ g off c k,p.1=.slice (some ⟨g,off,none⟩) p.2.length c∧sl=some ⟨g,off+k,none⟩∧b=(p.2.drop k).take b.length)
theorem SlSt.at {w0 W:World} {P:Pool} {G:HF} {x:SlB} (h:SlSt w0 P x) (hT:Turns [] G w0 W) (hp:Sat W (poolF P)) (hok:qki P):SlAt W x:=by
 rcases h with ⟨sl,cap,e,h1,h2,hc⟩ | ⟨p,hm,sl,cap,e,h1,h2,h3⟩
 ·exact ⟨sl,cap,e,h1,h2,hc.turns (by exact hT)⟩
 ·obtain ⟨sl',cap',e',h1',hc,-⟩:=qf2 hok hp (v:=p.1) (l:=p.2) hm
  rw [e] at e'
  simp only [Value.slice.injEq,true_and] at e'
  obtain ⟨rfl,rfl⟩:=e'
  exact h3.at hc h1 h2
theorem qf7.at {W:World} {P:Pool} {v:Value} {b:Bs} (h:qf7 P v b) (hp:Sat W (poolF P)) (hok:qki P):∃ sl cap,v=.slice sl b.length cap∧qaj W sl (b.map enc8):=by
 obtain ⟨sl,cap,e,h1⟩:=h
 refine ⟨sl,cap,e,?_⟩
 rcases h1 with rfl | ⟨p,hm,g,off,c,k,e1,e2,e3⟩
 ·exact qbr _ _
 ·obtain ⟨sl',cap',e',h1',hc,-⟩:=qf2 hok hp (v:=p.1) (l:=p.2) hm
  rw [e1] at e'
  simp only [Value.slice.injEq,true_and] at e'
  obtain ⟨rfl,rfl⟩:=e'
  have hle:b.length≤p.2.length-k:=by
   have:=congrArg List.length e3
   rw [List.length_take,List.length_drop] at this
   omega
  intro hpos
  rw [List.length_map] at hpos
  have hpart:qi7 (some ⟨g,off,none⟩) (b.length+k) p.2 ⟨.slice (some ⟨g,off+k,none⟩) b.length b.length,b⟩:=⟨g,off,k,rfl,by simp,e3,by simp only;omega⟩
  subst e2
  refine ⟨g,off+k,rfl,fun j hj=>?_⟩
  rw [List.length_map] at hj
  obtain ⟨g',off',e5,h5⟩:=hc (by rw [List.length_map];omega)
  simp only [Option.some.injEq,Addr.mk.injEq,and_true] at e5
  obtain ⟨rfl,rfl⟩:=e5
  rw [Nat.add_assoc,h5 (k+j) (by rw [List.length_map];omega)]
  simp only [List.getElem_map]
  congr 2
  have:b[j]?=p.2[k+j]?:=by rw [e3,List.getElem?_take,if_pos hj,List.getElem?_drop]
  rw [List.getElem?_eq_getElem hj,List.getElem?_eq_getElem (by omega)] at this
  exact (Option.some.inj this).symm
theorem SlSt.grow {w0:World} {P P':Pool} {x:SlB} (h:SlSt w0 P x) (hp:∀ x∈P,x∈P'):SlSt w0 P' x:=h.imp id (fun ⟨p,hm,r⟩=>⟨p,hp p hm,r⟩)
theorem qf7.grow {P P':Pool} {v:Value} {b:Bs} (h:qf7 P v b) (hp:∀ x∈P,x∈P'):qf7 P' v b:=by
 obtain ⟨sl,cap,e,h1⟩:=h
 exact ⟨sl,cap,e,h1.imp id (fun ⟨p,hm,r⟩=>⟨p,hp p hm,r⟩)⟩
theorem qhg (P:Pool):qf7 P (.slice none 0 0) []:=⟨none,0,rfl,.inl rfl⟩
structure WsOk (w0 W:World) (X:WS):Prop where
 turns:Turns [] (wsF X) w0 W
 a:X.U.a=some X.S.a
 r:X.U.r=X.R.blk
 d:X.U.d=X.S.X.d
 ar:ArOk X.S
 ref:RefOk X.R
 pok:qki X.P
 inp:RefIn X.P X.R
 out:bOk X.U.out X.O
 want:qf7 X.P X.U.want X.O
 most:slOk X.U.most X.M
 ms:∀ x∈X.M,SlSt w0 X.P x
 link:Link X.S X.R
 olen:X.O.length≤4000
theorem WsOk.pool {w0 W:World} {X:WS} (h:WsOk w0 W X):Sat W (poolF X.P):=h.turns.sat.tail.right.right.left
theorem WsOk.refAt' {w0 W W':World} {X:WS} (h:WsOk w0 W X) (hl:X.R.vs.length≤100000) (hs:Sat W' (refF X.R++qay X)):RefAt X.R X.P W' :=
 ⟨hs.left,h.ref,hs.right.left,h.pok,h.inp,hl,fun v hv=>by have:=(h.link.each v hv).2.2;omega⟩
def oO (o:OpL):Obj:=.cells (opV o).toArray 65 (0,0)
def opA (o:OpL):Value:=.agg (opV o).toArray
def outX (X:WS) (sp:List (Nat×Nat×Nat)) (ov wv:Value) (D:Bs):WS:={ X with U:={ X.U with out:=ov,want:=wv },S:=qda X.S sp,O:=D }
theorem q2s {W:World} {P:Pool} (hp:Sat W (poolF P)) (hok:qki P) {v:Value} {l:Bs} (hm:(v,l)∈P):qf7 P v l:=by
 obtain ⟨sl,cap,e,-,hc,-⟩:=qf2 hok hp hm
 refine ⟨sl,cap,e,?_⟩
 by_cases hl:l=[]
 ·exact .inl hl
 ·obtain ⟨g,off,e2,-⟩:=hc (by rw [List.length_map];exact List.length_pos_iff.2 hl)
  exact .inr ⟨_,hm,g,off,cap,0,by rw [e,e2],by rw [e2];rfl,by simp⟩
def AnyP (n:Nat) (o:Obj):Prop:=∃ cs:Array Value,o=.cells cs 5 (0,0)∧n≤cs.size∧∀ j,j<n→∃ x:Int,cs[j]?=some (.int .u8 x)
theorem qxm {F G:HF} {a w:World} {v:Value} {D:Bs} (h:Turns F (bRow v D++G) a w) (hok:bOk v D) (hne:D≠[]):∃ g cap,v=.slice (some ⟨g,0,none⟩) D.length cap∧Turns F ((g,AnyP D.length)::G) a w:=by
 rcases (bOwns h.sat.left hok).2 with ⟨_,h2⟩ | ⟨g,cap,cur,rfl,-⟩
 ·exact absurd (List.length_eq_zero_iff.1 h2) hne
 ·have hT':Turns F ((g,fun o=>∃ cap' cur,(.slice (some ⟨g,0,none⟩) D.length cap:Value)=.slice (some ⟨g,0,none⟩) D.length cap'∧o=.cells cur 5 (0,0)∧D.length≤cap'∧cap'≤maxLen∧cur.size=cap'*1∧cur.toList.take (D.length*1)=D.map enc8)::G) a w:=h
  obtain ⟨o',⟨cap',cur,hv,rfl,h3,h4,h5,h6⟩,hp⟩:=hT'.pin
  refine ⟨g,cap,rfl,hp.unpin ⟨cur,rfl,by omega,fun j hj=>?_⟩⟩
  have e1:cur[j]?=(D.map enc8)[j]?:=by rw [← h6,List.getElem?_take,if_pos (by omega),Array.getElem?_toList]
  rw [e1,List.getElem?_map,List.getElem?_eq_getElem hj]
  exact ⟨_,rfl⟩
theorem qx0 {F G:HF} {a w:World} {g n:Nat} (h:Turns F ((g,AnyP n)::G) a w) (k:Nat) (y:Int):Turns F ((g,AnyP n)::G) a (w.setCell ⟨g,k,none⟩ (.int .u8 y)):=by
 obtain ⟨o,⟨cs,rfl,h1,h2⟩,hp⟩:=h.pin
 refine (hp.putIs ((Mods.refl (fun k=>k=g) w).set1 _) (qbf hp.sat.headIs k _)).unpin ⟨_,rfl,by simpa using h1,fun j hj=>?_⟩
 obtain ⟨x,hx⟩:=h2 j hj
 by_cases hjk:j=k
 ·subst hjk
  exact ⟨y,by rw [Array.getElem?_setIfInBounds_self_of_lt (by omega)]⟩
 ·exact ⟨x,by rw [Array.getElem?_setIfInBounds_ne (by omega)];exact hx⟩
theorem quh {F G:HF} {a w:World} {g n:Nat} (h:Turns F ((g,AnyP n)::G) a w) {k:Nat} (hk:k<n):∃ x:Int,w.cell? ⟨g,k,none⟩=some (.int .u8 x)∧w.frozen? ⟨g,k,none⟩=false∧g<w.heap.size:=by
 obtain ⟨o,⟨cs,rfl,h1,h2⟩,hp⟩:=h.pin
 obtain ⟨x,hx⟩:=h2 k hk
 exact ⟨x,qac hp.sat.headIs k hx,qa9 hp.sat.headIs k,qal hp.sat.headIs⟩
theorem WsOk.outTo {w0 W W':World} {X:WS} (h:WsOk w0 W X) {sp:List (Nat×Nat×Nat)} (hA:AreaOk { X.S.A with spare:=sp }) {ov wv:Value} {D:Bs} (hov:bOk ov D) (hwv:qf7 X.P wv D) (hD:D.length≤4000)
  (hT:Turns [] (wsF (outX X sp ov wv D)) w0 W'):WsOk w0 W' (outX X sp ov wv D) where
 turns:=hT
 a:=h.a
 r:=h.r
 d:=h.d
 ar:=h.ar.spare hA
 ref:=h.ref
 pok:=h.pok
 inp:=h.inp
 out:=hov
 want:=hwv
 most:=h.most
 ms:=h.ms
 link:=h.link.spare sp
 olen:=hD
theorem qcr (n:Int) (w:World):Calls Tryz.prog 41 #[.int .i64 n] w (fun e w'=>e=.returned (.int .i64 n)∧w'=w):=by
 go_enter Tryz.func41,Tryz.ntmps41
 go_wp2_with fail
 exact bodyPost_ret (results_tmp rfl _ _ _) rfl ⟨rfl,rfl⟩
end Go.Proofs.YtdhobpbngkainaaGreatDoor
