/- Ours. A part of the proof, made small by a program. -/
import Derived.Test.YtdhobpbngkainaaGreatDoorFl07
set_option maxRecDepth 100000
set_option maxHeartbeats 4000000
namespace Go.Proofs.YtdhobpbngkainaaGreatDoor
open List
section
open Go.RowKit
def ud(l:Bs)(first:Nat)(b:Bs):Bs:=if b=[]then l else aV l (128*first) (iC b)
theorem AC{l b:Bs}{first count:Nat}(hl:128*(first+count)<=l.length)(hb:b.length<=128*count):au (ud l first b) first count=iC b++(au l first count).drop (iC b).length:=by
 unfold ud;by_cases h:b=[]
 ·rw[if_pos h,h];simp[iC,ak]
 ·rw[if_neg h];have hp:=e9 b;have:=pY (l:=l) (s:=iC b) (first:=first) (count:=count) (q:=0) (by omega) hl;rw[Nat.add_zero,Nat.mul_zero]at this;rw[this];simp[aV]
theorem FY{l b:Bs}{first count:Nat}(hl:128*(first+count)<=l.length)(hb:b.length<=128*count):∀f2 c2,(f2+c2<=first\/first+count<=f2)->au (ud l first b) f2 c2=au l f2 c2:=fun f2 c2 hd=>by
 unfold ud
 split
 ·rfl
 ·have hp:=e9 b
  have:=jZ (l:=l) (s:=iC b) (first:=first) (count:=count) (q:=0) (f2:=f2) (c2:=c2) (by omega) hl hd
  rw[Nat.add_zero]at this;exact this
theorem J8{l b:Bs}{first count:Nat}(hl:128*(first+count)<=l.length)(hb:b.length<=128*count)(m:Nat)(hm:b.length / 128+m<count)(he:aC (b++(au l first count).drop b.length) (b.length / 128+m)=(if m=0 then(((b++(au l first count).drop b.length).take b.length).drop (128*(b.length / 128))++ak (128-b.length%128))else ak 128)):
  aC (ud l first b) (first+(b.length / 128+m))=(if m=0 then(((b++(au l first count).drop b.length).take b.length).drop (128*(b.length / 128))++ak (128-b.length%128))else ak 128):=by
 rw[<- lW hm,AC hl hb];have hp:=e9 b;rcases Nat.lt_or_ge (128*(b.length / 128+m)) (iC b).length with h|h
 ·have h0:m=0:=by omega
  subst h0;rw[if_pos rfl,take_left];unfold aC;rw[Nat.add_zero,drop_append_of_le_length (by omega),take_append_of_le_length (by rw[length_drop];omega)];have hmod:b.length%128≠0:=by omega
  unfold iC;rw[drop_append_of_le_length (by omega),show(128-b.length%128)%128=128-b.length%128 by omega];exact take_of_length_le (by rw[length_append,length_drop,an];omega)
 ·rw[<- he];have hge:b.length<=128*(b.length / 128+m):=by omega
  unfold aC;rw[drop_append,drop_append,drop_of_length_le h,drop_of_length_le hge,drop_drop,drop_drop];rw[show(iC b).length+(128*(b.length / 128+m)-(iC b).length)=b.length+(128*(b.length / 128+m)-b.length) by omega]
end
section
open Go.RowKit Go.Maps
theorem zL{W:World}{g cap:Nat}{ws:Bs}(h:Sat W (aI (.slice (some ⟨g,0,none⟩) ws.length cap) ws)):∃cur:List Value,W.heap[g]?=some (.cells cur.toArray 5 (0,0))/\ws.length<=cur.length/\cur.length<=9223372036854775807/\cur.length=cap/\cur.take ws.length=ws.map am:=by
 obtain⟨ob,hg,c,cur,he,rfl,h1,h2,h3,h4⟩:=h.head;have hc:cap=c:=by injection he
 subst hc;have hs:cur.toList.length=cap:=by simpa using h3
 exact⟨cur.toList,by simpa using hg,by omega,by unfold maxLen at h2;omega,hs,by simpa using h4⟩
theorem Ie{F G:HF}{A W W':World}{g cap:Nat}{ws b:Bs}{cur:List Value}(hT:Turns F (aI (.slice (some ⟨g,0,none⟩) ws.length cap) ws++G) A W)(hg:W.heap[g]?=some (.cells cur.toArray 5 (0,0)))(hb:b.length<=ws.length)(hM:Mods (fun k=>k=g) W W')(h':W'.heap[g]?=some (.cells (splice cur 0 (b.map am)).toArray 5 (0,0))):Turns F (aI (.slice (some ⟨g,0,none⟩) ws.length cap) (b++ws.drop b.length)++G) A W':=by
 obtain⟨cur',hg',h1,h2,h3,h4⟩:=zL hT.sat.left;rw[hg]at hg';obtain rfl:cur=cur':=by simpa using hg'
 have hl:(b++ws.drop b.length).length=ws.length:=by simp;omega
 have e:∀l:Bs,l.length=ws.length->aI (.slice (some ⟨g,0,none⟩) ws.length cap) l=[(g,fun o=>∃c cu,Value.slice (some ⟨g,0,none⟩) ws.length cap=.slice (some ⟨g,0,none⟩) ws.length c/\o=.cells cu 5 (0,0)/\ws.length<=c/\c<=maxLen/\cu.size=c*1/\cu.toList.take (ws.length*1)=l.map am)]:=fun l hl=>by unfold aI;rw[hl];rfl
 rw[e _ rfl]at hT;rw[e _ hl];refine Turns.put hT hM h' ⟨cap,_,rfl,rfl,by omega,by unfold maxLen;omega,?_,?_⟩
 ·simp[splice];omega
 ·simp only[splice,take_zero,nil_append,Nat.zero_add,length_map,Nat.mul_one,map_append,map_drop,<- h4];rw[drop_take,take_append,length_map,take_of_length_le (by rw[length_map];omega)]
theorem kq{w:World}{sl:Option Addr}{cap:Nat}{b:Bs}(h:Sat w (aI (.slice sl b.length cap) b))(hok:bOk (.slice sl b.length cap) b):al w sl (b.map am):=by
 obtain⟨a,c,e,-,-,hc,-⟩:=bC h hok (by decide);simp only[Value.slice.injEq,true_and]at e;rw[e.1];exact hc
theorem J0{k:Nat}(h:(k:Int)<9223372036854775808):IntKind.i64.wrap (k:Int)=k:=IntWalk.i64_in _ (by omega)
theorem DE(k:Nat)(hk:k<4294967296)(w:World):(convert 116 3 (.int .u32 k)).run Tryz.prog w=.ok (.int .i64 k) w:=by
 simp[convert,run_underlying Tryz.underlying3,run_underlying Tryz.underlying116,Conv.intToInt,J0 (show(k:Int)<9223372036854775808 by omega)]
theorem J9{l b:Bs}{first:Nat}:(if b=[]then l else aV l (128*(first+([]:Bs).length / 128)) (iC (([]++b:Bs).drop (128*(([]:Bs).length / 128)))))=ud l first b:=by simp[ud]
theorem Kp{l l0 s b:Bs}{r first count:Nat}(hl:256<=l.length)(hs:s.length=128)(h2:r<2/\2<=first)(h:eB l first count b/\∀f2 c2,(f2+c2<=first\/first+count<=f2)->au l f2 c2=au l0 f2 c2):
  eB (aV l (128*r) s) first count b/\aC (aV l (128*r) s) r=s/\∀f2 c2,(f2+c2<=first\/first+count<=f2)->(f2+c2<=r\/r+1<=f2)->au (aV l (128*r) s) f2 c2=au l0 f2 c2:=by
 have ho:∀f2 c2,(f2+c2<=r\/r+1<=f2)->au (aV l (128*r) s) f2 c2=au l f2 c2:=fun f2 c2 hd=>by
  have:=jZ (l:=l) (s:=s) (first:=r) (count:=1) (q:=0) (f2:=f2) (c2:=c2) (by omega) (by omega) hd;rw[Nat.add_zero]at this;exact this
 refine⟨⟨by rw[ho _ _ (.inr (by omega))];exact h.1.1,h.1.2⟩,?_,fun f2 c2 hd hd2=>by rw[ho _ _ hd2];exact h.2 f2 c2 hd⟩;have:=pY (l:=l) (s:=s) (first:=r) (count:=1) (q:=0) (by omega) (by omega);rw[Nat.add_zero]at this;rw[show aC (aV l (128*r) s) r=au (aV l (128*r) s) r 1 from rfl,this];have h1:(au l r 1).length=128:=by unfold au;rw[length_take,length_drop];omega
 unfold aV;rw[Nat.mul_zero,take_zero,nil_append,Nat.zero_add,drop_of_length_le (by omega),append_nil]
def G0(a tb d:Nat)(X:ArchL)(T:AreaL)(L:DevL)(vb:Value)(b:Bs)(w:World)(e:Ending)(w':World):Prop :=
 e=.returned .nilIface/\∃L',Turns ((a,Is (aH X))::(aq tb d T++(az d L++aI vb b))) ((a,Is (aH X))::(aq tb d { T with end_:=b.length,tail:=bL b }++(az d L'++aI vb b))) w w' /\
  DevOk L'/\L'.n=L.n/\L'.safe=L'.now/\L'.chs=[]/\eB L'.now T.first T.count b/\aC L'.now ((X.ep+1)%2)=bi (X.ep+1) b.length /\
  ∀f2 c2,(f2+c2<=T.first\/T.first+T.count<=f2)->(f2+c2<=(X.ep+1)%2\/(X.ep+1)%2+1<=f2)->au L'.now f2 c2=au L.now f2 c2
theorem C8(a tb d:Nat)(X:ArchL)(T:AreaL)(L:DevL)(vb:Value)(b:Bs)(w:World)(h:Sat w ((a,Is (aH X))::(aq tb d T++(az d L++aI vb b))))(hX:X.d=d)(hep:X.ep+1<4294967296)(hL:DevOk L)(hn:16<=L.n)(hn2:L.n<=1073741824)(hT:T.first+T.count<=L.n)(hT2:2<=T.first)(hT0:0<T.count)(hTe:T.end_=0)(hTt:T.tail=ak 128)(hTo:AreaOk T)(hvb:bOk vb b)(hb:b.length<=128*T.count)(hb2:b.length<4294967296)(hch:L.chs.length+b.length<=137438953472):
  Calls Tryz.prog 120 #[.pointer (some ⟨a,0,none⟩),.pointer (some ⟨tb,0,none⟩),vb] w (G0 a tb d X T L vb b w):=by
 obtain⟨bsl,bcap,hbv,hbc,hbc2,hbcells,hbown⟩:=bC h.tail.right.right hvb (by decide);subst hbv;have hwl:=fG hL.nowL (first:=T.first) (k:=T.count) hT;obtain⟨ws,hws⟩:∃ws,ws=au L.now T.first T.count:=⟨_,rfl⟩
 rw[<- hws]at hwl;have hbw:b.length<=ws.length:=by omega
 have hw0:0<ws.length:=by omega
 have HW:=qqH hwl;have HAll:=qqH (qw tb d T L w (h.tail.sub (G:=aq tb d T++az d L) bS) hL hT hn2);have HH:=Hq8 h hL hTo hws hvb hbcells hbown hX;have hal:=ac h.Q5;clear h hL hTo hws hvb hbcells hbown hX hwl;go_enter Tryz.func120,Tryz.ntmps120;go_wp2_with fail;refine HAll.out.mono ?_;rintro e w1 ⟨v,rfl,hok,hT1⟩;rw[<- HH.d]at hok hT1;rcases(dr hT1.sat hok).2 with⟨-,h0⟩|⟨g,cap,cur0,rfl,-,-,hc1,hc2,-,-⟩
 ·omega
 have hc3:cap<=9223372036854775807:=by unfold maxLen at hc2;omega
 have hTa:=Turns.Qb (Turns.refl HH.a) hT1
 have hne:∀x,bsl=some x->x.block∉dom (aq tb d T++az d L):=fun x hx hin=>by
  exact(HH.a.sub (G:=aI (.slice bsl b.length bcap) b++(aq tb d T++az d L)) bS).Qh (b:=x.block) ((ff _ _ _ _ _ _).2 (HH.g x hx)) hin
 have HA:=qqH (pv tb d T L [] b bsl bcap w1 (hTa.sat.sub bS) HH.b hT hn2 hTe (by rw[hTt];simp[bL,dj]) (by simpa using hb) (HH.f.turns hT1) hbc hbc2 hne (by omega));have HTa:=Hq2 hTa hok;clear hTa hok hT1 hne;go_wp2_with fail;refine HA.out.mono ?_;rintro e w2 ⟨rfl,L1,hT2a,hL1,hn1,hnow1,hch1⟩;rw[J9]at hnow1;rw[nil_append]at hT2a;have hTb:=HTa.a.step (F:=aq tb d T++az d L) (R:=aI (.slice (some ⟨g,0,none⟩) ws.length cap) ws++((a,Is (aH X))::aI (.slice bsl b.length bcap) b)) ae hT2a;have hTb:=hTb.to (H:=aI (.slice (some ⟨g,0,none⟩) ws.length cap) ws++(aq tb d { T with end_:=b.length,tail:=bL b }++az d L1++((a,Is (aH X))::aI (.slice bsl b.length bcap) b))) ae;obtain⟨cur,hcur,hcul,hcu9,-,-⟩:=zL hTb.sat.left;have hbc3:=kq (hTb.sat.right.right.tail) HH.e;have hal2:=ac hTb.sat.right.right.Q5;have HTb:=Hq7 hTb hL1 hn1 hnow1 hch1 hcur hbc3;obtain⟨i0,hi0,hz1,hz2,hz3⟩:=info_parts j5;have HS8:Hid ((Tryz.prog.info? 5).map (·.size)=some 1):=qqH (by rw[hi0];simp[hz2]);clear hTb hT2a hL1 hn1 hnow1 hch1 hcur hbc3 hi0 hz1 hz2 hz3;have e1:(b.map am).length=Nat.min b.length ws.length:=by rw[length_map];exact(Nat.min_eq_left hbw).symm
 have e2:0<(b.map am).length->∃ad,bsl=some ad/\∀j v,(b.map am)[j]?=some v->w2.cell? (ad.add j)=some v:=fun hp=>by
  obtain⟨g',off',e',hcc⟩:=HTb.u hp;refine⟨_,e',fun j v hv=>?_⟩;obtain⟨hj,rfl⟩:=List.getElem?_eq_some_iff.1 hv;rw[Addr.add_mid];exact hcc j hj
 have e3:0+(b.map am).length<=cur.length:=by rw[length_map];omega
 have HE:=Hq3 e1 e2 e3;clear e1 e2 e3;go_wp2_with ((refine iJ rfl (.tmp 27) (.tmp 28) 38 38 rfl 5 Tryz.underlying38 HS8.out _ _ _ _ _ _ rfl rfl g 0 cur 5 HTb.f (b.map am) HE.a (fun hp=>⟨rfl,HE.b hp⟩) HE.y (dA _) ?_);intro w3 h3 hM3 hz3;have HC3:=Hq3 h3 hM3 hz3;clear h3 hM3 hz3);have hTc:=Ie HTb.a HTb.f (by omega) HC3.b HC3.a;have hlw:(b++ws.drop b.length).length=ws.length:=by simp;omega
 have hl1:=HH.b.nowL;have htk:(b++ws.drop b.length).take b.length=b:=take_left
 have hlc:∀m,b.length / 128+m<T.count->aC (b++ws.drop b.length) (b.length / 128+m)=(if m=0 then(((b++ws.drop b.length).take b.length).drop (128*(b.length / 128))++ak (128-b.length%128))else ak 128)->aC L1.now (T.first+(b.length / 128+m))=(if m=0 then(((b++ws.drop b.length).take b.length).drop (128*(b.length / 128))++ak (128-b.length%128))else ak 128):=fun m hm he=>by
  rw[HTb.d];rw[HH.d]at he ⊢;have:=HW.out;exact J8 (by omega) hb m hm he
 obtain⟨wt,hwt⟩:∃wt,wt=b++ws.drop b.length:=⟨_,rfl⟩;rw[<- hwt]at hTc hlw htk hlc;have hTc2:=hTc;rw[<- hlw]at hTc2;have hokt:bOk (.slice (some ⟨g,0,none⟩) wt.length cap) wt:=⟨by simp,fun h=>by simp[Value.ownBlock]at h⟩
 have hcut:=qx tb d { T with end_:=b.length,tail:=bL b } L1 b.length (some ⟨g,0,none⟩) cap wt w3 (hTc.sat.sub bS) HTb.b (by rw[HTb.c];exact hT) (by rw[HTb.c];exact hn2) ⟨kX _,HH.c.few,HH.c.caps⟩ (kq hTc2.sat.left hokt)
  (fun x hx hin=>by
   obtain rfl:x=⟨g,0,none⟩:=(Option.some.inj hx).symm;exact hTc2.sat.Qh (b:=g) ((ff _ _ _ _ _ _).2 rfl) (by simp only[cJ,mem_append]at hin ⊢;exact .inl hin)) (by rw[hlw];exact HW.out) (by omega) hc3 hT0 hb (by have:=HTb.e;omega) hlc
 rw[hlw]at hcut;unfold xz at hcut;rw[htk]at hcut;have HCt:=qqH hcut;have HTc:=Hq3 hTc hlw htk;have hal3:=ac (hTc.sat.right.right.Q5);clear hTc hTc2 hlw hl1 hlc hcut hwt htk hokt;go_wp2_with fail;refine HCt.out.mono ?_;rintro e w4 ⟨rfl,L2,hT4,hL2,hn2',hnow2,hsafe2,hch2⟩;have hT4:Turns (aq tb d { T with end_:=b.length,tail:=bL b }++az d L1) (aq tb d { T with end_:=b.length,tail:=bL b }++az d L2) w3 w4:=hT4;have hTd:=(HTc.a.step (F:=aq tb d { T with end_:=b.length,tail:=bL b }++az d L1) (R:=aI (.slice (some ⟨g,0,none⟩) ws.length cap) wt++((a,Is (aH X))::aI (.slice bsl b.length bcap) b)) ae hT4).to (H:=(a,Is (aH X))::(aq tb d { T with end_:=b.length,tail:=bL b }++(az d L2++(aI (.slice bsl b.length bcap) b++aI (.slice (some ⟨g,0,none⟩) ws.length cap) wt)))) ae
 have hdat:eB L2.now T.first T.count b/\∀f2 c2,(f2+c2<=T.first\/T.first+T.count<=f2)->au L2.now f2 c2=au L.now f2 c2:=by
  have hl1:=HTb.b.nowL;have hl0:=HH.b.nowL;rw[HTb.c]at hl1;have hc:=tH (l:=L1.now) (ws:=wt) (first:=T.first) (count:=T.count) (end_:=b.length) (by omega) (by rw[HTc.y,HTb.d,AC (by omega) hb];unfold iC;rw[append_assoc,take_left]) (by rw[HTc.b];exact HW.out) hb;rw[HTc.y]at hc;rw[hnow2];exact⟨hc.1,fun f2 c2 hd=>by rw[hc.2 f2 c2 hd,HTb.d];exact FY (by omega) hb f2 c2 hd⟩
 have a6:w4.cell? ⟨a,6,none⟩=some (.pointer (some ⟨d,0,none⟩)):=by
  have:=aa hTd.sat.Q5 6 (v:=.pointer (some ⟨X.d,0,none⟩)) rfl;rw[HH.t]at this;exact this
 have a8:w4.cell? ⟨a,8,none⟩=some (.int .u32 X.ep):=aa hTd.sat.Q5 8 rfl;have hw1:IntKind.u32.wrap ((X.ep:Int)+1)=((X.ep+1:Nat):Int):=by rw[wrap_u32 (by omega) (by omega)];omega
 have hw2:IntKind.u32.wrap (b.length:Int)=(b.length:Int):=wrap_u32 (by omega) (by omega);have hal4:=ac hTd.sat.Q5;have H4:=Hq6 hTd hL2 hn2' hsafe2 hch2 hdat;clear hT4 hTd hL2 hn2' hnow2 hsafe2 hch2 hdat;go_upto_region 12 with(fail);obtain⟨e,he⟩:∃e:Nat,e=X.ep+1:=⟨_,rfl⟩;obtain⟨u,hu⟩:∃u,u=w4.heap.size:=⟨_,rfl⟩;rw[show(X.ep:Int)+1=(e:Int) by omega,<- hu];have hT5:=H4.a.Q8 (im e b.length);rw[<- hu]at hT5;have HT5:=qqH hT5;have HE5:=qqH he;have he9:e<4294967296:=by omega
 clear hu hT5 he a6 a8 hw1 hw2;refine cL [([0,1,2,3,4,5,6,7,8],9,[0,1,2,3,4,5,6,7]),([],10,[])] [11] HM.out (by kernel_rfl) fun W tW=>?_
 simp only[Mix,map_cons,map_nil,nth,QG,QF];have hT6:=tW HT5.out;clear tW
 have a6:∀{W:World} {F:HF},Sat W F->(a,Is (aH X))∈F->W.cell? ⟨a,6,none⟩=some (.pointer (some ⟨d,0,none⟩)):=fun hs hm=>by
  have:=aa (hs.Q7 hm) 6 (v:=.pointer (some ⟨X.d,0,none⟩)) rfl;rw[HH.t]at this;exact this
 have u0:∀{W:World} {F:HF},Sat W F->(u,Is (im e b.length))∈F->W.cell? ⟨u,0,none⟩=some (.int .u32 e):=fun hs hm=>aa (hs.Q7 hm) 0 rfl
 have u1:∀{W:World} {F:HF},Sat W F->(u,Is (im e b.length))∈F->W.cell? ⟨u,1,none⟩=some (.int .u32 b.length):=fun hs hm=>aa (hs.Q7 hm) 1 rfl
 have k6:=a6 hT6.sat (by simp);have k0:=u0 hT6.sat (by simp);have k1:=u1 hT6.sat (by simp);iterate 6 still_step
 obtain⟨r,hr,hr2⟩:∃r,r=e%2/\r<2:=⟨_,rfl,by omega⟩;have hrr:∀W,(binOp .rem 116 (.int .u32 e) (.int .u32 2)).run Tryz.prog W=.ok (.int .u32 r) W:=fun W=>by rw[hr];exact Bh e he9 W
 have hrc:∀W,(convert 116 3 (.int .u32 r)).run Tryz.prog W=.ok (.int .i64 r) W:=fun W=>DE r (by omega) W
 have HR:=Hq3 hr hrr hrc;clear hr hrr hrc;refine cD rfl (v:=.int .u32 r) (by simp[execOp,eqGuard,HR.b,Act.eval]) ?_;simp only[Act.put,QA,QB,QC];refine cD rfl (v:=.int .i64 r) (by simp[execOp,HR.y,Act.eval]) ?_;simp only[Act.put,QA,QB,QC];repeat still_step
 refine wpStill_nil (bw (by kernel_rfl) (lX e b.length he9 hb2 W) ?_);rintro ev W5 ⟨rfl,hs5⟩;have hT7:=hT6.Q9 hs5;have HT7:=qqH hT7
 refine⟨_,rfl,by
  have k6:=a6 HT7.out.sat (by simp);have k0:=u0 HT7.out.sat (by simp);iterate 6 still_step
  refine cD rfl (v:=.int .u32 r) (by simp[execOp,eqGuard,HR.b,Act.eval]) ?_;simp only[Act.put,QA,QB,QC];exact cD rfl (v:=.int .i64 r) (by simp[execOp,HR.y,Act.eval]) rfl,?_⟩
 simp only[Act.put,QA,QB,QC];clear hT6 hT7 k0 k1 k6 hs5;refine wpStill_nil (bw (by kernel_rfl) (jj d L2 r (bi e b.length) W5 (HT7.out.sat.sub bS) H4.b (by rw[H4.c,HTb.c];omega) (bZ e b.length) (by rw[H4.e];simp)) ?_);rintro ev W6 ⟨rfl,L3,hT8,hL3,hn3,hnow3,hch3⟩;have hT9:=(HT7.out.to (H:=az d L2++((u,Is (im e b.length))::(a,Is (aH X))::(aq tb d { T with end_:=b.length,tail:=bL b }++(aI (.slice bsl b.length bcap) b++aI (.slice (some ⟨g,0,none⟩) ws.length cap) wt)))) ae).step (Perm.refl _) hT8;refine⟨_,rfl,rfl,?_⟩;simp only[Act.put,QA,QB,QC];repeat still_step
 refine wpStill_nil ?_;have k6:=a6 hT9.sat (by simp);have hal6:=ac (hT9.sat.Q7 (b:=a) (o:=aH X) (by simp));have HFl:=qqH (ji d L3 W6 hT9.sat.left hL3 (by rw[hch3,H4.e];simp));have H9:=Hq5 hT9 hL3 hn3 hnow3 hch3;clear hT8 hT9 hL3 hn3 hnow3 hch3 a6 u0 u1;go_wp2_with fail;refine HFl.out.mono ?_;rintro ev W7 ⟨rfl,L4,hT10,hL4,hn4,hnow4,hsafe4,hch4⟩;have H10:=Hq6 (H9.a.step (Perm.refl _) hT10) hL4 hn4 hnow4 hsafe4 hch4;clear hT10 hL4 hn4 hnow4 hsafe4 hch4 k6;go_wp2_with fail;go_ret;refine ⟨rfl,L4,H10.a.drop (fun x=>?_),H10.b,?_,?_,H10.v,?_⟩
 ·simp only[ao,ah];omega
 ·rw[H10.c,H9.c,H4.c,HTb.c]
 ·rw[H10.e,H10.d]
 ·have hnow:L4.now=aV L2.now (128*r) (bi e b.length):=by rw[H10.d,H9.d]
  rw[<- HE5.out,<- HR.a,hnow];have hn4:L2.n=L.n:=by rw[H4.c,HTb.c]
  have hl2:=H4.b.nowL;exact Kp (by omega) (bZ e b.length) (by omega) H4.v
def dY(S:AS)(ks:List Bs):yV:=ks.flatMap (fun l=>(af S.ps l).map (fun V=>(l,V)))
theorem kO(S:AS)(l:Bs):∀{ks:List Bs},ks.Nodup->((dY S ks).filter (fun x=>decide (x.1=l))).map (·.2)=if l∈ks then af S.ps l else[]
 | [],_=>rfl
 | k::r,hn=>by
  obtain⟨n1,n2⟩:=nodup_cons.1 hn
  have ih:=kO S l n2
  unfold dY at ih ⊢
  rw[flatMap_cons,filter_append,map_append,ih]
  by_cases h:k=l
  ·subst h
   have e:((af S.ps k).map (fun V=>(k,V))).filter (fun x=>decide (x.1=k))=(af S.ps k).map (fun V=>(k,V)):=filter_eq_self.2 (fun x hx=>by
    obtain⟨V,-,rfl⟩:=mem_map.1 hx;simp)
   rw[e,if_neg n1,if_pos (by simp),append_nil,map_map]
   exact map_id _
  ·have e:((af S.ps k).map (fun V=>(k,V))).filter (fun x=>decide (x.1=l))=[]:=filter_eq_nil_iff.2 (fun x hx=>by
    obtain⟨V,-,rfl⟩:=mem_map.1 hx;simpa using h)
   rw[e]
   have h2:¬l=k:=fun e=>h e.symm
   simp[h2]
theorem FA(S:AS)(ks:List Bs):JO S (dY S ks)=ks.flatMap (pE S):=by
 unfold JO dY;rw[flatMap_assoc];refine gt (fun l _=>?_);rw[flatMap_map];rfl
def ja(S:AS):Nat:=mF S.K+pM (dY S (fL S.ps))+dU (S.ts.map ex)
structure ColIn (S:AS):Prop where
 ok:ArOk S
 nd:(S.K.map (·.1)).Nodup
 vers:∀l,∀V∈af S.ps l,V.num<4294967296/\V.size<65536/\V.chs.length<=16000/\l.length<=20
 tags:∀t∈S.ts,t.key.length<=20/\t.g.1.length<=20/\0<=t.g.2/\t.g.2<4294967296
 held:∀l,∀V∈af S.ps l,V.held=(((S.ts.map ex).countP (fun t=>decide (t.2.1=l/\t.2.2=(V.num:Int))):Nat):Int)
 cost:ja S<=810000
 told:∃rs H,Told S rs H
 ep:S.X.ep+1<4294967296
 room:ja S<=128*ap S.L.n
structure CollectIs (S S':AS):Prop where
 a:S'.a=S.a
 ok:ArOk S'
 d:S'.X.d=S.X.d
 quota:S'.X.quota=S.X.quota
 closed:S'.X.closed=S.X.closed
 used:S'.X.used=S.X.used
 trips:∀l,(af S'.ps l).map (cQ S')=(af S.ps l).map (cQ S)
 tags:(S'.ts.map jI).Perm (S.ts.map jI)
 views:∀l,(af S'.ps l).map (fD S'.K)=(af S.ps l).map (fD S.K)
 K:S'.K.map (·.1)=eF [] ((fL S.ps).flatMap (pE S))
 sc:S'.X.sc=S'.K.length
 sb:S'.X.sb=((S'.K.map (·.1.length)).sum:Nat)
 n:S'.L.n=S.L.n
 ep:S'.X.ep=S.X.ep+1
 chs:S'.L.chs=[]
 data:S'.data.length<=ja S
 told:∃rs H,Told S' rs H
 wh:aC S'.L.now (S'.X.ep%2)=bi S'.X.ep S'.data.length
 old:aC S'.L.now (S.X.ep%2)=aC S.L.now (S.X.ep%2)
 half:au S'.L.now (2+S.X.ep%2*ap S.L.n) (ap S.L.n)=au S.L.now (2+S.X.ep%2*ap S.L.n) (ap S.L.n)
def zJ(S:AS)(B:CB)(L':DevL)(ab ch:Nat):AS :=
 ⟨S.a,{ S.X with pm:=B.pm,tm:=B.tm,cm:=B.cm,sc:=B.X.sc,sb:=B.X.sb,used:=B.X.used,ab:=ab,ep:=S.X.ep+1 },⟨2+(S.X.ep+1)%2*ap S.L.n,ap S.L.n,B.D.length,bL B.D,ch,[]⟩,L',B.ps,B.pc,B.cs,B.cc,B.ts,B.tc,B.D,B.s.K⟩
theorem Gl{now:Bs}{us:Nat->Option (Nat×Nat)}{e wh:Nat}{rest:List (Nat×Nat)}(h:∀k,k<2->eO now us k)(ho:ey (fB us 2)=(e,wh)::rest):aC now (e%2)=bi e wh/\e<4294967296/\wh<4294967296:=by
 have hm:(e,wh)∈fB us 2:=by
  have h1:(e,wh)∈ey (fB us 2):=by rw[ho];simp
  unfold ey at h1;split at h1
  ·rename_i u v hu;rw[hu];split at h1
   ·rcases mem_cons.1 h1 with h2|h2
    ·rw[h2];simp
    ·rw[mem_singleton.1 h2];simp
   ·exact h1
  ·exact h1
 unfold fB at hm;obtain⟨k,hk,hu⟩:=mem_filterMap.1 hm;rcases h k (by simpa using hk)with⟨h1,-⟩|⟨e',wh',h1,h2,h3,h4,h5⟩
 ·rw[hu]at h1;cases h1
 ·rw[hu]at h1;simp only[Option.some.injEq,Prod.mk.injEq]at h1;obtain⟨rfl,rfl⟩:=h1;rw[h3];exact⟨h2,h4,h5⟩
theorem Jb{now now':Bs}{e n m:Nat}(h:Sec now e n)(h1:aC now' ((e+1)%2)=bi (e+1) m)(h0:aC now' (e%2)=aC now (e%2))(he:e+1<4294967296)(hm:m<4294967296):Sec now' (e+1) m:=by
 obtain⟨us,wh,rest,u1,u2,-,-,-⟩:=h;obtain⟨s1,s2,s3⟩:=Gl u1 u2;rw[<- h0]at s1
 have hz:cf now' 2=false:=by
  unfold cf;refine decide_eq_false (fun hz=>rn (e+1) m ?_);rw[<- h1];exact hz _ (by omega)
 rcases Nat.mod_two_eq_zero_or_one e with e0|e0
 ·have e1:(e+1)%2=1:=by omega
  rw[e1]at h1;rw[e0]at s1;refine⟨fun k=>if k=0 then some (e,wh)else some (e+1,m),m,[(e,wh)],fun k hk=>?_,?_,hz,Nat.le_refl _,hm⟩
  ·rcases(show k=0\/k=1 by omega)with rfl|rfl
   ·exact .inr ⟨e,wh,rfl,s1,e0,s2,s3⟩
   ·exact .inr ⟨e+1,m,rfl,h1,e1,he,hm⟩
  ·show ey [(e,wh),(e+1,m)]=_;exact if_pos (Nat.lt_succ_self e)
 ·have e1:(e+1)%2=0:=by omega
  rw[e1]at h1;rw[e0]at s1;refine⟨fun k=>if k=0 then some (e+1,m)else some (e,wh),m,[(e,wh)],fun k hk=>?_,?_,hz,Nat.le_refl _,hm⟩
  ·rcases(show k=0\/k=1 by omega)with rfl|rfl
   ·exact .inr ⟨e+1,m,rfl,h1,e1,he,hm⟩
   ·exact .inr ⟨e,wh,rfl,s1,e0,s2,s3⟩
  ·show ey [(e+1,m),(e,wh)]=_;exact if_neg (Nat.not_lt.2 (Nat.le_succ e))
theorem CE{S:AS}(hi:ColIn S){B:CB}{vb:Value}{td:List Tg}(h:CbOk S (dY S (fL S.ps)) [] td B vb)(htd:td.Perm (S.ts.map ex)){L':DevL}{ab ch:Nat}(hL:DevOk L')(hn:L'.n=S.L.n)(hch:L'.chs=[])(hdat:eB L'.now (2+(S.X.ep+1)%2*ap S.L.n) (ap S.L.n) B.D)(hsec:aC L'.now ((S.X.ep+1)%2)=bi (S.X.ep+1) B.D.length)(hoth:aC L'.now (S.X.ep%2)=aC S.L.now (S.X.ep%2))(hhalf:au L'.now (2+S.X.ep%2*ap S.L.n) (ap S.L.n)=au S.L.now (2+S.X.ep%2*ap S.L.n) (ap S.L.n)):CollectIs S (zJ S B L' ab ch):=by
 have hkn:(fL S.ps).Nodup:=by
  unfold fL kC;exact(mergeSort_perm _ _).nodup_iff.2 (by rw[<- cE];exact hi.ok.paths.map.nodup)
 have hviews:∀l,(af B.ps l).map (fD B.s.K)=(af S.ps l).map (fD S.K):=fun l=>by
  rw[h.hist l];have h1:=congrArg (List.map (fD S.K)) (kO S l hkn);rw[map_map]at h1;refine h1.trans ?_;split
  ·rfl
  ·rename_i hl
   have:af S.ps l=[]:=by
    cases hv:af S.ps l with
    | nil=>rfl
    | cons V r =>
     obtain⟨p,hp,hk,-⟩:=bD (S.ps |> fun _=>show af S.ps l≠[] by rw[hv];simp);exact absurd (nK.2 (mem_map.2 ⟨p,hp,hk⟩)) hl
   rw[this]
 have hin:∀x∈dY S (fL S.ps),∀q∈x.2.chs,∃e∈S.K,e.2=q:=fun x hx q hq=>by
  obtain⟨l,-,hx⟩:=mem_flatMap.1 hx;obtain⟨V,hV,rfl⟩:=mem_map.1 hx;obtain⟨p,hp,-,hpg⟩:=bD (ne_nil_of_mem hV);exact(hi.ok.vers p hp V (hpg ▸ hV)).1 q hq
 have hct:dU td=dU (S.ts.map ex):=by unfold dU;exact(htd.map _).sum_nat
 have hlen:B.D.length<=ja S:=by
  have:=h.costs hin (fun c hc=>by cases hc);unfold ja;omega
 have hcost:=hi.cost;have hok:=hi.ok
 have hused:B.X.used=S.X.used:=by
  obtain⟨rs,H,ht⟩:=hi.told;rw[h.ct.used,ht.used]
  have hp:=uq (fun h:HV=>h.p) (·.size) (fun h:HV=>h.p) (·.size) (A:=B.s.H) (B:=H) (fun l=>by
   have e1:=congrArg (List.map (fun t:E8=>t.2.1)) (h.ct.hist l);have e2:=congrArg (List.map (fun t:E8=>t.2.1)) (ht.hist l);have e3:=congrArg (List.map (fun t:Nat×Nat×List Bs=>t.2.1)) (hviews l);rw[map_map,map_map]at e1 e2 e3;exact e1.symm.trans (e3.trans e2))
  have h2:=hp.map (·.2);rw[map_map,map_map]at h2;exact congrArg Int.ofNat h2.sum_nat
 have hkat:∀e∈B.s.K,e.2.2=e.1.length/\dw B.D e.2.1 e.1:=fun e he=>by
  obtain⟨h1,-,h3⟩:=h.ct.kat e he;rw[take_length]at h3;exact⟨h1,h3⟩
 have hok':ArOk (zJ S B L' ab ch):=by
  refine⟨hL,by show 16<=L'.n;rw[hn];exact hok.n16,by show L'.n<=_;rw[hn];exact hok.nmax,⟨kX _,Nat.zero_le _,fun s hs=>by cases hs⟩,?_,?_,rfl,rfl,hdat,h.ct.paths,h.ct.tags,h.ct.chunks,h.ct.kin,hkat,fun p hp V hV=>?_,h.ct.nem,hok.sound,hi.ep⟩
  ·show 2+(S.X.ep+1)%2*ap S.L.n=2+(S.X.ep+1)%2*ap L'.n;rw[hn]
  ·show ap S.L.n=ap L'.n;rw[hn]
  ·exact h.ct.vers (l:=p.key) (by rw[eD h.ct.paths hp];exact hV)
 have hbody:∀(K:KL) (V:VerL),V.chs.flatMap (bm K)=(V.chs.map (bm K)).flatten:=fun K V=>flatMap_def
 have htell:∃rs H,Told (zJ S B L' ab ch) rs H:=by
  obtain⟨rs,r1,r2,r3⟩:=DA h.ct.reach (Nat.le_refl _);rw[take_length]at r2;refine⟨rs,B.s.H,r1,r2.symm,?_,h.ct.hist,?_,h.ct.used⟩
  ·rw[r3];show some B.s=some ⟨B.s.K,B.s.H,B.ts.map ex⟩;rw[h.ct.tagT]
  ·obtain⟨rs,H,ht⟩:=hi.told;exact Jb ht.sec hsec hoth hi.ep (by show B.D.length<_;omega)
 refine⟨rfl,hok',rfl,rfl,rfl,hused,fun l=>?_,?_,hviews,?_,h.ct.sc,h.ct.sb,hn,rfl,hch,hlen,htell,hsec,hoth,hhalf⟩
 ·have e1:(af B.ps l).map (cQ (zJ S B L' ab ch))=((af B.ps l).map (fD B.s.K)).map (fun t=>((t.1:Int),t.2.2.flatten,((td.countP (fun u=>decide (u.2.1=l/\u.2.2=(t.1:Int))):Nat):Int))):=by
   rw[map_map];refine map_congr_left (fun V hV=>?_);show((V.num:Int),V.chs.flatMap (bm B.s.K),V.held)=((V.num:Int),(V.chs.map (bm B.s.K)).flatten,_);rw[hbody,h.held l V hV];rfl
  have e2:(af S.ps l).map (cQ S)=((af S.ps l).map (fD S.K)).map (fun t=>((t.1:Int),t.2.2.flatten,((td.countP (fun u=>decide (u.2.1=l/\u.2.2=(t.1:Int))):Nat):Int))):=by
   rw[map_map];refine map_congr_left (fun V hV=>?_);show((V.num:Int),V.chs.flatMap (bm S.K),V.held)=((V.num:Int),(V.chs.map (bm S.K)).flatten,_);rw[hbody,hi.held l V hV,htd.countP_eq];rfl
  show(af B.ps l).map _=_;rw[e1,e2,hviews]
 ·show(B.ts.map jI).Perm _;have:B.ts.map jI=td:=by rw[<- h.tT,<- h.ct.tagT];rfl
  rw[this];exact htd
 ·show B.s.K.map _=_;rw[h.bod,append_nil,FA]
theorem Told.costs{S:AS}{rs:fT}{H:List HV}(h:Told S rs H)(hok:ArOk S):ja S<=S.data.length:=by
 have h1:=Bg h.run (by simp)
 have hkn:(fL S.ps).Nodup:=by
  unfold fL kC;exact(mergeSort_perm _ _).nodup_iff.2 (by rw[<- cE];exact hok.paths.map.nodup)
 have hp:=uq (fun x:Bs×VerL=>x.1) (·.2.chs.length) (fun h:HV=>h.p) (·.chs.length) (A:=dY S (fL S.ps)) (B:=H) (fun l=>by
  have e1:=congrArg (List.map (fun V:VerL=>V.chs.length)) (kO S l hkn);have e2:=congrArg (List.map (fun t:E8=>t.2.2.1.length)) (h.hist l);rw[map_map]at e1;rw[map_map,map_map]at e2;refine e1.trans (Eq.trans ?_ e2);split
  ·rfl
  ·rename_i hl
   have:af S.ps l=[]:=by
    cases hv:af S.ps l with
    | nil=>rfl
    | cons V r =>
     obtain⟨p,hp,hk,-⟩:=bD (show af S.ps l≠[] by rw[hv];simp);exact absurd (nK.2 (mem_map.2 ⟨p,hp,hk⟩)) hl
   rw[this];rfl)
 have h2:=(hp.map (fun t=>t.1.length+16+4*t.2)).sum_nat;rw[map_map,map_map]at h2;rw[h.data];unfold need at h1;unfold ja pM;unfold tD at h1;simp only[Function.comp_def]at h2;rw[h2];simp only[mF,dU,map_nil,sum_nil]at h1 ⊢;omega
def jn(B:CB):Obj:=.cells (dP B.pm B.tm B.cm B.X.sc B.X.sb B.X.used) 123 (0,0)
def cbF(nx mv:Nat)(vb:Value)(B:CB):HF:=(nx,Is (jn B))::(aF B.pm B.ps B.pc++(b8 B.tm B.ts B.tc++(aM B.cm B.cs B.cc++((mv,Is (aQ plV B.mp B.mc))::aI vb B.D))))
def fe(S:AS)(sp:List (Nat×Nat×Nat))(kv:Value)(ks:List Bs)(nx mv:Nat)(vb:Value)(B:CB)(J:HF):HF:=bN 9 1 kv ks.length (ks.map str)++(cbF nx mv vb B++(arF (bK S sp)++J))
def Ma(S:AS)(kv:Value)(ks:List Bs)(nx mv:Nat)(w:World)(vb i:Value)(W:World):Prop :=
 ∃(j:Nat) (B:CB) (J:HF) (sp:List (Nat×Nat×Nat)),j<=ks.length/\i=.int .i64 j/\CbOk S (dY S (ks.take j)) [] [] B vb/\AreaOk { S.A with spare:=sp }/\Turns (arF S) (fe S sp kv ks nx mv vb B J) w W
def Mb(S:AS)(kv:Value)(ks:List Bs)(nx mv:Nat)(w:World)(dn:yV)(l:Bs)(vs:List VerL)(vb i:Value)(W:World):Prop :=
 ∃(k:Nat) (B:CB) (J:HF) (sp:List (Nat×Nat×Nat)),k<=vs.length/\i=.int .i64 k/\CbOk S (dn++(vs.take k).map (fun V=>(l,V))) [] [] B vb/\AreaOk { S.A with spare:=sp }/\Turns (arF S) (fe S sp kv ks nx mv vb B J) w W
def Mc(S:AS)(kv:Value)(ks:List Bs)(nx mv:Nat)(w:World)(dn:yV)(V:VerL)(wb:Nat)(vb i:Value)(W:World):Prop :=
 ∃(m:Nat) (B:CB) (J:HF) (sp:List (Nat×Nat×Nat)) (wv:Value) (chs:List (Nat×Nat)),m<=V.chs.length/\i=.int .i64 m/\CbOk S dn ((V.chs.take m).map (bm S.K)) [] B vb/\iP S B.s.K (V.chs.take m) chs/\cd wv chs/\AreaOk { S.A with spare:=sp } /\
  Turns (arF S) (bT (gL wb V wv chs)++fe S sp kv ks nx mv vb B J) w W
def Md(S:AS)(kv:Value)(ns:List Bs)(nx mv:Nat)(w:World)(vb i:Value)(W:World):Prop :=
 ∃(j:Nat) (B:CB) (J:HF) (sp:List (Nat×Nat×Nat)),j<=ns.length/\i=.int .i64 j/\CbOk S (dY S (fL S.ps)) [] (c8 S.ts (ns.take j)) B vb/\AreaOk { S.A with spare:=sp }/\Turns (arF S) (fe S sp kv ns nx mv vb B J) w W
theorem xY{γ:Type}{z:γ}{q:GE γ}:∀{ts:List (GE γ)},(ts.map (·.key)).Nodup->q∈ts->gOf z ts q.key=q.g
 | a::r,hn,hq=>by
  obtain⟨n1,n2⟩:=nodup_cons.1 hn
  rcases mem_cons.1 hq with rfl|hq
  ·unfold gOf;simp
  ·have h:¬a.key=q.key:=fun e=>n1 (mem_map.2 ⟨q,hq,e.symm⟩)
   have:=xY (z:=z) n2 hq
   unfold gOf at this ⊢
   rw[find?_cons_of_neg (by simpa using h)]
   exact this
theorem ColIn.tag_is{S:AS}(hi:ColIn S){m:Bs}(hm:m∈eZ S.ts):m.length<=20/\∃(p:Bs) (n:Nat),gOf ([],0) S.ts m=(p,(n:Int))/\p.length<=20/\n<4294967296:=by
 obtain⟨q,hq,rfl⟩:=mem_map.1 ((mergeSort_perm _ _).mem_iff.1 hm);obtain⟨h1,h2,h3,h4⟩:=hi.tags q hq;refine⟨h1,q.g.1,q.g.2.toNat,?_,h2,by omega⟩;rw[xY (by rw[<- cE];exact hi.ok.tags.map.nodup) hq];refine Prod.ext rfl ?_;show q.g.2=_;omega
theorem ColIn.pins{S:AS}(hi:ColIn S):(c8 S.ts (eZ S.ts)).Perm (S.ts.map ex):=by
 have h1:(S.ts.map (·.key)).map (fun k=>(k,gOf ([],0) S.ts k))=S.ts.map ex:=by
  rw[map_map];refine map_congr_left (fun q hq=>?_);show(q.key,gOf ([],0) S.ts q.key)=(q.key,q.g.1,q.g.2);rw[xY (by rw[<- cE];exact hi.ok.tags.map.nodup) hq]
 rw[<- h1];unfold c8;exact(mergeSort_perm _ _).map _
theorem ColIn.Qi{S:AS}(hi:ColIn S){l:List Bs}(h:l <+: eZ S.ts):dU (c8 S.ts l)<=dU (S.ts.map ex):=by
 have h1:dU (c8 S.ts (eZ S.ts))=dU (S.ts.map ex):=by unfold dU;exact(hi.pins.map _).sum_nat
 obtain⟨r,hr⟩:=h;rw[<- h1,<- hr];unfold dU c8;rw[map_append,map_append,sum_append];omega
theorem wC(S:AS)(ks:List Bs){j:Nat}(h:j<ks.length):dY S (ks.take (j+1))=dY S (ks.take j)++(af S.ps ks[j]).map (fun V=>(ks[j],V)):=by
 unfold dY;rw[QH h,flatMap_append];simp
theorem Ad(S:AS)(ks:List Bs)(j:Nat):dY S (ks.take j) <+: dY S ks:=by
 refine⟨dY S (ks.drop j),?_⟩;unfold dY;rw[<- flatMap_append,take_append_drop]
theorem xX(S:AS)(ks:List Bs){j:Nat}(h:j<ks.length)(k:Nat):dY S (ks.take j)++((af S.ps ks[j]).take k).map (fun V=>(ks[j],V)) <+: dY S ks:=by
 refine IsPrefix.trans ?_ (Ad S ks (j+1));rw[wC S ks h];exact(prefix_append_right_inj _).2 ((take_prefix k _).map _)
theorem ColIn.le{S:AS}(hi:ColIn S){dn:yV}{pt:List Bs}{td:List Tg}{B:CB}{vb:Value}(h:CbOk S dn pt td B vb)(hp:dn <+: dY S (fL S.ps))(ht:dU td<=dU (S.ts.map ex))(hpt:∀c∈pt,c∈S.K.map (·.1)):B.D.length<=ja S:=by
 have h1:=h.costs (fun x hx q hq=>by
  obtain⟨l,-,hx⟩:=mem_flatMap.1 (hp.subset hx);obtain⟨V,hV,rfl⟩:=mem_map.1 hx;obtain⟨p,hp,-,hpg⟩:=bD (ne_nil_of_mem hV);exact(hi.ok.vers p hp V (hpg ▸ hV)).1 q hq) hpt
 obtain⟨r,hr⟩:=hp;unfold ja pM at *
 rw[<- hr,map_append,sum_append];omega
theorem sG{S:AS}(hok:ArOk S){l:Bs}{V:VerL}(hV:V∈af S.ps l){W:World}(hs:Sat W (aF S.X.pm S.ps S.pc)):Sat W (bT V)/\cd V.cv V.chs/\(∀q∈V.chs,∃e∈S.K,e.2=q)/\V.size=(V.chs.map (·.2)).sum:=by
 obtain⟨p,hp,-,hpg⟩:=bD (ne_nil_of_mem hV);have hV':V∈p.g:=hpg ▸ hV;have hps:Sat W (er p.val p.g):=Sat.flat (f:=fun p:aW=>er p.val p.g) hs.tail hp;exact⟨Sat.flat (f:=bT) hps.right hV',(hok.paths.rows p hp).2 V hV',hok.vers p hp V hV'⟩
theorem IP{S:AS}(hok:ArOk S){l:Bs}(h:l∈fL S.ps):OkS l:=by
 obtain⟨p,hp,rfl⟩:=mem_map.1 (nK.1 h);exact hok.paths.map.ok (aO p) (mem_map.2 ⟨p,hp,rfl⟩)
theorem gZ(S:AS)(sp:List (Nat×Nat×Nat)):arF (bK S sp)=(S.a,Is (aH S.X))::(aq S.X.ab S.X.d { S.A with spare:=sp }++(az S.X.d S.L++(aF S.X.pm S.ps S.pc++(b8 S.X.tm S.ts S.tc++aM S.X.cm S.cs S.cc)))):=rfl
theorem Fo(nx mv:Nat)(vb:Value)(B:CB)(c:Bs)(p:Nat×Nat)(v:Value):cbF nx mv vb (B.chunk c p v)=(nx,Is (jn (B.chunk c p v)))::(aF B.pm B.ps B.pc++(b8 B.tm B.ts B.tc++(aM B.cm (B.chunk c p v).cs (B.chunk c p v).cc++((mv,Is (aQ plV (gA B.mp B.mc p (plV (B.D.length,c.length))) (cw B.mp B.mc p)))::aI vb (B.D++frame 1 c))))):=rfl
theorem JR(nx mv:Nat)(vb:Value)(B:CB)(l:Bs)(V:VerL)(b:Nat)(cv v':Value)(chs:List (Nat×Nat)):cbF nx mv vb (B.ver l V b cv v' chs)=(nx,Is (jn (B.ver l V b cv v' chs)))::(aF B.pm (kh B.ps B.pc l v' (gL b V cv chs)) (cw (B.ps.map aO) B.pc l)++(b8 B.tm B.ts B.tc++(aM B.cm B.cs B.cc++((mv,Is (aQ plV B.mp B.mc))::aI vb (B.D++frame 2 (eC l V.num V.size (bt chs))))))):=rfl
theorem JQ(nx mv:Nat)(vb:Value)(B:CB)(m p:Bs)(n:Nat):cbF nx mv vb (B.tag m p n)=(nx,Is (jn B))::(aF B.pm (cP B.ps p n 1) B.pc++(b8 B.tm (ef B.ts B.tc m (mx m (p,(n:Int))) (p,(n:Int))) (cw (B.ts.map aO) B.tc m)++(aM B.cm B.cs B.cc++((mv,Is (aQ plV B.mp B.mc))::aI vb (B.D++frame 4 (dR p m n)))))):=rfl
theorem DT{P:Program}{o:Oper}{a:Act}{w a0:World}{K:Act->World->Prop}{Q:Exit->Act->World->Prop}{F G:HF}(ty:TypeId)(x y:Operand)(ho:o.op=.store ty x y)(b i:Nat)(old:List Value)(cells:Array Value)(t:TypeId)(hT:Turns F ((b,Is (.cells old.toArray t (0,0)))::G) a0 w)(hx:a.eval x=.pointer (some ⟨b,i,none⟩))(hy:a.eval y=.agg cells)(hsz:i+cells.size<=old.length)(hi:(P.info? ty).map (·.size)=some cells.size)(h1:cells.all (·.oneCell')=true)(hk:∀w',Turns F ((b,Is (.cells (spl old i cells.toList).toArray t (0,0)))::G) a0 w'->K (a.put o.dst undef) w'):o.wp P a w K Q:=by
 have hb:=hT.sat.Q5;obtain⟨q1,q2⟩:=fm hb i cells.toList (by simpa using hsz);exact wp_store_mid ty x y ho b i cells hx hy (dm hb i _ (by simpa using hsz)) hi h1 (hk _ (hT.Qa q2 q1))
theorem JG(S:AS)(B:CB)(L':DevL)(ab ch:Nat):arF (zJ S B L' ab ch)=(S.a,Is (aH (zJ S B L' ab ch).X))::(aq ab S.X.d ⟨2+(S.X.ep+1)%2*ap S.L.n,ap S.L.n,B.D.length,bL B.D,ch,[]⟩++(az S.X.d L'++(aF B.pm B.ps B.pc++(b8 B.tm B.ts B.tc++aM B.cm B.cs B.cc)))):=rfl
def yS(S:AS)(w:World)(e:Ending)(w':World):Prop :=
 (S.X.closed=true/\e=.returned (cO 9)/\Turns (arF S) (arF S) w w')\/(S.X.closed=false/\e=.returned .nilIface/\∃S',CollectIs S S'/\Turns (arF S) (arF S') w w')
theorem BL(wb:Nat)(V:VerL)(wv:Value)(chs:List (Nat×Nat)):bT (gL wb V wv chs)=(wb,Is (dq (gL wb V wv chs)))::aU wv chs:=rfl
def KV(S:AS)(kv:Value)(ks:List Bs)(nx mv:Nat)(w:World)(dn:yV)(V:VerL)(wb m tb:Nat)(c:Bs)(p q:Nat×Nat)(wv:Value)(chs:List (Nat×Nat))(vb:Value)(B:CB)(J:HF)(sp:List (Nat×Nat×Nat))(W:World):Prop :=
 CbOk S dn ((V.chs.take m).map (bm S.K)++[c]) [] B vb/\iP S B.s.K (V.chs.take m) chs/\bm B.s.K q=c/\(c,q)∈B.s.K/\AreaOk { S.A with spare:=sp }/\Turns (arF S) ((tb+1,Is (aG q))::(bT (gL wb V wv chs)++fe S sp kv ks nx mv vb B ((tb,Is (aG p))::J))) w W
theorem xx(S:AS)(w:World)(h:Sat w (arF S))(hi:ColIn S)(b:Nat)(hB:ArB S b)(hb:b<=90000)(hc:S.X.closed=false):
  Calls Tryz.prog 71 #[.pointer (some ⟨S.a,0,none⟩)] w (fun e w'=>e=.returned .nilIface/\∃S',CollectIs S S'/\Turns (arF S) (arF S') w w'):=by
 have ha:=h.Q5;have hal:=ac ha;have a10:w.cell? ⟨S.a,10,none⟩=some (.bool false):=by rw[<- hc];exact aa ha 10 rfl
 have a11:w.cell? ⟨S.a,11,none⟩=some .nilIface:=by rw[<- hi.ok.sound];exact aa ha 11 rfl
 have HN:=qqH iY;have hmm:=@run_makeMap Tryz.prog;have hlen0:S.ps.length<=90000:=Nat.le_trans hB.np hb;have hlenT:S.ts.length<=90000:=Nat.le_trans hB.nt hb;have HI:=qqH hi;have HCH:=qqH (show S.L.chs.length<=23592960000 by have:=hB.chs;omega);have HH:=Hq3 h hlen0 hlenT;clear h hi hB hb hc ha hlen0 hlenT;go_enter Tryz.func71,Tryz.ntmps71;go_wp2_with fail;refine(HN.out w).mono ?_;rintro e w1 ⟨pm,tm,cm,rfl,hT1⟩;unfold dP;have HT1:=qqH (Turns.Qb (Turns.refl HH.a) hT1);clear hT1 a10 a11;go_upto_region 8 with(fail);obtain⟨B0,hB0⟩:∃B:CB,B=⟨pm,tm,cm,{ S.X with used:=0,sc:=0,sb:=0 },[],0,[],0,[],0,[],0,[],⟨[],[],[]⟩,[],0⟩:=⟨_,rfl⟩;obtain⟨nx,hnx⟩:∃n,n=w1.heap.size:=⟨_,rfl⟩
 have hT2:Turns (arF S) (cbF nx (nx+1) (.slice none 0 0) B0++arF S) w ((w1.alloc (.cells (dP pm tm cm 0 0 0) 123 (0,0))).alloc (.map #[] 0)):=by
  have h1:=HT1.out.Q8 (.cells (dP pm tm cm 0 0 0) 123 (0,0));have h2:=h1.Q8 (.map #[] 0);rw[World.size_alloc,<- hnx]at h2;refine h2.to ?_;rw[hB0];show Perm _ (((nx,Is (.cells (dP pm tm cm 0 0 0) 123 (0,0)))::([(pm,Is (.map #[] 0))]++([(tm,Is (.map #[] 0))]++([(cm,Is (.map #[] 0))]++[(nx+1,Is (.map #[] 0))]))))++arF S);exact ae
 have hok0:CbOk S [] [] [] B0 (.slice none 0 0):=by
  rw[hB0];exact⟨CtOk.empty ⟨rfl,rfl,rfl⟩,ln,(fun e he=>by cases he),(fun c q hq=>by cases hq),jy,rfl,fun l=>rfl,(fun l V hV=>absurd hV (by simp[af,gOf])),rfl,rfl⟩
 rw[<- hnx];generalize hw2:(w1.alloc (.cells #[.map (some pm),.map (some tm),.map (some cm),.int .i64 0,.int .i64 0,.int .i64 0] 123 (0,0))).alloc (.map #[] 0)=w2;have hT2:Turns (arF S) (cbF nx (nx+1) (.slice none 0 0) B0++arF S) w w2:=hw2 ▸ hT2;clear hw2 HT1;have hpm:=hT2.sat.right.Q7 (b:=S.X.pm) (o:=aQ str (S.ps.map aO) S.pc) (by simp[arF,aF]);have hlen:(S.ps.map aO).length<=90000:=by rw[length_map];exact HH.b
 obtain⟨D,hD,hDp,hDs⟩:=pd hpm HI.out.ok.paths.map (by omega);have hKs:=uO S.X.pm _ D Fa w2 hD (by rw[hDs];unfold maxLen;omega) (by rw[hDs];omega);have HK:=qqH (callsIn_wide.1 hKs);have HMk:=qqH (callsIn_wide.1 (AG (some S.X.pm) w2));have a0:w2.cell? ⟨S.a,0,none⟩=some (.map (some S.X.pm)):=aa hT2.sat.right.Q5 0 rfl;have hal2:=ac hT2.sat.right.Q5;have H2:=Hq4 hT2 hok0 hDp hlen;clear hT2 hok0 hpm hlen hD hDp hDs hKs hB0 hnx;go_wp2_with fail;refine HMk.out.mono ?_;rintro e w3 ⟨rfl,rfl⟩;go_wp2_with fail;refine HK.out.mono ?_;rintro e w4 ⟨v,ss,rfl,hss,hown,-,hbel⟩;obtain⟨hs1,hs2⟩:=rY hss H2.c;rw[hs1,hs2]at hown;obtain⟨ks,hks⟩:∃ks,ks=fL S.ps:=⟨_,rfl⟩;have hks':kC ((S.ps.map aO).map (·.key))=ks:=by rw[hks];unfold fL;rw[cE]
 rw[hks']at hown;obtain⟨hro,hT4⟩:=AO (H2.a.alloc _) rfl (by rw[length_map];exact hown) hbel;rw[length_map]at hro hT4;obtain⟨sl,cap,rfl,hcap0,hcap,-,-⟩:=bC hT4.sat.left hro (by decide)
 have hkl:ks.length<=90000:=by
  have:=HH.b;rw[hks];unfold fL kC;rw[length_mergeSort,length_map];exact this
 have hal4:=ac (hT4.sat.right.right.Q5);have H4:=Hq4 hT4 hro hks hkl;clear hss hown hbel hs1 hs2 hks hks' hro hT4 a0;go_wp2_with fail;go_loopw [4,45] (fun vb i wr=>Ma S (.slice sl ks.length cap) ks nx (nx+1) w vb i wr) (fun _ i _=>ks.length-(intOf i).toNat)
 case atStart=>exact⟨0,B0,[],S.A.spare,Nat.zero_le _,rfl,H2.b,HI.out.ok.area,H4.a.to (by unfold fe;rw[append_nil];exact Perm.refl _)⟩
 case round =>
  obtain⟨j,B,J,sp,hj,rfl,hcb,hAo,hT⟩:=hrel;by_cases hlt:j<ks.length
  ·obtain⟨sl2,cap2,e1',-,-,hcell,-⟩:=bC (w:=wr) hT.sat.left H4.b (by decide);simp only[Value.slice.injEq]at e1';obtain⟨rfl,-,rfl⟩:=e1';obtain⟨g,off,hg,hcc⟩:=hcell (by rw[length_map];omega);subst hg;have hc1:=hcc j (by rw[length_map];exact hlt);rw[getElem_map]at hc1;obtain⟨l,hl⟩:∃l,l=ks[j]:=⟨_,rfl⟩;rw[<- hl]at hc1;have hA:=(hT.sat.right.right.left).Q5;have a0':wr.cell? ⟨S.a,0,none⟩=some (.map (some S.X.pm)):=aa hA 0 rfl;have hal5:=ac hA;obtain⟨vsl,vcap,hval,hvc,hvc2,-,-,-⟩:=gV (hT.sat.sub (G:=aF S.X.pm S.ps S.pc) (fun x=>by unfold fe bK arF;simp only[ao,ah];omega)) HI.out.ok.paths l;obtain⟨vs,hvs⟩:∃vs,vs=af S.ps l:=⟨_,rfl⟩;rw[<- hvs]at hval hvc;have hmo:wr.heap[S.X.pm]?=some (aQ str (S.ps.map aO) S.pc):=hT.sat.Q7 (by simp[fe,arF,bK,aF]);have hOk:OkS l:=IP HI.out.ok (by rw[<- H4.c,hl];exact getElem_mem hlt);have HR:=Hq8 hcb hAo hT hmo hval hOk hl hvs;clear hcb hAo hT hmo hval hOk hl hvs hcell hcc hA;go_wp2_with ((refine ez eb rfl _ _ rfl Tryz.underlying119 HR.d HI.out.ok.paths.map (gz _) l rfl rfl HR.f ?_;rw[cY,HR.e]));obtain⟨dn,hdn⟩:∃dn,dn=dY S (ks.take j):=⟨_,rfl⟩
   have hdn1:dn++vs.map (fun V=>(l,V))=dY S (ks.take (j+1)):=by
    have:=wC S ks hlt;rw[<- HR.g,<- HR.t,<- hdn]at this;exact this.symm
   have hpre:∀k,dn++(vs.take k).map (fun V=>(l,V)) <+: dY S (fL S.ps):=fun k=>by
    have:=xX S ks hlt k;rw[<- HR.g,<- HR.t,<- hdn]at this;rw[<- H4.c];exact this
   have hvm:∀V∈vs,V∈af S.ps l:=fun V hV=>by rw[<- HR.t];exact hV
   have HD:=Hq7 hdn hdn1 hpre hvm HR.t HR.e HR.f
   have hl20:vs≠[]->l.length<=20:=fun hne=>by
    obtain⟨V,hV⟩:=exists_mem_of_ne_nil vs hne;exact(HI.out.vers l V (hvm V hV)).2.2.2
   have HL:=qqH hl20;clear hdn hdn1 hpre hvm hc1 a0' hl20;go_loopw [4,57] (fun vb i wr=>Mb S (.slice (some ⟨g,off,none⟩) ks.length cap) ks nx (nx+1) w dn l vs vb i wr) (fun _ i _=>vs.length-(intOf i).toNat)
   case atStart=>exact⟨0,B,J,sp,Nat.zero_le _,rfl,by rw[take_zero,map_nil,append_nil,HD.a];exact HR.a,HR.b,HR.c⟩
   case round =>
    clear HR;obtain⟨k,B,J,sp,hk,rfl,hcb,hAo,hT⟩:=hrel;by_cases hkl:k<vs.length
    ·obtain⟨vsl2,vcap2,e2',-,-,hvcell,-,-⟩:=gV (hT.sat.sub (G:=aF S.X.pm S.ps S.pc) (fun x=>by unfold fe bK arF;simp only[ao,ah];omega)) HI.out.ok.paths l;rw[<- HD.e]at e2' hvcell;rw[HD.f]at e2';simp only[Value.slice.injEq,true_and]at e2';obtain⟨rfl,rfl⟩:=e2';obtain⟨g2,off2,hg2,hc2⟩:=hvcell (by rw[length_map];omega);subst hg2;obtain⟨V,hV⟩:∃V,V=vs[k]:=⟨_,rfl⟩;have hp1:wr.cell? ⟨g2,off2+k,none⟩=some (.pointer (some ⟨V.blk,0,none⟩)):=by rw[hc2 k (by simpa using hkl)];simp[hV,ee]
     have hVm:V∈af S.ps l:=HD.d V (by rw[hV];exact getElem_mem hkl);obtain⟨hvf,hvo,hvK,hvs⟩:=sG HI.out.ok hVm (hT.sat.sub (G:=aF S.X.pm S.ps S.pc) (fun x=>by unfold fe bK arF;simp only[ao,ah];omega));obtain⟨csl,ccap,hcv,hcc,hcc9,-⟩:=gh hvf.tail hvo;have hvb:=ac hvf.Q5;have hnum:=HI.out.vers l V hVm
     have htk:dn++(vs.take (k+1)).map (fun V=>(l,V))=(dn++(vs.take k).map (fun V=>(l,V)))++[(l,V)]:=by
      rw[QH hkl,<- hV,map_append,append_assoc];rfl
     have HV:=qqH (And.intro hcb (And.intro hAo (And.intro hT (And.intro hVm (And.intro hvo (And.intro hvK (And.intro hvs (And.intro hcv (And.intro hnum htk)))))))));have hcl:V.chs.length<=16000:=hnum.2.2.1;clear hcb hAo hT hVm hvf hvo hvK hvs hcv hnum htk hvcell hc2 hV;go_upto_region 14 with(fail);refine cL [([0,1,2,3,4,5,6,7,8],9,[])] [10] HM.out (by kernel_rfl) fun W tW=>?_
     simp only[Mix,map_cons,map_nil,nth,QG,QF];have hT1:=tW HV.c;clear tW;have hvf:=(sG HI.out.ok HV.d (hT1.sat.sub (G:=aF S.X.pm S.ps S.pc) (fun x=>by unfold fe bK arF;simp only[ao,ah];omega))).1;have v0:W.cell? ⟨V.blk,0,none⟩=some (.int .i64 V.num):=aa hvf.Q5 0 rfl;have v1:W.cell? ⟨V.blk,1,none⟩=some (.int .i64 V.size):=aa hvf.Q5 1 rfl;repeat still_step
     refine wpStill_nil (i6 (dq (gL 0 V (.slice none 0 0) [])) (fun n=>.pointer (some ⟨n,0,none⟩)) (by kernel_rfl) hT1 fun wb W1 hT2=>⟨rfl,?_⟩);simp only[Act.put,QA,QB,QC];repeat still_step
     refine wpStill_nil ?_;have hvf2:=(sG HI.out.ok HV.d (hT2.sat.sub (G:=aF S.X.pm S.ps S.pc) (fun x=>by unfold fe bK arF;simp only[ao,ah];omega))).1;have v2:W1.cell? ⟨V.blk,2,none⟩=some (.slice csl V.chs.length ccap):=by rw[<- HV.h];exact aa hvf2.Q5 2 rfl
     have hvl:=ac hvf2.Q5;have H2:=qqH hT2;clear hT1 hvf v0 v1 hT2 hvf2;go_wp2_with fail;go_loopw [4,76] (fun vb i wr=>Mc S (.slice (some ⟨g,off,none⟩) ks.length cap) ks nx (nx+1) w (dn++(vs.take k).map (fun V=>(l,V))) V wb vb i wr) (fun _ i _=>V.chs.length-(intOf i).toNat)
     case atStart=>exact⟨0,B,J,sp,.slice none 0 0,[],Nat.zero_le _,rfl,HV.a,iP.nil _ _,⟨rfl,fun _=>⟨rfl,rfl⟩⟩,HV.b,H2.out⟩
     case round =>
      have HV:=qqH HV.x;obtain⟨m,B,J,sp,wv,chs,hm,rfl,hcb,hch,hpo,hAo,hT⟩:=hrel;by_cases hml:m<V.chs.length
      ·obtain⟨hvf,-,-,-⟩:=sG HI.out.ok HV.a (hT.sat.sub (G:=aF S.X.pm S.ps S.pc) (fun x=>by unfold fe bK arF;simp only[ao,ah];omega));obtain⟨csl2,ccap2,e3',-,-,hcells⟩:=gh hvf.tail HV.b;rw[HV.e]at e3';simp only[Value.slice.injEq,true_and]at e3';obtain⟨rfl,rfl⟩:=e3';obtain⟨g3,off3,hg3,hc3⟩:=hcells (by rw[gi];omega);subst hg3;obtain⟨hq1,hq2⟩:=qb hc3 hml;obtain⟨⟨c,p1,p2⟩,heK,hep⟩:=HV.c V.chs[m] (getElem_mem hml);have hp2:p2=c.length:=(HI.out.ok.kat _ heK).1;subst hp2;have hep:V.chs[m]=(p1,c.length):=hep.symm;rw[hep]at hq1 hq2;simp only at hq1 hq2;obtain⟨bsl,bcap,hbv,-,hbc,hbcells,-⟩:=aP (dr (hT.sat.sub (G:=aI u4 B.D) (fun x=>by unfold fe cbF;simp only[ao,ah];omega)) hcb.row);subst hbv;have hcl6:c.length<65536:=(dx (HI.out.ok.kat _ heK).2.2).2.2.2.2;have hfit:=(HI.out.ok.kat _ heK).2.1;have hbody:=pF HI.out.ok heK
       have hdl:S.data.length<=137438953472:=by
        have h1:=HI.out.ok.dat.2;have h2:=HI.out.ok.fits;have h3:=HI.out.ok.nmax;omega
       have hpl:G3 (p1,c.length):=⟨by show p1<_;simp only at hfit;omega,by show c.length<_;omega⟩
       have hD:B.D.length<=810000:=Nat.le_trans (HI.out.le hcb (HD.c k) (by simp[dU]) (fun x hx=>by
        obtain⟨q,hq,rfl⟩:=mem_map.1 hx;exact ny (HV.c q (mem_of_mem_take hq)))) HI.out.cost
       have htm:V.chs.take (m+1)=V.chs.take m++[(p1,c.length)]:=by rw[QH hml,hep]
       have hT1:=hT.Q8 (aG (p1,c.length));have hmo1:(wr.alloc (.cells #[.int .i64 p1,.int .i64 c.length] 161)).heap[nx+1]?=some (aQ plV B.mp B.mc):=hT1.sat.Q7 (by simp[fe,cbF]);have hchl:chs.length=m:=by rw[hch.len,length_take];omega
       obtain⟨tb,htb⟩:∃tb,tb=wr.heap.size:=⟨_,rfl⟩;have HTB:=qqH htb;have hcom:∃hh:Bool,ix B.mp (p1,c.length)=hh:=⟨_,rfl⟩;obtain⟨hh,hhe⟩:=hcom
       cases hh
       case' true =>
        obtain⟨e,he,hek⟩:=iy.1 hhe;obtain⟨q,hq,hqK,hcb2⟩:=hcb.hit HI.out.ok heK he hek;have hge:dB B.mp (p1,c.length)=some (plV q):=by rw[<- hek,pV hcb.map.nodup he,hq]
        have HR:=Hq5 hmo1 hcb.map hge hhe hpl;have hT2:=hT1.Q8 (aG q);rw[World.size_alloc,<- htb]at hT2;have hqb:bm B.s.K q=c:=hcb.ct.body hqK;obtain⟨B2,rfl⟩:∃B2,B2=B:=⟨_,rfl⟩;obtain⟨sp2,rfl⟩:∃sp2,sp2=sp:=⟨_,rfl⟩;obtain⟨J2,rfl⟩:∃J2,J2=J:=⟨_,rfl⟩;have hT3:=hT2.to (H:=(tb+1,Is (aG q))::(bT (gL wb V wv chs)++fe S sp2 (.slice (some ⟨g,off,none⟩) ks.length cap) ks nx (nx+1) (.slice bsl B2.D.length bcap) B2 ((tb,Is (aG (p1,c.length)))::J2))) (by unfold fe;exact ae);have HC0:=qqH (show KV S (.slice (some ⟨g,off,none⟩) ks.length cap) ks nx (nx+1) w (dn++(vs.take k).map (fun V=>(l,V))) V wb m tb c (p1,c.length) q wv chs (.slice bsl B2.D.length bcap) B2 J2 sp2 _ from⟨hcb2,hch,hqb,hqK,hAo,hT3⟩);have HX:=Hq4 hpo htm hbody hchl;clear hvf hcells hc3 heK hep hbcells hcl6 hfit hbody hdl hpl hD htm hT1 hmo1 hT2 hT3 hcb hcb2 hch hpo hAo hT hhe he hek hq hqK hge hqb hchl htb;go_upto_region 27 with(first|(refine ai rfl (iI IT (.tmp 81) (.tmp 82) rfl Tryz.underlying238 HR.a HR.b (xw _) (p1,c.length) rfl rfl HR.w ?_);rw[HR.c,HR.d];simp only[Option.getD_some,plV])|fail);generalize hW5:(wr.alloc (.cells #[.int .i64 p1,.int .i64 c.length] 161)).alloc (.cells #[.int .i64 q.1,.int .i64 q.2] 161)=W5;have HC:Hid (KV S (.slice (some ⟨g,off,none⟩) ks.length cap) ks nx (nx+1) w (dn++(vs.take k).map (fun V=>(l,V))) V wb m tb c (p1,c.length) q wv chs (.slice bsl B2.D.length bcap) B2 J2 sp2 W5):=qqH (by rw[<- hW5];exact HC0.out);generalize hvb2:Value.slice bsl B2.D.length bcap=vb2 at HC ⊢;rw[<- HTB.out];clear hW5 HTB HR HC0 hq1 hq2 hvb2 hbc
       case' false =>
        have hne:∀e∈B.mp,e.key≠(p1,c.length):=fun e he hk=>by
         rw[iy.2 ⟨e,he,hk⟩]at hhe;cases hhe
        have hge:dB B.mp (p1,c.length)=none:=gw.2 hne;have hms:=hcb.miss HI.out.nd heK hne;obtain⟨bd1,bd2,bd3,bd4,-,-,-⟩:=hcb.ct.bounds hD;have hT2:=hT1.Q8 (.cells #[.int .i64 0,.int .i64 0] 161 (0,0));rw[World.size_alloc,<- htb]at hT2;obtain⟨R0,hR0⟩:∃R0,R0=(S.a,Is (aH S.X))::(az S.X.d S.L++(aF S.X.pm S.ps S.pc++(b8 S.X.tm S.ts S.tc++(aM S.X.cm S.cs S.cc++((tb+1,Is (.cells #[.int .i64 0,.int .i64 0] 161 (0,0)))::(tb,Is (aG (p1,c.length)))::(bT (gL wb V wv chs)++(bN 9 1 (.slice (some ⟨g,off,none⟩) ks.length cap) ks.length (ks.map str)++(cbF nx (nx+1) (.slice bsl B.D.length bcap) B++J)))))))):=⟨_,rfl⟩;have hT3:=hT2.to (H:=aq S.X.ab S.X.d { S.A with spare:=sp }++R0) (by rw[hR0];unfold fe;rw[gZ];exact ae);have HL2:=qqH (oZ S.a S.X S.X.ab S.X.d rfl { S.A with spare:=sp } S.L p1 c R0 _ hT3.sat (fun x=>by rw[hR0];simp only[ao,ah];omega) HI.out.ok.dev hAo HI.out.ok.fits HI.out.ok.nmax ((HI.out.ok.kat _ heK).2.Qe HI.out.ok.dat));have HR:=Hq7 hmo1 hcb.map hge hhe hpl hT3 hR0;have HB:=Hq8 hcb hms hne heK hcl6 bd2 bd3 bd4;have HX:=Hq5 hpo htm hbody hchl hch;clear hvf hcells hc3 heK hep hbcells hcl6 hfit hbody hdl hpl htm hT1 hmo1 hT2 hT3 hcb hch hpo hAo hT hhe hge hchl hne hms bd1 bd2 bd3 bd4 htb hR0;go_wp2_with (first|(refine ai rfl (iI IT (.tmp 81) (.tmp 82) rfl Tryz.underlying238 HR.a HR.b (xw _) (p1,c.length) rfl rfl HR.e ?_);rw[HR.c,HR.d];simp only[Option.getD_none])|fail);refine HL2.out.mono ?_;rintro e w5 ⟨av,cv,sp2,rfl,hbo,hAo2,hT5⟩
        have hT6:Turns (arF S) ((tb+1,Is (.cells #[.int .i64 0,.int .i64 0] 161 (0,0)))::((tb,Is (aG (p1,c.length)))::(aI (.slice av c.length cv) c++(bT (gL wb V wv chs)++fe S sp2 (.slice (some ⟨g,off,none⟩) ks.length cap) ks nx (nx+1) (.slice bsl B.D.length bcap) B J)))) w w5:=by
         have h1:=HR.f.trans hT5;rw[HR.u]at h1;exact h1.to (by unfold fe;rw[gZ];exact ae)
        have t1:w5.cell? ⟨tb,1,none⟩=some (.int .i64 c.length):=aa (hT6.sat.Q7 (b:=tb) (o:=aG (p1,c.length)) (by simp)) 1 rfl;have tl:=ac (hT6.sat.Q7 (b:=tb) (o:=aG (p1,c.length)) (by simp));have tl2:=ac hT6.sat.Q5;have H6:=Hq3 hbo hAo2 hT6;rw[<- HTB.out];clear hbo hAo2 hT5 hT6 HL2
        go_wp2_with (first
         | (refine ai rfl (qq 161 (.tmp 13) (.tmp 101) rfl (tb+1) #[.int .i64 0,.int .i64 0] #[.int .i64 B.D.length,.int .i64 c.length] 161 H6.y rfl rfl rfl (by kernel_rfl) (by simp[Value.oneCell']) ?_);intro w6 hT6;have d0:=aa hT6.sat.Q5 0 rfl;have d1:=aa hT6.sat.Q5 1 rfl;have d2:w6.cell? ⟨tb,0,none⟩=some (.int .i64 p1):=aa (hT6.sat.Q7 (b:=tb) (o:=aG (p1,c.length)) (by simp)) 0 rfl;have d3:w6.cell? ⟨tb,1,none⟩=some (.int .i64 c.length):=aa (hT6.sat.Q7 (b:=tb) (o:=aG (p1,c.length)) (by simp)) 1 rfl;have tl:=ac (hT6.sat.Q7 (b:=tb) (o:=aG (p1,c.length)) (by simp));have tl2:=ac hT6.sat.Q5;have H7:=qqH (hT6.to (H:=(nx+1,Is (aQ plV B.mp B.mc))::((tb+1,Is (.cells #[.int .i64 B.D.length,.int .i64 c.length] 161 (0,0)))::((tb,Is (aG (p1,c.length)))::(aI (.slice av c.length cv) c++(bT (gL wb V wv chs)++(bN 9 1 (.slice (some ⟨g,off,none⟩) ks.length cap) ks.length (ks.map str)++((nx,Is (jn B))::(aF B.pm B.ps B.pc++(b8 B.tm B.ts B.tc++(aM B.cm B.cs B.cc++(aI (.slice bsl B.D.length bcap) B.D++(arF (bK S sp2)++J)))))))))))) (by unfold fe cbF;exact ae));clear hT6;simp only[Act.put])
         | (refine ai rfl (lw IT (.tmp 102) (.tmp 103) (.tmp 104) rfl Tryz.underlying238 (nx+1) B.mp B.mc H7.out HR.b (p1,c.length) (plV (B.D.length,c.length)) rfl rfl rfl HR.e ?_);intro w7 hT7;have e0:w7.cell? ⟨tb+1,0,none⟩=some (.int .i64 B.D.length):=aa hT7.sat.tail.Q5 0 rfl;have e1:w7.cell? ⟨tb+1,1,none⟩=some (.int .i64 c.length):=aa hT7.sat.tail.Q5 1 rfl;have tl3:=ac hT7.sat.tail.Q5;have H8:=qqH hT7;clear hT7;simp only[Act.put])
         | fail)
        obtain⟨R8,hR8⟩:∃R8,R8=(tb+1,Is (.cells #[.int .i64 B.D.length,.int .i64 c.length] 161 (0,0)))::(tb,Is (aG (p1,c.length)))::(bT (gL wb V wv chs)++(bN 9 1 (.slice (some ⟨g,off,none⟩) ks.length cap) ks.length (ks.map str)++(aF B.pm B.ps B.pc++(b8 B.tm B.ts B.tc++((nx+1,Is (aQ plV (gA B.mp B.mc (p1,c.length) (plV (B.D.length,c.length))) (cw B.mp B.mc (p1,c.length))))::(arF (bK S sp2)++J)))))):=⟨_,rfl⟩;have hT8:=H8.out.to (H:=((nx,Is (.cells (dP B.pm B.tm B.cm B.X.sc B.X.sb B.X.used) 123 (0,0)))::aM B.cm B.cs B.cc)++(aI (.slice av c.length cv) c++(aI (.slice bsl B.D.length bcap) B.D++R8))) (by rw[hR8];unfold jn;exact ae);have HK2:=qqH (oX nx B.pm B.tm B.cm B.cc B.X.sc B.X.sb B.X.used B.cs c av cv (B.D.length,c.length) (dP B.pm B.tm B.cm B.X.sc B.X.sb B.X.used) 123 w7 hT8.sat.left ⟨rfl,rfl,rfl,rfl,rfl,rfl⟩ HB.a.ct.chunks (kq (hT8.sat.right.left) H6.a) (by have:=HB.t (be (cF 1 c) 4);omega) (by have:=HB.e;omega) (by have:=HB.f;omega) (by have:=HB.g;omega));have H9:=Hq2 hT8 hR8;clear hT8 hR8;go_wp2_with fail;refine HK2.out.mono ?_;rintro e w8 ⟨v',rfl,hv',hT9⟩;have hT10:=H9.a.step (Perm.refl _) hT9;have hT10:Turns (arF S) ((nx,Is (jn (B.chunk c (p1,c.length) v')))::(aM B.cm (B.chunk c (p1,c.length) v').cs (B.chunk c (p1,c.length) v').cc++(aI (.slice av c.length cv) c++(aI (.slice bsl B.D.length bcap) B.D++R8)))) w w8:=hT10;have hcc:=kq (hT10.sat.tail.right.left) H6.a;have HF1:=qqH (gX 1 av cv c w8 hcc (by have:=HB.e;omega));have H10:=Hq2 hv' hT10;clear hv' hT9 hT10 hcc e0 e1 tl3;go_wp2_with fail;refine HF1.out.mono ?_;rintro e w9 ⟨v9,rfl,hok9,hT11⟩;have hT12:=(Turns.Qb H10.z hT11).to (H:=aI (.slice bsl B.D.length bcap) B.D++(aI v9 (frame 1 c)++((nx,Is (jn (B.chunk c (p1,c.length) v')))::(aM B.cm (B.chunk c (p1,c.length) v').cs (B.chunk c (p1,c.length) v').cc++(aI (.slice av c.length cv) c++R8))))) ae;obtain⟨sl9,cap9,rfl,-,-,hcl9,-⟩:=aP (dr (hT12.sat.right.left) hok9);have H12:=Hq2 hT12 hcl9;clear hok9 hT11 hT12 hcl9
        go_upto_region 27 with(first
         | (at_builtin;refine ai rfl ?_;refine go (.tmp 108) (.tmp 110) rfl (.slice bsl B.D.length bcap) B.D rfl H12.a HB.a.row sl9 (frame 1 c).length cap9 rfl (frame 1 c) rfl H12.z (by rw[aJ];have:=HB.e;omega) ?_;intro a13 c13 W5 hok13 hT13 _;have H13:=Hq2 hok13 hT13;clear hok13 hT13)
         | fail)
        obtain⟨q,hq⟩:∃q,q=(B.D.length,c.length):=⟨_,rfl⟩;obtain⟨J2,hJ2⟩:∃J2,J2=aI (.slice av c.length cv) c++(aI (.slice sl9 (frame 1 c).length cap9) (frame 1 c)++J):=⟨_,rfl⟩;have hcb2:=HB.a.chunk HB.d HB.b HB.c HB.e (by omega) HR.e H10.a H13.a;have hqK:(c,q)∈(B.chunk c (p1,c.length) v').s.K:=by rw[hq];exact mem_append_right _ (by simp)
        have hT3:=H13.z.to (H:=(tb+1,Is (aG q))::(bT (gL wb V wv chs)++fe S sp2 (.slice (some ⟨g,off,none⟩) ks.length cap) ks nx (nx+1) (.slice a13 (B.D++frame 1 c).length c13) (B.chunk c (p1,c.length) v') ((tb,Is (aG (p1,c.length)))::J2))) (by
         rw[hJ2,hq];unfold fe;rw[Fo,H9.z];show Perm _ ((tb+1,Is (.cells #[.int .i64 B.D.length,.int .i64 c.length] 161 (0,0)))::_);exact ae)
        have hch2:iP S (B.chunk c (p1,c.length) v').s.K (V.chs.take m) chs:=HX.w.more _;obtain⟨B2,hB2⟩:∃B2,B2=B.chunk c (p1,c.length) v':=⟨_,rfl⟩;have HC:Hid (KV S (.slice (some ⟨g,off,none⟩) ks.length cap) ks nx (nx+1) w (dn++(vs.take k).map (fun V=>(l,V))) V wb m tb c (p1,c.length) q wv chs (.slice a13 (B.D.length+(frame 1 c).length) c13) B2 J2 sp2 W5):=qqH (by rw[hB2,<- length_append];exact⟨hcb2,hch2,hcb2.ct.body hqK,hqK,H6.b,hT3⟩);generalize hvb2:Value.slice a13 ((B.D.length:Nat)+(frame 1 c).length) c13=vb2 at HC ⊢;have HX:=Hq4 HX.a HX.b HX.c HX.d;clear hq hJ2 hcb2 hqK hT3 hch2 hB2 hvb2 H13 H12 H10 H9 H8 H7 H6 HR HB HF1 HK2 HTB hD hq1 hq2 hbc tl tl2 d0 d1 d2 d3
       all_goals
        refine cL [([0,1,2,3,4,5],6,[0,1,2,3,4]),([],7,[0]),([8,9],10,[])] [] HM.out (by kernel_rfl) fun W tW=>?_
        simp only[Mix,map_cons,map_nil,nth,QG,QF];have hT:=tW HC.v;clear tW;have gv:∀{W:World},W.heap[wb]?=some (dq (gL wb V wv chs))->W.cell? ⟨wb,2,none⟩=some wv:=fun h=>aa h 2 rfl
        have gq:∀{W:World},W.heap[tb+1]?=some (aG q)->W.rangeAt (tb+1) 0 [.int .i64 q.1,.int .i64 q.2]:=fun h j v hv=>aa h (0+j) (by rw[Nat.zero_add,<- Array.getElem?_toList];exact hv)
        have g0:=gv (hT.sat.Q7 (by simp[bT,gL]));repeat still_step
        refine iL 161 (.tmp 13) rfl rfl (tb+1) 0 rfl [.int .i64 q.1,.int .i64 q.2] _ (gq (hT.sat.Q7 (by simp))) Tryz.underlying161 rfl (by kernel_rfl) ?_;refine wpStill_nil (i6 (aG q) (fun n=>.slice (some ⟨n,0,none⟩) 1 1) (by kernel_rfl) hT fun n W1 hT1=>⟨?_,?_⟩)
        ·have g0:=gv (hT1.sat.Q7 (by simp[bT,gL]));repeat still_step
         exact rfl
        have hn:=hT1.sat.Q5
        refine wpStill_nil (kF (.tmp 116) (.tmp 118) rfl wv chs rfl (hT1.to (H:=aU wv chs++((wb,Is (dq (gL wb V wv chs)))::(n,Is (aG q))::(tb+1,Is (aG q))::fe S sp2 (.slice (some ⟨g,off,none⟩) ks.length cap) ks nx (nx+1) vb2 B2 ((tb,Is (aG (p1,c.length)))::J2))) (by rw[BL];exact ae)) HX.a (some ⟨n,0,none⟩) 1 1 rfl [q] rfl (fun _=>⟨_,rfl,fun j u hu=>by
         rw[Addr.add_lit,Nat.zero_add];exact aa hn j (by rw[<- Array.getElem?_toList];exact hu)⟩) (by have:=HX.x;simp;omega) fun v2 W2 h1 hT2=>⟨?_,?_⟩)
        ·repeat still_step
         exact rfl
        simp only[Act.put,QA,QB,QC];repeat still_step
        have h21:=dl hT2.sat.left h1;refine wpStill_nil (bu 150 (.tmp 121) (.tmp 119) rfl wb 2 (fC (gL wb V wv chs)) 152 v2 (hT2.to (H:=(wb,Is (dq (gL wb V wv chs)))::(aU v2 (chs++[q])++((n,Is (aG q))::(tb+1,Is (aG q))::fe S sp2 (.slice (some ⟨g,off,none⟩) ks.length cap) ks nx (nx+1) vb2 B2 ((tb,Is (aG (p1,c.length)))::J2)))) ae) rfl rfl (by simp[fC]) (by kernel_rfl) h21.1 h21.2.1 fun W3 hT3=>⟨rfl,?_⟩);refine wpStill_nil ?_;have HF:=Hq2 h1 hT3;clear hT gv gq g0 hT1 hn h1 hT2 h21 hT3;go_wp2_with fail;go_roundw
        case rel =>
         refine⟨m+1,B2,(n,Is (aG q))::(tb+1,Is (aG q))::(tb,Is (aG (p1,c.length)))::J2,sp2,v2,chs++[q],by omega,by go_num,?_,?_,HF.a,HC.e,?_⟩
         ·rw[HX.b,map_append,map_cons,map_nil,HX.c];exact HC.a
         ·rw[HX.b];exact HC.b.snoc HX.c HC.c ⟨_,HC.d,rfl⟩
         ·have h3:Turns (arF S) ((wb,Is (dq (gL wb V v2 (chs++[q]))))::(aU v2 (chs++[q])++((n,Is (aG q))::(tb+1,Is (aG q))::fe S sp2 (.slice (some ⟨g,off,none⟩) ks.length cap) ks nx (nx+1) vb2 B2 ((tb,Is (aG (p1,c.length)))::J2)))) w _:=HF.z;exact h3.to (by rw[BL];unfold fe;exact ae)
        case measure=>simp[intOf];omega
      ·obtain rfl:m=V.chs.length:=by omega
       rw[take_length]at hcb hch
       have hD:B.D.length<=810000:=Nat.le_trans (HI.out.le hcb (HD.c k) (by simp[dU]) (fun x hx=>by
        obtain⟨q,hq,rfl⟩:=mem_map.1 hx;exact ny (HV.c q hq))) HI.out.cost
       obtain⟨bd1,bd2,bd3,bd4,bd5,-,-⟩:=hcb.ct.bounds hD;obtain⟨bsl,bcap,hbv,-,hbc,-,-⟩:=aP (dr (hT.sat.sub (G:=aI u4 B.D) (fun x=>by unfold fe cbF;simp only[ao,ah];omega)) hcb.row);subst hbv;have hl20:=HL.out (fun e=>by rw[e]at hkl;simp at hkl);have hnum:=HV.f;have hkn:(B.ps.map (·.key)).Nodup:=by rw[<- cE];exact hcb.ct.paths.map.nodup
       obtain⟨R4,hR4⟩:∃R4,R4=bN 9 1 (.slice (some ⟨g,off,none⟩) ks.length cap) ks.length (ks.map str)++(b8 B.tm B.ts B.tc++(aM B.cm B.cs B.cc++((nx+1,Is (aQ plV B.mp B.mc))::(arF (bK S sp)++J)))):=⟨_,rfl⟩;have hT1:=hT.to (H:=((nx,Is (.cells (dP B.pm B.tm B.cm B.X.sc B.X.sb B.X.used) 123 (0,0)))::(aF B.pm B.ps B.pc++bT (gL wb V wv chs)))++(aI (.slice bsl B.D.length bcap) B.D++R4)) (by rw[hR4];unfold fe cbF jn;exact ae);have HA:=qqH (qA nx B.pm B.tm B.cm B.pc B.X.sc B.X.sb B.X.used B.ps l (gL wb V wv chs) (dP B.pm B.tm B.cm B.X.sc B.X.sb B.X.used) 123 wr hT1.sat.left ⟨rfl,rfl,rfl,rfl,rfl,rfl⟩ hcb.ct.paths (by unfold OkS;omega) (by have:=bd5 l;omega) (by simp only[gL];omega) (by simp only[gL];omega));have HX:=Hq9 hcb hch hpo hAo hT1 hR4 hl20 hnum hkn;clear hcb hch hpo hAo hT bd1 bd2 bd3 bd4 bd5 hT1 hR4 hl20 hnum hkn;go_wp2_with fail;refine HA.out.mono ?_;rintro e w5 ⟨v',rfl,hv',hT2⟩;have hT3:=HX.e.step (Perm.refl _) hT2;have hT3:Turns (arF S) ((nx,Is (jn (B.ver l V wb wv v' chs)))::(aF B.pm (kh B.ps B.pc l v' (gL wb V wv chs)) (cw (B.ps.map aO) B.pc l)++(aI (.slice bsl B.D.length bcap) B.D++R4))) w w5:=hT3;have hvf:=(hT3.sat.tail.left.tail.perm (qS B.pc l v' (gL wb V wv chs) HX.out.2.2.2.2.2.2.2.2)).right.right
       have HVR:Hid (Calls Tryz.prog 81 #[str l,.pointer (some ⟨wb,0,none⟩)] w5 (fun e w'=>∃av cv,e=.returned (.agg #[.int .u8 2,str l,.int .i64 V.num,.int .i64 V.size,.slice av (bt chs).length cv])/\al w' av ((bt chs).map dQ)/\aX w5 w')) :=
        qqH (ju l (gL wb V wv chs) w5 hvf HX.c (by have:=HX.b.len;show chs.length<=_;omega))
       have H3:=Hq2 hv' hT3;clear hv' hT2 hT3 hvf;go_wp2_with fail;refine HVR.out.mono ?_;rintro e w6 ⟨av,cv,rfl,hc6,hs6⟩;have hlen:=HX.b.len
       have HW:=qqH (ng 2 l V.num V.size av cv (bt chs) w6 hc6 (by have:=HX.g;omega) (by have:=HX.h.1;unfold I64;omega) (by have:=HX.h.2.1;unfold I64;omega) (fun n hn=>by
        obtain⟨q,hq,rfl⟩:=mem_map.1 hn;obtain⟨e,he,rfl⟩:=HX.b.2 q hq;have:=HX.a.ct.at_lt e he;unfold I64;omega) (by unfold bt;rw[length_map];omega))
       have H6:=qqH (H3.z.Q9 hs6);clear hc6 hs6 hlen;go_wp2_with fail;refine HW.out.mono ?_;rintro e w7 ⟨v7,rfl,hok7,hT7⟩;have hT8:=(Turns.Qb H6.out hT7).to (H:=aI (.slice bsl B.D.length bcap) B.D++(aI v7 (frame 2 (eC l V.num V.size (bt chs)))++((nx,Is (jn (B.ver l V wb wv v' chs)))::(aF B.pm (kh B.ps B.pc l v' (gL wb V wv chs)) (cw (B.ps.map aO) B.pc l)++R4)))) ae;obtain⟨sl9,cap9,rfl,-,-,hcl9,-⟩:=aP (dr (hT8.sat.right.left) hok7);have hfl:=gc l V.num V.size chs;have hlen:=HX.b.len;have H8:=Hq3 hT8 hcl9 hfl;clear hok7 hT7 hT8 hcl9 hfl
       go_wp2_with (first
        | (at_builtin;refine ai rfl ?_;refine go (.tmp 126) (.tmp 131) rfl (.slice bsl B.D.length bcap) B.D rfl H8.a HX.a.row sl9 _ cap9 rfl (frame 2 (eC l V.num V.size (bt chs))) rfl H8.b (by rw[H8.y];have:=HX.g;omega) ?_;intro a13 c13 W5 hok13 hT13 _;rw[length_append]at hok13 hT13;have H13:=Hq2 hok13 hT13;clear hok13 hT13)
        | fail)
       go_roundw
       case rel =>
        refine⟨k+1,B.ver l V wb wv v' chs,aI (.slice sl9 (frame 2 (eC l V.num V.size (bt chs))).length cap9) (frame 2 (eC l V.num V.size (bt chs)))++J,sp,by omega,by go_num,?_,HX.d,?_⟩
        ·rw[HV.u];exact HX.a.ver HI.out.ok HX.g HX.h.1 HX.h.2.1 (by omega) HX.h.2.2.1 ⟨HV.c,HV.d⟩ HX.b HX.c H3.a H13.a
        ·refine H13.z.to ?_;unfold fe;rw[JR,HX.f];exact ae
       case measure=>simp[intOf];omega
    ·obtain rfl:k=vs.length:=by omega
     have HR:=Hq3 hcb hAo hT;clear hcb hAo hT;go_wp2_with fail;go_roundw
     case rel=>exact⟨j+1,B,J,sp,by omega,by go_num,by rw[<- HD.b];rw[take_length]at HR;exact HR.a,HR.b,HR.y⟩
     case measure=>simp[intOf];omega
  ·obtain rfl:j=ks.length:=by omega
   rw[take_length]at hcb;have htm:=hT.sat.Q7 (b:=S.X.tm) (o:=aQ str (S.ts.map aO) S.tc) (by simp[fe,gZ,b8]);have hlenT:(S.ts.map aO).length<=90000:=by rw[length_map];exact HH.y
   obtain⟨D2,hD2,hD2p,hD2s⟩:=pd htm HI.out.ok.tags.map (by omega);have hKs2:=ow S.X.tm _ D2 Fa wr hD2 (by rw[hD2s];unfold maxLen;omega) (by rw[hD2s];omega);have HK2:=qqH (callsIn_wide.1 hKs2);have HM2:=qqH (callsIn_wide.1 (uh (some S.X.tm) wr));have hA:=(hT.sat.right.right.left).Q5;have a1:wr.cell? ⟨S.a,1,none⟩=some (.map (some S.X.tm)):=aa hA 1 rfl;have hal6:=ac hA;have HR:=Hq4 hcb hAo hT hD2p;clear hcb hAo hT htm hlenT hD2 hD2p hD2s hKs2 hA;go_wp2_with fail;refine HM2.out.mono ?_;rintro e w5 ⟨rfl,rfl⟩;go_wp2_with fail;refine HK2.out.mono ?_;rintro e w6 ⟨v2,ss2,rfl,hss2,hown2,-,hbel2⟩;obtain⟨hs1,hs2⟩:=rY hss2 HR.x;rw[hs1,hs2]at hown2;obtain⟨ns,hns⟩:∃ns,ns=eZ S.ts:=⟨_,rfl⟩;have hns':kC ((S.ts.map aO).map (·.key))=ns:=by rw[hns,cE];rfl
   rw[hns']at hown2;obtain⟨hro2,hT6⟩:=AO (HR.c.alloc _) rfl (by rw[length_map];exact hown2) hbel2;rw[length_map]at hro2 hT6;obtain⟨nsl,ncap,rfl,hncap0,hncap,-,-⟩:=bC hT6.sat.left hro2 (by decide)
   have hnl:ns.length<=90000:=by
    have:=HH.y;rw[hns];unfold eZ;rw[length_mergeSort,length_map];exact this
   have hT7:=hT6.to (H:=fe S sp (.slice nsl ns.length ncap) ns nx (nx+1) u4 B (bN 9 1 (.slice sl ks.length cap) ks.length (ks.map str)++J)) (by unfold fe;exact ae);have hal7:=ac (hT7.sat.right.right.left).Q5;have H7:=Hq4 hT7 hro2 hns hnl;clear hss2 hown2 hbel2 hs1 hs2 hns hns' hro2 hT6 hT7 a1;go_wp2_with fail;go_loopw [4,143] (fun vb i wr=>Md S (.slice nsl ns.length ncap) ns nx (nx+1) w vb i wr) (fun _ i _=>ns.length-(intOf i).toNat)
   case atStart=>exact⟨0,B,_,sp,Nat.zero_le _,rfl,by rw[<- H4.c];exact HR.a,HR.b,H7.a⟩
   case round =>
    clear HR;obtain⟨j,B,J,sp,hj,rfl,hcb,hAo,hT⟩:=hrel;by_cases hlt:j<ns.length
    ·obtain⟨sl2,cap2,e1',-,-,hcell,-⟩:=bC (w:=wr) hT.sat.left H7.b (by decide);simp only[Value.slice.injEq]at e1';obtain⟨rfl,-,rfl⟩:=e1';obtain⟨g,off,hg,hcc⟩:=hcell (by rw[length_map];omega);subst hg;have hc1:=hcc j (by rw[length_map];exact hlt);rw[getElem_map]at hc1;obtain⟨m,hm⟩:∃m,m=ns[j]:=⟨_,rfl⟩;rw[<- hm]at hc1;have hmk:m∈eZ S.ts:=by rw[<- H7.c,hm];exact getElem_mem hlt
     obtain⟨hlk,hOk⟩:=BA HI.out.ok.tags hmk;obtain⟨hm20,p,n,hpn,hp20,hn32⟩:=HI.out.tag_is hmk;rw[hpn]at hlk;have htm:=hT.sat.Q7 (b:=S.X.tm) (o:=aQ str (S.ts.map aO) S.tc) (by simp[fe,gZ,b8]);have hA:=(hT.sat.right.right.left).Q5;have a1:wr.cell? ⟨S.a,1,none⟩=some (.map (some S.X.tm)):=aa hA 1 rfl;have hal8:=ac hA;obtain⟨bsl,bcap,hbv,-,hbc,-,-⟩:=aP (dr (hT.sat.sub (G:=aI u4 B.D) (fun x=>by unfold fe cbF;simp only[ao,ah];omega)) hcb.row);subst hbv;have hnd:=HI.out.ok.tags.map.nodup
     have hnew:∀t∈c8 S.ts (ns.take j),t.1≠m:=fun t ht e=>by
      obtain⟨x,hx,rfl⟩:=mem_map.1 ht
      have hn2:(ns.take (j+1)).Nodup:=(take_sublist _ _).nodup (by
       rw[H7.c];unfold eZ;rw[cE]at hnd;exact(mergeSort_perm _ _).nodup_iff.2 hnd)
      rw[QH hlt,<- hm]at hn2;exact(nodup_append.1 hn2).2.2 x hx m (by simp) e
     have htk:c8 S.ts (ns.take (j+1))=c8 S.ts (ns.take j)++[(m,p,(n:Int))]:=by
      unfold c8;rw[QH hlt,<- hm,map_append];simp[hpn]
     have hD:B.D.length<=810000:=Nat.le_trans (HI.out.le hcb (prefix_refl _) (HI.out.Qi (by rw[<- H7.c];exact take_prefix _ _)) (fun c hc=>by cases hc)) HI.out.cost;obtain⟨-,-,-,-,bd5,-,bd7⟩:=hcb.ct.bounds hD;obtain⟨R4,hR4⟩:∃R4,R4=bN 9 1 (.slice (some ⟨g,off,none⟩) ns.length ncap) ns.length (ns.map str)++(aM B.cm B.cs B.cc++((nx+1,Is (aQ plV B.mp B.mc))::(arF (bK S sp)++J))):=⟨_,rfl⟩;have hT1:=hT.to (H:=jp nx (jn B) B.pm B.tm B.ps B.pc B.ts B.tc++(aI (.slice bsl B.D.length bcap) B.D++R4)) (by rw[hR4];unfold fe cbF jp;exact ae);have hPre:PinPreG nx (jn B) B.pm B.tm B.ps B.pc B.ts B.tc m p wr:=⟨hT1.sat.left,fun a W h=>aa h 0 rfl,fun a W h=>aa h 1 rfl,hcb.ct.paths,hcb.ct.tags,hOk,by unfold OkS;omega,by have:=bd5 p;omega,fun V hV=>by have:=bd7 p V hV;omega⟩;have HP:=qqH (Ez nx (jn B) B.pm B.tm B.ps B.pc B.ts B.tc m p n wr hPre);have HX:=qqH (And.intro hcb (And.intro hAo (And.intro hT1 (And.intro hR4 (And.intro hnew (And.intro htk (And.intro hlk (And.intro hOk (And.intro htm (And.intro hm20 (And.intro hp20 hn32)))))))))));clear hcb hAo hT hcell hcc hm hmk hlk hOk hpn htm hA hnd hnew htk bd5 bd7 hT1 hPre hR4 hm20 hp20 hn32;unfold qU at HP;go_wp2_with ((refine ez eb rfl _ _ rfl Tryz.underlying120 HX.out.2.2.2.2.2.2.2.2.1 HI.out.ok.tags.map (kf _) m rfl rfl HX.h ?_;rw[HX.g]));refine HP.out.mono ?_;rintro e w5 ⟨rfl,hT2⟩;have hT3:=HX.c.step (Perm.refl _) hT2;have htm:=hT3.sat.Q7 (b:=S.X.tm) (o:=aQ str (S.ts.map aO) S.tc) (by simp[HX.d,gZ,b8]);have a1:w5.cell? ⟨S.a,1,none⟩=some (.map (some S.X.tm)):=aa (hT3.sat.Q7 (b:=S.a) (o:=aH S.X) (by simp[HX.d,gZ])) 1 rfl;have hal9:=ac (hT3.sat.Q7 (b:=S.a) (o:=aH S.X) (by simp[HX.d,gZ]));have HPR:=qqH (lQ 4 m p n w5);unfold qU at HPR;have H3:=Hq2 hT3 htm;clear hT2 hT3 htm;go_wp2_with ((refine ez eb rfl _ _ rfl Tryz.underlying120 H3.z HI.out.ok.tags.map (kf _) m rfl rfl HX.h ?_;rw[HX.g]));refine HPR.out.mono ?_;rintro e w6 ⟨rfl,hs6⟩;have HW:=qqH (kd 4 p m n w6 (by have:=HX.out.2.2.2.2.2.2.2.2.2.2.1;omega) (by have:=HX.out.2.2.2.2.2.2.2.2.2.1;omega) (by have:=HX.out.2.2.2.2.2.2.2.2.2.2.2;unfold I64;omega));have H6:=qqH (H3.a.Q9 hs6);clear hs6 a1;go_wp2_with fail;refine HW.out.mono ?_;rintro e w7 ⟨v7,rfl,hok7,hT7⟩;have hT8:=(Turns.Qb H6.out hT7).to (H:=aI (.slice bsl B.D.length bcap) B.D++(aI v7 (frame 4 (dR p m n))++(jp nx (jn B) B.pm B.tm (cP B.ps p n 1) B.pc (ef B.ts B.tc m (mx m (p,(n:Int))) (p,(n:Int))) (cw (B.ts.map aO) B.tc m)++R4))) ae;obtain⟨sl9,cap9,rfl,-,-,hcl9,-⟩:=aP (dr (hT8.sat.right.left) hok7);have hfl:=tR p m n;have H8:=Hq3 hT8 hcl9 hfl;clear hok7 hT7 hT8 hcl9 hfl
     go_wp2_with (first
      | (at_builtin;refine ai rfl ?_;refine go (.tmp 155) (.tmp 165) rfl (.slice bsl B.D.length bcap) B.D rfl H8.a HX.a.row sl9 _ cap9 rfl (frame 4 (dR p m n)) rfl H8.b (by rw[H8.y];have:=HX.out.2.2.2.2.2.2.2.2.2.1;have:=HX.out.2.2.2.2.2.2.2.2.2.2.1;omega) ?_;intro a13 c13 W5 hok13 hT13 _;rw[length_append]at hok13 hT13;have H13:=Hq2 hok13 hT13;clear hok13 hT13)
      | fail)
     go_roundw
     case rel =>
      refine⟨j+1,B.tag m p n,aI (.slice sl9 (frame 4 (dR p m n)).length cap9) (frame 4 (dR p m n))++J,sp,by omega,by go_num,?_,HX.b,?_⟩
      ·rw[HX.f];exact HX.a.tag HX.out.2.2.2.2.2.2.2.2.2.2.1 HX.out.2.2.2.2.2.2.2.2.2.1 HX.out.2.2.2.2.2.2.2.2.2.2.2 HX.e H13.a
      ·refine H13.z.to ?_;unfold fe;rw[JQ,HX.d];unfold jp;exact ae
     case measure=>simp[intOf];omega
    ·obtain rfl:j=ns.length:=by omega
     rw[take_length,H7.c]at hcb;have hlen:B.D.length<=ja S:=HI.out.le hcb (prefix_refl _) (HI.out.Qi (prefix_refl _)) (fun c hc=>by cases hc);have hcost:=HI.out.cost;have hroom:=HI.out.room;have hep:=HI.out.ep;obtain⟨bsl,bcap,hbv,-,hbc,-,-⟩:=aP (dr (hT.sat.sub (G:=aI u4 B.D) (fun x=>by unfold fe cbF;simp only[ao,ah];omega)) hcb.row);subst hbv;obtain⟨e1,he1⟩:∃e1,e1=S.X.ep+1:=⟨_,rfl⟩;obtain⟨hN,hhN⟩:∃n,n=ap S.L.n:=⟨_,rfl⟩;obtain⟨R5,hR5⟩:∃R5,R5=(nx,Is (jn B))::(aF B.pm B.ps B.pc++(b8 B.tm B.ts B.tc++(aM B.cm B.cs B.cc++((nx+1,Is (aQ plV B.mp B.mc))::(aq S.X.ab S.X.d { S.A with spare:=sp }++(aF S.X.pm S.ps S.pc++(b8 S.X.tm S.ts S.tc++(aM S.X.cm S.cs S.cc++(bN 9 1 (.slice nsl ns.length ncap) ns.length (ns.map str)++J))))))))):=⟨_,rfl⟩;have hT1:=hT.to (H:=az S.X.d S.L++((S.a,Is (aH S.X))::(aI (.slice bsl B.D.length bcap) B.D++R5))) (by rw[hR5];unfold fe cbF;rw[gZ];exact ae);have hw1:IntKind.u32.wrap ((S.X.ep:Int)+1)=(e1:Int):=by rw[wrap_u32 (by omega) (by omega)];omega
     have n16:=HI.out.ok.n16;have nmax:=HI.out.ok.nmax
     have hNl:7<=hN/\hN<=1073741824/\2+e1%2*hN+hN<=S.L.n:=by
      rw[hhN];unfold ap;rcases Nat.mod_two_eq_zero_or_one e1 with e|e<;>rw[e]<;>omega
     have hal8:=ac (hT1.sat.right.Q5);have HX:=Hq7 hcb hlen hT1 hR5 he1 hhN hNl;have hbd:B.D.length<=128*hN:=by rw[hhN];omega
     have hN9:hN<=1073741824:=hNl.2.1;clear hcb hlen hT hT1 hR5 he1 hhN hNl hroom;go_upto_region 39 with(fail);refine cL [([0,1,2,3,4,5,6,7,8],9,[])] [10] HM.out (by kernel_rfl) fun W tW=>?_
     simp only[Mix,map_cons,map_nil,nth,QG,QF];have hT2:=tW HX.c;clear tW;have k6:W.cell? ⟨S.a,6,none⟩=some (.pointer (some ⟨S.X.d,0,none⟩)):=aa hT2.sat.right.Q5 6 rfl;have k8:W.cell? ⟨S.a,8,none⟩=some (.int .u32 S.X.ep):=aa hT2.sat.right.Q5 8 rfl;have hh:=oW S.X.d S.L e1 W hT2.sat.left (by omega) nmax (by have:=HX.e;omega);rw[<- HX.f]at hh;repeat still_step
     refine wpStill_nil (bw (by kernel_rfl) hh ?_);rintro ev W5 ⟨ab,ch,rfl,hT3⟩;refine⟨_,rfl,rfl,?_⟩;simp only[Act.put,QA,QB,QC];repeat still_step
     refine wpStill_nil ?_;have hT4:=Turns.Qb hT2 hT3;obtain⟨T,hTd⟩:∃T:AreaL,T=⟨2+e1%2*hN,hN,0,ak 128,ch,[]⟩:=⟨_,rfl⟩;rw[<- hTd]at hT4;have hRo:=sW ab S.X.d T W5 hT4.sat.left (by rw[hTd];exact hN9) (by rw[hTd];exact Nat.zero_le _);have e2:((T.count:Int)*128-T.end_)=(hN:Int)*128:=by rw[hTd];simp
     unfold zg at hRo;rw[e2]at hRo;have HRo:=qqH hRo;have H4:=Hq2 hT4 hTd;have hro:¬((hN:Int)*128<(B.D.length:Int)):=by omega
     clear hT2 k6 k8 hh hT3 hT4 hTd e2 hRo;go_wp2_with fail;refine HRo.out.mono ?_;rintro e W6 ⟨rfl,hs6⟩;have hT6:=(H4.a.Q9 hs6).to (H:=((S.a,Is (aH S.X))::(aq ab S.X.d T++(az S.X.d S.L++aI (.slice bsl B.D.length bcap) B.D)))++R5) ae
     have HMv:=qqH (C8 S.a ab S.X.d S.X T S.L (.slice bsl B.D.length bcap) B.D W6 hT6.sat.left rfl hep HI.out.ok.dev n16 nmax (by rw[H4.z];exact HX.out.2.2.2.2.2.2.2.2) (by rw[H4.z];exact Nat.le_add_right _ _) (by rw[H4.z];show 0<hN;have:=HX.g;omega) (by rw[H4.z]) (by rw[H4.z])
      (by rw[H4.z];exact⟨by rw[an],Nat.zero_le _,fun s hs=>by cases hs⟩) HX.a.row (by rw[H4.z];exact hbd) (by have:=HX.b;omega) (by have:=HX.b;have:=HCH.out;omega))
     have H6:=qqH hT6;clear hT6 hs6;go_wp2_with fail;refine HMv.out.mono ?_;rintro e W7 ⟨rfl,L',hT7,hL',hn',hsafe,hchs',hdat,hsec,hoth⟩;have hT8:=H6.out.step (Perm.refl _) hT7;have hT9:=hT8.to (H:=(S.a,Is (.cells (bb S.X).toList.toArray 128 (0,0)))::(aq ab S.X.d { T with end_:=B.D.length,tail:=bL B.D }++(az S.X.d L'++(aI (.slice bsl B.D.length bcap) B.D++R5)))) (by show Perm (((S.a,Is (.cells (bb S.X).toList.toArray 128 (0,0)))::_)++_) _;exact ae);have hno:=hT9.sat.Q7 (b:=nx) (o:=jn B) (by simp[HX.d]);have n0:W7.cell? ⟨nx,0,none⟩=some (.map (some B.pm)):=aa hno 0 rfl;have n1:W7.cell? ⟨nx,1,none⟩=some (.map (some B.tm)):=aa hno 1 rfl;have n2:W7.cell? ⟨nx,2,none⟩=some (.map (some B.cm)):=aa hno 2 rfl;have n3:W7.cell? ⟨nx,3,none⟩=some (.int .i64 B.X.sc):=aa hno 3 rfl;have n4:W7.cell? ⟨nx,4,none⟩=some (.int .i64 B.X.sb):=aa hno 4 rfl;have n5:W7.cell? ⟨nx,5,none⟩=some (.int .i64 B.X.used):=aa hno 5 rfl;have hnl:=ac hno;have hal9:=ac hT9.sat.Q5;have H9:=Hq7 hT9 hL' hn' hchs' hdat hsec hoth;clear hT7 hT8 hT9 hno hL' hn' hsafe hchs' hdat hsec hoth
     go_wp2_with (first
      | (refine ai rfl (DT 123 (.tmp 200) (.tmp 197) rfl S.a 0 (bb S.X).toList #[.map (some B.pm),.map (some B.tm),.map (some B.cm),.int .i64 B.X.sc,.int .i64 B.X.sb,.int .i64 B.X.used] 128 H9.a rfl rfl (by simp[bb]) (by kernel_rfl) (by simp[Value.oneCell']) ?_);intro W8 hT10;have d7:=aa hT10.sat.Q5 7 (v:=.pointer (some ⟨S.X.ab,0,none⟩)) rfl;have d8:=aa hT10.sat.Q5 8 (v:=.int .u32 S.X.ep) rfl;have f7:=bf hT10.sat.Q5 7;have f8:=bf hT10.sat.Q5 8;have hal10:=ac hT10.sat.Q5;have H10:=qqH hT10;clear hT10;simp only[Act.put])
      | fail)
     have s1:=bB H10.out.sat.Q5 7 (.pointer (some ⟨ab,0,none⟩));have s2:=bB s1 8 (.int .u32 e1);have m1:=((Mods.refl (fun k=>k=S.a) W8).set1 (i:=7) (.pointer (some ⟨ab,0,none⟩))).set1 (i:=8) (.int .u32 e1);have hT11:=H10.out.Qa m1 s2;go_ret;refine ⟨rfl,zJ S B L' ab ch,?_,?_⟩
     ·obtain⟨-,q1,q2,q3,q4,q5,q6⟩:=H9.out;rw[H4.z,HX.e,HX.f]at q4;refine CE HI.out HX.a HI.out.pins q1 q2 q3 q4 q5 ?_ ?_
      ·rw[d9,d9];refine q6 _ 1 (.inl ?_) ?_
       ·rw[H4.z];show _<=2+_;omega
       ·rcases Nat.mod_two_eq_zero_or_one S.X.ep with e|e
        ·exact .inl (by omega)
        ·exact .inr (by omega)
      ·have hr:(S.X.ep+1)%2+1<=2+S.X.ep%2*ap S.L.n:=Nat.le_trans (by omega) (Nat.le_add_right _ _);rcases Nat.mod_two_eq_zero_or_one S.X.ep with e|e
       ·have e2:(S.X.ep+1)%2=1:=by omega
        refine q6 _ _ (.inl ?_) (.inr hr);rw[H4.z];show 2+S.X.ep%2*ap S.L.n+ap S.L.n<=2+e1%2*hN;rw[HX.e,HX.f,e,e2];omega
       ·have e2:(S.X.ep+1)%2=0:=by omega
        refine q6 _ _ (.inr ?_) (.inr hr);rw[H4.z];show 2+e1%2*hN+hN<=2+S.X.ep%2*ap S.L.n;rw[HX.e,HX.f,e,e2];omega
     ·have he:=HX.e;subst he;have hT12:Turns (arF S) ((S.a,Is (aH (zJ S B L' ab ch).X))::(aq ab S.X.d { T with end_:=B.D.length,tail:=bL B.D }++(az S.X.d L'++(aI (.slice bsl B.D.length bcap) B.D++R5)))) w _:=hT11;refine hT12.drop (fun x=>?_);rw[JG,HX.d,H4.z,HX.f];simp only[ao,ah];omega
theorem ve(S:AS)(w:World)(h:Sat w (arF S))(hi:ColIn S)(b:Nat)(hB:ArB S b)(hb:b<=90000):
  Calls Tryz.prog 71 #[.pointer (some ⟨S.a,0,none⟩)] w (yS S w):=by
 cases hc:S.X.closed with
 | true=>exact(sK S w h hc).mono (fun e w' he=>.inl ⟨hc,he.1,Turns.same h he.2⟩)
 | false=>exact(xx S w h hi b hB hb hc).mono (fun e w' he=>.inr ⟨hc,he.1,he.2⟩)
theorem ArB.mono{S:AS}{b c:Nat}(h:ArB S b)(hbc:b<=c):ArB S c where
 K:=Nat.le_trans h.K hbc
 np:=Nat.le_trans h.np hbc
 nt:=Nat.le_trans h.nt hbc
 vers:=fun p hp=>⟨(h.vers p hp).1,Nat.le_trans (h.vers p hp).2.1 hbc,fun V hV=>by
  obtain⟨h1,h2,h3,h4⟩:=(h.vers p hp).2.2 V hV
  exact⟨by omega,by omega,by omega,by omega⟩⟩
 tags:=fun p hp=>by
  obtain⟨h1,h2,h3⟩:=h.tags p hp
  exact⟨h1,h2,by omega⟩
 used:=by have:=h.used;omega
 sc:=by have:=h.sc;omega
 sb:=by have:=h.sb;omega
 quota:=h.quota
 chs:=by have:=h.chs;omega
structure PB (X:WS) (k m:Nat) (N:Nat:=20000):Prop where
 b:ArB X.S (m+2*k)
 vs:X.R.vs.length<=k
 ts:X.R.ts.length<=k
 ml:X.M.length<=m
 nums:∀v∈X.R.vs,v.num<=k
 data:X.S.data.length+4*X.R.vs.length<=110*k+2*m
 n:X.S.L.n=N
 q:0<=X.S.X.quota/\X.S.X.quota<=9223372036854775807
 ab:AB X.S (X.M.map (·.bs))
 told:∃rs H,Told X.S rs H
 ep:X.S.X.ep<=k+1
theorem PB.mono{X:WS}{k m k' m' N:Nat}(h:PB X k m N)(hk:k<=k')(hm:m<=m'):PB X k' m' N where
 b:=h.b.mono (by omega)
 vs:=Nat.le_trans h.vs hk
 ts:=Nat.le_trans h.ts hk
 ml:=Nat.le_trans h.ml hm
 nums:=fun v hv=>by have:=h.nums v hv;omega
 data:=by have:=h.data;omega
 n:=h.n
 q:=h.q
 ab:=h.ab
 told:=h.told
 ep:=by have:=h.ep;omega
theorem PB.out{X:WS}{k m N:Nat}(h:PB X k m N)(sp:List (Nat×Nat×Nat))(ov wv:Value)(D:Bs):PB (Mi X sp ov wv D) k m N where
 b:=h.b.spare sp
 vs:=h.vs
 ts:=h.ts
 ml:=h.ml
 nums:=h.nums
 data:=h.data
 n:=h.n
 q:=h.q
 ab:=h.ab.of rfl rfl rfl (fun l V hV=>⟨V,hV,rfl⟩)
 told:=by obtain⟨rs,H,h1⟩:=h.told;exact⟨rs,H,h1.spare sp⟩
 ep:=h.ep
theorem PB.flush{X:WS}{k m N:Nat}(h:PB X k m N){L':DevL}(hf:ni X.S.L L'):PB { X with S:=js X.S L' } k m N where
 b:=h.b.flush hf
 vs:=h.vs
 ts:=h.ts
 ml:=h.ml
 nums:=h.nums
 data:=h.data
 n:=by show L'.n=_;rw[hf.2.1];exact h.n
 q:=h.q
 ab:=h.ab.of rfl rfl rfl (fun l V hV=>⟨V,hV,rfl⟩)
 told:=by obtain⟨rs,H,h1⟩:=h.told;exact⟨rs,H,h1.flush hf.2.2.1⟩
 ep:=h.ep
theorem tz(D:Bs):(aB D).length<=D.length:=by
 unfold aB;rw[du];exact cZ D
theorem Fz(S:AS)(D:Bs):(bF S D).length<=(aB D).length:=by
 unfold bF
 have:∀(has l acc:List Bs),(cn has acc l).length<=acc.length+l.length:=by
  intro has l;induction l with
  | nil=>intro acc;simp[cn]
  | cons c r ih =>
   intro acc;simp only[cn];split
   ·have:=ih acc;simp only[length_cons];omega
   ·have:=ih (acc++[c]);simp only[length_append,length_cons,length_nil]at this ⊢;omega
 simpa using this (S.K.map (·.1)) (aB D) []
structure LA (X:WS):Prop where
 link:Link X.S X.R
 ar:ArOk X.S
theorem PB.putL{X:WS}{k m N:Nat}(h:PB X k m N)(hw:LA X){o:OpL}{S':AS}{V:VerL}{vv cv mv:Value}{M':List SlB}(hp:PutStep X.S S' o.s o.d V)(hpb:xF X.S o.d (m+2*k) S')(hD:o.d.length<=4000)(hl:aw o.s=true)(hM:M'.map (·.bs)=eF (X.M.map (·.bs)) (aB o.d))(hw':LA (IW X o S' vv cv mv M'))(hk:k+1<=400)(hm:m+o.d.length<=60000):PB (IW X o S' vv cv mv M') (k+1) (m+o.d.length) N:=by
 have hnr:gU X.R.vs o.s X.R.vs.length<=k+1:=by
  rw[nH _ _ _ (Nat.le_refl _),take_length]
  cases hg:(aD X.R.vs o.s).getLast? with
  | none=>simp;omega
  | some v =>
   have:=h.nums v (mem_filter.1 (mem_of_getLast? hg)).1;simp only[Option.map_some,Option.getD_some];omega
 have hVn:(V.num:Int)=gU X.R.vs o.s X.R.vs.length:=by rw[hw.link.nr,hp.num];simp
 have hroom:=A0 (S:=X.S) (D:=o.d) (bP hl) (n:=V.num) (s:=V.size) hp.nchs
 have hdl:S'.data.length+4*(cN X.R.vs o.s ⟨o.s,gU X.R.vs o.s X.R.vs.length,o.d,cv,0⟩).length<=110*(k+1)+2*(m+o.d.length):=by
  have:=h.data;rw[hp.data,length_append,length_append,Eo];omega
 refine⟨?_,?_,?_,?_,?_,hdl,?_,?_,(by show AB S' (M'.map (·.bs));rw[hM];exact h.ab.put hw.ar hw'.ar hp),?_,(by show S'.X.ep<=_;rw[hp.ep];have:=h.ep;omega)⟩
 ·have h1:=Fz X.S o.d;have h2:=tz o.d;exact hpb _ (by omega) (by omega)
 ·show(cN _ _ _).length<=_;rw[Eo];have:=h.vs;omega
 ·have:=h.ts;show X.R.ts.length<=_;omega
 ·show M'.length<=_;have h1:=congrArg length hM;have h2:=E9 (X.M.map (·.bs)) (aB o.d);have h3:=tz o.d;have h4:=h.ml;rw[length_map]at h1 h2;omega
 ·intro v hv;rcases lO.1 hv with hv|rfl
  ·have:=h.nums v hv;omega
  ·simp only;omega
 ·show S'.L.n=_;rw[hp.n];exact h.n
 ·show 0<=S'.X.quota/\S'.X.quota<=9223372036854775807;rw[hp.quota];exact h.q
 ·obtain⟨rs,H,h1⟩:=h.told;exact⟨_,_,h1.put hw.ar hw'.ar hp (bP hl) hD (by omega) (by show S'.data.length<_;omega)⟩
theorem Told.opensG{S:AS}{rs:fT}{H:List HV}(h:Told S rs H)(hok:ArOk S)(hn:16<=S.L.n/\S.L.n<=8388608)(hr:S.data.length<=810000)(d':Nat)(L':DevL)(q:Int)(W:World)(hc:xy S.L L')(hs:Sat W (az d' L')):
  Calls Tryz.prog 22 #[.pointer (some ⟨d',0,none⟩),.int .i64 q] W (fun e W''=>∃S',e=.returned (.tuple #[.pointer (some ⟨S'.a,0,none⟩),.nilIface])/\OpenIs d' L' q S.X.ep (au L'.now (2+S.X.ep%2*ap L'.n) (ap L'.n)) S'/\Turns (az d' L') (arF S') W W''):=by
 have hD:au L'.now (2+S.X.ep%2*ap L'.n) (ap L'.n)=bn rs++ak (128*S.A.count-S.data.length):=by
  have h1:=hok.dat.1;have h2:S.A.first=2+S.X.ep%2*ap L'.n:=by rw[hok.first,hc.2.1]
  have h3:S.A.count=ap L'.n:=by rw[hok.count,hc.2.1]
  rw[hc.2.2.1,<- h2,<- h3,h1,h.data]
 obtain⟨us,wh,rest,u1,u2,u3,u4,-⟩:=h.sec;refine G5 d' L' us S.X.ep wh q W hs hc.1 (by rw[hc.2.1];exact hn.1) (by rw[hc.2.1];exact hn.2) (by rw[hc.2.2.2.2];simp) (by rw[hc.2.2.1];exact u1) u2 (by rw[hc.2.2.1];exact u3) ?_ (fun at_ s hR hF=>?_)
 ·intro at_ s hR;rw[hD]at hR;obtain⟨a,b,e1,e2,-⟩:=qY h.ok hR;rw[h.data,e1,co,length_append]at hr;omega
 ·rw[hD]at hR hF;obtain⟨rfl,-⟩:=nJ h.ok hR hF h.run;rw[<- h.data];exact u4
theorem Told.Qk{S S':AS}{rs:fT}{H:List HV}(h:Told S rs H)(hok:ArOk S){d':Nat}{L':DevL}{q:Int}(hc:xy S.L L')(ho:OpenIs d' L' q S.X.ep (au L'.now (2+S.X.ep%2*ap L'.n) (ap L'.n)) S'):
  ArOk S'/\zh S S'/\S'.X.used=S.X.used/\S'.data=S.data/\Told S' rs H/\S'.X.sc=S'.K.length/\S'.X.sb=((S'.K.map (·.1.length)).sum:Nat)/\(∀e∈S.K,e.1.length<=65535):=by
 obtain⟨sz,szc,hct,hK,hdat⟩:=h.open hok hc.2.1 hc.2.2.1 ho;have hok':ArOk S':=Gg hok hc.2.1 ho rfl hct hK hdat;have hv:zh S S':=⟨fun l=>by rw[hct.hist,h.hist],hK,by rw[hct.tagT]⟩;obtain⟨e1,e2,e3,e4,e5⟩:=ho.eX;refine⟨hok',hv,by rw[hct.used,h.used],hdat,?_,by rw[hct.sc,hK],by rw[hct.sb,hK],fun e he=>(hct.kat e he).2.1⟩;refine⟨h.ok,by rw[hdat,h.data],by rw[hK,hv.2.2];exact h.run,fun l=>by rw[hv.1];exact h.hist l,?_,by rw[hct.used]⟩;rw[e2,hdat];exact h.sec.to (fun k hk=>by rw[d9,ho.other k 1 (.inl (by rw[ho.A.1];omega)),<- d9,hc.2.2.1]) (Nat.le_refl _)
theorem PB.opened{X:WS}{k m N:Nat}(h:PB X k m N)(hok:ArOk X.S){d':Nat}{L':DevL}{q:Int}{S':AS}(hq:q<=9223372036854775807){b':Nat}{vv' tv':Value}(hc:xy X.S.L L')(ho:OpenIs d' L' q X.S.X.ep (au L'.now (2+X.S.X.ep%2*ap L'.n) (ap L'.n)) S'):PB (Ls X q d' S' b' vv' tv') k m N:=by
 obtain⟨rs,H,ht⟩:=h.told;obtain⟨hok',hv,hu,hdat,ht',hsc,hsb,hkl⟩:=ht.Qk hok hc ho;obtain⟨e1,e2,e3,e4,e5⟩:=ho.eX;have hclip:0<=c9 q/\c9 q<=9223372036854775807:=by unfold c9;split<;>omega
 refine⟨?_,h.vs,h.ts,h.ml,h.nums,?_,?_,?_,h.ab.views hv.2.1 hsc hsb hv.1,⟨rs,H,ht'⟩,by show S'.X.ep<=_;rw[e2];exact h.ep⟩
 ·refine I5 h.b hok hok' hv hu hsc hsb ?_ (by show S'.X.quota.natAbs<=_;rw[e3];omega) ho.dev.2.2.2 (fun p hp=>?_)
  ·have h1:=mX (l:=X.S.K) (f:=(·.1.length)) (m:=65535) hkl;have h2:=h.b.K;have h3:65535*X.S.K.length<=65536*(m+2*k):=Nat.mul_le_mul (by omega) h2;omega
  ·have h2:=hv.1 p.key;rw[eD hok'.paths hp]at h2
   have hne:af X.S.ps p.key≠[]:=fun e=>by
    rw[e]at h2;exact hok'.some p hp (map_eq_nil_iff.1 h2)
   obtain⟨p0,hp0,hk0,-⟩:=bD hne;rw[<- hk0];exact(h.b.vers p0 hp0).1
 ·show S'.data.length+4*X.R.vs.length<=_;rw[hdat];exact h.data
 ·show S'.L.n=_;rw[ho.dev.2.1,hc.2.1];exact h.n
 ·show 0<=S'.X.quota/\S'.X.quota<=_;rw[e3];exact hclip
def LO(X:WS)(S':AS)(R':RefL):WS:={ X with S:=S',R:=R' }
theorem Ak(ts:List RTag)(p:Bs)(n:Int):0<=iz ts p n/\iz ts p n<=ts.length:=by
 unfold iz;have:=countP_le_length (p:=fun t:RTag=>decide (t.path=p/\t.num=n)) (l:=ts);omega
theorem Link.ver{S:AS}{R:RefL}(L:Link S R)(hok:ArOk S){q:aW}(hq:q∈S.ps){V:VerL}(hV:V∈q.g):∃v∈R.vs,v.path=q.key/\v.num=V.num/\v.held=V.held/\V.held.natAbs<=R.ts.length:=by
 have h1:cQ S V∈(aD R.vs q.key).map fA:=by
  rw[<- L.vers,eD hok.paths hq];exact mem_map.2 ⟨V,hV,rfl⟩
 obtain⟨v,hv,e⟩:=mem_map.1 h1;obtain⟨hv1,hv2⟩:=mem_filter.1 hv;unfold fA cQ at e;simp only[Prod.mk.injEq]at e;have h2:=Ak R.ts v.path v.num;rw[<- L.held v hv1]at h2;exact⟨v,hv1,by simpa using hv2,e.1,e.2.2,by omega⟩
theorem ArB.more{S S':AS}{b:Nat}(h:ArB S b){L':DevL}{r:Bs}(hr:RecIs S L' r)(hrl:r.length<=70000)(hK:S'.K=S.K)(hL:S'.L=L')(hu:S'.X.used.natAbs<=S.X.used.natAbs)(hX:S'.X.sc=S.X.sc/\S'.X.sb=S.X.sb/\S'.X.quota=S.X.quota)(np:S'.ps.length<=S.ps.length)(nt:S'.ts.length<=S.ts.length+1)(hv:∀q∈S'.ps,q.key.length<=255/\q.g.length<=b/\∀V∈q.g,V.num<=4294967296+b/\V.chs.length<=b/\V.size<=65536*b/\V.held.natAbs<=b+2)(ht:∀p∈S'.ts,p.key.length<=255/\p.g.1.length<=255/\p.g.2.natAbs<=4294967296+b):ArB S' (b+2) where
 K:=by rw[hK];have:=h.K;omega
 np:=by have:=h.np;omega
 nt:=by have:=h.nt;omega
 vers:=fun q hq=>by
  obtain⟨h1,h2,h3⟩:=hv q hq
  refine⟨h1,by omega,fun V hV=>?_⟩
  obtain⟨a1,a2,a3,a4⟩:=h3 V hV
  exact⟨by omega,by omega,by omega,a4⟩
 tags:=fun p hp=>by
  obtain⟨h1,h2,h3⟩:=ht p hp
  exact⟨h1,h2,by omega⟩
 used:=by have:=h.used;omega
 sc:=by rw[hX.1];have:=h.sc;omega
 sb:=by rw[hX.2.1];have:=h.sb;omega
 quota:=by rw[hX.2.2];exact h.quota
 chs:=by rw[hL];have:=h.chs;have:=hr.chs;omega
theorem FC{S:AS}{p:Bs}{ns:List Int}{v':Value}{L':DevL}(hne:af S.ps p≠[]){q:aW}(hq:q∈(ib S p ns v' L').ps):∃q0∈S.ps,q.key=q0.key/\∀V∈q.g,V∈q0.g:=by
 have hq2:q∈ga S.ps S.pc p v' ns:=hq;obtain⟨q0,h0,hk,hg⟩:=jJ hne;unfold ga at hq2;split at hq2
 ·exact⟨q,(mem_filter.1 hq2).1,rfl,fun V hV=>hV⟩
 ·rcases fx hq2 with⟨h1,_⟩|⟨h1,h2,h3⟩
  ·exact⟨q,h1,rfl,fun V hV=>hV⟩
  ·refine⟨q0,h0,by rw[h1,hk],fun V hV=>?_⟩;rw[h3]at hV;rw[<- hg];exact(mem_filter.1 hV).1
theorem FD{S:AS}{p:Bs}{ns:List Int}{v':Value}{L':DevL}(hne:af S.ps p≠[]):(ib S p ns v' L').ps.length<=S.ps.length/\∀q∈(ib S p ns v' L').ps,∃q0∈S.ps,q.g.length<=q0.g.length/\q.key=q0.key:=by
 obtain⟨q0,h0,hk,hg⟩:=jJ hne;constructor
 ·show(ga S.ps S.pc p v' ns).length<=_;unfold ga;split
  ·exact length_filter_le _ _
  ·have hh:gJ S.ps p=true:=by unfold gJ;rw[any_eq_true];exact⟨q0,h0,by simpa using hk⟩
   unfold ef;rw[hh,if_pos rfl,length_map];exact Nat.le_refl _
 ·intro q hq;have hq2:q∈ga S.ps S.pc p v' ns:=hq;unfold ga at hq2;split at hq2
  ·exact⟨q,(mem_filter.1 hq2).1,Nat.le_refl _,rfl⟩
  ·rcases fx hq2 with⟨h1,_⟩|⟨h1,h2,h3⟩
   ·exact⟨q,h1,Nat.le_refl _,rfl⟩
   ·refine⟨q0,h0,?_,by rw[h1,hk]⟩;rw[h3,<- hg];exact length_filter_le _ _
theorem DN(vs:List RVer)(p:Bs)(ns:List Int):eT (eY vs p ns)<=eT vs:=by have:=uS vs p ns;omega
theorem tY{vs:List RVer}(h:pz vs){p:Bs}{ns:List Int}(hn:ns.Nodup)(hm:∀n∈ns,∃v∈vs,v.path=p/\v.num=n):(eY vs p ns).length+ns.length=vs.length:=by
 have h1:=(filter_append_perm (inR p ns) vs).length_eq;rw[length_append]at h1
 have h2:((vs.filter (inR p ns)).map (·.num)).Perm ns:=by
  refine(perm_ext_iff_of_nodup ?_ hn).2 fun n=>?_
  ·rw[nodup_iff_pairwise_ne,pairwise_map];refine(Pairwise.filter (inR p ns) h).imp_of_mem (fun {a b} ha hb hab=>?_);have e1:=(mem_filter.1 ha).2;have e2:=(mem_filter.1 hb).2;unfold inR at e1 e2;simp only[Bool.and_eq_true,decide_eq_true_eq]at e1 e2;have:=hab (by rw[e1.1,e2.1]);omega
  ·constructor
   ·intro hx;obtain⟨v,hv,rfl⟩:=mem_map.1 hx;have e1:=(mem_filter.1 hv).2;unfold inR at e1;simp only[Bool.and_eq_true,contains_iff_mem]at e1;exact e1.2
   ·intro hx;obtain⟨v,hv,hp,hv2⟩:=hm n hx;exact mem_map.2 ⟨v,mem_filter.2 ⟨hv,by unfold inR;simp[hp,hv2,hx]⟩,hv2⟩
 have h3:=h2.length_eq;rw[length_map]at h3;unfold eY;omega
structure GoneStep (S:AS) (R:RefL) (p:Bs) (ns:List Int) (v':Value) (L':DevL) (vv:Value):Prop where
 path:aw p=true
 rcd:RecIs S L' (frame 3 (dZ p ns))
 ptr:eP v' (dD ns (af S.ps p))
 ne:af S.ps p≠[]
 mem:∀n∈ns,∃v∈R.vs,v.path=p/\v.num=n
 nd:ns.Nodup
 held:∀v∈R.vs,v.path=p->v.num∈ns->v.held<=0
 rv:lV vv (eY R.vs p ns)
def LQ(X:WS)(p:Bs)(ns:List Int)(v':Value)(L':DevL)(vv:Value):WS:=LO X (ib X.S p ns v' L') { X.R with vv:=vv,vs:=eY X.R.vs p ns }
theorem PB.goneL{X:WS}{k m N:Nat}(h:PB X k m N)(hw:LA X){p:Bs}{ns:List Int}{v':Value}{L':DevL}{vv:Value}(hg:GoneStep X.S X.R p ns v' L' vv)(hk:k+1<=400):PB (LQ X p ns v' L' vv) (k+1) m N:=by
 have hc:=tY hw.link.uniq hg.nd hg.mem;have hpl:=bP hg.path;have hnl:ns.length<=k:=by have:=h.vs;omega
 have hr:(frame 3 (dZ p ns)).length<=30+4*ns.length:=by
  rw[aJ];unfold dZ;rw[length_append,bI,cH];omega
 have hd:=h.data;obtain⟨hl1,hl2⟩:=FD (ns:=ns) (v':=v') (L':=L') hg.ne;have hL:=hw.link.gone (v':=v') (vv:=vv) (L':=L') hw.ar hg.held;refine⟨?_,?_,?_,h.ml,?_,?_,?_,h.q,h.ab.gone p ns v' L' (fun l V hV=>?_),?_,by show X.S.X.ep<=_;have:=h.ep;omega⟩
 ·refine ArB.mono (h.b.more (S':=ib X.S p ns v' L') hg.rcd (by omega) rfl rfl ?_ ⟨rfl,rfl,rfl⟩ hl1 (Nat.le_succ _) (fun q hq=>?_) (fun t ht=>h.b.tags t ht)) (by omega)
  ·have h1:=hL.used;have h2:=hw.link.used;have h3:=DN X.R.vs p ns;simp only at h1;omega
  ·obtain⟨q0,h0,e1,e2⟩:=FC hg.ne hq;obtain⟨q1,h1,e3,e4⟩:=hl2 q hq;have b0:=h.b.vers q0 h0;have b1:=h.b.vers q1 h1;refine⟨by rw[e1];exact b0.1,by omega,fun V hV=>?_⟩;obtain⟨a1,a2,a3,a4⟩:=b0.2.2 V (e2 V hV);exact⟨a1,a2,a3,by omega⟩
 ·show(eY X.R.vs p ns).length<=_;have:=h.vs;omega
 ·have:=h.ts;show X.R.ts.length<=_;omega
 ·intro v hv;have:=h.nums v (mem_filter.1 hv).1;omega
 ·show(X.S.data++frame 3 (dZ p ns)).length+4*(eY X.R.vs p ns).length<=_;rw[length_append];omega
 ·show L'.n=_;rw[hg.rcd.n];exact h.n
 ·rw[show(ib X.S p ns v' L').ps=ga X.S.ps X.S.pc p v' ns from rfl,lH]at hV;split at hV
  ·rename_i hl;rw[hl];exact(mem_filter.1 hV).1
  ·exact hV
 ·obtain⟨rs,H,ht⟩:=h.told;refine⟨_,_,ht.gone hw.ar hg.rcd hpl (fun n hn=>?_) (by omega) hg.ne⟩;obtain⟨v,hv,-,e⟩:=hg.mem n hn;have h1:=(hw.link.each v hv).1;have h2:=h.nums v hv;omega
theorem FK{ps:List aW}{p:Bs}{n d:Int}{q:aW}(hq:q∈cP ps p n d):∃q0∈ps,q.key=q0.key/\q.g.length=q0.g.length/\∀V∈q.g,∃V0∈q0.g,V.num=V0.num/\V.chs=V0.chs/\V.size=V0.size:=by
 obtain⟨q0,h0,rfl⟩:=mem_map.1 (show q∈ps.map _ from hq);refine⟨q0,h0,?_⟩;split
 ·refine⟨rfl,by simp,fun V hV=>?_⟩;obtain⟨V0,hV0,rfl⟩:=mem_map.1 hV;obtain⟨-,-,e3,e4,e5⟩:=gy n d V0;exact⟨V0,hV0,e4,e3,e5⟩
 ·exact⟨rfl,rfl,fun V hV=>⟨V,hV,rfl,rfl,rfl⟩⟩
theorem PB.held{X:WS}{k m N:Nat}(h:PB X k m N){p:Bs}{n d:Int}{S':AS}{R':RefL}{L':DevL}{r:Bs}(hr:RecIs X.S L' r)(hrl:r.length<=69)(hok':ArOk S')(hL:Link S' R')(hps:S'.ps=cP X.S.ps p n d)(hS:S'.K=X.S.K/\S'.L=L'/\S'.X=X.S.X/\S'.data=X.S.data++r)(hR:R'.vs=X.R.vs.map (eh p n d))(hrt:R'.ts.length<=X.R.ts.length+1)(hst:S'.ts.length<=X.S.ts.length+1)(ht:∀p∈S'.ts,p.key.length<=255/\p.g.1.length<=255/\p.g.2.natAbs<=4294967296+(m+2*k))(htold:∃rs H,Told S' rs H):PB (LO X S' R') (k+1) m N:=by
 have hts:=h.ts;refine⟨?_,?_,?_,h.ml,?_,?_,?_,?_,h.ab.held hps hS.1 hS.2.2.1,htold,by show S'.X.ep<=_;rw[hS.2.2.1];have:=h.ep;omega⟩
 ·refine ArB.mono (h.b.more (S':=S') hr (by omega) hS.1 hS.2.1 (by rw[hS.2.2.1];exact Nat.le_refl _) ⟨by rw[hS.2.2.1],by rw[hS.2.2.1],by rw[hS.2.2.1]⟩ (by rw[hps];unfold cP;rw[length_map];exact Nat.le_refl _) hst (fun q hq=>?_) ht) (by omega);have hq2:=hq;rw[hps]at hq2;obtain⟨q0,h0,e1,e2,e3⟩:=FK hq2;have b0:=h.b.vers q0 h0;refine⟨by rw[e1];exact b0.1,by omega,fun V hV=>?_⟩;obtain⟨V0,hV0,f1,f2,f3⟩:=e3 V hV;obtain⟨a1,a2,a3,a4⟩:=b0.2.2 V0 hV0;obtain⟨v,-,-,-,-,hh⟩:=hL.ver hok' hq hV;exact⟨by omega,by rw[f2];exact a2,by omega,by omega⟩
 ·show R'.vs.length<=_;rw[hR,length_map];have:=h.vs;omega
 ·show R'.ts.length<=_;omega
 ·intro v hv;have hv2:v∈R'.vs:=hv;rw[hR]at hv2;obtain⟨u,hu,rfl⟩:=mem_map.1 hv2;rw[(gE p n d u).2.1];have:=h.nums u hu;omega
 ·show S'.data.length+4*R'.vs.length<=_;rw[hS.2.2.2,hR,length_append,length_map];have:=h.data;omega
 ·show S'.L.n=_;rw[hS.2.1,hr.n];exact h.n
 ·show 0<=S'.X.quota/\S'.X.quota<=_;rw[hS.2.2.1];exact h.q
theorem gY.bump{P:dE}{R:RefL}(h:gY P R)(k:Nat)(d:Int)(tv:Value)(ts:List RTag):gY P (ec R (iw R.vs k d) tv ts):=fun v hv=>by
 obtain⟨v0,hv0,e1,e2,-⟩:=JZ v hv
 rw[e1,e2];exact h v0 hv0
theorem EA{k:UInt8}{p m:Bs}(hp:aw p=true)(hm:aw m=true)(n:Int):(frame k (dR p m n)).length<=69:=by
 have:=ur (bP hp) (bP hm) n;rw[aJ];omega
end
section
open Go.RowKit Go.Maps
end
section
open Go.RowKit Go.Maps
end
section
open Go.RowKit Go.Maps
theorem Ac{S:AS}{p:Bs}{n:Int}{V:VerL}(h:gB S p n V):af S.ps p≠[]:=fun e=>by
 have:=h.2.2;rw[e]at this;cases this
theorem IU{S:AS}{R:RefL}(L:Link S R)(p:Bs)(a:Int):(cW (af S.ps p) a).Nodup/\(∀n∈cW (af S.ps p) a,∃v∈R.vs,v.path=p/\v.num=n)/\(cW (af S.ps p) a).length<=R.vs.length:=by
 obtain⟨j,hj⟩:∃j,j=(af S.ps p).length-(min (max a 0) ((af S.ps p).length:Int)).toNat:=⟨_,rfl⟩;have hns:cW (af S.ps p) a=(((aD R.vs p).take j).filter mN).map (·.num):=by unfold cW;rw[<- hj];exact L.Qo p j
 have hsub:(((aD R.vs p).take j).filter mN).Sublist (aD R.vs p):=filter_sublist.trans (take_sublist _ _);rw[hns];refine⟨?_,fun n hn=>?_,?_⟩
 ·rw[nodup_iff_pairwise_ne];exact((L.asc p).sublist (hsub.map _)).imp (fun h e=>by omega)
 ·obtain⟨v,hv,rfl⟩:=mem_map.1 hn;have:=mem_filter.1 (hsub.mem hv);exact⟨v,this.1,by simpa using this.2,rfl⟩
 ·rw[length_map];exact Nat.le_trans hsub.length_le (length_filter_le _ _)
theorem C0{S:AS}{R:RefL}(L:Link S R)(ht:R.ts.length<=100000):∀v∈R.vs,v.held.natAbs<=1099511627776:=fun v hv=>by
 rw[L.held v hv];have:=Ak R.ts v.path v.num;omega
def sY(R:RefL)(m p:Bs)(n k:Int):Prop:=(R.closed=true/\k=9)\/(R.closed=false/\aw m=false/\k=1)\/(R.closed=false/\aw m=true/\cz R p n=.error k)\/(R.closed=false/\aw m=true/\(∃v,cz R p n=.ok v)/\(∃t∈R.ts,t.name=m)/\k=6)
theorem sY.one{R:RefL}{m p:Bs}{n k k':Int}(h:sY R m p n k)(h':sY R m p n k'):k=k':=by
 rcases h with⟨a,b⟩|⟨a,b,c⟩|⟨a,b,c⟩|⟨a,b,⟨v,c⟩,d,e⟩<;>rcases h' with⟨a',b'⟩|⟨a',b',c'⟩|⟨a',b',c'⟩|⟨a',b',⟨v',c'⟩,d',e'⟩<;>first|omega|(rw[a]at a';cases a';done)|(rw[b]at b';cases b';done)|(rw[c]at c';first|exact Except.error.inj c'|(cases c';done))
theorem Link.tagged{S:AS}{R:RefL}(L:Link S R){q:fq}(hq:q∈S.ts):aw q.key=true/\∃v∈R.vs,v.path=q.g.1/\v.num=q.g.2:=by
 have:jI q∈R.ts.map ql:=L.tags.mem_iff.1 (mem_map.2 ⟨q,hq,rfl⟩);obtain⟨t,ht,e⟩:=mem_map.1 this;obtain⟨h1,v,hv,h2,h3⟩:=L.teach t ht;have e1:t.name=q.key:=congrArg (·.1) e;have e2:t.path=q.g.1:=congrArg (·.2.1) e;have e3:t.num=q.g.2:=congrArg (·.2.2) e;exact⟨by rw[<- e1];exact h1,v,hv,by rw[h2,e2],by rw[h3,e3]⟩
end
section
open Go.RowKit Go.Maps
end
section
open Go.RowKit Go.Maps
theorem Link.collect{S S':AS}{R:RefL}(L:Link S R)(h:CollectIs S S'):Link S' R where
 closed:=by rw[h.closed];exact L.closed
 quota:=by rw[h.quota];exact L.quota
 used:=by rw[h.used];exact L.used
 vers:=fun p=>by rw[h.trips];exact L.vers p
 sorted:=L.sorted
 asc:=L.asc
 each:=L.each
 tags:=h.tags.trans L.tags
 tsort:=L.tsort
 teach:=L.teach
 held:=L.held
theorem PB.colL{X:WS}{k m N:Nat}(hp:PB X k m N)(hw:LA X)(hk:k<=400)(hm:m<=60000):ColIn X.S:=by
 obtain⟨rs,H,ht⟩:=hp.told;have hd:=hp.data;have hc:=ht.costs hw.ar
 have hver:∀l,∀V∈af X.S.ps l,∃v∈X.R.vs,v.path=l/\v.num=V.num/\v.cont=da X.S V/\v.held=V.held:=fun l V hV=>by
  have h1:cQ X.S V∈(aD X.R.vs l).map fA:=by rw[<- hw.link.vers];exact mem_map.2 ⟨V,hV,rfl⟩
  obtain⟨v,hv,e⟩:=mem_map.1 h1;obtain⟨hv1,hv2⟩:=mem_filter.1 hv;unfold fA cQ at e;simp only[Prod.mk.injEq]at e;exact⟨v,hv1,by simpa using hv2,e.1,e.2.1,e.2.2⟩
 have htag:∀t∈X.S.ts,∃r∈X.R.ts,ql r=jI t:=fun t h=>by
  have h1:jI t∈X.R.ts.map ql:=hw.link.tags.mem_iff.1 (mem_map.2 ⟨t,h,rfl⟩);exact mem_map.1 h1
 refine⟨hw.ar,by rw[hp.ab.kM];exact hp.ab.nd,fun l V hV=>?_,fun t h=>?_,fun l V hV=>?_,by omega,⟨rs,H,ht⟩,by have:=hp.ep;omega,by have h1:=hw.ar.dat.2;have h2:=hw.ar.count;rw[h2]at h1;omega⟩
 ·obtain⟨v,hv,e1,e2,e3,-⟩:=hver l V hV;obtain⟨-,hp1,hp2⟩:=hw.link.each v hv;have hn:=hp.nums v hv;obtain⟨p,hpm,-,hpg⟩:=bD (ne_nil_of_mem hV);have h2:=lj hw.ar hpm (V:=V) (hpg ▸ hV);have h3:=congrArg length (hp.ab.cut l V hV);rw[length_map,ca]at h3;have h4:=cZ (da X.S V);rw[e3]at hp2;rw[e1]at hp1;have:=bP hp1;exact⟨by omega,by omega,by omega,by omega⟩
 ·obtain⟨r,hr,e⟩:=htag t h;unfold ql jI at e;simp only[Prod.mk.injEq]at e;obtain⟨h1,v,hv,h2,h3⟩:=hw.link.teach r hr;obtain⟨q1,q2,-⟩:=hw.link.each v hv;have hn:=hp.nums v hv;rw[e.1]at h1;rw[h2,e.2.1]at q2;have:=bP h1;have:=bP q2;refine⟨by omega,by omega,?_,?_⟩
  ·rw[<- e.2.2,<- h3];omega
  ·rw[<- e.2.2,<- h3];omega
 ·obtain⟨v,hv,e1,e2,-,e4⟩:=hver l V hV;rw[<- e4,hw.link.held v hv,e1,e2];unfold iz;have h1:=hw.link.tags.countP_eq (fun t=>decide (t.2.1=l/\t.2.2=(V.num:Int)));have e5:X.S.ts.map ex=X.S.ts.map jI:=rfl;rw[e5,h1,countP_map];rfl
theorem PB.Ql{X:WS}{k m N:Nat}(h:PB X k m N)(hw:LA X){S':AS}(hc:CollectIs X.S S'){v:Value}{M':List SlB}(hM:M'.map (·.bs)=jA X.R.vs)(hk:k+1<=400)(_:m<=60000)(hw':LA { X with S:=S',U:={ X.U with most:=v },M:=M' }):PB { X with S:=S',U:={ X.U with most:=v },M:=M' } (k+1) m N:=by
 obtain⟨rs,H,ht⟩:=h.told;have hcs:=ht.costs hw.ar;have hKM:S'.K.map (·.1)=M'.map (·.bs):=by rw[hc.K,hM,h.ab.order hw.ar hw.link]
 have hKl:S'.K.length=M'.length:=by have:=congrArg length hKM;simpa using this
 have hMm:M'.length<=m:=by
  have h1:=h.ab.take hw.ar hw.link X.R.vs.length;rw[take_length,<- hM,length_map,length_map]at h1;have:=h.ml;omega
 have hkeys:S'.ps.length<=X.S.ps.length/\∀p∈S'.ps,∃q∈X.S.ps,q.key=p.key/\p.g.map (fD S'.K)=q.g.map (fD X.S.K):=by
  have key:∀p∈S'.ps,∃q∈X.S.ps,q.key=p.key/\p.g.map (fD S'.K)=q.g.map (fD X.S.K):=fun p hp=>by
   have h2:=hc.views p.key;rw[eD hc.ok.paths hp]at h2
   have hne:af X.S.ps p.key≠[]:=fun e=>by
    rw[e]at h2;exact hc.ok.some p hp (map_eq_nil_iff.1 h2)
   obtain⟨q,hq,hqk,hqg⟩:=bD hne;exact⟨q,hq,hqk,by rw[h2,hqg]⟩
  refine⟨?_,key⟩
  have h1:(S'.ps.map (·.key)) ⊆ (X.S.ps.map (·.key)):=fun k hk=>by
   obtain⟨p,hp,rfl⟩:=mem_map.1 hk;obtain⟨q,hq,e,-⟩:=key p hp;exact mem_map.2 ⟨q,hq,e⟩
  have h3:=(j6 hc.ok.paths).length_le_of_subset h1;simpa using h3
 have hsz:∀e∈S'.K,e.1.length<=65535:=fun e he=>by
  have:=(dx (hc.ok.kat e he).2.2).2.2.2.2;omega
 refine⟨?_,by have:=h.vs;show X.R.vs.length<=_;omega,by have:=h.ts;show X.R.ts.length<=_;omega,hMm,fun v hv=>by have:=h.nums v hv;omega,?_,?_,?_,?_,hc.told,?_⟩
 ·refine⟨by rw[hKl];show M'.length<=_;omega,Nat.le_trans hkeys.1 (Nat.le_trans h.b.np (by omega)),?_,fun p hp=>?_,fun p hp=>?_,?_,?_,?_,?_,by show S'.L.chs.length<=_;rw[hc.chs];simp⟩
  ·have h1:=hc.tags.length_eq;rw[length_map,length_map]at h1;have h2:=h.b.nt;show S'.ts.length<=_;omega
  ·obtain⟨q,hq,e1,e2⟩:=hkeys.2 p hp;obtain⟨b1,b2,b3⟩:=h.b.vers q hq;have h3:=congrArg length e2;rw[length_map,length_map]at h3;refine⟨by rw[<- e1];exact b1,by omega,fun V hV=>?_⟩;have h4:fD S'.K V∈q.g.map (fD X.S.K):=by rw[<- e2];exact mem_map.2 ⟨V,hV,rfl⟩
   obtain⟨V0,hV0,e⟩:=mem_map.1 h4;obtain⟨c1,c2,c3,-⟩:=b3 V0 hV0;unfold fD at e;simp only[Prod.mk.injEq]at e;have h5:=congrArg length e.2.2;rw[length_map,length_map]at h5;obtain⟨-,-,-,-,-,h6⟩:=hw'.link.ver hw'.ar hp hV;have h7:=h.ts;refine⟨by rw[<- e.1];omega,by omega,by rw[<- e.2.1];omega,?_⟩;have h8:V.held.natAbs<=X.R.ts.length:=h6;omega
  ·have h1:jI p∈X.S.ts.map jI:=hc.tags.mem_iff.1 (mem_map.2 ⟨p,hp,rfl⟩);obtain⟨p0,hp0,e⟩:=mem_map.1 h1;obtain⟨c1,c2,c3⟩:=h.b.tags p0 hp0;unfold jI at e;simp only[Prod.mk.injEq]at e;rw[<- e.1,<- e.2.1,<- e.2.2];exact⟨c1,c2,by omega⟩
  ·show S'.X.used.natAbs<=_;rw[hc.used];have:=h.b.used;omega
  ·show S'.X.sc.natAbs<=_;rw[hc.sc,hKl];omega
  ·show S'.X.sb.natAbs<=_;have h1:=mX (l:=S'.K) (f:=(·.1.length)) (m:=65535) hsz;rw[hKl]at h1;rw[hc.sb];omega
  ·show S'.X.quota.natAbs<=_;rw[hc.quota];exact h.b.quota
 ·show S'.data.length+4*X.R.vs.length<=_;have:=hc.data;have:=h.data;omega
 ·show S'.L.n=_;rw[hc.n];exact h.n
 ·show 0<=S'.X.quota/\S'.X.quota<=_;rw[hc.quota];exact h.q
 ·show AB S' (M'.map (·.bs));refine⟨hKM,by rw[hM];exact nX _,fun l V hV=>?_,by rw[hc.sc,hKl,length_map],?_⟩
  ·have h1:fD S'.K V∈(af X.S.ps l).map (fD X.S.K):=by rw[<- hc.views];exact mem_map.2 ⟨V,hV,rfl⟩
   obtain⟨V0,hV0,e⟩:=mem_map.1 h1;unfold fD at e;simp only[Prod.mk.injEq]at e;have h2:=h.ab.cut l V0 hV0
   have h3:da S' V=da X.S V0:=by
    unfold da;rw[flatMap_def,flatMap_def,e.2.2]
   rw[h3,<- h2,e.2.2]
  ·rw[hc.sb,<- hKM];unfold rX;rw[map_map];rfl
 ·show S'.X.ep<=_;rw[hc.ep];have:=h.ep;omega
theorem LinkP.congr{st:PSt}{R R2:RefL}(h:LinkP st R)(hv:R2.vs=R.vs)(ht:R2.ts=R.ts):LinkP st R2 where
 used:=by rw[hv];exact h.used
 vers:=fun p=>by rw[hv];exact h.vers p
 sorted:=by rw[hv];exact h.sorted
 asc:=fun p=>by rw[hv];exact h.asc p
 each:=by rw[hv];exact h.each
 tags:=by rw[ht];exact h.tags
 tsort:=by rw[ht];exact h.tsort
 teach:=by rw[ht,hv];exact h.teach
 held:=by rw[ht,hv];exact h.held
theorem FlipIn.step{S S':AS}{rs recs:fT}{Rs Rs':List RefL}(h:FlipIn S rs Rs)(hok:ArOk S)(hep:S'.X.ep=S.X.ep)(hn:S'.L.n=S.L.n)(hoth:∀f2 c2,(f2+c2<=S.A.first\/S.A.first+S.A.count<=f2)->au S'.L.now f2 c2=au S.L.now f2 c2)(hsub:∀R∈Rs,R∈Rs')(hg:∀wh,sg rs wh Rs->sg (rs++recs) wh Rs'):FlipIn S' (rs++recs) Rs':=by
 have hs:∀k,k<2->aC S'.L.now k=aC S.L.now k:=fun k hk=>by
  rw[d9,hoth k 1 (.inl (by rw[hok.first];omega)),<- d9]
 constructor
 ·obtain⟨wh,h1,h2,h3,h4⟩:=h.wh;exact⟨wh,h1,by rw[hep,hs _ (by omega)];exact h2,by rw[co,length_append];omega,hg wh h4⟩
 ·rw[hep,hs _ (by omega),hn];rcases h.old with h0|⟨e,wh,he,hw,h1,rs2,z,h2,h3,R,hR,h4⟩
  ·exact .inl h0
  ·refine .inr ⟨e,wh,he,hw,h1,rs2,z,h2,?_,R,hsub R hR,h4⟩;rw[hoth _ _ ?_]
   ·exact h3
   ·rw[hok.first,hok.count];rcases Nat.mod_two_eq_zero_or_one S.X.ep with e0|e0
    ·have e1:e%2=1:=by omega
     rw[e0,e1];right;omega
    ·have e1:e%2=0:=by omega
     rw[e0,e1];left;omega
theorem FlipIn.same{S S':AS}{rs:fT}{Rs:List RefL}(h:FlipIn S rs Rs)(hep:S'.X.ep=S.X.ep)(hn:S'.L.n=S.L.n)(hnow:S'.L.now=S.L.now):FlipIn S' rs Rs:=⟨by rw[hnow,hep];exact h.wh,by rw[hnow,hep,hn];exact h.old⟩
theorem CK{b:fT}(h:(bn b).length=0):b=[]:=by
 cases b with
 | nil=>rfl
 | cons r b=>rw[ia,length_append,aJ]at h;omega
theorem FlipIn.collect{S S':AS}{R R0:RefL}{rs rs':fT}{H H':List HV}{Rs:List RefL}(h:FlipIn S rs Rs)(t:Told S rs H)(hok:ArOk S)(L:Link S R)(hR:R0∈Rs)(hv:R0.vs=R.vs)(hts:R0.ts=R.ts)(hc:CollectIs S S')(t':Told S' rs' H')(hb:S'.data.length<4294967296):FlipIn S' rs' Rs:=by
 constructor
 ·refine⟨S'.data.length,hb,hc.wh,by rw[t'.data];exact Nat.le_refl _,fun a b hab hw=>?_⟩
  have e:b=[]:=by
   refine CK ?_;rw[t'.data,hab,co,length_append]at hw;omega
  rw[e,append_nil]at hab;subst hab;exact⟨R0,hR,_,t'.run,(LinkP.of t' (L.collect hc)).congr hv hts⟩
 ·obtain⟨wh,h1,h2,-,-⟩:=h.wh;refine .inr ⟨S.X.ep,wh,hc.ep,h1,?_,rs,128*S.A.count-S.data.length,t.ok,?_,R0,hR,_,t.run,(LinkP.of t L).congr hv hts⟩
  ·rw[hc.ep,show(S.X.ep+1+1)%2=S.X.ep%2 by omega,hc.old];exact h2
  ·rw[hc.n,hc.half];have e1:S.A.first=2+S.X.ep%2*ap S.L.n:=hok.first
   rw[<- e1,<- hok.count,<- t.data];exact hok.dat.1
structure Next (X:WS) (k m N:Nat) (S':AS) (R':RefL) (P':dE):Prop where
 pb:∃M',PB { X with S:=S',R:=R',P:=P',M:=M' } k m N
 link:Link S' R'
 ar:ArOk S'
 a:S'.a=X.S.a
 d:S'.X.d=X.S.X.d
 cl:S'.X.closed=X.S.X.closed
 quota:S'.X.quota=X.S.X.quota
 ref:RefOk R'
 blk:R'.blk=X.R.blk
 more:∀p∈X.P,p∈P'
 pok:gO P'
 inp:gY P' R'
 flip:∀rs H Rs R0,Told X.S rs H->FlipIn X.S rs Rs->R0∈Rs->R0.vs=X.R.vs->R0.ts=X.R.ts->∃rs' H',Told S' rs' H'/\FlipIn S' rs' (Rs++[R'])
def dc(S:AS)(n f:Int)(S':AS):Prop:=∃sp,(n=8\/(n=f/\f≠0))/\AreaOk { S.A with spare:=sp }/\S'=bK S sp
theorem dc.same{S:AS}(hok:ArOk S){n f:Int}(h:n=8\/(n=f/\f≠0)):dc S n f S:=⟨S.A.spare,h,hok.area,rfl⟩
def LG(S:AS)(l D:Bs)(b:Nat)(n:Int)(S':AS):Prop :=
 (S'=S/\BX S l D n)\/(n=8/\∃sp,AreaOk { S.A with spare:=sp }/\S'=bK S sp) \/
 (n=0/\∃V,S.X.closed=false/\aw l=true/\D.length<=4000/\S.X.used+D.length<=S.X.quota/\PutStep S S' l D V/\ArOk S'/\xF S D b S')
def LH(R:RefL)(P:dE)(l D:Bs)(n:Int)(R':RefL)(P':dE):Prop :=
 (R'=R/\P'=P/\((R.closed=true/\n=9)\/(R.closed=false/\aw l=false/\n=1)\/(R.closed=false/\aw l=true/\4000<D.length/\n=2)\/(R.closed=false/\aw l=true/\D.length<=4000/\R.quota<eT R.vs+D.length/\n=7))) \/
 (n=0/\R.closed=false/\aw l=true/\D.length<=4000/\(eT R.vs:Int)+D.length<=R.quota/\∃vv' cv,bOk cv D/\RefOk { R with vv:=vv',vs:=cN R.vs l ⟨l,gU R.vs l R.vs.length,D,cv,0⟩ }/\R'={ R with vv:=vv',vs:=cN R.vs l ⟨l,gU R.vs l R.vs.length,D,cv,0⟩ }/\P'=P++[(cv,D)])
theorem FR{X:WS}{k m N:Nat}(hp:PB X k m N)(la:LA X)(pok:gO X.P)(inp:gY X.P X.R){o:OpL}{n f:Int}{S':AS}{R':RefL}{P':dE}(ha:LG X.S o.s o.d (m+2*k) n S')(ht:LH X.R X.P o.s o.d f R' P')(hk:k+1<=400)(hm:m+o.d.length<=60000):
  dc X.S n f S'\/(n=0/\f=0/\Next X (k+1) (m+o.d.length) N S' R' P'):=by
 have hc:=la.link.closed;have hu:=la.link.used;have hq:=la.link.quota;rcases ha with⟨rfl,he⟩|⟨rfl,sp,h1,h2⟩|⟨rfl,V,h1,h2,h3,h4,hps,hok',hpb⟩
 ·left;refine dc.same la.ar (.inr ?_);have hn:=he.ne;rcases ht with⟨-,-,hf⟩|⟨-,a1,a2,a3,a4,-⟩
  ·have:n=f:=by
    rw[hc,hq]at hf;rcases he with⟨a1,rfl⟩|⟨a1,a2,rfl⟩|⟨a1,a2,a3,rfl⟩|⟨a1,a2,a3,a4,rfl⟩<;>rcases hf with⟨b1,rfl⟩|⟨b1,b2,rfl⟩|⟨b1,b2,b3,rfl⟩|⟨b1,b2,b3,b4,rfl⟩<;>first|rfl|(exfalso;simp_all;done)|(exfalso;simp_all;omega)|omega
   exact⟨this,by omega⟩
  ·exfalso;rw[hc]at a1;rw[hq]at a4;rcases he with⟨b1,-⟩|⟨-,b2,-⟩|⟨-,-,b3,-⟩|⟨-,-,-,b4,-⟩
   ·rw[a1]at b1;cases b1
   ·rw[a2]at b2;cases b2
   ·omega
   ·omega
 ·exact .inl ⟨sp,.inl rfl,h1,h2⟩
 ·right;rcases ht with⟨-,-,hf⟩|⟨rfl,-,-,-,-,vv',cv,hcv,hro,rfl,rfl⟩
  ·exfalso;rw[hc,hq]at hf;rcases hf with⟨b1,-⟩|⟨-,b2,-⟩|⟨-,-,b3,-⟩|⟨-,-,-,b4,-⟩
   ·rw[h1]at b1;cases b1
   ·rw[h2]at b2;cases b2
   ·omega
   ·omega
  ·have hL:=la.link.put la.ar hok' hps h2 h3 (vv:=vv') (cv:=cv);have hpl:=bP h2;obtain⟨M',hM⟩:∃M':List SlB,M'.map (·.bs)=eF (X.M.map (·.bs)) (aB o.d):=⟨(eF (X.M.map (·.bs)) (aB o.d)).map (fun b=>⟨.nilIface,b⟩),by rw[map_map];exact map_id _⟩;have hPB:=hp.putL la (o:=o) (vv:=vv') (cv:=cv) (mv:=X.U.most) hps hpb h3 h2 hM ⟨hL,hok'⟩ hk hm
   have hVn:(V.num:Int)<=k+1:=by
    have h5:=hPB.nums ⟨o.s,gU X.R.vs o.s X.R.vs.length,o.d,cv,0⟩ (lO.2 (.inr rfl));have h6:(V.num:Int)=gU X.R.vs o.s X.R.vs.length:=by rw[la.link.nr,hps.num];simp
    rw[h6];exact h5
   have hdl:=hPB.data;refine⟨rfl,rfl,⟨M',hPB⟩,hL,hok',hps.a,hps.d,hps.closed,hps.quota,hro,rfl,fun p hp=>mem_append_left _ hp,?_,?_,?_⟩
   ·intro p hp;rcases mem_append.1 hp with hp|hp
    ·exact pok p hp
    ·rw[mem_singleton.1 hp];exact hcv
   ·intro v hv;rcases lO.1 hv with hv|rfl
    ·exact mem_append_left _ (inp v hv)
    ·exact mem_append_right _ (by simp)
   ·intro rs H Rs R0 t hf hR0 e1 e2
    have t':=t.put la.ar hok' hps hpl h3 (by omega) (by
     have:(IW X o S' vv' cv X.U.most M').S.data.length=S'.data.length:=rfl;have h7:S'.data.length+4*(IW X o S' vv' cv X.U.most M').R.vs.length<=110*(k+1)+2*(m+o.d.length):=hdl;omega)
    have hsub:∀R∈Rs,R∈Rs++[{ X.R with vv:=vv',vs:=cN X.R.vs o.s ⟨o.s,gU X.R.vs o.s X.R.vs.length,o.d,cv,0⟩ }]:=fun R hR=>mem_append_left _ hR
    have t2:=t';rw[append_assoc]at t2;refine⟨_,_,t2,hf.step la.ar hps.ep hps.n hps.other hsub (fun wh hg=>?_)⟩;rw[<- append_assoc];exact hg.chunks hsub hR0 t.run ((LinkP.of t la.link).congr e1 e2) (t.chsIn la.ar) ⟨_,mem_append_right _ (mem_singleton.2 rfl),_,t'.run,LinkP.of t' hL⟩
def LB(S:AS)(p:Bs)(a n:Int)(S':AS):Prop :=
 (S'=S/\(n=8\/ip S p a n\/(n=5/\∃V,gB S p a V/\0<V.held))) \/
 (n=0/\∃V v' L',gB S p a V/\V.held<=0/\RecIs S L' (frame 3 (dZ p [(V.num:Int)]))/\eP v' (dD [(V.num:Int)] (af S.ps p))/\S'=ib S p [(V.num:Int)] v' L')
def LC(R:RefL)(p:Bs)(a n:Int)(R':RefL):Prop :=
 (R'=R/\(cz R p a=.error n\/(n=5/\∃v,cz R p a=.ok v/\0<v.held))) \/
 (n=0/\∃k v',∃hk:k<R.vs.length,cz R p a=.ok R.vs[k]/\R.vs[k].held<=0/\lV v' (nR R.vs k)/\R'=Du R k v')
def LE(S:AS)(p:Bs)(a n:Int)(S':AS):Prop :=
 (S'=S/\(n=8\/ip S p 0 n)) \/
 (n=0/\∃V v' L',gB S p 0 V/\RecIs S L' (frame 3 (dZ p (cW (af S.ps p) a)))/\eP v' (dD (cW (af S.ps p) a) (af S.ps p))/\S'=ib S p (cW (af S.ps p) a) v' L')
def LF(R:RefL)(p:Bs)(a n:Int)(R':RefL):Prop :=
 (R'=R/\cz R p 0=.error n) \/
 (n=0/\∃v vs' c v',cz R p 0=.ok v/\((fR R.vs p).take (kT (fR R.vs p).length a)).foldl (fQ p) (R.vs,0)=(vs',c)/\lV v' vs'/\R'=ie R v' vs')
theorem wK{X:WS}{k m N:Nat}(hp:PB X k m N)(la:LA X)(ro:RefOk X.R)(pok:gO X.P)(inp:gY X.P X.R){p:Bs}{ns:List Int}{v':Value}{L':DevL}{vv:Value}(hg:GoneStep X.S X.R p ns v' L' vv)(hk:k+1<=400):Next X (k+1) m N (ib X.S p ns v' L') { X.R with vv:=vv,vs:=eY X.R.vs p ns } X.P:=by
 have hL:=la.link.gone (v':=v') (vv:=vv) (L':=L') la.ar hg.held;have hpl:=bP hg.path;have hok':ArOk (ib X.S p ns v' L'):=Ir la.ar hg.rcd (by unfold OkS;omega) hg.ptr hg.ne;have hcn:=tY la.link.uniq hg.nd hg.mem;have hvs:=hp.vs;refine⟨⟨X.M,hp.goneL la hg hk⟩,hL,hok',rfl,rfl,rfl,rfl,{ ro with vs:=hg.rv },rfl,fun p hp=>hp,pok,fun v hv=>inp v (mem_filter.1 hv).1,fun rs H Rs R0 t hf hR0 e1 e2=>?_⟩
 have t':=t.gone (v':=v') la.ar hg.rcd hpl (fun n hn=>by
  obtain⟨v,hv,-,e⟩:=hg.mem n hn;have h1:=(la.link.each v hv).1;have h2:=hp.nums v hv;omega) (by omega) hg.ne
 have hsub:∀R∈Rs,R∈Rs++[{ X.R with vv:=vv,vs:=eY X.R.vs p ns }]:=fun R hR=>mem_append_left _ hR
 exact⟨_,_,t',hf.step la.ar rfl (hg.rcd.n) hg.rcd.oth hsub (fun wh hg=>hg.one hsub ⟨_,mem_append_right _ (mem_singleton.2 rfl),_,t'.run,LinkP.of t' hL⟩)⟩
theorem FP{X:WS}{k m N:Nat}(hp:PB X k m N)(la:LA X)(ro:RefOk X.R)(pok:gO X.P)(inp:gY X.P X.R){p:Bs}{a n f:Int}{S':AS}{R':RefL}(ha:LB X.S p a n S')(ht:LC X.R p a f R')(hk:k+1<=400):
  dc X.S n f S'\/(n=0/\f=0/\Next X (k+1) m N S' R' X.P):=by
 rcases ha with⟨rfl,rfl|hf|⟨rfl,V,hf,hh⟩⟩|⟨rfl,V,v',L',hf,hh,hrc,hv,rfl⟩
 ·exact .inl (dc.same la.ar (.inl rfl))
 ·left;refine dc.same la.ar (.inr ?_);have hg:=la.link.err hf;have:=hf.pos;rcases ht with⟨-,h1|⟨-,v,h1,-⟩⟩|⟨-,i,vv,hi,h1,-⟩
  ·rw[hg]at h1;have:=Except.error.inj h1;exact⟨this,by omega⟩
  ·rw[hg]at h1;cases h1
  ·rw[hg]at h1;cases h1
 ·left;refine dc.same la.ar (.inr ?_);obtain⟨v,hg,htr,-,-⟩:=la.link.found hf;have hvh:v.held=V.held:=congrArg (·.2.2) htr;rcases ht with⟨-,h1|⟨rfl,u,h1,-⟩⟩|⟨-,i,vv,hi,h1,h3,-⟩
  ·rw[hg]at h1;cases h1
  ·exact⟨rfl,by omega⟩
  ·rw[hg]at h1;obtain rfl:=Except.ok.inj h1;omega
 ·right;obtain⟨v,hg,htr,-,-⟩:=la.link.found hf;have hvh:v.held=V.held:=congrArg (·.2.2) htr;rcases ht with⟨-,h1|⟨rfl,u,h1,h3⟩⟩|⟨rfl,i,vv,hi,h1,h3,hrv,rfl⟩
  ·rw[hg]at h1;cases h1
  ·rw[hg]at h1;obtain rfl:=Except.ok.inj h1;omega
  ·obtain⟨hcut,-⟩:=la.link.delete la.ar hf hh hi h1 (v':=v') (vv:=vv) (L':=L');obtain⟨e1,e2,e3⟩:=la.link.at hf hi h1;refine⟨rfl,rfl,?_⟩;unfold Du;rw[hcut]at hrv ⊢;refine wK hp la ro pok inp ⟨hf.2.1,hrc,hv,Ac hf,fun n hn=>?_,by simp,fun u hu hup hun=>?_,hrv⟩ hk
   ·rw[mem_singleton]at hn;exact⟨X.R.vs[i],getElem_mem hi,e1,by rw[e2,hn]⟩
   ·rw[mem_singleton]at hun;obtain⟨j,hj,rfl⟩:=getElem_of_mem hu;obtain rfl:=la.link.uniq.one hj hi (by rw[hup,e1]) (by rw[hun,e2]);rw[e3];exact hh
theorem FQ{X:WS}{k m N:Nat}(hp:PB X k m N)(la:LA X)(ro:RefOk X.R)(pok:gO X.P)(inp:gY X.P X.R){p:Bs}{a n f:Int}{S':AS}{R':RefL}(ha:LE X.S p a n S')(ht:LF X.R p a f R')(hk:k+1<=400):
  dc X.S n f S'\/(n=0/\f=0/\Next X (k+1) m N S' R' X.P):=by
 obtain⟨n1,n2,n3⟩:=IU la.link p a;rcases ha with⟨rfl,rfl|hf⟩|⟨rfl,V,v',L',hf,hrc,hv,rfl⟩
 ·exact .inl (dc.same la.ar (.inl rfl))
 ·left;refine dc.same la.ar (.inr ?_);have hg:=la.link.err hf;have:=hf.pos;rcases ht with⟨-,h1⟩|⟨-,v,vs',c,v2,h1,-⟩
  ·rw[hg]at h1;have:=Except.error.inj h1;exact⟨this,by omega⟩
  ·rw[hg]at h1;cases h1
 ·right;obtain⟨v,hg,-,-,-⟩:=la.link.found hf;rcases ht with⟨-,h1⟩|⟨rfl,u,vs',c,vv,-,hfold,hrv,rfl⟩
  ·rw[hg]at h1;cases h1
  ·obtain⟨rfl,rfl,hheld⟩:=la.link.prune la.ar p a hfold;exact⟨rfl,rfl,wK hp la ro pok inp ⟨hf.2.1,hrc,hv,Ac hf,n2,n1,hheld,hrv⟩ hk⟩
def LJ(S:AS)(m p:Bs)(a n:Int)(S':AS):Prop :=
 (S'=S/\Ce S m p a n)\/(n=0/\∃V L',aw m=true/\gB S p a V/\gJ S.ts m=false/\RecIs S L' (frame 4 (dR p m V.num))/\S'=yG S m p V.num L')
def LK(R:RefL)(m p:Bs)(a n:Int)(R':RefL):Prop :=
 (R'=R/\sY R m p a n)\/(n=0/\R.closed=false/\aw m=true/\(∀t∈R.ts,t.name≠m)/\∃k tv',∃hk:k<R.vs.length,cz R p a=.ok R.vs[k]/\RefOk (ec R (iw R.vs k 1) tv' (po R.ts m ⟨m,p,R.vs[k].num⟩))/\R'=ec R (iw R.vs k 1) tv' (po R.ts m ⟨m,p,R.vs[k].num⟩))
theorem Kv{S:AS}{R:RefL}(L:Link S R){m p:Bs}{n k:Int}(h:Ce S m p n k):k=8\/sY R m p n k:=by
 have hc:=L.closed;rcases h with⟨a,rfl⟩|⟨a,b,rfl⟩|⟨a,b,c,d⟩|⟨V,a,b,⟨c,rfl⟩|⟨-,c,rfl⟩⟩
 ·exact .inr (.inl ⟨by rw[hc,a],rfl⟩)
 ·right
  cases hm:aw m with
  | false=>exact .inr (.inl ⟨by rw[hc,a],hm,rfl⟩)
  | true =>
   rw[hm,Bool.true_and]at b;refine .inr (.inr (.inl ⟨by rw[hc,a],hm,?_⟩));unfold cz;rw[hc,a,b];rfl
 ·exact .inr (.inr (.inr (.inl ⟨by rw[hc,c],a,L.err d⟩)))
 ·obtain⟨v,hg,-⟩:=L.found b;exact .inr (.inr (.inr (.inr ⟨by rw[hc,b.1],a,⟨v,hg⟩,(L.names m).1 c,rfl⟩)))
 ·exact .inl rfl
theorem I7{R:RefL}{p:Bs}{n k:Int}(h:cz R p n=.error k):k=9\/k=3\/k=1:=by
 unfold cz at h;split at h
 ·exact .inl (Except.error.inj h).symm
 ·split at h
  ·split at h
   ·cases h
   ·exact .inr (.inl (Except.error.inj h).symm)
  ·exact .inr (.inr (Except.error.inj h).symm)
theorem sY.ne{R:RefL}{m p:Bs}{n k:Int}(h:sY R m p n k):k≠0:=by
 rcases h with⟨_,h⟩|⟨_,_,h⟩|⟨_,_,h⟩|⟨_,_,_,_,h⟩
 ·omega
 ·omega
 ·have:=I7 h;omega
 ·omega
theorem FS{X:WS}{k m N:Nat}(hp:PB X k m N)(la:LA X)(pok:gO X.P)(inp:gY X.P X.R){t p:Bs}{a n f:Int}{S':AS}{R':RefL}(ha:LJ X.S t p a n S')(ht:LK X.R t p a f R')(hk:k+1<=400)(hm:m<=60000):
  dc X.S n f S'\/(n=0/\f=0/\Next X (k+1) m N S' R' X.P):=by
 rcases ha with⟨rfl,hf⟩|⟨rfl,V,L',hpm,hf,hno,hrc,rfl⟩
 ·left;rcases Kv la.link hf with rfl|hn
  ·exact dc.same la.ar (.inl rfl)
  ·refine dc.same la.ar (.inr ?_);rcases ht with⟨-,hn2⟩|⟨-,h1,h2,h3,i,tv,hi,h4,-⟩
   ·have:=hn.one hn2;exact⟨this,hn2.ne⟩
   ·exfalso;rcases hn with⟨a,-⟩|⟨-,a,-⟩|⟨-,-,a⟩|⟨-,-,-,⟨t,ht,a⟩,-⟩
    ·rw[h1]at a;cases a
    ·rw[h2]at a;cases a
    ·rw[h4]at a;cases a
    ·exact h3 t ht a
 ·right;obtain⟨v,hg,htr,-,-⟩:=la.link.found hf;rcases ht with⟨-,hn⟩|⟨rfl,h1,h2,h3,i,tv,hi,h4,hro,rfl⟩
  ·exfalso;rcases hn with⟨a,-⟩|⟨-,a,-⟩|⟨-,-,a⟩|⟨-,-,-,a,-⟩
   ·rw[la.link.closed,hf.1]at a;cases a
   ·rw[hpm]at a;cases a
   ·rw[hg]at a;cases a
   ·have:=(la.link.names t).2 a;rw[hno]at this;cases this
  ·obtain⟨e1,hL⟩:=la.link.tag hpm hf hno hi h4 (tv:=tv) (L':=L');have q1:=bP hpm;have q2:=bP hf.2.1;have hok':ArOk (yG X.S t p V.num L'):=Kt la.ar hrc (by unfold OkS;omega)
   have hVn:V.num<4294967296:=by
    have:=hp.nums _ (getElem_mem hi);omega
   obtain⟨f1,f2,-⟩:=la.link.at hf hi h4;have hbm:=lM la.link.uniq hi 1;refine⟨rfl,rfl,⟨X.M,hp.held (p:=X.R.vs[i].path) (n:=X.R.vs[i].num) (d:=1) hrc (EA hf.2.1 hpm _) hok' hL (by rw[f1,f2];rfl) ⟨rfl,rfl,rfl,rfl⟩ hbm ?_ ?_ (fun u hu=>?_) ?_⟩,hL,hok',rfl,rfl,rfl,rfl,hro,rfl,fun p hp=>hp,pok,gY.bump inp _ _ _ _,fun rs H Rs R0 told hfl hR0 g1 g2=>?_⟩
   ·have:=(xo X.R.ts t ⟨t,p,X.R.vs[i].num⟩).length_eq;show(po X.R.ts t _).length<=_;rw[this];simp
   ·show(ef X.S.ts X.S.tc t _ _).length<=_;unfold ef;rw[hno];simp
   ·have ht2:u∈ef X.S.ts X.S.tc t (mx t (p,(V.num:Int))) (p,(V.num:Int)):=hu;rcases fx ht2 with⟨g1,_⟩|⟨g1,-,g3⟩
    ·exact hp.b.tags u g1
    ·rw[g1,g3];refine⟨by omega,by simp only;omega,by simp only;omega⟩
   ·obtain⟨rs,H,told⟩:=hp.told;exact⟨_,_,told.tag la.ar hrc q2 q1 hVn⟩
   ·have t':=told.tag la.ar hrc q2 q1 hVn;have hsub:∀R∈Rs,R∈Rs++[ec X.R (iw X.R.vs i 1) tv (po X.R.ts t ⟨t,p,X.R.vs[i].num⟩)]:=fun R hR=>mem_append_left _ hR
    exact⟨_,_,t',hfl.step la.ar rfl (hrc.n) hrc.oth hsub (fun wh hg=>hg.one hsub ⟨_,mem_append_right _ (mem_singleton.2 rfl),_,t'.run,LinkP.of t' hL⟩)⟩
def LL(S:AS)(m:Bs)(n:Int)(S':AS):Prop :=
 (S'=S/\zk S m n)\/(n=0/\∃q∈S.ts,∃L',q.key=m/\S.X.closed=false/\aw m=true/\RecIs S L' (frame 5 (dR q.g.1 m q.g.2))/\S'=mZ S m q.g.1 q.g.2 L')
def LM(R:RefL)(m:Bs)(n:Int)(R':RefL):Prop :=
 (R'=R/\((R.closed=true/\n=9)\/(R.closed=false/\aw m=false/\n=1)\/(R.closed=false/\aw m=true/\(∀t∈R.ts,t.name≠m)/\n=3))) \/
 (n=0/\R.closed=false/\aw m=true/\∃i k tv',∃hi:i<R.ts.length,R.ts[i].name=m/\k<R.vs.length/\bW R.vs R.ts[i].path R.ts[i].num R.vs.length=k/\RefOk (ec R (iw R.vs k (-1)) tv' (nQ R.ts i))/\R'=ec R (iw R.vs k (-1)) tv' (nQ R.ts i))
theorem FT{X:WS}{k m N:Nat}(hp:PB X k m N)(la:LA X)(pok:gO X.P)(inp:gY X.P X.R){t:Bs}{n f:Int}{S':AS}{R':RefL}(ha:LL X.S t n S')(ht:LM X.R t f R')(hk:k+1<=400)(_:m<=60000):
  dc X.S n f S'\/(n=0/\f=0/\Next X (k+1) m N S' R' X.P):=by
 have hone:=fun v (hv:v∈X.R.vs)=>(la.link.each v hv).1
 have hnm:∀m:Bs,gJ X.S.ts m=false->∀t∈X.R.ts,t.name≠m:=fun m hno t ht e=>by
  have:=(la.link.names m).2 ⟨t,ht,e⟩;rw[hno]at this;cases this
 rcases ha with⟨rfl,hf⟩|⟨rfl,q,hq,L',hqk,hcl,hpm,hrc,rfl⟩
 ·left
  have hf2:n=8\/((X.R.closed=true/\n=9)\/(X.R.closed=false/\aw t=false/\n=1)\/(X.R.closed=false/\aw t=true/\(∀u∈X.R.ts,u.name≠t)/\n=3)):=by
   rw[la.link.closed];rcases hf with⟨a,b⟩|⟨a,b,c⟩|⟨a,b,c,d⟩|⟨q,hq,-,-,b,c,e⟩
   ·exact .inr (.inl ⟨a,b⟩)
   ·exact .inr (.inr (.inl ⟨a,b,c⟩))
   ·exact .inr (.inr (.inr ⟨a,b,hnm _ c,d⟩))
   ·exact .inl e
  rcases hf2 with rfl|hf2
  ·exact dc.same la.ar (.inl rfl)
  ·refine dc.same la.ar (.inr ?_);rcases ht with⟨-,hn⟩|⟨-,h1,h2,i,j,tv,hi,h3,-⟩
   ·have:n=f:=by
     rcases hf2 with⟨a,b⟩|⟨a,b,c⟩|⟨a,b,c,d⟩<;>rcases hn with⟨a',b'⟩|⟨a',b',c'⟩|⟨a',b',c',d'⟩<;>first|omega|(rw[a]at a';cases a';done)|(rw[b]at b';cases b';done)
    refine⟨this,?_⟩;rcases hn with⟨_,h⟩|⟨_,_,h⟩|⟨_,_,_,h⟩<;>omega
   ·exfalso;rcases hf2 with⟨a,-⟩|⟨-,a,-⟩|⟨-,-,a,-⟩
    ·rw[h1]at a;cases a
    ·rw[h2]at a;cases a
    ·exact a _ (getElem_mem hi) h3
 ·right;rcases ht with⟨-,hn⟩|⟨rfl,h1,h2,i,j,tv,hi,h3,hj,hbe,hro,rfl⟩
  ·exfalso;rcases hn with⟨a,-⟩|⟨-,a,-⟩|⟨-,-,a,-⟩
   ·rw[la.link.closed,hcl]at a;cases a
   ·rw[hpm]at a;cases a
   ·obtain⟨u,hu,e⟩:=(la.link.names t).1 (by unfold gJ;rw[any_eq_true];exact⟨q,hq,by simpa using hqk⟩);exact a u hu e
  ·have hL:=la.link.Qm hq hqk hi h3 hbe (tv:=tv) (L':=L');obtain⟨-,v,hv,e1,e2⟩:=la.link.tagged hq;have hpp:=(la.link.each v hv).2.1;rw[e1]at hpp;obtain⟨num,hnum⟩:∃num:Nat,q.g.2=num:=⟨q.g.2.toNat,by have:=hone v hv;omega⟩;have hnb:num<4294967296:=by have:=hp.nums v hv;omega
   rw[hnum]at hrc hL ⊢;have hok':ArOk (mZ X.S t q.g.1 num L'):=GB la.ar hrc
   have hjk:X.R.vs[j].path=q.g.1/\X.R.vs[j].num=num:=by
    obtain⟨-,u,hu,g1,g2⟩:=la.link.teach _ (getElem_mem hi);obtain⟨j2,hj2,hj3,hb2,-⟩:=lD la.link.uniq hone hu;rw[g1,g2,hbe]at hb2;have:j=j2:=by omega
    subst this
    have hqt:ql X.R.ts[i]=jI q:=by
     have:jI q∈X.R.ts.map ql:=la.link.tags.mem_iff.1 (mem_map.2 ⟨q,hq,rfl⟩);obtain⟨t2,ht2,e⟩:=mem_map.1 this;obtain⟨i2,hi2,rfl⟩:=getElem_of_mem ht2;have hn2:X.R.ts[i2].name=X.R.ts[i].name:=by rw[h3,<- hqk];exact congrArg (·.1) e
     have h5:=pairwise_iff_getElem.1 la.link.tsort
     have:i2=i:=by
      rcases Nat.lt_trichotomy i2 i with hl|hl|hl
      ·have:=h5 i2 i hi2 hi hl;rw[hn2,b5]at this;cases this
      ·exact hl
      ·have:=h5 i i2 hi hi2 hl;rw[hn2,b5]at this;cases this
     subst this;exact e
    rw[hj3,g1,g2,<- hnum];exact⟨congrArg (·.2.1) hqt,congrArg (·.2.2) hqt⟩
   have hbm:=lM la.link.uniq hj (-1);refine⟨rfl,rfl,⟨X.M,hp.held (p:=X.R.vs[j].path) (n:=X.R.vs[j].num) (d:=-1) hrc (EA hpp hpm _) hok' hL (by rw[hjk.1,hjk.2];rfl) ⟨rfl,rfl,rfl,rfl⟩ hbm ?_ ?_ (fun u hu=>hp.b.tags u (mem_filter.1 (show u∈bH X.S.ts t from hu)).1) ?_⟩,hL,hok',rfl,rfl,rfl,rfl,hro,rfl,fun p hp=>hp,pok,gY.bump inp _ _ _ _,fun rs H Rs R0 told hfl hR0 g1 g2=>?_⟩
   ·show(nQ X.R.ts i).length<=_;unfold nQ;simp;omega
   ·show(bH X.S.ts t).length<=_;exact Nat.le_succ_of_le (length_filter_le _ _)
   ·obtain⟨rs,H,told⟩:=hp.told;exact⟨_,_,told.Qm la.ar hrc (bP hpp) (bP hpm) hnb⟩
   ·have t':=told.Qm la.ar hrc (bP hpp) (bP hpm) hnb;have hsub:∀R∈Rs,R∈Rs++[ec X.R (iw X.R.vs j (-1)) tv (nQ X.R.ts i)]:=fun R hR=>mem_append_left _ hR
    exact⟨_,_,t',hfl.step la.ar rfl (hrc.n) hrc.oth hsub (fun wh hg=>hg.one hsub ⟨_,mem_append_right _ (mem_singleton.2 rfl),_,t'.run,LinkP.of t' hL⟩)⟩
end
section
open Go.RowKit
def GS(d:Nat)(L:DevL)(w:World)(e:Ending)(w':World):Prop :=
 ∃L' p y,e=.returned (.tuple #[])/\Turns (az d L) (az d L') w w'/\DevOk L'/\L'.n=L.n/\p<128*L.n/\L.now[p]?≠some y/\L'.now=L.now.set p y/\L'.safe=L'.now/\L'.chs=[]
theorem kb{n:Int}(h1:0<=n)(h2:n<18446744073709551616):IntKind.u64.wrap n=n:=by
 unfold IntKind.wrap;simp[show IntKind.u64.bits=64 from rfl,show IntKind.u64.signed=false from rfl];omega
theorem xh{t:TypeId}(a b:Nat)(hb:0<b)(ha:a<18446744073709551616)(w:World):(binOp .rem t (.int .u64 a) (.int .u64 b)).run Tryz.prog w=.ok (.int .u64 ((a%b:Nat):Int)) w:=by
 have h1:(a:Int).tmod b=((a%b:Nat):Int):=by rw[Int.tmod_eq_emod_of_nonneg (by omega)];omega
 obtain⟨r,hr⟩:∃r,r=a%b:=⟨_,rfl⟩;have h3:r<=a:=by rw[hr];exact Nat.mod_le _ _
 rw[<- hr]at h1 ⊢;have h2:IntKind.u64.wrap (r:Int)=r:=kb (by omega) (by omega);have h4:¬b=0:=by omega
 simp[binOp,Op.intDiv,h1,h4]
theorem xg{t:TypeId}(a b:Nat)(hb:0<b)(ha:a<18446744073709551616)(w:World):(binOp .quo t (.int .u64 a) (.int .u64 b)).run Tryz.prog w=.ok (.int .u64 ((a / b:Nat):Int)) w:=by
 have h1:(a:Int).tdiv b=((a / b:Nat):Int):=by rw[Int.tdiv_eq_ediv_of_nonneg (by omega)];rfl
 obtain⟨r,hr⟩:∃r,r=a / b:=⟨_,rfl⟩;have h3:r<=a:=by rw[hr];exact Nat.div_le_self _ _
 rw[<- hr]at h1 ⊢;have h2:IntKind.u64.wrap (r:Int)=r:=kb (by omega) (by omega);have h4:¬b=0:=by omega
 simp[binOp,Op.intDiv,h1,h2,h4]
theorem sD{t:TypeId}(a:Nat)(ha:a<18446744073709551616)(w:World):(binOp .quo t (.int .u64 a) (.int .u64 8)).run Tryz.prog w=.ok (.int .u64 ((a / 8:Nat):Int)) w:=xg a 8 (by omega) ha w
theorem wT{t:TypeId}(a:Nat)(ha:a<18446744073709551616)(w:World):(binOp .quo t (.int .u64 a) (.int .u64 128)).run Tryz.prog w=.ok (.int .u64 ((a / 128:Nat):Int)) w:=xg a 128 (by omega) ha w
theorem ED{t:TypeId}(a:Nat)(ha:a<18446744073709551616)(w:World):(binOp .rem t (.int .u64 a) (.int .u64 8)).run Tryz.prog w=.ok (.int .u64 ((a%8:Nat):Int)) w:=xh a 8 (by omega) ha w
theorem wX{t:TypeId}(a:Nat)(ha:a<18446744073709551616)(w:World):(binOp .rem t (.int .u64 a) (.int .u64 128)).run Tryz.prog w=.ok (.int .u64 ((a%128:Nat):Int)) w:=xh a 128 (by omega) ha w
theorem Bj{t:TypeId}(x:UInt8)(j:Nat)(hj:j<8)(w:World):(binOp .xor t (am x) (.int .u8 ((2 ^ j:Nat):Int))).run Tryz.prog w=.ok (am (x ^^^ UInt8.ofNat (2 ^ j))) w:=by
 have h:bits BinOp.xor IntKind.u8 (x.toNat:Int) ((2 ^ j:Nat):Int)=(((x ^^^ UInt8.ofNat (2 ^ j)).toNat:Nat):Int):=by
  have key:∀j:Fin 8,∀x:Fin 256,bits BinOp.xor IntKind.u8 (x.val:Int) ((2 ^ j.val:Nat):Int)=(((UInt8.ofNat x.val ^^^ UInt8.ofNat (2 ^ j.val)).toNat:Nat):Int):=by decide +kernel
  have:=key ⟨j,hj⟩ ⟨x.toNat,UInt8.toNat_lt x⟩;rwa [UInt8.ofNat_toNat]at this
 show Result.ok (Value.int IntKind.u8 (bits BinOp.xor IntKind.u8 (x.toNat:Int) ((2 ^ j:Nat):Int))) w=_;rw[h];rfl
theorem Ly(x:UInt8)(j:Nat)(hj:j<8):x ^^^ UInt8.ofNat (2 ^ j)≠x:=by
 have key:∀j:Fin 8,∀x:Fin 256,UInt8.ofNat x.val ^^^ UInt8.ofNat (2 ^ j.val)≠UInt8.ofNat x.val:=by decide +kernel
 have:=key ⟨j,hj⟩ ⟨x.toNat,UInt8.toNat_lt x⟩;simpa using this
theorem Bi{t:TypeId}(j:Nat)(hj:j<8)(w:World):(binOp .shl t (.int .u8 1) (.int .u64 j)).run Tryz.prog w=.ok (.int .u8 ((2 ^ j:Nat):Int)) w:=by
 rcases(by omega:j=0\/j=1\/j=2\/j=3\/j=4\/j=5\/j=6\/j=7)with rfl|rfl|rfl|rfl|rfl|rfl|rfl|rfl<;>rfl
theorem BS(d:Nat)(L:DevL)(bit:Nat)(w:World)(h:Sat w (az d L))(hL:DevOk L)(hc:L.chs=[])(hs:L.safe=L.now)(hb:bit<18446744073709551616)(hn:0<L.n):
  Calls Tryz.prog 21 #[.pointer (some ⟨d,0,none⟩),.int .u64 bit] w (GS d L w):=by
 have hd:=h.Q5;have c0:w.cell? ⟨d,0,none⟩=some (.slice (some ⟨L.sb,0,none⟩) L.n L.n):=aa hd 0 rfl;have hdl:=ac hd;have hnn:=hL.hn;obtain⟨k,hk⟩:∃k,k=bit%(L.n*128*8):=⟨_,rfl⟩;have hkl:k<L.n*128*8:=by rw[hk];exact Nat.mod_lt _ (by omega)
 have s0:IntKind.u64.wrap (L.n:Int)=L.n:=kb (by omega) (by omega);have s1:IntKind.u64.wrap ((L.n:Int)*128)=(L.n:Int)*128:=kb (by omega) (by omega);have s2:IntKind.u64.wrap ((L.n:Int)*128*8)=(L.n:Int)*128*8:=kb (by omega) (by omega);have s3:(0:Int)<(L.n:Int)*128*8:=by omega
 have s4:(bit:Int).tmod ((L.n:Int)*128*8)=k:=by rw[Int.tmod_eq_emod_of_nonneg (by omega),show((L.n:Int)*128*8)=((L.n*128*8:Nat):Int) by push_cast;rfl,hk];exact(Int.natCast_emod ..).symm
 have s5:IntKind.u64.wrap (k:Int)=k:=kb (by omega) (by omega);have HH:=Hq4 h hL hc hs;clear h hL hc hs hd hk;go_enter Tryz.func21,Tryz.ntmps21;go_upto_region 3 with(fail);obtain⟨p,hp⟩:∃p,p=k / 8:=⟨_,rfl⟩;obtain⟨j,hj⟩:∃j,j=k%8:=⟨_,rfl⟩;obtain⟨pa,hpa⟩:∃a,a=p / 128:=⟨_,rfl⟩;obtain⟨pb,hpb⟩:∃a,a=p%128:=⟨_,rfl⟩;obtain⟨m,hm⟩:∃m,m=2 ^ j:=⟨_,rfl⟩;have hj8:j<8:=by omega
 have hpl:p<128*L.n:=by omega
 have hpe:p=pa*128+pb:=by omega
 have hpan:pa<L.n:=by omega
 have hpbn:pb<128:=by omega
 obtain⟨x,hx⟩:∃x,L.now[p]?=some x:=⟨_,getElem?_eq_getElem (by rw[HH.b.nowL];exact hpl)⟩;obtain⟨y,hy⟩:∃y,y=x ^^^ UInt8.ofNat m:=⟨_,rfl⟩;have hyx:y≠x:=by rw[hy,hm];exact Ly x j hj8
 have HX:=Hq6 hx hpe hp hj hpa hpb;have HMj:=qqH hm;have HY:=qqH hy
 have k0:Turns (az d L) ((L.sb,Is (.cells (ay L.now) 43 (0,0)))::((d,Is (jk L.sb L.nb L.n L.chv))::(L.nb,Is (.cells (ay L.now) 43 (0,0)))::bN 110 129 L.chv L.chs.length (bG L.chs))) w w:=by
  refine(Turns.refl HH.a).to ?_;unfold az jk;rw[HH.x];exact ae
 have HK:=qqH k0;have hk64:k<18446744073709551616:=by omega
 have i1:(pb:Int)<128:=by omega
 have i2:(pa:Int)<(L.n:Int):=by omega
 have hci:pa*128+pb<(ay L.now).size:=by rw[bR,HH.b.nowL];omega
 have hset:(ay L.now).setIfInBounds (pa*128+pb) (am y)=ay (L.now.set p y):=by rw[<- HX.b];simp[ay,map_set]
 clear k0 hx hp hj hpa hpb hm hy hpe;refine cL [([0,1,2,3,4,5,6,7,8,9,10,11,12,13,14,15,16,17,18],19,[])] [] HM.out (by kernel_rfl) fun W tW=>?_
 simp only[Mix,map_cons,map_nil,nth,QG,QF];have k0:=tW HK.out;clear tW;have g0:W.cell? ⟨d,0,none⟩=some (.slice (some ⟨L.sb,0,none⟩) L.n L.n):=aa (k0.sat.Q7 (b:=d) (o:=jk L.sb L.nb L.n L.chv) (by simp)) 0 rfl;have g1:W.cell? ⟨L.sb,pa*128+pb,none⟩=some (am x):=aa k0.sat.Q5 _ (by rw[<- HX.b,j8 _ p (by rw[HH.b.nowL];exact hpl)];exact congrArg some (congrArg am (List.getElem_of_getElem? HX.a).2));iterate 5 still_step
 refine cD rfl (v:=.int .u64 p) (by have q:=sD (t:=37) k (by omega) W;rw[<- HX.c]at q;simp[execOp,eqGuard,q,Act.eval]) ?_;simp only[Act.put,QA,QB,QC];refine cD rfl (v:=.int .u64 pa) (by have q:=wT (t:=37) p (by omega) W;rw[<- HX.e]at q;simp[execOp,eqGuard,q,Act.eval]) ?_;simp only[Act.put,QA,QB,QC];still_step;refine cD rfl (v:=.int .u64 p) (by have q:=sD (t:=37) k (by omega) W;rw[<- HX.c]at q;simp[execOp,eqGuard,q,Act.eval]) ?_;simp only[Act.put,QA,QB,QC];refine cD rfl (v:=.int .u64 pb) (by have q:=wX (t:=37) p (by omega) W;rw[<- HX.v]at q;simp[execOp,eqGuard,q,Act.eval]) ?_;simp only[Act.put,QA,QB,QC];iterate 4 still_step
 refine cD rfl (v:=.int .u64 j) (by have q:=ED (t:=37) k (by omega) W;rw[<- HX.d]at q;simp[execOp,eqGuard,q,Act.eval]) ?_;simp only[Act.put,QA,QB,QC];refine cD rfl (v:=.int .u8 m) (by have q:=Bi (t:=5) j hj8 W;rw[<- HMj.out]at q;simp[execOp,eqGuard,q,Act.eval]) ?_;simp only[Act.put,QA,QB,QC];refine cD rfl (v:=am y) (by have q:=Bj (t:=5) x j hj8 W;rw[<- HMj.out,<- HY.out]at q;simp[execOp,eqGuard,q,Act.eval]) ?_;simp only[Act.put,QA,QB,QC];iterate 2 still_step
 refine wpStill_nil (bu 5 (.tmp 37) (.tmp 35) rfl L.sb (pa*128+pb) (ay L.now) 43 (am y) k0 rfl rfl hci (by kernel_rfl) rfl rfl fun w2 hT2=>⟨rfl,?_⟩);simp only[Act.put];refine wpStill_nil ?_;rw[hset]at hT2;clear k0 g0 g1;have k1:Turns (az d L) ((L.nb,Is (.cells (ay L.now) 43 (0,0)))::((d,Is (jk L.sb L.nb L.n L.chv))::(L.sb,Is (.cells (ay (L.now.set p y)) 43 (0,0)))::bN 110 129 L.chv L.chs.length (bG L.chs))) w w2:=hT2.to ae;have HK1:=qqH k1;clear k1 hT2;go_upto_region 4 with(fail);refine cL [([0,1,2,3,4,5,6,7,8,9,10,11,12,13,14,15,16,17,18],19,[])] [] HM.out (by kernel_rfl) fun W tW=>?_
 simp only[Mix,map_cons,map_nil,nth,QG,QF];have k0:=tW HK1.out;clear tW;have g0:W.cell? ⟨d,1,none⟩=some (.slice (some ⟨L.nb,0,none⟩) L.n L.n):=aa (k0.sat.Q7 (b:=d) (o:=jk L.sb L.nb L.n L.chv) (by simp)) 1 rfl;have g1:W.cell? ⟨L.nb,pa*128+pb,none⟩=some (am x):=aa k0.sat.Q5 _ (by rw[<- HX.b,j8 _ p (by rw[HH.b.nowL];exact hpl)];exact congrArg some (congrArg am (List.getElem_of_getElem? HX.a).2));iterate 5 still_step
 refine cD rfl (v:=.int .u64 p) (by have q:=sD (t:=37) k (by omega) W;rw[<- HX.c]at q;simp[execOp,eqGuard,q,Act.eval]) ?_;simp only[Act.put,QA,QB,QC];refine cD rfl (v:=.int .u64 pa) (by have q:=wT (t:=37) p (by omega) W;rw[<- HX.e]at q;simp[execOp,eqGuard,q,Act.eval]) ?_;simp only[Act.put,QA,QB,QC];still_step;refine cD rfl (v:=.int .u64 p) (by have q:=sD (t:=37) k (by omega) W;rw[<- HX.c]at q;simp[execOp,eqGuard,q,Act.eval]) ?_;simp only[Act.put,QA,QB,QC];refine cD rfl (v:=.int .u64 pb) (by have q:=wX (t:=37) p (by omega) W;rw[<- HX.v]at q;simp[execOp,eqGuard,q,Act.eval]) ?_;simp only[Act.put,QA,QB,QC];iterate 4 still_step
 refine cD rfl (v:=.int .u64 j) (by have q:=ED (t:=37) k (by omega) W;rw[<- HX.d]at q;simp[execOp,eqGuard,q,Act.eval]) ?_;simp only[Act.put,QA,QB,QC];refine cD rfl (v:=.int .u8 m) (by have q:=Bi (t:=5) j hj8 W;rw[<- HMj.out]at q;simp[execOp,eqGuard,q,Act.eval]) ?_;simp only[Act.put,QA,QB,QC];refine cD rfl (v:=am y) (by have q:=Bj (t:=5) x j hj8 W;rw[<- HMj.out,<- HY.out]at q;simp[execOp,eqGuard,q,Act.eval]) ?_;simp only[Act.put,QA,QB,QC];iterate 2 still_step
 refine wpStill_nil (bu 5 (.tmp 56) (.tmp 54) rfl L.nb (pa*128+pb) (ay L.now) 43 (am y) k0 rfl rfl hci (by kernel_rfl) rfl rfl fun w3 hT3=>⟨rfl,?_⟩);simp only[Act.put];refine wpStill_nil ?_;rw[hset]at hT3;have HT3:=qqH hT3;clear k0 g0 g1 hT3;refine bodyPost_end (results_none rfl _ _ _) rfl ⟨{ L with now:=L.now.set p y,safe:=L.now.set p y },p,y,rfl,?_,⟨HH.b.hn,by simpa using HH.b.nowL,by simpa using HH.b.nowL,HH.b.row,HH.b.chs,?_⟩,rfl,hpl,?_,rfl,rfl,HH.c⟩
 ·refine HT3.out.to ?_;unfold az jk;exact ae
 ·show i9 (L.now.set p y) L.chs=L.now.set p y;rw[HH.c];rfl
 ·rw[HX.a];exact fun e=>hyx (Option.some.inj e).symm
def aA(b:Nat):Value:=.pointer (some ⟨b,0,none⟩)
def FH(v:Value)(safe:Int):Obj:=.cells #[v,.int .i64 safe] 98 (0,0)
def fh(b:Nat)(v:Value)(ps:List Nat)(safe:Int):HF:=(b,Is (FH v safe))::bN 56 1 v ps.length (ps.map aA)
def lm(v:Value)(ps:List Nat):Prop:=eE 1 v ps.length (ps.map aA)
def aZ(d a:Value)(q:Int)(h:Nat):Obj:=.cells #[d,a,.int .i64 q,aA h] 35 (0,0)
theorem IE:(Tryz.prog.info? 56).map (fun i=>(i.zero,i.size,i.bytes))=some (some (.pointer none),1,8):=by kernel_rfl
theorem yL{o:Oper}{a:Act}{w a0:World}{K:Act->World->Prop}{Q:Exit->Act->World->Prop}{F G:HF}(s x:Operand)(hop:o.op=.call { callee:=.builtin .append,args:=#[s,x],argTypes:=#[96,96] })(v:Value)(l:List Nat)(hs:a.eval s=v)(hT:Turns F (bN 56 1 v l.length (l.map aA)++G) a0 w)(hok:lm v l)(n q:Nat)(hx:a.eval x=.slice (some ⟨n,0,none⟩) 1 1)(hc:w.cell? ⟨n,0,none⟩=some (aA q))(hb:l.length<=1000000)(hk:∀v' w',lm v' (l++[q])->Turns F (bN 56 1 v' (l++[q]).length ((l++[q]).map aA)++G) a0 w'->K (a.put o.dst v') w'):o.wp Tryz.prog a w K Q:=by
 obtain⟨i0,hi0,hz1,hz2,hz3⟩:=info_parts IE;refine cI s x 96 56 i0 (.pointer none) 1 8 hop Tryz.underlying96 hi0 hz1 hz2 hz3 rfl (by decide) v l.length (l.map aA) hs hT hok (some ⟨n,0,none⟩) 1 1 hx [aA q] rfl (fun _=>⟨_,rfl,fun j y hj=>?_⟩) (fun y hy=>by simp at hy;subst hy;rfl) (by unfold maxLen;omega) (by omega) (fun v' w' h1 h2 _=>?_)
 ·cases j with
  | zero=>simp only[getElem?_cons_zero,Option.some.injEq]at hj;subst hj;rw[Addr.add_lit,Nat.zero_add];exact hc
  | succ j=>simp at hj
 ·exact hk v' w' (by unfold lm;rw[length_append,map_append];exact h1) (by rw[length_append,map_append];exact h2)
def BT(b:Nat)(v:Value)(ps:List Nat)(safe:Int)(q:Nat)(w:World)(e:Ending)(w':World):Prop :=
 e=.returned (.tuple #[])/\∃v',lm v' (ps++[q])/\Turns (fh b v ps safe) (fh b v' (ps++[q]) safe) w w'
theorem p9(b:Nat)(v:Value)(ps:List Nat)(safe:Int)(q:Nat)(w:World)(h:Sat w (fh b v ps safe))(hok:lm v ps)(hl:ps.length<=1000000):
  Calls Tryz.prog 42 #[.pointer (some ⟨b,0,none⟩),.pointer (some ⟨q,0,none⟩)] w (BT b v ps safe q w):=by
 have hb:=h.Q5;have c0:w.cell? ⟨b,0,none⟩=some v:=aa hb 0 rfl;have hbl:=ac hb;obtain⟨-,-,sl,cap,hv,-,-⟩:=dl h.tail hok;have HH:=Hq3 h hok hv;clear h hok hb;rw[hv]at c0;go_enter Tryz.func42,Tryz.ntmps42;clear hv;have k0:Turns (fh b v ps safe) (bN 56 1 v ps.length (ps.map aA)++[(b,Is (FH v safe))]) w w:=(Turns.refl HH.a).to (by unfold fh;exact ae);have HK:=qqH k0;clear k0;go_wp2_with (first|(at_builtin;refine ai rfl ?_;refine yL (.tmp 8) (.tmp 10) rfl v ps HH.y.symm (HK.out.alloc _) HH.b _ q rfl (aa (aK _ _) 0 rfl) hl ?_;intro v2 w2 hok2 hT2;have H2:=Hq2 hok2 hT2;have b2:=ac (hT2.sat.Q7 (b:=b) (o:=FH v safe) (by simp));obtain⟨e1,e2,-⟩:=dl hT2.sat.left hok2;have H3:=Hq2 e1 e2;clear e1 e2;clear hok2 hT2)|(refine ai rfl (bu 96 (.tmp 15) (.tmp 13) rfl b 0 #[v,.int .i64 safe] 98 v2 (H2.z.to (H:=(b,Is (FH v safe))::bN 56 1 v2 (ps++[q]).length ((ps++[q]).map aA)) ae) rfl rfl (by simp) (by kernel_rfl) H3.a H3.z ?_);intro w3 hT3;have HT3:=qqH hT3;clear hT3;simp only[Act.put])|fail);refine bodyPost_end (results_none rfl _ _ _) rfl ⟨rfl,v2,H2.a,?_⟩;exact HT3.out
theorem yd(b:Nat)(v:Value)(ps:List Nat)(safe:Int)(q:Nat)(w:World)(h:Sat w (fh b v (ps++[q]) safe))(hok:lm v (ps++[q])):
  Calls Tryz.prog 36 #[.pointer (some ⟨b,0,none⟩)] w (fun e w'=>e=.returned (.pointer (some ⟨q,0,none⟩))/\aX w w'):=by
 obtain⟨m,hm⟩:∃m,m=ps.length:=⟨_,rfl⟩;have hl:(ps++[q]).length=m+1:=by simp[hm]
 obtain⟨sl,cap,hv,hn1,hn2,hc,-⟩:=bC h.tail hok (by decide);obtain⟨g,off,rfl,-⟩:=hc (by simp);have s1:IntKind.i64.wrap (m:Int)=(m:Int):=qs (by omega) (by omega)
 have key:∀W,Sat W (fh b v (ps++[q]) safe)->W.cell? ⟨b,0,none⟩=some (.slice (some ⟨g,off,none⟩) (m+1) cap)/\W.cell? ⟨g,off+m,none⟩=some (.pointer (some ⟨q,0,none⟩))/\b<W.heap.size:=fun W hW=>by
  obtain⟨sl',cap',hv',-,-,hc',-⟩:=bC hW.tail hok (by decide);rw[hv]at hv';simp only[Value.slice.injEq]at hv';obtain⟨rfl,-,rfl⟩:=hv';obtain⟨g',off',hg,hcc⟩:=hc' (by simp);simp only[Option.some.injEq,Addr.mk.injEq,and_true]at hg;obtain⟨rfl,rfl⟩:=hg;refine⟨by rw[<- hl,<- hv];exact aa hW.Q5 0 rfl,?_,ac hW.Q5⟩;rw[hcc m (by simp;omega)];simp[hm,aA]
 have HH:=Hq2 h key;obtain⟨-,-,hbl⟩:=key w h;clear h hok hc hm hl hv key;go_enter Tryz.func36,Tryz.ntmps36;have i1:((m:Int)+1)-1=(m:Int):=by omega
 have i2:(m:Int)<(m:Int)+1:=by omega
 go_upto_region 1 with(fail);have k0:=Turns.refl (Sat.nil w);have HK:=qqH k0;clear k0;refine cL [] [0,1,2,3,4,5,6,7,8,9,10,11,12] HM.out (by kernel_rfl) fun W tW=>?_
 simp only[Mix,map_cons,map_nil,nth,QG,QF];have k0:=tW HK.out;clear tW;have HS:=qqH k0.news;obtain⟨c0,c1,-⟩:=HH.z W (HH.a.same HS.out);iterate 9 still_step
 refine cD rfl (v:=.int .i64 m) (by simp[execOp,eqGuard,binOp,Op.intArith,Act.eval,i1,s1]) ?_;simp only[Act.put,QA,QB,QC];repeat still_step
 refine wpStill_nil ?_;clear k0 c0 c1;go_wp2_with fail;go_ret;exact ⟨rfl,HS.out⟩
def nP(o:OpL):Bool:=decide (o.kind=1) || decide (o.kind=9) || decide (o.kind=10) || decide (o.kind=11) || decide (o.kind=12)
theorem vl(o:OpL)(hd:o.dv.oneCell'=true)(w:World):
  Calls Tryz.prog 35 #[.agg (opV o).toArray] w (fun e w'=>e=.returned (.bool (nP o))/\aX w w'):=by
 have HH:=qqH hd;unfold opV;obtain⟨k,hk⟩:∃k,k=o.kind:=⟨_,rfl⟩;have HC:Hid (nP o=(decide (k=1) || decide (k=9) || decide (k=10) || decide (k=11) || decide (k=12))):=qqH (by rw[hk];rfl);rw[<- hk];clear hk hd;go_enter Tryz.func35,Tryz.ntmps35;go_wp2_with fail;all_goals go_ret;refine ⟨?_,(Mods.refl _ _).alloc _⟩
 all_goals rw[HC.out]
 all_goals first
  | (simp[*];done)
  | (congr 3;simp[Bool.beq_eq_decide_eq])
  | (simp only[Ending.returned.injEq];simp[BEq.beq])
def qd(Q:Int):Nat:=(IntKind.u64.wrap Q).toNat%1000000
def iA(r:Nat)(q:Int):RefL:=⟨r,.slice none 0 0,[],.slice none 0 0,[],q,false⟩
def Hh(n:Nat)(Q:Int)(w:World)(e:Ending)(w':World):Prop :=
 ∃x b v r d L,e=.returned (aA x)/\lm v [r]/\DevOk L/\L.n=n/\L.now=ak (128*n)/\L.chs=[]/\Turns [] ((x,Is (aZ (aA d) (.pointer none) (qd Q) b))::(fh b v [r] 0++((r,Is (jH (iA r (qd Q))))::az d L))) w w'
theorem BM(Q:Int):0<=IntKind.u64.wrap Q/\IntKind.u64.wrap Q<18446744073709551616:=by
 unfold IntKind.wrap;simp[show IntKind.u64.bits=64 from rfl,show IntKind.u64.signed=false from rfl];omega
theorem DG(n:Nat)(Q:Int)(hn:n<=1099511627776)(w:World):Calls Tryz.prog 29 #[.int .i64 n,.int .i64 Q] w (Hh n Q w):=by
 obtain⟨h1,h2⟩:=BM Q;obtain⟨c,hc⟩:∃c:Nat,c=(IntKind.u64.wrap Q).toNat:=⟨_,rfl⟩;obtain⟨q,hq⟩:∃q:Nat,q=qd Q:=⟨_,rfl⟩;have hqc:q=c%1000000:=by rw[hq,hc];rfl
 have s0:IntKind.u64.wrap Q=(c:Int):=by omega
 have s1:(c:Int).tmod 1000000=(q:Int):=by rw[Int.tmod_eq_emod_of_nonneg (by omega),hqc];omega
 have s2:IntKind.u64.wrap (q:Int)=(q:Int):=kb (by omega) (by omega);have s3:IntKind.i64.wrap (q:Int)=(q:Int):=qs (by omega) (by omega);have HQ:=qqH hq;clear h1 h2 hc hq hqc;go_enter Tryz.func29,Tryz.ntmps29;go_wp2_with fail;have e0:(w.alloc (FH (.slice none 0 0) 0)).heap.size=w.heap.size+1:=by simp
 have hT0:=((Turns.refl (Sat.nil w)).Q8 (FH (.slice none 0 0) 0)).Q8 (jH (iA (w.heap.size+1) q));rw[e0]at hT0;have HA:=qqH (p9 w.heap.size (.slice none 0 0) [] 0 (w.heap.size+1) _ (show Sat _ (fh w.heap.size (.slice none 0 0) [] 0)from hT0.sat.tail) ⟨rfl,fun _=>⟨rfl,rfl⟩⟩ (by simp));obtain⟨b,hb⟩:∃b,b=w.heap.size:=⟨_,rfl⟩;have HT0:=qqH hT0;clear hT0 e0;refine HA.out.mono ?_;rintro e w1 ⟨rfl,v1,hok1,hT1⟩;simp only[nil_append]at hok1 hT1;rw[<- hb]at hT1 HT0 ⊢;have hT1:=HT0.out.step (F:=fh b (.slice none 0 0) [] 0) (R:=[(b+1,Is (jH (iA (b+1) q)))]) (Perm.swap _ _ _) hT1;have HN:=qqH (jr n hn w1);have H1:=Hq2 hok1 hT1;clear hok1 hT1 hb HA HT0;go_wp2_with fail;refine HN.out.mono ?_;rintro e w2 ⟨d,L,rfl,hT2,hL,hLn,hnow,hch⟩;have hT2:=H1.z.Qb hT2;have H2:=Hq5 hT2 hL hLn hnow hch;clear hT2 hL hLn hnow hch;go_wp2_with fail;have hT3:=H2.a.Q8 (aZ (aA d) (.pointer none) q b);go_ret;refine ⟨w2.heap.size,b,v1,b+1,d,L,rfl,H1.a,H2.b,H2.c,H2.d,H2.w,?_⟩;rw[<- HQ.out];exact hT3.to ae
def sv(good:Nat->Prop)(least m:Nat)(r:Int):Prop:=-1<=r/\r<m/\(r=-1->∀n,least<=n->n<m->¬good n)
theorem Iw{W:World}{b:Nat}{v:Value}{ps:List Nat}{safe:Int}(h:Sat W (fh b v ps safe))(hok:lm v ps):∃sl cap,v=.slice sl ps.length cap/\ps.length<=cap/\cap<=9223372036854775807/\W.cell? ⟨b,0,none⟩=some v/\W.cell? ⟨b,1,none⟩=some (.int .i64 safe)/\b<W.heap.size /\
  ∀n p,ps[n]?=some p->∃g off,sl=some ⟨g,off,none⟩/\W.cell? ⟨g,off+n,none⟩=some (.pointer (some ⟨p,0,none⟩)):=by
 obtain⟨sl,cap,hv,h1,h2,hc,-⟩:=bC h.tail hok (by decide);refine⟨sl,cap,hv,h1,h2,aa h.Q5 0 rfl,aa h.Q5 1 rfl,ac h.Q5,fun n p hp=>?_⟩;obtain⟨hn,hp⟩:=List.getElem?_eq_some_iff.1 hp;obtain⟨g,off,hg,hcc⟩:=hc (by rw[length_map];omega);refine⟨g,off,hg,?_⟩;rw[hcc n (by rw[length_map];exact hn)];simp[aA,hp]
theorem qc(b:Nat)(v:Value)(ps:List Nat)(safe:Int)(a:Value)(least:Nat)(corrupt:Bool)(I:World->Prop)(good:Nat->Prop)(hI:∀W,I W->Sat W (fh b v ps safe))(hok:lm v ps)(hL:∀W n p,I W->ps[n]?=some p->Calls Tryz.prog 40 #[a,.pointer (some ⟨p,0,none⟩),.bool corrupt] W (fun e w'=>∃z,e=.returned (.bool z)/\(good n->z=true)/\I w'))(w:World)(h:I w)(hl:ps.length<=1000000)(hl2:least<=1000000):
  Calls Tryz.prog 45 #[.pointer (some ⟨b,0,none⟩),a,.int .i64 least,.bool corrupt] w (fun e w'=>∃r,e=.returned (.int .i64 r)/\sv good least ps.length r/\I w'):=by
 obtain⟨sl,cap,hv,-,-,c0,-,hbl,-⟩:=Iw (hI w h) hok;rw[hv]at c0;obtain⟨m,hm⟩:∃m,m=ps.length:=⟨_,rfl⟩;have HH:=Hq5 hI hok hL hm hv;have HI:=qqH h;rw[<- hm]at c0 hl ⊢;clear hI hok hL h hm hv;have s1:IntKind.i64.wrap ((m:Int)-1)=(m:Int)-1:=qs (by omega) (by omega);go_enter Tryz.func45,Tryz.ntmps45;go_wp2_with fail;go_loopw [9] (fun i wr=>∃k:Nat,k<=m/\i=.int .i64 ((k:Int)-1)/\(∀n,least<=n->k<=n->n<m->¬good n)/\I wr) (fun i _=>(intOf i+1).toNat)
 case atStart=>exact⟨m,Nat.le_refl _,by go_num,fun n _ h1 h2=>by omega,HI.out⟩
 case round =>
  obtain⟨k,hk,rfl,hpre,hIr⟩:=hrel;by_cases hlt:k<=least
  ·have i1:¬((k:Int)-1≥(least:Int)):=by omega
   have HE:=Hq2 (show sv good least m (-1)from⟨by omega,by omega,fun _ n h1 h2=>hpre n h1 (by omega) h2⟩) hIr;clear hpre hIr hlt;go_wp2_with fail;go_ret;refine ⟨-1,rfl,HE.a,HE.z⟩
  ·obtain⟨n,rfl⟩:∃n,k=n+1:=⟨k-1,by omega⟩;have e1:((n+1:Nat):Int)-1=(n:Int):=by omega
   rw[e1];have i1:(n:Int)≥(least:Int):=by omega
   obtain⟨p,hp⟩:∃p,ps[n]?=some p:=⟨_,getElem?_eq_getElem (by rw[<- HH.d];omega)⟩;obtain⟨sl2,cap2,hv2,-,-,c0,-,hbl2,hcc⟩:=Iw (HH.a wr hIr) HH.b;rw[HH.w]at hv2;simp only[Value.slice.injEq,true_and]at hv2;obtain⟨rfl,rfl⟩:=hv2;rw[HH.w,<- HH.d]at c0;obtain⟨g,off,rfl,c1⟩:=hcc n p hp;have i2:(n:Int)<(m:Int):=by omega
   have s2:IntKind.i64.wrap ((n:Int)-1)=(n:Int)-1:=qs (by omega) (by omega);have HL:=qqH (HH.c wr n p hIr hp);have HP:=qqH hpre;clear hpre hIr hcc hp e1;go_wp2_with fail;refine HL.out.mono ?_;rintro e w2 ⟨z,rfl,hgz,hI2⟩;have HI2:=Hq2 hI2 hgz;clear hI2 hgz
   cases z with
   | true =>
    go_wp2_with fail;go_ret;refine ⟨(n:Int),rfl,⟨by omega,by omega,fun h=>by omega⟩,HI2.a⟩
   | false =>
    have HP2:=qqH (show ∀j,least<=j->n<=j->j<m->¬good j from fun j h1 h2 h3 hg=>by
     rcases Nat.eq_or_lt_of_le h2 with h4|h4
     ·subst h4;exact absurd (HI2.z hg) (by decide)
     ·exact HP.out j h1 h4 h3 hg)
    go_wp2_with fail;go_roundw
    case rel=>exact⟨n,by omega,by go_num,HP2.out,HI2.a⟩
    case measure=>simp[intOf]
end
section
theorem BI:∀{l:List RVer},(l.map (·.num)).Pairwise (·<·)->∀{u v:RVer},u∈l->v∈l->u.num=v.num->u=v
 | [],_,_,_,h,_,_=>by cases h
 | x::r,hp,u,v,hu,hv,he=>by
  rw[map_cons,pairwise_cons]at hp
  rcases mem_cons.1 hu with hu|hu<;>rcases mem_cons.1 hv with hv|hv
  ·rw[hu,hv]
  ·have:=hp.1 v.num (mem_map.2 ⟨v,hv,rfl⟩)
   rw[<- hu]at this;omega
  ·have:=hp.1 u.num (mem_map.2 ⟨u,hu,rfl⟩)
   rw[<- hv]at this;omega
  ·exact BI hp.2 hu hv he
theorem Link.get{S:AS}{R:RefL}(L:Link S R)(hc:S.X.closed=false){v:RVer}(hv:v∈R.vs):∃V,gB S v.path v.num V/\da S V=v.cont:=by
 have h1:(R.vs.filter (ic v.path v.num)).getLast?=some v:=by
  have hm:v∈R.vs.filter (ic v.path v.num):=mem_filter.2 ⟨hv,by simp[ic]⟩
  cases hg:(R.vs.filter (ic v.path v.num)).getLast? with
  | none=>rw[getLast?_eq_none_iff.1 hg]at hm;cases hm
  | some u =>
   obtain⟨hu1,hu2⟩:=mem_filter.1 (mem_of_getLast? hg);unfold ic at hu2;simp only[Bool.and_eq_true,Bool.or_eq_true,decide_eq_true_eq]at hu2;have hn:=(L.each v hv).1;congr 1;refine BI (L.asc v.path) (mem_filter.2 ⟨hu1,by simpa using hu2.1⟩) (mem_filter.2 ⟨hv,by simp⟩) ?_;rcases hu2.2 with h|h
   ·exact h
   ·omega
 have h2:=L.find v.path v.num;rw[pg,h1,Option.map_some]at h2;obtain⟨V,hV,hV2⟩:=Option.map_eq_some_iff.1 h2;refine⟨V,⟨hc,(L.each v hv).2.1,hV⟩,?_⟩;unfold cQ fA at hV2;simp only[Prod.mk.injEq]at hV2;exact hV2.2.1
end
section
open Go.RowKit Go.Maps
def sO(S:AS)(R:RefL)(G:HF)(w0:World)(e:Ending)(w':World):Prop :=
 ∃z sp,e=.returned (.bool z)/\(Link S R->z=true)/\AreaOk { S.A with spare:=sp }/\Turns [] (arF (bK S sp)++G) w0 w'
theorem uf(S:AS)(R:RefL)(P:dE)(b:Nat)(G:HF)(corrupt:Bool)(w0 w:World)(h:Turns [] (arF S++G) w0 w)(hok:ArOk S)(hB:ArB S b)(hb:b<=90000)(hc:S.X.closed=false)(hcR:R.closed=false)(htl:R.ts.length<=100000)(hR:∀W,Sat W G->RefAt R P W)(hE:cG w0)(hpl:∀v∈R.vs,v.path.length<=9223372036854775807):
  Calls Tryz.prog 40 #[.pointer (some ⟨S.a,0,none⟩),.pointer (some ⟨R.blk,0,none⟩),.bool corrupt] w (sO S R G w0):=by
 have HH:=Hq9 h hok hB hb hc hcR htl hR hE;have HPL:=qqH hpl;clear hpl;have HL1:=qqH (BU S [] b w h.sat.left hok hB hb);clear h hok hB hb hc hcR htl hR hE;go_enter Tryz.func40,Tryz.ntmps40;go_wp2_with fail;refine HL1.out.mono ?_;rintro e w1 (⟨hcl,-⟩|⟨-,v1,es,rfl,hso,heo,hT⟩)
 ·rw[HH.e]at hcl;cases hcl
 have hT1:=HH.a.step (Perm.refl _) hT;have HL2:=qqH (A4 R P [] w1 (HH.h w1 hT1.sat.right));have H1:=Hq3 hT1 hso heo;clear hT hT1 hso heo HL1;go_wp2_with fail;refine HL2.out.mono ?_;rintro e w2 (⟨hcl,-⟩|⟨-,v2,rfl,hro,hT⟩)
 ·rw[HH.f]at hcl;cases hcl
 have hT2:=H1.a.Qb hT;have HL3:=qqH (Cf S b w2 (hT2.sat.right.left.right) HH.b HH.c HH.d);have H2:=Hq2 hT2 hro;clear hT hT2 hro HL2;go_wp2_with fail;refine HL3.out.mono ?_;rintro e w3 (⟨hcl,-⟩|⟨-,v3,rfl,hpo,hT⟩)
 ·rw[HH.e]at hcl;cases hcl
 have hT3:=H2.a.step (F:=arF S) (R:=eS v2 (eW [] R.vs)++(fg v1 es++G)) ae hT;have H3:=Hq2 hT3 hpo;clear hT hT3 hpo HL3;have hT3:=H3.a
 have hel:es.length<=1000000:=by
  have h1:=H1.b.1.length_eq;have h2:(eG [] S.ps).length<=S.ps.length:=by unfold eG;rw[length_map];exact length_filter_le _ _
  have:=HH.c.np;have:=HH.d;omega
 have hrl:(eW [] R.vs).length<=1000000:=by
  have h1:=ww [] R.vs;have:=(HH.h w3 hT3.sat.right.right.right).len;omega
 obtain⟨la,lc,hlv,-,-,hlc,-⟩:=bC (v:=v1) (xs:=es.flatMap cr) (n:=es.length) (size:=4) (show Sat w3 (fg v1 es)from hT3.sat.right.right.left) H1.y (by decide);obtain⟨ra,rc,hrv,-,-,hrc,-⟩:=bC (show Sat w3 (eS v2 (eW [] R.vs))from hT3.sat.right.left) H2.z (by decide);have HS1:=qqH (qi es (eW [] R.vs) la ra lc rc w3 hlc hrc hel hrl);have HV:=Hq2 hlv hrv;clear hT3 hel hrl hlc hrc;obtain⟨n1,hn1⟩:∃n,n=es.length:=⟨_,rfl⟩;obtain⟨n2,hn2⟩:∃n,n=(eW [] R.vs).length:=⟨_,rfl⟩;rw[<- hn1]at HS1 hlv;rw[<- hn2]at HS1 hrv;have HN:=Hq2 hn1 hn2;clear hn1 hn2;subst hlv;subst hrv;go_wp2_with fail;refine HS1.out.mono ?_;rintro e w4 ⟨z1,rfl,hz1,hs4⟩;have hT4:=(H3.a.Q9 hs4).drop (H:=qT v3 (c8 S.ts (eZ S.ts))++(arF S++G)) (fun x=>by simp only[ah];omega);have hz1':Link S R->z1=true:=fun L=>hz1 (L.list HH.b [] H1.b)
 have hra:=HH.h w4 hT4.sat.right.right;have ct:w4.cell? ⟨R.blk,1,none⟩=some R.tv:=aa hra.ref.Q5 1 rfl;have hrb:=ac hra.ref.Q5;obtain⟨ta,tc,htv,-,-,htc,-⟩:=bC hra.ref.tail.right hra.ok.ts (by decide);obtain⟨pa,pc,hpv,-,-,hpc,-⟩:=bC hT4.sat.left H3.z (by decide);rw[Be]at htc
 have hpl:(c8 S.ts (eZ S.ts)).length<=1000000:=by
  have:=HH.c.nt;have:=HH.d;unfold c8 eZ;simp;omega
 have hsc:=uJ (c8 S.ts (eZ S.ts)) (R.ts.map tagT) pa ta pc tc w4 hpc htc hpl (by rw[length_map];have:=HH.g;omega);rw[length_map]at hsc;rw[htv]at ct;have HS2:=qqH hsc;have H4:=Hq2 hT4 hz1';have HT0:=Hq2 htv hpv;clear hT4 hz1' hz1 hra htc hpc hpl hsc hs4 HS1;obtain⟨n3,hn3⟩:∃n,n=(c8 S.ts (eZ S.ts)).length:=⟨_,rfl⟩;rw[<- hn3]at HS2 hpv;clear hn3 htv;subst hpv;go_wp2_with fail;refine HS2.out.mono ?_;rintro e w5 ⟨z2,rfl,hz2,hs5⟩;have hT5:=(H4.a.Q9 hs5).drop (H:=arF S++G) (fun x=>by simp only[ah];omega);have hz2':Link S R->z2=true:=fun L=>hz2 (L.pins HH.b)
 have hNo:∀(W:World) (sp:List (Nat×Nat×Nat)),AreaOk { S.A with spare:=sp }->Turns [] (arF (bK S sp)++G) w0 W->¬Link S R->sO S R G w0 (.returned (.bool false)) W:=fun W sp ha hT hn=>⟨false,sp,rfl,fun L=>absurd L hn,ha,hT⟩
 have hE5:cG w5:=HH.out.2.2.2.2.2.2.2.2.keep hT5.mods (fun h=>by simp at h);have HTe:=qqH (bQ .nilIface 0 w5 hE5 (.inl ⟨rfl,rfl⟩));have H5:=Hq4 hT5 H4.z hz2' hNo;clear hT5 hz2' hNo hz2 hs5 hE5 H4 H3 H2 H1 HS2
 cases z1 with
 | false =>
  go_wp2_with fail;go_ret;exact H5.x _ S.A.spare HH.b.area H5.a (fun L=>by have:=H5.b L;cases this)
 | true =>
 cases z2 with
 | false =>
  go_wp2_with fail;go_ret;exact H5.x _ S.A.spare HH.b.area H5.a (fun L=>by have:=H5.c L;cases this)
 | true =>
 go_wp2_with fail;refine HTe.out.mono ?_;rintro e w6 ⟨rfl,hs6⟩;have hT6:=H5.a.Q9 hs6;have hE6:cG w6:=HH.out.2.2.2.2.2.2.2.2.keep hT6.mods (fun h=>by simp at h);have HTe:=qqH (bQ .nilIface 0 w6 hE6 (.inl ⟨rfl,rfl⟩));have H6:=qqH hT6;clear hT6 hE6 hs6;go_wp2_with fail;refine HTe.out.mono ?_;rintro e w7 ⟨rfl,hs7⟩;have H7:=qqH (H6.out.Q9 hs7);clear hs7 H6;go_wp2_with fail;go_loopw [15] (fun i wr=>∃(k:Nat) (sp:List (Nat×Nat×Nat)),k<=R.vs.length/\i=.int .i64 k/\AreaOk { S.A with spare:=sp }/\Turns [] (arF (bK S sp)++G) w0 wr) (fun i _=>R.vs.length-(intOf i).toNat)
 case atStart=>exact⟨0,S.A.spare,Nat.zero_le _,rfl,HH.b.area,H7.out⟩
 case round =>
  obtain⟨k,sp,hk,rfl,hsp,hTr⟩:=hrel;have hra:=HH.h wr hTr.sat.right;obtain⟨sl,cap,e1,e2,e3,hb,hcell⟩:=hra.row;obtain⟨m,hm⟩:∃m,m=R.vs.length:=⟨_,rfl⟩;have c0:wr.cell? ⟨R.blk,0,none⟩=some (.slice sl m cap):=by rw[hm,<- e1];exact aa hb 0 rfl
  have hbl:=ac hb;by_cases hlt:k<R.vs.length
  ·obtain⟨g,off,hg,hcc⟩:=hcell (by omega);subst hg;obtain⟨d0,d1,d2,d3⟩:=hcc k hlt;obtain⟨csl,ccap,hcv,-,-,-⟩:=hra.cont (getElem_mem hlt);rw[hcv]at d2;obtain⟨v,hv⟩:∃v,v=R.vs[k]:=⟨_,rfl⟩;have hmem:v∈R.vs:=by rw[hv];exact getElem_mem hlt
   rw[<- hv]at d0 d1 d2 d3 hcv;obtain⟨pk,hpk⟩:∃pk,pk=v.path:=⟨_,rfl⟩;obtain⟨nk,hnk⟩:∃nk,nk=v.num:=⟨_,rfl⟩;obtain⟨cl,hcl⟩:∃cl,cl=v.cont.length:=⟨_,rfl⟩;rw[<- hpk]at d0;rw[<- hnk]at d1;rw[<- hcl]at d2;have hgl:=World.block_lt_of_cell? wr _ d0;have hlt2:(k:Int)<(m:Int):=by omega
   have HX:=Hq8 hsp hTr hmem hpk hnk hcl hm hcv;have hcap:m<=cap:=by omega
   clear hsp hTr hmem hpk hnk hcl hm hcc hcell hra hb e1 hv hcv;go_upto_region 12 with(fail);obtain⟨vb,hvb⟩:∃vb,vb=wr.heap.size:=⟨_,rfl⟩
   have hT1:Turns [] ((vb,Is (vcO pk nk (.slice csl cl ccap) (.int .i64 v.held)))::(arF (bK S sp)++G)) w0 (wr.alloc (.cells #[.string ⟨pk.toArray⟩,.int .i64 nk,.slice csl cl ccap,.int .i64 v.held] 193)):=by
    rw[hvb];exact HX.b.Q8 _
   rw[<- hvb];clear d0 d1 d2 d3 c0 hgl hbl hvb;generalize wr.alloc (.cells #[.string ⟨pk.toArray⟩,.int .i64 nk,.slice csl cl ccap,.int .i64 v.held] 193)=w8 at hT1 ⊢;have f0:w8.cell? ⟨vb,0,none⟩=some (.string ⟨pk.toArray⟩):=aa hT1.sat.Q5 0 rfl;have f1:w8.cell? ⟨vb,1,none⟩=some (.int .i64 nk):=aa hT1.sat.Q5 1 rfl;have hvl:=ac hT1.sat.Q5;have HG:=qqH (vM (bK S sp) pk nk b w8 hT1.sat.tail.left (HH.b.spare HX.a) (HH.c.spare sp) HH.d (by rw[HX.d];exact HPL.out v HX.c));have H8:=qqH hT1;clear hT1;go_wp2_with fail;refine HG.out.mono ?_;intro e w9 hp;rcases hp with⟨kk,hfe,rfl,hG⟩|⟨V,bv,sp2,hfo,rfl,hbo,ha2,hG⟩
   ·have hno:¬Link S R:=fun L=>by
     obtain⟨V,hV,-⟩:=(L.spare sp).get (v:=v) HH.e HX.c;rw[HX.d,HX.e]at hfe;exact wA hV hfe
    have hT9:=H8.out.step (F:=arF (bK S sp)) (R:=(vb,Is (vcO pk nk (.slice csl cl ccap) (.int .i64 v.held)))::G) ae hG;have hE9:cG w9:=HH.out.2.2.2.2.2.2.2.2.keep hT9.mods (fun h=>by simp at h);have HTe:=qqH (bQ (cO kk) kk w9 hE9 (.inr (.inl rfl)));have hk0:¬kk=0:=by rcases hfe.pos with h|h|h<;>omega
    have hk10:¬kk=10:=by rcases hfe.pos with h|h|h<;>omega
    have H9:=Hq2 hT9 hno;clear hT9 hE9 hno hfe hG f0 f1 hvl;unfold cO at HTe ⊢;go_wp2_with fail;refine HTe.out.mono ?_;rintro e w10 ⟨rfl,hs10⟩;have hT10:=H9.a.Q9 hs10;have g2:w10.cell? ⟨vb,2,none⟩=some (.slice csl cl ccap):=aa hT10.sat.right.Q5 2 rfl;have hvl:=ac hT10.sat.right.Q5;obtain⟨csl',ccap',hcv',-,hcc',-⟩:=(HH.h w10 hT10.sat.right.tail).cont HX.c;rw[HX.t]at hcv';simp only[Value.slice.injEq,true_and]at hcv';obtain⟨rfl,rfl⟩:=hcv';have hcl:v.cont.length<=100000:=(HH.h w10 hT10.sat.right.tail).clen v HX.c;have hsm:=uK none csl 0 ccap [] v.cont w10 (fun hp=>absurd hp (by simp)) hcc' (by simp) (by omega);rw[<- HX.f]at hsm;have HSm:=qqH hsm;have H10:=Hq2 hT10 H9.z;obtain⟨zz,hzz⟩:∃zz,zz=decide ([]=v.cont):=⟨_,rfl⟩;rw[<- hzz]at HSm;clear hT10 hcc' hsm hs10 hcl hzz;go_wp2_with fail;refine HSm.out.mono ?_;rintro e w11 ⟨rfl,hs11⟩;have hT11:=(H10.a.Q9 hs11.same).drop (H:=arF (bK S sp)++G) (fun x=>by simp only[ah,ao];omega);have HL:=qqH (H5.x _ sp HX.a hT11 H10.z);clear hT11 hs11;go_wp2_with fail;go_ret;exact HL.out
   ·have hG:Turns (arF (bK S sp)) (aI bv (da (bK S sp) V)++arF (bK S sp2)) w8 w9:=hG;have ha2:AreaOk { S.A with spare:=sp2 }:=ha2;have hT9:=H8.out.step (F:=arF (bK S sp)) (R:=(vb,Is (vcO pk nk (.slice csl cl ccap) (.int .i64 v.held)))::G) ae hG;have hE9:cG w9:=HH.out.2.2.2.2.2.2.2.2.keep hT9.mods (fun h=>by simp at h);have HTe:=qqH (bQ .nilIface 0 w9 hE9 (.inl ⟨rfl,rfl⟩))
    have hyes:Link S R->da (bK S sp) V=v.cont:=fun L=>by
     obtain⟨V',hV',hc'⟩:=(L.spare sp).get (v:=v) HH.e HX.c;rw[HX.d,HX.e]at hfo;rw[hfo.uniq hV'];exact hc'
    have hclen:(da (bK S sp) V).length<=1099511627776:=by
     obtain⟨p,hpm,-,hVp⟩:=sH hfo.2.2;rw[lj (HH.b.spare HX.a) hpm hVp];have h1:=((HH.c.vers p hpm).2.2 V hVp).2.2.1;have:=HH.d;omega
    have H9:=Hq5 hT9 hbo ha2 hyes hclen;clear hT9 hE9 hyes hfo hG f0 f1 hvl hbo ha2 hclen;go_wp2_with fail;refine HTe.out.mono ?_;rintro e w10 ⟨rfl,hs10⟩;have hT10:=H9.a.Q9 hs10;have g2:w10.cell? ⟨vb,2,none⟩=some (.slice csl cl ccap):=aa hT10.sat.right.Q5 2 rfl;have hvl:=ac hT10.sat.right.Q5;obtain⟨csl',ccap',hcv',-,hcc',-⟩:=(HH.h w10 hT10.sat.right.tail).cont HX.c;rw[HX.t]at hcv';simp only[Value.slice.injEq,true_and]at hcv';obtain⟨rfl,rfl⟩:=hcv';have hcl:v.cont.length<=100000:=(HH.h w10 hT10.sat.right.tail).clen v HX.c;obtain⟨ba,bc,hbv,-,-,hbc,-⟩:=bC hT10.sat.left.left H9.b (by decide);have hsm:=uK ba csl bc ccap (da (bK S sp) V) v.cont w10 hbc hcc' H9.w (by omega);rw[<- HX.f]at hsm;obtain⟨zz,hzz⟩:∃zz,zz=decide (da (bK S sp) V=v.cont):=⟨_,rfl⟩;obtain⟨bl,hbl⟩:∃bl,bl=(da (bK S sp) V).length:=⟨_,rfl⟩;rw[<- hzz,<- hbl]at hsm;rw[<- hbl]at hbv;have HSm:=qqH hsm;have H10:=Hq2 hT10 hzz;clear hT10 hcc' hsm hs10 hcl hzz hbc hbl;subst hbv;go_wp2_with fail;refine HSm.out.mono ?_;rintro e w11 ⟨rfl,hs11⟩;have hT11:=(H10.a.Q9 hs11.same).drop (H:=arF (bK S sp2)++G) (fun x=>by simp only[ah,ao];omega);have H11:=qqH hT11;clear hT11 hs11
    cases zz with
    | true =>
     go_wp2_with fail;go_roundw
     case rel=>exact⟨k+1,sp2,by omega,by go_num,H9.c,H11.out⟩
     case measure=>simp[intOf];omega
    | false =>
     have HL:=qqH (H5.x _ sp2 H9.c H11.out (fun L=>by have:=H10.z;rw[H9.d L]at this;simp at this));go_wp2_with fail;go_ret;exact HL.out
  ·have hge:¬(k:Int)<(m:Int):=by omega
   have HE:=qqH (show sO S R G w0 (.returned (.bool true)) wr from⟨true,sp,rfl,fun _=>rfl,hsp,hTr⟩);clear hsp hTr hra hb hcell e1 hm;go_wp2_with fail;go_ret;exact HE.out
def K3(R:RefL)(P:dE)(Ψ:Int->RefL->dE->Prop)(W:World)(n:Int)(w':World):Prop:=∃R' P',Ψ n R' P'/\Turns (aN R++bh P) (aN R'++bh P') W w'
def px(w0:World)(R:RefL)(P:dE)(Ψ:Int->RefL->dE->Prop)(f:FuncId)(args:Array Value)(two:Bool):Prop :=
 ∀W G,Turns [] ((aN R++bh P)++G) w0 W->Calls Tryz.prog f args W (fun e w'=>∃k n,e=.returned (if two then .tuple #[.int .i64 k,.int .i64 n]else .int .i64 n)/\K3 R P Ψ W n w')
theorem yI(R:RefL)(P:dE)(o:OpL)(G:HF)(w0 W:World)(h:Turns [] ((aN R++bh P)++G) w0 W)(hdv:o.dv.oneCell'=true)(hdc:o.dv.cells=#[o.dv])(Ψ:Int->RefL->dE->Prop)(h1:o.kind=1->px w0 R P Ψ 60 #[.pointer (some ⟨R.blk,0,none⟩),str o.s,o.dv] true)(h9:o.kind=9->px w0 R P Ψ 63 #[.pointer (some ⟨R.blk,0,none⟩),str o.s,.int .i64 o.a] false)(h10:o.kind=10->px w0 R P Ψ 65 #[.pointer (some ⟨R.blk,0,none⟩),str o.s,.int .i64 o.a] true)(h11:o.kind=11->px w0 R P Ψ 67 #[.pointer (some ⟨R.blk,0,none⟩),str o.t,str o.s,.int .i64 o.a] false)(h12:o.kind=12->px w0 R P Ψ 69 #[.pointer (some ⟨R.blk,0,none⟩),str o.t] false)(h0:¬o.kind=1->¬o.kind=9->¬o.kind=10->¬o.kind=11->¬o.kind=12->Ψ 0 R P):
  Calls Tryz.prog 38 #[.pointer (some ⟨R.blk,0,none⟩),opA o] W (fun e w'=>∃n R' P',e=.returned (.int .i64 n)/\Ψ n R' P'/\Turns [] ((aN R'++bh P')++G) w0 w'):=by
 have HH:=Hq7 h h1 h9 h10 h11 h12 h0;have HD:=Hq2 hdv hdc;obtain⟨ok,oa,ob_,oc,os,ot,odv,od⟩:=o;clear h h1 h9 h10 h11 h12 h0;unfold opA opV;simp only at hdv hdc ⊢;go_enter Tryz.func38,Tryz.ntmps38;by_cases q1:ok=1
 ·subst q1;have hT1:Turns [] ((aN R++bh P)++((W.heap.size,Is (oO ⟨1,oa,ob_,oc,os,ot,odv,od⟩))::G)) w0 (W.alloc (.cells #[.int .i64 1,.int .i64 oa,.int .i64 ob_,.int .i64 oc,str os,str ot,odv] 65)):=(HH.a.Q8 (oO ⟨1,oa,ob_,oc,os,ot,odv,od⟩)).to ae;have HC:=qqH (HH.b rfl _ _ hT1);have HT1:=qqH hT1;clear hT1;go_wp2_with fail;refine HC.out.mono ?_;rintro e W2 ⟨k,n,he,R',P',hpsi,hG⟩;have he:e=.returned (.tuple #[.int .i64 k,.int .i64 n]):=he;subst he;have hT2:=HT1.out.step (Perm.refl _) hG;have H2:=Hq2 hpsi (hT2.drop (H:=(aN R'++bh P')++G) (fun x=>by simp only[ah,ao];omega));clear hT2 hpsi hG;go_wp2_with fail;go_ret;exact⟨n,R',P',rfl,H2.a,H2.z⟩
 by_cases q9:ok=9
 ·subst q9;have hT1:Turns [] ((aN R++bh P)++((W.heap.size,Is (oO ⟨9,oa,ob_,oc,os,ot,odv,od⟩))::G)) w0 (W.alloc (.cells #[.int .i64 9,.int .i64 oa,.int .i64 ob_,.int .i64 oc,str os,str ot,odv] 65)):=(HH.a.Q8 (oO ⟨9,oa,ob_,oc,os,ot,odv,od⟩)).to ae;have HC:=qqH (HH.c rfl _ _ hT1);have HT1:=qqH hT1;clear hT1;go_wp2_with fail;refine HC.out.mono ?_;rintro e W2 ⟨k,n,he,R',P',hpsi,hG⟩;have he:e=.returned (.int .i64 n):=he;subst he;have hT2:=HT1.out.step (Perm.refl _) hG;have H2:=Hq2 hpsi (hT2.drop (H:=(aN R'++bh P')++G) (fun x=>by simp only[ah,ao];omega));clear hT2 hpsi hG;go_wp2_with fail;go_ret;exact⟨n,R',P',rfl,H2.a,H2.z⟩
 by_cases q10:ok=10
 ·subst q10;have hT1:Turns [] ((aN R++bh P)++((W.heap.size,Is (oO ⟨10,oa,ob_,oc,os,ot,odv,od⟩))::G)) w0 (W.alloc (.cells #[.int .i64 10,.int .i64 oa,.int .i64 ob_,.int .i64 oc,str os,str ot,odv] 65)):=(HH.a.Q8 (oO ⟨10,oa,ob_,oc,os,ot,odv,od⟩)).to ae;have HC:=qqH (HH.d rfl _ _ hT1);have HT1:=qqH hT1;clear hT1;go_wp2_with fail;refine HC.out.mono ?_;rintro e W2 ⟨k,n,he,R',P',hpsi,hG⟩;have he:e=.returned (.tuple #[.int .i64 k,.int .i64 n]):=he;subst he;have hT2:=HT1.out.step (Perm.refl _) hG;have H2:=Hq2 hpsi (hT2.drop (H:=(aN R'++bh P')++G) (fun x=>by simp only[ah,ao];omega));clear hT2 hpsi hG;go_wp2_with fail;go_ret;exact⟨n,R',P',rfl,H2.a,H2.z⟩
 by_cases q11:ok=11
 ·subst q11;have hT1:Turns [] ((aN R++bh P)++((W.heap.size,Is (oO ⟨11,oa,ob_,oc,os,ot,odv,od⟩))::G)) w0 (W.alloc (.cells #[.int .i64 11,.int .i64 oa,.int .i64 ob_,.int .i64 oc,str os,str ot,odv] 65)):=(HH.a.Q8 (oO ⟨11,oa,ob_,oc,os,ot,odv,od⟩)).to ae;have HC:=qqH (HH.e rfl _ _ hT1);have HT1:=qqH hT1;clear hT1;go_wp2_with fail;refine HC.out.mono ?_;rintro e W2 ⟨k,n,he,R',P',hpsi,hG⟩;have he:e=.returned (.int .i64 n):=he;subst he;have hT2:=HT1.out.step (Perm.refl _) hG;have H2:=Hq2 hpsi (hT2.drop (H:=(aN R'++bh P')++G) (fun x=>by simp only[ah,ao];omega));clear hT2 hpsi hG;go_wp2_with fail;go_ret;exact⟨n,R',P',rfl,H2.a,H2.z⟩
 by_cases q12:ok=12
 ·subst q12;have hT1:Turns [] ((aN R++bh P)++((W.heap.size,Is (oO ⟨12,oa,ob_,oc,os,ot,odv,od⟩))::G)) w0 (W.alloc (.cells #[.int .i64 12,.int .i64 oa,.int .i64 ob_,.int .i64 oc,str os,str ot,odv] 65)):=(HH.a.Q8 (oO ⟨12,oa,ob_,oc,os,ot,odv,od⟩)).to ae;have HC:=qqH (HH.f rfl _ _ hT1);have HT1:=qqH hT1;clear hT1;go_wp2_with fail;refine HC.out.mono ?_;rintro e W2 ⟨k,n,he,R',P',hpsi,hG⟩;have he:e=.returned (.int .i64 n):=he;subst he;have hT2:=HT1.out.step (Perm.refl _) hG;have H2:=Hq2 hpsi (hT2.drop (H:=(aN R'++bh P')++G) (fun x=>by simp only[ah,ao];omega));clear hT2 hpsi hG;go_wp2_with fail;go_ret;exact⟨n,R',P',rfl,H2.a,H2.z⟩
 have hT1:Turns [] ((aN R++bh P)++G) w0 (W.alloc (.cells #[.int .i64 ok,.int .i64 oa,.int .i64 ob_,.int .i64 oc,str os,str ot,odv] 65)):=HH.a.alloc _;have H1:=Hq2 (HH.u q1 q9 q10 q11 q12) hT1;clear hT1;go_wp2_with fail;go_ret;exact⟨0,rfl,R,P,H1.a,by have:=H1.z;rw[append_assoc]at this;exact this⟩
end
end Go.Proofs.YtdhobpbngkainaaGreatDoor
