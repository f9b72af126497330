/- Ours. A part of the proof, made small by a program. -/
import Derived.Test.YtdhobpbngkainaaGreatDoorGb07
set_option maxRecDepth 100000
set_option maxHeartbeats 16000000
namespace Go.Proofs.YtdhobpbngkainaaGreatDoor
open List Go.Proofs.Tryz
section
open Go.RowKit
def uA(l:Bs)(first:Nat)(b:Bs):Bs:=if b=[]then l else ba l (128*first) (iG b)
theorem A5{l b:Bs}{first count:Nat}(hl:128*(first+count)<=l.length)(hb:b.length<=128*count):aB (uA l first b) first count=iG b++(aB l first count).drop (iG b).length:=by
 unfold uA;by_cases h:b=[]
 ·rw[NR h,h];simp[iG,an]
 ·rw[NQ h];have hp:=fb b;have:=qo (l:=l) (s:=iG b) (first:=first) (count:=count) (q:=0) Nb hl;rw[Nat.add_zero,Nat.mul_zero]at this;rw[this];simp[ba]
theorem Gf{l b:Bs}{first count:Nat}(hl:128*(first+count)<=l.length)(hb:b.length<=128*count):∀f2 c2,(f2+c2<=first\/first+count<=f2)->aB (uA l first b) f2 c2=aB l f2 c2:=fun f2 c2 hd=>by
 unfold uA
 split
 ·rfl
 ·have hp:=fb b
  have:=kg (l:=l) (s:=iG b) (first:=first) (count:=count) (q:=0) (f2:=f2) (c2:=c2) Nb hl hd
  rw[Nat.add_zero]at this;exact this
theorem KN{l b:Bs}{first count:Nat}(hl:128*(first+count)<=l.length)(hb:b.length<=128*count)(m:Nat)(hm:b.length / 128+m<count)(he:aN (b++(aB l first count).drop b.length) (b.length / 128+m)=(if m=0 then(((b++(aB l first count).drop b.length).take b.length).drop (128*(b.length / 128))++an (128-b.length%128))else an 128)):
  aN (uA l first b) (first+(b.length / 128+m))=(if m=0 then(((b++(aB l first count).drop b.length).take b.length).drop (128*(b.length / 128))++an (128-b.length%128))else an 128):=by
 rw[<- mg hm,A5 hl hb];have hp:=fb b;rcases Nat.lt_or_ge (128*(b.length / 128+m)) (iG b).length with h|h
 ·have h0:m=0:=Nb
  subst h0;rw[NR rfl,take_left];unfold aN;rw[Nat.add_zero,drop_append_of_le_length Nb,take_append_of_le_length Nz];have hmod:b.length%128≠0:=Nb
  unfold iG;rw[drop_append_of_le_length Nb,show(128-b.length%128)%128=128-b.length%128 by omega];exact take_of_length_le (by rw[NM,NT,ap];omega)
 ·rw[<- he];have hge:b.length<=128*(b.length / 128+m):=Nb
  unfold aN;rw[drop_append,drop_append,drop_of_length_le h,drop_of_length_le hge,drop_drop,drop_drop];rw[show(iG b).length+(128*(b.length / 128+m)-(iG b).length)=b.length+(128*(b.length / 128+m)-b.length) by omega]
end
section
open Go.RowKit Go.Maps
theorem Ak{W:World}{g cap:Nat}{ws:Bs}(h:Sat W (aJ (.slice (some ⟨g,0,none⟩) ws.length cap) ws)):∃cur:List Value,W.heap[g]?=some (.cells cur.toArray 5 (0,0))/\ws.length<=cur.length/\cur.length<=9223372036854775807/\cur.length=cap/\cur.take ws.length=ws.map am:=by
 obtain⟨ob,hg,c,cur,he,rfl,h1,h2,h3,h4⟩:=h.head;have hc:cap=c:=by injection he
 subst hc;have hs:cur.toList.length=cap:=by simpa using h3
 exact⟨cur.toList,by simpa using hg,Nb,by unfold maxLen at h2;omega,hs,by simpa using h4⟩
theorem IK{F G:HF}{A W W':World}{g cap:Nat}{ws b:Bs}{cur:List Value}(hT:Turns F (aJ (.slice (some ⟨g,0,none⟩) ws.length cap) ws++G) A W)(hg:W.heap[g]?=some (.cells cur.toArray 5 (0,0)))(hb:b.length<=ws.length)(hM:N7 (fun k=>k=g) W W')(h':W'.heap[g]?=some (.cells (splice cur 0 (b.map am)).toArray 5 (0,0))):Turns F (aJ (.slice (some ⟨g,0,none⟩) ws.length cap) (b++ws.drop b.length)++G) A W':=by
 obtain⟨cur',hg',h1,h2,h3,h4⟩:=Ak hT.sat.left;rw[hg]at hg';obtain rfl:cur=cur':=by simpa using hg'
 have hl:(b++ws.drop b.length).length=ws.length:=Nj
 have e:∀l:Bs,l.length=ws.length->aJ (.slice (some ⟨g,0,none⟩) ws.length cap) l=[(g,fun o=>∃c cu,Value.slice (some ⟨g,0,none⟩) ws.length cap=.slice (some ⟨g,0,none⟩) ws.length c/\o=.cells cu 5 (0,0)/\ws.length<=c/\c<=maxLen/\cu.size=c*1/\cu.toList.take (ws.length*1)=l.map am)]:=fun l hl=>by unfold aJ;rw[hl];rfl
 rw[e _ rfl]at hT;rw[e _ hl];refine Turns.put hT hM h' ⟨cap,_,rfl,rfl,Nb,by unfold maxLen;omega,?_,?_⟩
 ·simp[splice];omega
 ·simp only[splice,take_zero,nil_append,Nat.zero_add,NP,Nat.mul_one,NW,map_drop,<- h4];rw[drop_take,take_append,NP,take_of_length_le Np]
theorem kE{w:World}{sl:Option Addr}{cap:Nat}{b:Bs}(h:Sat w (aJ (.slice sl b.length cap) b))(hok:PE (.slice sl b.length cap) b):ak w sl (b.map am):=by
 obtain⟨a,c,e,-,-,hc,-⟩:=bb h hok Nk;simp only[Value.slice.injEq,true_and]at e;rw[e.1];exact hc
theorem KF{k:Nat}(h:(k:Int)<9223372036854775808):IntKind.i64.wrap (k:Int)=k:=IntWalk.i64_in _ Nb
theorem D3(k:Nat)(hk:k<4294967296)(w:World):(convert 116 3 (.int .u32 k)).run prog w=.ok (.int .i64 k) w:=by
 simp[convert,run_underlying underlying3,run_underlying underlying116,Conv.intToInt,KF (show(k:Int)<9223372036854775808 by omega)]
theorem KP{l b:Bs}{first:Nat}:(if b=[]then l else ba l (128*(first+([]:Bs).length / 128)) (iG (([]++b:Bs).drop (128*(([]:Bs).length / 128)))))=uA l first b:=by simp[uA]
theorem Lc{l l0 s b:Bs}{r first count:Nat}(hl:256<=l.length)(hs:s.length=128)(h2:r<2/\2<=first)(h:eD l first count b/\∀f2 c2,(f2+c2<=first\/first+count<=f2)->aB l f2 c2=aB l0 f2 c2):
  eD (ba l (128*r) s) first count b/\aN (ba l (128*r) s) r=s/\∀f2 c2,(f2+c2<=first\/first+count<=f2)->(f2+c2<=r\/r+1<=f2)->aB (ba l (128*r) s) f2 c2=aB l0 f2 c2:=by
 have ho:∀f2 c2,(f2+c2<=r\/r+1<=f2)->aB (ba l (128*r) s) f2 c2=aB l f2 c2:=fun f2 c2 hd=>by
  have:=kg (l:=l) (s:=s) (first:=r) (count:=1) (q:=0) (f2:=f2) (c2:=c2) Nb Nb hd;rw[Nat.add_zero]at this;exact this
 refine⟨⟨by rw[ho _ _ (.inr Nb)];exact h.1.1,h.1.2⟩,?_,fun f2 c2 hd hd2=>by rw[ho _ _ hd2];exact h.2 f2 c2 hd⟩;have:=qo (l:=l) (s:=s) (first:=r) (count:=1) (q:=0) Nb Nb;rw[Nat.add_zero]at this;rw[show aN (ba l (128*r) s) r=aB (ba l (128*r) s) r 1 from rfl,this];have h1:(aB l r 1).length=128:=by unfold aB;rw[NS,NT];omega
 unfold ba;rw[Nat.mul_zero,take_zero,nil_append,Nat.zero_add,drop_of_length_le Nb,append_nil]
def Rz(e:Nat):Nat:=(e+1)%4294967296
theorem KA(e:Nat):Rz e%2=(e+1)%2:=by unfold Rz;omega
theorem Dc(e:Nat):Rz e<4294967296:=Nat.mod_lt _ Nb
theorem IX{e:Nat}(h:e+1<4294967296):Rz e=e+1:=Nat.mod_eq_of_lt h
theorem AC(e:Nat):IntKind.u32.wrap ((e:Int)+1)=(Rz e:Int):=by
 unfold IntKind.wrap Rz;simp[show IntKind.u32.bits=32 from rfl,show IntKind.u32.signed=false from rfl]
def Hq(a tb d:Nat)(X:Om)(T:Oq)(L:Ol)(vb:Value)(b:Bs)(w:World)(e:Ending)(w':World):Prop :=
 e=.returned .nilIface/\∃L',Turns ((a,Is (aL X))::(aq tb d T++(aA d L++aJ vb b))) ((a,Is (aL X))::(aq tb d { T with end_:=b.length,tail:=bK b }++(aA d L'++aJ vb b))) w w' /\
  Ou L'/\L'.n=L.n/\L'.safe=L'.now/\L'.N8=[]/\eD L'.now T.first T.count b/\aN L'.now (Rz X.ep%2)=bO (Rz X.ep) b.length /\
  ∀f2 c2,(f2+c2<=T.first\/T.first+T.count<=f2)->(f2+c2<=Rz X.ep%2\/Rz X.ep%2+1<=f2)->aB L'.now f2 c2=aB L.now f2 c2
theorem Dx(a tb d:Nat)(X:Om)(T:Oq)(L:Ol)(vb:Value)(b:Bs)(w:World)(h:Sat w ((a,Is (aL X))::(aq tb d T++(aA d L++aJ vb b))))(hX:X.d=d)(_:X.ep<4294967296)(hL:Ou L)(hn:16<=L.n)(hn2:L.n<=1073741824)(hT:T.first+T.count<=L.n)(hT2:2<=T.first)(hT0:0<T.count)(hTe:T.end_=0)(Zx:T.tail=an 128)(YV:Ov T)(hvb:PE vb b)(hb:b.length<=128*T.count)(hb2:b.length<4294967296)(hch:L.N8.length+b.length<=137438953472):
  Calls prog 120 #[.pointer (some ⟨a,0,none⟩),.pointer (some ⟨tb,0,none⟩),vb] w (Hq a tb d X T L vb b w):=by
 obtain⟨Qu,O1,hbv,hbc,hbc2,Rk,Xd⟩:=bb h.tail.right.right hvb Nk;subst hbv;have hwl:=fC hL.OU (first:=T.first) (k:=T.count) hT;obtain⟨ws,hws⟩:=Na (aB L.now T.first T.count)
 rw[<- hws]at hwl;have hbw:b.length<=ws.length:=Nb
 have hw0:0<ws.length:=Nb
 have HW:=NZ hwl;have U3:=NZ (qO tb d T L w (h.tail.sub (G:=aq tb d T++aA d L) bR) hL hT hn2);have HH:=Uh h hL YV hws hvb Rk Xd hX;have hal:=ae h.Q5;clear h hL YV hws hvb Rk Xd hX hwl;go_enter func120,ntmps120;go_wp2_with fail;refine U3.o.mono ?_;rintro e w1 ⟨v,rfl,hok,hT1⟩;rw[<- HH.d]at hok hT1;rcases(dh hT1.sat hok).2 with⟨-,h0⟩|⟨g,cap,cur0,rfl,-,-,hc1,hc2,-,-⟩
 ·omega
 have hc3:cap<=9223372036854775807:=by unfold maxLen at hc2;omega
 have hTa:=Turns.Qb (Turns.refl HH.a) hT1
 have hne:∀x,Qu=some x->x.block∉dom (aq tb d T++aA d L):=fun x hx hin=>by
  exact(HH.a.sub (G:=aJ (.slice Qu b.length O1) b++(aq tb d T++aA d L)) bR).Qh (b:=x.block) ((eL _ _ _ _ _ _).2 (HH.g x hx)) hin
 have HA:=NZ (pH tb d T L [] b Qu O1 w1 (hTa.sat.sub bR) HH.b hT hn2 hTe (by rw[Zx];simp[bK,dx]) (by simpa using hb) (HH.f.turns hT1) hbc hbc2 hne Nb);have HTa:=Ob hTa hok;clear hTa hok hT1 hne;go_wp2_with fail;refine HA.o.mono ?_;rintro e w2 ⟨rfl,L1,X0,hL1,hn1,Vq,ZM⟩;rw[KP]at Vq;rw[nil_append]at X0;have TR:=HTa.a.step (F:=aq tb d T++aA d L) (R:=aJ (.slice (some ⟨g,0,none⟩) ws.length cap) ws++((a,Is (aL X))::aJ (.slice Qu b.length O1) b)) ac X0;have TR:=TR.to (H:=aJ (.slice (some ⟨g,0,none⟩) ws.length cap) ws++(aq tb d { T with end_:=b.length,tail:=bK b }++aA d L1++((a,Is (aL X))::aJ (.slice Qu b.length O1) b))) ac;obtain⟨cur,hcur,hcul,hcu9,-,-⟩:=Ak TR.sat.left;have ZE:=kE (TR.sat.right.right.tail) HH.e;have hal2:=ae TR.sat.right.right.Q5;have TD:=Ry TR hL1 hn1 Vq ZM hcur ZE;obtain⟨i0,hi0,hz1,hz2,hz3⟩:=info_parts iD;have WO:Hid ((prog.info? 5).map (·.size)=some 1):=NZ (by rw[hi0];simp[hz2]);clear TR X0 hL1 hn1 Vq ZM hcur ZE hi0 hz1 hz2 hz3;have e1:(b.map am).length=Nat.min b.length ws.length:=by rw[NP];exact(Nat.min_eq_left hbw).symm
 have e2:0<(b.map am).length->∃ad,Qu=some ad/\∀j v,(b.map am)[j]?=some v->w2.cell? (ad.add j)=some v:=fun hp=>by
  obtain⟨g',off',e',hcc⟩:=TD.u hp;refine⟨_,e',fun j v hv=>?_⟩;obtain⟨hj,rfl⟩:=List.getElem?_eq_some_iff.1 hv;rw[Addr.add_mid];exact hcc j hj
 have e3:0+(b.map am).length<=cur.length:=by rw[NP];omega
 have HE:=Oz e1 e2 e3;clear e1 e2 e3;go_wp2_with ((refine gn rfl (.tmp 27) (.tmp 28) 38 38 rfl 5 underlying38 WO.o _ _ _ _ _ _ rfl rfl g 0 cur 5 TD.f (b.map am) HE.a (fun hp=>⟨rfl,HE.b hp⟩) HE.y (dF _) ?_);intro w3 h3 Sr hz3;have HC3:=Oz h3 Sr hz3;clear h3 Sr hz3);have hTc:=IK TD.a TD.f Nb HC3.b HC3.a;have YX:(b++ws.drop b.length).length=ws.length:=Nj
 have hl1:=HH.b.OU;have htk:(b++ws.drop b.length).take b.length=b:=take_left
 have hlc:∀m,b.length / 128+m<T.count->aN (b++ws.drop b.length) (b.length / 128+m)=(if m=0 then(((b++ws.drop b.length).take b.length).drop (128*(b.length / 128))++an (128-b.length%128))else an 128)->aN L1.now (T.first+(b.length / 128+m))=(if m=0 then(((b++ws.drop b.length).take b.length).drop (128*(b.length / 128))++an (128-b.length%128))else an 128):=fun m hm he=>by
  rw[TD.d];rw[HH.d]at he ⊢;have:=HW.o;exact KN Nb hb m hm he
 obtain⟨wt,hwt⟩:=Na (b++ws.drop b.length);rw[<- hwt]at hTc YX htk hlc;have VY:=hTc;rw[<- YX]at VY;have Wp:PE (.slice (some ⟨g,0,none⟩) wt.length cap) wt:=⟨Nh,fun h=>by simp[Value.ownBlock]at h⟩
 have hcut:=qP tb d { T with end_:=b.length,tail:=bK b } L1 b.length (some ⟨g,0,none⟩) cap wt w3 (hTc.sat.sub bR) TD.b (by rw[TD.c];exact hT) (by rw[TD.c];exact hn2) ⟨lk _,HH.c.few,HH.c.caps⟩ (kE VY.sat.left Wp)
  (fun x hx hin=>by
   obtain rfl:x=⟨g,0,none⟩:=(Option.some.inj hx).symm;exact VY.sat.Qh (b:=g) ((eL _ _ _ _ _ _).2 rfl) (by simp only[cM,mem_append]at hin ⊢;exact .inl hin)) (by rw[YX];exact HW.o) Nb hc3 hT0 hb (by have:=TD.e;omega) hlc
 rw[YX]at hcut;unfold xX at hcut;rw[htk]at hcut;have HCt:=NZ hcut;have HTc:=Oz hTc YX htk;have hal3:=ae (hTc.sat.right.right.Q5);clear hTc VY YX hl1 hlc hcut hwt htk Wp;go_wp2_with fail;refine HCt.o.mono ?_;rintro e w4 ⟨rfl,L2,Oj,hL2,qad,OQ,Pg,O9⟩;have Oj:Turns (aq tb d { T with end_:=b.length,tail:=bK b }++aA d L1) (aq tb d { T with end_:=b.length,tail:=bK b }++aA d L2) w3 w4:=Oj;have hTd:=(HTc.a.step (F:=aq tb d { T with end_:=b.length,tail:=bK b }++aA d L1) (R:=aJ (.slice (some ⟨g,0,none⟩) ws.length cap) wt++((a,Is (aL X))::aJ (.slice Qu b.length O1) b)) ac Oj).to (H:=(a,Is (aL X))::(aq tb d { T with end_:=b.length,tail:=bK b }++(aA d L2++(aJ (.slice Qu b.length O1) b++aJ (.slice (some ⟨g,0,none⟩) ws.length cap) wt)))) ac
 have hdat:eD L2.now T.first T.count b/\∀f2 c2,(f2+c2<=T.first\/T.first+T.count<=f2)->aB L2.now f2 c2=aB L.now f2 c2:=by
  have hl1:=TD.b.OU;have hl0:=HH.b.OU;rw[TD.c]at hl1;have hc:=ud (l:=L1.now) (ws:=wt) (first:=T.first) (count:=T.count) (end_:=b.length) Nb (by rw[HTc.y,TD.d,A5 Nb hb];unfold iG;rw[NV,take_left]) (by rw[HTc.b];exact HW.o) hb;rw[HTc.y]at hc;rw[OQ];exact⟨hc.1,fun f2 c2 hd=>by rw[hc.2 f2 c2 hd,TD.d];exact Gf Nb hb f2 c2 hd⟩
 have a6:w4.cell? ⟨a,6,none⟩=some (.pointer (some ⟨d,0,none⟩)):=by
  have:=aa hTd.sat.Q5 6 (v:=.pointer (some ⟨X.d,0,none⟩)) rfl;rw[HH.t]at this;exact this
 have a8:w4.cell? ⟨a,8,none⟩=some (.int .u32 X.ep):=aa hTd.sat.Q5 8 rfl;obtain⟨e,he⟩:=Na (Rz X.ep:Nat);have hw1:IntKind.u32.wrap ((X.ep:Int)+1)=(e:Int):=by rw[he];exact AC _
 have he9:e<4294967296:=by rw[he];exact Dc _
 have hw2:IntKind.u32.wrap (b.length:Int)=(b.length:Int):=wrap_u32 Nb Nb;have X9:=ae hTd.sat.Q5;have H4:=RV hTd hL2 qad Pg O9 hdat;clear Oj hTd hL2 qad OQ Pg O9 hdat;go_upto_region 12 with(fail);obtain⟨u,hu⟩:=Na w4.heap.size;rw[<- he,<- hu];have Og:=H4.a.Q9 (iq e b.length);rw[<- hu]at Og;have QX:=NZ Og;have HE5:=NZ he;clear hu Og he a6 a8 hw1 hw2;refine cH [([0,1,2,3,4,5,6,7,8],9,[0,1,2,3,4,5,6,7]),([],10,[])] [11] HM.o Nc fun W tW=>?_
 simp only[Mix,map_cons,map_nil,nth,QG,QF];have Ox:=tW QX.o;clear tW
 have a6:∀{W:World} {F:HF},Sat W F->(a,Is (aL X))∈F->W.cell? ⟨a,6,none⟩=some (.pointer (some ⟨d,0,none⟩)):=fun hs hm=>by
  have:=aa (hs.Q7 hm) 6 (v:=.pointer (some ⟨X.d,0,none⟩)) rfl;rw[HH.t]at this;exact this
 have u0:∀{W:World} {F:HF},Sat W F->(u,Is (iq e b.length))∈F->W.cell? ⟨u,0,none⟩=some (.int .u32 e):=fun hs hm=>aa (hs.Q7 hm) 0 rfl
 have u1:∀{W:World} {F:HF},Sat W F->(u,Is (iq e b.length))∈F->W.cell? ⟨u,1,none⟩=some (.int .u32 b.length):=fun hs hm=>aa (hs.Q7 hm) 1 rfl
 have k6:=a6 Ox.sat Nh;have k0:=u0 Ox.sat Nh;have k1:=u1 Ox.sat Nh;iterate 6 still_step
 obtain⟨r,hr,hr2⟩:∃r,r=e%2/\r<2:=⟨_,rfl,Nb⟩;have hrr:∀W,(binOp .rem 116 (.int .u32 e) (.int .u32 2)).run prog W=.ok (.int .u32 r) W:=fun W=>by rw[hr];exact BO e he9 W
 have hrc:∀W,(convert 116 3 (.int .u32 r)).run prog W=.ok (.int .i64 r) W:=fun W=>D3 r Nb W
 have HR:=Oz hr hrr hrc;clear hr hrr hrc;refine cq rfl (v:=.int .u32 r) (by simp[execOp,eqGuard,HR.b,Act.eval]) ?_;simp only[Act.put,QA,QB,QC];refine cq rfl (v:=.int .i64 r) (by simp[execOp,HR.y,Act.eval]) ?_;simp only[Act.put,QA,QB,QC];repeat still_step
 refine wpStill_nil (aO Nc (mh e b.length he9 hb2 W) ?_);rintro ev W5 ⟨rfl,hs5⟩;have OH:=Ox.Q8 hs5;have VH:=NZ OH
 refine⟨_,rfl,by
  have k6:=a6 VH.o.sat Nh;have k0:=u0 VH.o.sat Nh;iterate 6 still_step
  refine cq rfl (v:=.int .u32 r) (by simp[execOp,eqGuard,HR.b,Act.eval]) ?_;simp only[Act.put,QA,QB,QC];exact cq rfl (v:=.int .i64 r) (by simp[execOp,HR.y,Act.eval]) rfl,?_⟩
 simp only[Act.put,QA,QB,QC];clear Ox OH k0 k1 k6 hs5;refine wpStill_nil (aO Nc (ie d L2 r (bO e b.length) W5 (VH.o.sat.sub bR) H4.b (by rw[H4.c,TD.c];omega) (co e b.length) (by rw[H4.e];simp)) ?_);rintro ev W6 ⟨rfl,L3,OX,hL3,hn3,Rq,QZ⟩;have O4:=(VH.o.to (H:=aA d L2++((u,Is (iq e b.length))::(a,Is (aL X))::(aq tb d { T with end_:=b.length,tail:=bK b }++(aJ (.slice Qu b.length O1) b++aJ (.slice (some ⟨g,0,none⟩) ws.length cap) wt)))) ac).step (Perm.refl _) OX;refine⟨_,rfl,rfl,?_⟩;simp only[Act.put,QA,QB,QC];repeat still_step
 refine wpStill_nil ?_;have k6:=a6 O4.sat Nh;have hal6:=ae (O4.sat.Q7 (b:=a) (o:=aL X) Nh);have VN:=NZ (ib d L3 W6 O4.sat.left hL3 (by rw[QZ,H4.e];simp));have H9:=PD O4 hL3 hn3 Rq QZ;clear OX O4 hL3 hn3 Rq QZ a6 u0 u1;go_wp2_with fail;refine VN.o.mono ?_;rintro ev W7 ⟨rfl,L4,OM,hL4,hn4,Ti,RQ,UE⟩;have QW:=RV (H9.a.step (Perm.refl _) OM) hL4 hn4 Ti RQ UE;clear OM hL4 hn4 Ti RQ UE k6;go_wp2_with fail;go_ret;refine ⟨rfl,L4,QW.a.drop (fun x=>?_),QW.b,?_,?_,QW.v,?_⟩
 ·simp only[ao,af];omega
 ·rw[QW.c,H9.c,H4.c,TD.c]
 ·rw[QW.e,QW.d]
 ·have OY:L4.now=ba L2.now (128*r) (bO e b.length):=by rw[QW.d,H9.d]
  rw[<- HE5.o,<- HR.a,OY];have hn4:L2.n=L.n:=by rw[H4.c,TD.c]
  have hl2:=H4.b.OU;exact Lc Nb (co e b.length) Nb H4.v
def de(S:AS)(ks:List Bs):vE:=ks.flatMap (fun l=>(ah S.ps l).map (fun V=>(l,V)))
theorem kZ(S:AS)(l:Bs):∀{ks:List Bs},ks.Nodup->((de S ks).filter (fun x=>decide (x.1=l))).map (·.2)=if l∈ks then ah S.ps l else[]
 | [],_=>rfl
 | k::r,hn=>by
  obtain⟨n1,n2⟩:=nodup_cons.1 hn
  have ih:=kZ S l n2
  unfold de at ih ⊢
  rw[flatMap_cons,filter_append,NW,ih]
  by_cases h:k=l
  ·subst h
   have e:((ah S.ps k).map (fun V=>(k,V))).filter (fun x=>decide (x.1=k))=(ah S.ps k).map (fun V=>(k,V)):=filter_eq_self.2 (fun x hx=>by
    obtain⟨V,-,rfl⟩:=mem_map.1 hx;simp)
   rw[e,NQ n1,NR Nh,append_nil,map_map]
   exact map_id _
  ·have e:((ah S.ps k).map (fun V=>(k,V))).filter (fun x=>decide (x.1=l))=[]:=filter_eq_nil_iff.2 (fun x hx=>by
    obtain⟨V,-,rfl⟩:=mem_map.1 hx;simpa using h)
   rw[e]
   have h2:¬l=k:=fun e=>h e.symm
   simp[h2]
theorem FV(S:AS)(ks:List Bs):Kr S (de S ks)=ks.flatMap (Ad S):=by
 unfold Kr de;rw[flatMap_assoc];refine qh (fun l _=>?_);rw[flatMap_map];rfl
def jj(S:AS):Nat:=ga S.K+mB (de S (fm S.ps))+cF (S.ts.map eV)
structure P5 (S:AS) (E:Prop:=True):Prop where
 ok:Oo S
 nd:E->(S.K.map (·.1)).Nodup
 vers:∀l,∀V∈ah S.ps l,(V.num<9223372036854775808/\(E->V.num<4294967296))/\V.size<65536/\V.N8.length<=16000/\l.length<=255
 tags:∀t∈S.ts,t.key.length<=255/\t.g.1.length<=255/\0<=t.g.2/\t.g.2<9223372036854775808/\(E->t.g.2<4294967296)
 held:E->∀l,∀V∈ah S.ps l,V.held=(((S.ts.map eV).countP (fun t=>decide (t.2.1=l/\t.2.2=(V.num:Int))):Nat):Int)
 cost:jj S<=810000
 told:E->∃rs H,Told S rs H
 ep:E->S.X.ep+1<4294967296
 room:jj S<=128*au S.L.n
theorem wS(H:List HV):16*H.length<=il H:=by
 unfold il;induction H with
 | nil=>simp
 | cons a r ih=>simp only[map_cons,sum_cons,length_cons];omega
theorem wU(K:KL):9*K.length<=ga K:=by
 unfold ga;induction K with
 | nil=>simp
 | cons a r ih=>simp only[map_cons,sum_cons,length_cons];omega
theorem wV(T:List Tg):15*T.length<=cF T:=by
 unfold cF;induction T with
 | nil=>simp
 | cons a r ih=>simp only[map_cons,sum_cons,length_cons];omega
theorem FM(dn:vE):16*dn.length<=mB dn:=by
 unfold mB;induction dn with
 | nil=>simp
 | cons a r ih=>simp only[map_cons,sum_cons,length_cons];omega
theorem I1{S:AS}{ks:List Bs}{x:Bs×Oe}(h:x∈de S ks):x.2∈ah S.ps x.1:=by
 unfold de at h;obtain⟨l,-,h1⟩:=mem_flatMap.1 h;obtain⟨V,hV,rfl⟩:=mem_map.1 h1;exact hV
theorem Pn.bounds{E:Prop}{S:AS}{dn:vE}{pt:List Bs}{td:List Tg}{B:CB}{vb:Value}(h:Pn E S dn pt td B vb)(hi:P5 S E)(hp:dn <+: de S (fm S.ps))(hat:B.D.length<=810000):
  (0<=B.X.used/\B.X.used<=65535*90000)/\(0<=B.X.sc/\B.X.sc<=90000)/\(0<=B.X.sb/\B.X.sb<=65535*90000)/\(∀k,(bd B.cs k).length<=90000)/\(∀l,(ah B.ps l).length<=90000)/\(∀a m,jP B.s.K a=some m->m<=65535)/\∀l,∀V∈ah B.ps l,V.held.natAbs<=90000/\V.size<=65535:=by
 have hpm:(B.s.H.map (fun x=>(x.p,x.size))).Perm (dn.map (fun x=>(x.1,x.2.size))):=lZ (fun x:HV=>x.p) (fun x:HV=>x.size) (fun x:Bs×Oe=>x.1) (fun x:Bs×Oe=>x.2.size) (fun l=>by
  have h1:=congrArg (List.map (fun v:Nat×Nat×List (Nat×Nat)×Int=>v.2.1)) (h.ct.hist l);have h2:=congrArg (List.map (fun v:Nat×Nat×List Bs=>v.2.1)) (h.hist l);rw[map_map,map_map]at h1 h2;exact h1.symm.trans h2)
 have hsz:∀x∈B.s.H,x.size<=65535:=fun x hx=>by
  obtain⟨y,hy,e⟩:=mem_map.1 (hpm.subset (mem_map.2 ⟨x,hx,rfl⟩));simp only[Prod.mk.injEq]at e;have:=(hi.vers y.1 y.2 (I1 (hp.subset hy))).2.1;omega
 have hln:B.s.H.length=dn.length:=by have:=hpm.length_eq;rwa [NP,NP]at this
 have c1:=FM dn;have c2:=wU B.s.K;have c3:=wV td;have c0:=h.len;have h3:=lj (l:=B.s.H) (f:=(·.size)) hsz;have h4:=lj (l:=B.s.K) (f:=(·.1.length)) (m:=65535) (fun e he=>(h.ct.Pm e he).2.1);refine⟨by rw[h.ct.used];omega,by rw[h.ct.sc];omega,by rw[h.ct.sb];omega,fun k=>?_,fun l=>?_,fun a m hm=>?_,fun l V hV=>?_⟩
 ·have:=(h.ct.kin k).length_eq;rw[NP]at this;have:=length_filter_le (fun e=>decide (ed e.1=k)) B.s.K;omega
 ·have:=congrArg length (h.ct.hist l);rw[NP,NP]at this;have:=length_filter_le (fun h=>decide (h.p=l)) B.s.H;omega
 ·obtain⟨e,he,h5⟩:=vn hm;have h6:=h.ct.Pm e he;rw[h5]at h6;simp only at h6;omega
 ·have h1:bu V∈(ah B.ps l).map bu:=mem_map.2 ⟨V,hV,rfl⟩;rw[h.ct.hist]at h1;obtain⟨x,hx,e⟩:=mem_map.1 h1;have hx:=hsz x (mem_filter.1 hx).1;have h5:=h.held l V hV;have h6:=countP_le_length (p:=fun t=>decide (t.2.1=l/\t.2.2=(V.num:Int))) (l:=td);unfold bV bu at e;simp only[Prod.mk.injEq]at e;rw[<- e.2.1];omega
structure GH (S:AS) (H:List HV):Prop where
 hist:∀l,(ah S.ps l).map bu=(H.filter (fun h=>decide (h.p=l))).map bV
 used:S.X.used=((H.map (·.size)).sum:Nat)
 need:ga S.K+il H+cF (S.ts.map eV)<=S.data.length
structure QV (S S':AS) (E:Prop:=True):Prop where
 a:S'.a=S.a
 ok:Oo S'
 d:S'.X.d=S.X.d
 quota:S'.X.quota=S.X.quota
 closed:S'.X.closed=S.X.closed
 used:E->S'.X.used=S.X.used
 gh:∃H,GH S' H
 ZU:∀l,∀V∈ah S'.ps l,V.held.natAbs<=S'.data.length
 trips:E->∀l,(ah S'.ps l).map (Cj S')=(ah S.ps l).map (Cj S)
 tags:(S'.ts.map Cb).Perm (S.ts.map Cb)
 views:∀l,(ah S'.ps l).map (gG S'.K)=(ah S.ps l).map (gG S.K)
 K:E->S'.K.map (·.1)=fT [] ((fm S.ps).flatMap (Ad S))
 sc:S'.X.sc=S'.K.length
 sb:S'.X.sb=((S'.K.map (·.1.length)).sum:Nat)
 n:S'.L.n=S.L.n
 ep:S'.X.ep=Rz S.X.ep
 N8:S'.L.N8=[]
 data:S'.data.length<=jj S
 told:E->∃rs H,Told S' rs H
 wh:aN S'.L.now (S'.X.ep%2)=bO S'.X.ep S'.data.length
 old:aN S'.L.now (S.X.ep%2)=aN S.L.now (S.X.ep%2)
 half:aB S'.L.now (2+S.X.ep%2*au S.L.n) (au S.L.n)=aB S.L.now (2+S.X.ep%2*au S.L.n) (au S.L.n)
def yr(S:AS)(B:CB)(L':Ol)(ab ch:Nat):AS :=
 ⟨S.a,{ S.X with pm:=B.pm,tm:=B.tm,cm:=B.cm,sc:=B.X.sc,sb:=B.X.sb,used:=B.X.used,ab:=ab,ep:=Rz S.X.ep },⟨2+Rz S.X.ep%2*au S.L.n,au S.L.n,B.D.length,bK B.D,ch,[]⟩,L',B.ps,B.pc,B.cs,B.cc,B.ts,B.tc,B.D,B.s.K⟩
theorem GJ{now:Bs}{us:Nat->Option (Nat×Nat)}{e wh:Nat}{rest:List (Nat×Nat)}(h:∀k,k<2->oe now us k)(ho:fy (iL us 2)=(e,wh)::rest):aN now (e%2)=bO e wh/\e<4294967296/\wh<4294967296:=by
 have hm:(e,wh)∈iL us 2:=by
  have h1:(e,wh)∈fy (iL us 2):=by rw[ho];simp
  unfold fy at h1;split at h1
  ·rename_i u v hu;rw[hu];split at h1
   ·rcases mem_cons.1 h1 with h2|h2
    ·rw[h2];simp
    ·rw[mem_singleton.1 h2];simp
   ·exact h1
  ·exact h1
 unfold iL at hm;obtain⟨k,hk,hu⟩:=mem_filterMap.1 hm;rcases h k (by simpa using hk)with⟨h1,-⟩|⟨e',wh',h1,h2,h3,h4,h5⟩
 ·rw[hu]at h1;cases h1
 ·rw[hu]at h1;simp only[NY,Prod.mk.injEq]at h1;obtain⟨rfl,rfl⟩:=h1;rw[h3];exact⟨h2,h4,h5⟩
theorem JL{now now':Bs}{e n m:Nat}(h:WT now e n)(h1:aN now' ((e+1)%2)=bO (e+1) m)(h0:aN now' (e%2)=aN now (e%2))(he:e+1<4294967296)(hm:m<4294967296):WT now' (e+1) m:=by
 obtain⟨us,wh,rest,u1,u2,-,-,-⟩:=h;obtain⟨s1,s2,s3⟩:=GJ u1 u2;rw[<- h0]at s1
 have hz:cD now' 2=false:=by
  unfold cD;refine decide_eq_false (fun hz=>Ec (e+1) m ?_);rw[<- h1];exact hz _ Nb
 rcases Nat.mod_two_eq_zero_or_one e with e0|e0
 ·have e1:(e+1)%2=1:=Nb
  rw[e1]at h1;rw[e0]at s1;refine⟨fun k=>if k=0 then some (e,wh)else some (e+1,m),m,[(e,wh)],fun k hk=>?_,?_,hz,Nat.le_refl _,hm⟩
  ·rcases(show k=0\/k=1 by omega)with rfl|rfl
   ·exact .inr ⟨e,wh,rfl,s1,e0,s2,s3⟩
   ·exact .inr ⟨e+1,m,rfl,h1,e1,he,hm⟩
  ·show fy [(e,wh),(e+1,m)]=_;exact NR (Nat.lt_succ_self e)
 ·have e1:(e+1)%2=0:=Nb
  rw[e1]at h1;rw[e0]at s1;refine⟨fun k=>if k=0 then some (e+1,m)else some (e,wh),m,[(e,wh)],fun k hk=>?_,?_,hz,Nat.le_refl _,hm⟩
  ·rcases(show k=0\/k=1 by omega)with rfl|rfl
   ·exact .inr ⟨e+1,m,rfl,h1,e1,he,hm⟩
   ·exact .inr ⟨e,wh,rfl,s1,e0,s2,s3⟩
  ·show fy [(e+1,m),(e,wh)]=_;exact NQ (Nat.not_lt.2 (Nat.le_succ e))
theorem C0{E:Prop}{S:AS}(hi:P5 S E){B:CB}{vb:Value}{td:List Tg}(h:Pn E S (de S (fm S.ps)) [] td B vb)(htd:td.Perm (S.ts.map eV)){L':Ol}{ab ch:Nat}(hL:Ou L')(hn:L'.n=S.L.n)(hch:L'.N8=[])(hdat:eD L'.now (2+Rz S.X.ep%2*au S.L.n) (au S.L.n) B.D)(UL:aN L'.now (Rz S.X.ep%2)=bO (Rz S.X.ep) B.D.length)(hoth:aN L'.now (S.X.ep%2)=aN S.L.now (S.X.ep%2))(ZX:aB L'.now (2+S.X.ep%2*au S.L.n) (au S.L.n)=aB S.L.now (2+S.X.ep%2*au S.L.n) (au S.L.n)):QV S (yr S B L' ab ch) E:=by
 have hkn:(fm S.ps).Nodup:=by
  unfold fm nh;exact(mergeSort_perm _ _).nodup_iff.2 (by rw[<- cQ];exact hi.ok.paths.map.nodup)
 have Ue:∀l,(ah B.ps l).map (gG B.s.K)=(ah S.ps l).map (gG S.K):=fun l=>by
  rw[h.hist l];have h1:=congrArg (List.map (gG S.K)) (kZ S l hkn);rw[map_map]at h1;refine h1.trans ?_;split
  ·rfl
  ·rename_i hl
   have:ah S.ps l=[]:=by
    cases hv:ah S.ps l with
    | nil=>rfl
    | cons V r =>
     obtain⟨p,hp,hk,-⟩:=ft (S.ps |> fun _=>show ah S.ps l≠[] by rw[hv];simp);exact absurd (rF.2 (mem_map.2 ⟨p,hp,hk⟩)) hl
   rw[this]
 have hct:cF td=cF (S.ts.map eV):=by unfold cF;exact(htd.map _).sum_nat
 have hlen:B.D.length<=jj S:=by
  have:=h.costs hi.ok;unfold jj;omega
 have Xi:=hi.cost;have hok:=hi.ok
 have qaw:E->B.X.used=S.X.used:=fun hE=>by
  obtain⟨rs,H,ht⟩:=hi.told hE;rw[h.ct.used,ht.used]
  have hp:=lZ (fun h:HV=>h.p) (·.size) (fun h:HV=>h.p) (·.size) (A:=B.s.H) (B:=H) (fun l=>by
   have e1:=congrArg (List.map (fun t:CG=>t.2.1)) (h.ct.hist l);have e2:=congrArg (List.map (fun t:CG=>t.2.1)) (ht.hist l);have e3:=congrArg (List.map (fun t:Nat×Nat×List Bs=>t.2.1)) (Ue l);rw[map_map,map_map]at e1 e2 e3;exact e1.symm.trans (e3.trans e2))
  have h2:=hp.map (·.2);rw[map_map,map_map]at h2;exact congrArg Int.ofNat h2.sum_nat
 have Wh:∀e∈B.s.K,e.2.2=e.1.length/\dC B.D e.2.1 e.1:=fun e he=>by
  obtain⟨h1,-,h3⟩:=h.ct.Pm e he;rw[take_length]at h3;exact⟨h1,h3⟩
 have hok':Oo (yr S B L' ab ch):=by
  refine⟨hL,by show 16<=L'.n;rw[hn];exact hok.n16,by show L'.n<=_;rw[hn];exact hok.Px,⟨lk _,Nat.zero_le _,fun s hs=>by cases hs⟩,?_,?_,rfl,rfl,hdat,h.ct.paths,h.ct.tags,h.ct.chunks,h.ct.kin,Wh,fun p hp V hV=>?_,h.ct.VF,hok.sound,Dc _⟩
  ·show 2+Rz S.X.ep%2*au S.L.n=2+Rz S.X.ep%2*au L'.n;rw[hn]
  ·show au S.L.n=au L'.n;rw[hn]
  ·exact h.ct.vers (l:=p.key) (by rw[ia h.ct.paths hp];exact hV)
 have hbody:∀(K:KL) (V:Oe),V.N8.flatMap (bt K)=(V.N8.map (bt K)).flatten:=fun K V=>flatMap_def
 have qas:E->∃rs H,Told (yr S B L' ab ch) rs H:=fun hE=>by
  obtain⟨rs,r1,r2,r3⟩:=uP (h.ct.reach hE) (Nat.le_refl _);rw[take_length]at r2;refine⟨rs,B.s.H,r1,r2.symm,?_,h.ct.hist,fun _=>?_,h.ct.used⟩
  ·rw[r3];show some B.s=some ⟨B.s.K,B.s.H,B.ts.map eV⟩;rw[h.ct.Qy]
  ·obtain⟨rs,H,ht⟩:=hi.told hE;have he:=hi.ep hE;rw[IX he]at UL;show WT L'.now (Rz S.X.ep) B.D.length;rw[IX he];exact JL (ht.sec trivial) UL hoth he Nb
 have htl:td.length<=B.D.length:=by
  have h2:=h.len
  have:∀l:List Tg,l.length<=cF l:=fun l=>by
   unfold cF;induction l with
   | nil=>simp
   | cons a r ih=>simp only[map_cons,sum_cons,length_cons];omega
  have:=this td;omega
 have hgh:GH (yr S B L' ab ch) B.s.H:=by
  refine⟨h.ct.hist,h.ct.used,?_⟩
  have hp:=lZ (fun h:HV=>h.p) (·.N8.length) (fun x:Bs×Oe=>x.1) (·.2.N8.length) (A:=B.s.H) (B:=de S (fm S.ps)) (fun l=>by
   have e1:=congrArg (List.map (fun t:CG=>t.2.2.1.length)) (h.ct.hist l);have e3:=congrArg (List.map (fun t:Nat×Nat×List Bs=>t.2.2.length)) (h.hist l);rw[map_map,map_map]at e1 e3;have e4:(ah B.ps l).map ((fun t:CG=>t.2.2.1.length) ∘ bu)=(ah B.ps l).map ((fun t:Nat×Nat×List Bs=>t.2.2.length) ∘ gG B.s.K):=map_congr_left (fun V _=>by simp[gG,bu]);have e5:((de S (fm S.ps)).filter (fun x=>decide (x.1=l))).map (·.2.N8.length)=((de S (fm S.ps)).filter (fun x=>decide (x.1=l))).map ((fun t:Nat×Nat×List Bs=>t.2.2.length) ∘ fun x=>gG S.K x.2):=map_congr_left (fun x _=>by simp[gG]);rw[e5,<- e3,<- e4,e1];rfl)
  have h3:=(hp.map (fun t=>t.1.length+16+4*t.2)).sum_nat;rw[map_map,map_map]at h3;have hT:B.ts.map eV=td:=by rw[h.ct.Qy];exact h.tT
  have h2:=h.len;show ga B.s.K+il B.s.H+cF (B.ts.map eV)<=B.D.length;rw[hT,h2];unfold mB il;simp only[Function.comp_def]at h3;rw[h3];exact Nat.le_refl _
 refine⟨rfl,hok',rfl,rfl,rfl,qaw,⟨_,hgh⟩,fun l V hV=>?_,fun hE l=>?_,?_,Ue,fun hE=>?_,h.ct.sc,h.ct.sb,hn,rfl,hch,hlen,qas,UL,hoth,ZX⟩
 ·have h1:=h.held l V hV;have h2:=countP_le_length (p:=fun t:Tg=>decide (t.2.1=l/\t.2.2=(V.num:Int))) (l:=td);show V.held.natAbs<=B.D.length;rw[h1];omega
 ·have e1:(ah B.ps l).map (Cj (yr S B L' ab ch))=((ah B.ps l).map (gG B.s.K)).map (fun t=>((t.1:Int),t.2.2.flatten,((td.countP (fun u=>decide (u.2.1=l/\u.2.2=(t.1:Int))):Nat):Int))):=by
   rw[map_map];refine map_congr_left (fun V hV=>?_);show((V.num:Int),V.N8.flatMap (bt B.s.K),V.held)=((V.num:Int),(V.N8.map (bt B.s.K)).flatten,_);rw[hbody,h.held l V hV];rfl
  have e2:(ah S.ps l).map (Cj S)=((ah S.ps l).map (gG S.K)).map (fun t=>((t.1:Int),t.2.2.flatten,((td.countP (fun u=>decide (u.2.1=l/\u.2.2=(t.1:Int))):Nat):Int))):=by
   rw[map_map];refine map_congr_left (fun V hV=>?_);show((V.num:Int),V.N8.flatMap (bt S.K),V.held)=((V.num:Int),(V.N8.map (bt S.K)).flatten,_);rw[hbody,hi.held hE l V hV,htd.countP_eq];rfl
  show(ah B.ps l).map _=_;rw[e1,e2,Ue]
 ·show(B.ts.map Cb).Perm _;have:B.ts.map Cb=td:=by rw[<- h.tT,<- h.ct.Qy];rfl
  rw[this];exact htd
 ·show B.s.K.map _=_;rw[h.VO hE,append_nil,FV]
def jy(B:CB):Obj:=.cells (d9 B.pm B.tm B.cm B.X.sc B.X.sb B.X.used) 123 (0,0)
def TF(nx mv:Nat)(vb:Value)(B:CB):HF:=(nx,Is (jy B))::(aG B.pm B.ps B.pc++(bX B.tm B.ts B.tc++(aQ B.cm B.cs B.cc++((mv,Is (aU RY B.mp B.mc))::aJ vb B.D))))
def ff(S:AS)(sp:List (Nat×Nat×Nat))(kv:Value)(ks:List Bs)(nx mv:Nat)(vb:Value)(B:CB)(J:HF):HF:=bH 9 1 kv ks.length (ks.map str)++(TF nx mv vb B++(N9 (et S sp)++J))
def MM(E:Prop)(S:AS)(kv:Value)(ks:List Bs)(nx mv:Nat)(w:World)(vb i:Value)(W:World):Prop :=
 ∃(j:Nat) (B:CB) (J:HF) (sp:List (Nat×Nat×Nat)),j<=ks.length/\i=.int .i64 j/\Pn E S (de S (ks.take j)) [] [] B vb/\Ov { S.A with spare:=sp }/\Turns (N9 S) (ff S sp kv ks nx mv vb B J) w W
def MN(E:Prop)(S:AS)(kv:Value)(ks:List Bs)(nx mv:Nat)(w:World)(dn:vE)(l:Bs)(vs:List Oe)(vb i:Value)(W:World):Prop :=
 ∃(k:Nat) (B:CB) (J:HF) (sp:List (Nat×Nat×Nat)),k<=vs.length/\i=.int .i64 k/\Pn E S (dn++(vs.take k).map (fun V=>(l,V))) [] [] B vb/\Ov { S.A with spare:=sp }/\Turns (N9 S) (ff S sp kv ks nx mv vb B J) w W
def MO(E:Prop)(S:AS)(kv:Value)(ks:List Bs)(nx mv:Nat)(w:World)(dn:vE)(V:Oe)(wb:Nat)(vb i:Value)(W:World):Prop :=
 ∃(m:Nat) (B:CB) (J:HF) (sp:List (Nat×Nat×Nat)) (wv:Value) (N8:List (Nat×Nat)),m<=V.N8.length/\i=.int .i64 m/\Pn E S dn ((V.N8.take m).map (bt S.K)) [] B vb/\iT S B.s.K (V.N8.take m) N8/\bQ wv N8/\Ov { S.A with spare:=sp } /\
  Turns (N9 S) (bN (gQ wb V wv N8)++ff S sp kv ks nx mv vb B J) w W
def MP(E:Prop)(S:AS)(kv:Value)(ns:List Bs)(nx mv:Nat)(w:World)(vb i:Value)(W:World):Prop :=
 ∃(j:Nat) (B:CB) (J:HF) (sp:List (Nat×Nat×Nat)),j<=ns.length/\i=.int .i64 j/\Pn E S (de S (fm S.ps)) [] (dg S.ts (ns.take j)) B vb/\Ov { S.A with spare:=sp }/\Turns (N9 S) (ff S sp kv ns nx mv vb B J) w W
theorem yC{γ:Type}{z:γ}{q:GE γ}:∀{ts:List (GE γ)},(ts.map (·.key)).Nodup->q∈ts->Qr z ts q.key=q.g
 | a::r,hn,hq=>by
  obtain⟨n1,n2⟩:=nodup_cons.1 hn
  rcases mem_cons.1 hq with rfl|hq
  ·unfold Qr;simp
  ·have h:¬a.key=q.key:=fun e=>n1 (mem_map.2 ⟨q,hq,e.symm⟩)
   have:=yC (z:=z) n2 hq
   unfold Qr at this ⊢
   rw[find?_cons_of_neg (by simpa using h)]
   exact this
theorem P5.YL{E:Prop}{S:AS}(hi:P5 S E){m:Bs}(hm:m∈e8 S.ts):m.length<=255/\∃(p:Bs) (n:Nat),Qr ([],0) S.ts m=(p,(n:Int))/\p.length<=255/\n<9223372036854775808/\(E->n<4294967296):=by
 obtain⟨q,hq,rfl⟩:=mem_map.1 ((mergeSort_perm _ _).mem_iff.1 hm);obtain⟨h1,h2,h3,h5,h4⟩:=hi.tags q hq;refine⟨h1,q.g.1,q.g.2.toNat,?_,h2,Nb,fun hE=>by have:=h4 hE;omega⟩;rw[yC (by rw[<- cQ];exact hi.ok.tags.map.nodup) hq];refine Prod.ext rfl ?_;show q.g.2=_;omega
theorem P5.pins{E:Prop}{S:AS}(hi:P5 S E):(dg S.ts (e8 S.ts)).Perm (S.ts.map eV):=by
 have h1:(S.ts.map (·.key)).map (fun k=>(k,Qr ([],0) S.ts k))=S.ts.map eV:=by
  rw[map_map];refine map_congr_left (fun q hq=>?_);show(q.key,Qr ([],0) S.ts q.key)=(q.key,q.g.1,q.g.2);rw[yC (by rw[<- cQ];exact hi.ok.tags.map.nodup) hq]
 rw[<- h1];unfold dg;exact(mergeSort_perm _ _).map _
theorem P5.Qi{E:Prop}{S:AS}(hi:P5 S E){l:List Bs}(h:l <+: e8 S.ts):cF (dg S.ts l)<=cF (S.ts.map eV):=by
 have h1:cF (dg S.ts (e8 S.ts))=cF (S.ts.map eV):=by unfold cF;exact(hi.pins.map _).sum_nat
 obtain⟨r,hr⟩:=h;rw[<- h1,<- hr];unfold cF dg;rw[NW,NW,sum_append];omega
theorem xe(S:AS)(ks:List Bs){j:Nat}(h:j<ks.length):de S (ks.take (j+1))=de S (ks.take j)++(ah S.ps ks[j]).map (fun V=>(ks[j],V)):=by
 unfold de;rw[QH h,flatMap_append];simp
theorem AF(S:AS)(ks:List Bs)(j:Nat):de S (ks.take j) <+: de S ks:=by
 refine⟨de S (ks.drop j),?_⟩;unfold de;rw[<- flatMap_append,take_append_drop]
theorem yB(S:AS)(ks:List Bs){j:Nat}(h:j<ks.length)(k:Nat):de S (ks.take j)++((ah S.ps ks[j]).take k).map (fun V=>(ks[j],V)) <+: de S ks:=by
 refine IsPrefix.trans ?_ (AF S ks (j+1));rw[xe S ks h];exact(prefix_append_right_inj _).2 ((take_prefix k _).map _)
theorem P5.le{E:Prop}{S:AS}(hi:P5 S E){dn:vE}{pt:List Bs}{td:List Tg}{B:CB}{vb:Value}(h:Pn E S dn pt td B vb)(hp:dn <+: de S (fm S.ps))(ht:cF td<=cF (S.ts.map eV)):B.D.length<=jj S:=by
 have h1:=h.costs hi.ok;obtain⟨r,hr⟩:=hp;unfold jj mB at *
 rw[<- hr,NW,sum_append];omega
theorem tg{S:AS}(hok:Oo S){l:Bs}{V:Oe}(hV:V∈ah S.ps l){W:World}(hs:Sat W (aG S.X.pm S.ps S.pc)):Sat W (bN V)/\bQ V.cv V.N8/\(∀q∈V.N8,∃e∈S.K,e.2=q)/\V.size=(V.N8.map (·.2)).sum:=by
 obtain⟨p,hp,-,hpg⟩:=ft (ne_nil_of_mem hV);have hV':V∈p.g:=hpg ▸ hV;have hps:Sat W (ee p.val p.g):=Sat.flat (f:=fun p:bf=>ee p.val p.g) hs.tail hp;exact⟨Sat.flat (f:=bN) hps.right hV',(hok.paths.rows p hp).2 V hV',hok.vers p hp V hV'⟩
theorem Jt{S:AS}(hok:Oo S){l:Bs}(h:l∈fm S.ps):Py l:=by
 obtain⟨p,hp,rfl⟩:=mem_map.1 (rF.1 h);exact hok.paths.map.ok (aR p) (mem_map.2 ⟨p,hp,rfl⟩)
theorem ig(S:AS)(sp:List (Nat×Nat×Nat)):N9 (et S sp)=(S.a,Is (aL S.X))::(aq S.X.ab S.X.d { S.A with spare:=sp }++(aA S.X.d S.L++(aG S.X.pm S.ps S.pc++(bX S.X.tm S.ts S.tc++aQ S.X.cm S.cs S.cc)))):=rfl
theorem FJ(nx mv:Nat)(vb:Value)(B:CB)(c:Bs)(p:Nat×Nat)(v:Value):TF nx mv vb (B.chunk c p v)=(nx,Is (jy (B.chunk c p v)))::(aG B.pm B.ps B.pc++(bX B.tm B.ts B.tc++(aQ B.cm (B.chunk c p v).cs (B.chunk c p v).cc++((mv,Is (aU RY (gJ B.mp B.mc p (RY (B.D.length,c.length))) (cy B.mp B.mc p)))::aJ vb (B.D++frame 1 c))))):=rfl
theorem Kt(nx mv:Nat)(vb:Value)(B:CB)(l:Bs)(V:Oe)(b:Nat)(cv v':Value)(N8:List (Nat×Nat)):TF nx mv vb (B.ver l V b cv v' N8)=(nx,Is (jy (B.ver l V b cv v' N8)))::(aG B.pm (j7 B.ps B.pc l v' (gQ b V cv N8)) (cy (B.ps.map aR) B.pc l)++(bX B.tm B.ts B.tc++(aQ B.cm B.cs B.cc++((mv,Is (aU RY B.mp B.mc))::aJ vb (B.D++frame 2 (eC l V.num V.size (bB N8))))))):=rfl
theorem Ks(nx mv:Nat)(vb:Value)(B:CB)(m p:Bs)(n:Nat):TF nx mv vb (B.tag m p n)=(nx,Is (jy B))::(aG B.pm (dk B.ps p n 1) B.pc++(bX B.tm (eS B.ts B.tc m (mn m (p,(n:Int))) (p,(n:Int))) (cy (B.ts.map aR) B.tc m)++(aQ B.cm B.cs B.cc++((mv,Is (aU RY B.mp B.mc))::aJ vb (B.D++frame 4 (eG p m n)))))):=rfl
theorem Eh{P:Program}{o:Oper}{a:Act}{w a0:World}{K:Act->World->Prop}{Q:Exit->Act->World->Prop}{F G:HF}(ty:TypeId)(x y:Operand)(ho:o.op=.store ty x y)(b i:Nat)(old:List Value)(cells:Array Value)(t:TypeId)(hT:Turns F ((b,Is (.cells old.toArray t (0,0)))::G) a0 w)(hx:a.eval x=.pointer (some ⟨b,i,none⟩))(hy:a.eval y=.agg cells)(hsz:i+cells.size<=old.length)(hi:(P.info? ty).map (·.size)=some cells.size)(h1:cells.all (·.oneCell')=true)(hk:∀w',Turns F ((b,Is (.cells (spl old i cells.toList).toArray t (0,0)))::G) a0 w'->K (a.put o.dst undef) w'):o.wp P a w K Q:=by
 have hb:=hT.sat.Q5;obtain⟨q1,q2⟩:=fp hb i cells.toList (by simpa using hsz);exact wp_store_mid ty x y ho b i cells hx hy (dA hb i _ (by simpa using hsz)) hi h1 (hk _ (hT.Qa q2 q1))
theorem Kk(S:AS)(B:CB)(L':Ol)(ab ch:Nat):N9 (yr S B L' ab ch)=(S.a,Is (aL (yr S B L' ab ch).X))::(aq ab S.X.d ⟨2+Rz S.X.ep%2*au S.L.n,au S.L.n,B.D.length,bK B.D,ch,[]⟩++(aA S.X.d L'++(aG B.pm B.ps B.pc++(bX B.tm B.ts B.tc++aQ B.cm B.cs B.cc)))):=rfl
def kA(S:AS)(E:Prop)(w:World)(e:Ending)(w':World):Prop :=
 (S.X.closed=true/\e=.returned (cr 9)/\Turns (N9 S) (N9 S) w w')\/(S.X.closed=false/\e=.returned .nilIface/\∃S',QV S S' E/\Turns (N9 S) (N9 S') w w')
theorem Cl(wb:Nat)(V:Oe)(wv:Value)(N8:List (Nat×Nat)):bN (gQ wb V wv N8)=(wb,Is (dB (gQ wb V wv N8)))::aZ wv N8:=rfl
def LJ(E:Prop)(S:AS)(kv:Value)(ks:List Bs)(nx mv:Nat)(w:World)(dn:vE)(V:Oe)(wb m tb:Nat)(c:Bs)(p q:Nat×Nat)(wv:Value)(N8:List (Nat×Nat))(vb:Value)(B:CB)(J:HF)(sp:List (Nat×Nat×Nat))(W:World):Prop :=
 Pn E S dn ((V.N8.take m).map (bt S.K)++[c]) [] B vb/\iT S B.s.K (V.N8.take m) N8/\bt B.s.K q=c/\(c,q)∈B.s.K/\Ov { S.A with spare:=sp }/\Turns (N9 S) ((tb+1,Is (aE q))::(bN (gQ wb V wv N8)++ff S sp kv ks nx mv vb B ((tb,Is (aE p))::J))) w W
theorem xW{E:Prop}(S:AS)(w:World)(h:Sat w (N9 S))(hi:P5 S E)(b:Nat)(hB:QU S b)(hb:b<=90000)(hc:S.X.closed=false):
  Calls prog 71 #[.pointer (some ⟨S.a,0,none⟩)] w (fun e w'=>e=.returned .nilIface/\∃S',QV S S' E/\Turns (N9 S) (N9 S') w w'):=by
 have ha:=h.Q5;have hal:=ae ha;have a10:w.cell? ⟨S.a,10,none⟩=some (.bool false):=by rw[<- hc];exact aa ha 10 rfl
 have a11:w.cell? ⟨S.a,11,none⟩=some .nilIface:=by rw[<- hi.ok.sound];exact aa ha 11 rfl
 have HN:=NZ ja;have hmm:=@run_makeMap prog;have hlen0:S.ps.length<=90000:=Nat.le_trans hB.np hb;have Um:S.ts.length<=90000:=Nat.le_trans hB.nt hb;have HI:=NZ hi;have HCH:=NZ (show S.L.N8.length<=23592960000 by have:=hB.N8;omega);have HH:=Oz h hlen0 Um;clear h hi hB hb hc ha hlen0 Um;go_enter func71,ntmps71;go_wp2_with fail;refine(HN.o w).mono ?_;rintro e w1 ⟨pm,tm,cm,rfl,hT1⟩;unfold d9;have HT1:=NZ (Turns.Qb (Turns.refl HH.a) hT1);clear hT1 a10 a11;go_upto_region 8 with(fail);obtain⟨B0,hB0⟩:=Na (⟨pm,tm,cm,{ S.X with used:=0,sc:=0,sb:=0 },[],0,[],0,[],0,[],0,[],⟨[],[],[]⟩,[],0⟩:CB);obtain⟨nx,hnx⟩:=Na w1.heap.size
 have hT2:Turns (N9 S) (TF nx (nx+1) (.slice none 0 0) B0++N9 S) w ((w1.alloc (.cells (d9 pm tm cm 0 0 0) 123 (0,0))).alloc (.map #[] 0)):=by
  have h1:=HT1.o.Q9 (.cells (d9 pm tm cm 0 0 0) 123 (0,0));have h2:=h1.Q9 (.map #[] 0);rw[World.size_alloc,<- hnx]at h2;refine h2.to ?_;rw[hB0];show Perm _ (((nx,Is (.cells (d9 pm tm cm 0 0 0) 123 (0,0)))::([(pm,Is (.map #[] 0))]++([(tm,Is (.map #[] 0))]++([(cm,Is (.map #[] 0))]++[(nx+1,Is (.map #[] 0))]))))++N9 S);exact ac
 have hok0:Pn E S [] [] [] B0 (.slice none 0 0):=by
  rw[hB0];exact⟨OE.empty ⟨rfl,rfl,rfl⟩,lA,(fun e he=>by cases he),(fun c q hq=>by cases hq),go,fun _=>rfl,rfl,fun l=>rfl,(fun l V hV=>absurd hV (by simp[ah,Qr])),rfl,rfl⟩
 rw[<- hnx];generalize hw2:(w1.alloc (.cells #[.map (some pm),.map (some tm),.map (some cm),.int .i64 0,.int .i64 0,.int .i64 0] 123 (0,0))).alloc (.map #[] 0)=w2;have hT2:Turns (N9 S) (TF nx (nx+1) (.slice none 0 0) B0++N9 S) w w2:=hw2 ▸ hT2;clear hw2 HT1;have hpm:=hT2.sat.right.Q7 (b:=S.X.pm) (o:=aU str (S.ps.map aR) S.pc) NC;have hlen:(S.ps.map aR).length<=90000:=by rw[NP];exact HH.b
 obtain⟨D,hD,Zh,hDs⟩:=px hpm HI.o.ok.paths.map Nb;have hKs:=vk S.X.pm _ D Fw w2 hD (by rw[hDs];unfold maxLen;omega) (by rw[hDs];omega);have HK:=NZ (callsIn_wide.1 hKs);have HMk:=NZ (callsIn_wide.1 (Ba (some S.X.pm) w2));have a0:w2.cell? ⟨S.a,0,none⟩=some (.map (some S.X.pm)):=aa hT2.sat.right.Q5 0 rfl;have hal2:=ae hT2.sat.right.Q5;have H2:=OW hT2 hok0 Zh hlen;clear hT2 hok0 hpm hlen hD Zh hDs hKs hB0 hnx;go_wp2_with fail;refine HMk.o.mono ?_;rintro e w3 ⟨rfl,rfl⟩;go_wp2_with fail;refine HK.o.mono ?_;rintro e w4 ⟨v,ss,rfl,hss,hown,-,hbel⟩;obtain⟨hs1,hs2⟩:=sw hss H2.c;rw[hs1,hs2]at hown;obtain⟨ks,hks⟩:=Na (fm S.ps);have Z4:nh ((S.ps.map aR).map (·.key))=ks:=by rw[hks];unfold fm;rw[cQ]
 rw[Z4]at hown;obtain⟨hro,Oj⟩:=Bi (H2.a.alloc _) rfl (by rw[NP];exact hown) hbel;rw[NP]at hro Oj;obtain⟨sl,cap,rfl,hcap0,hcap,-,-⟩:=bb Oj.sat.left hro Nk
 have hkl:ks.length<=90000:=by
  have:=HH.b;rw[hks];unfold fm nh;rw[length_mergeSort,NP];exact this
 have X9:=ae (Oj.sat.right.right.Q5);have H4:=OW Oj hro hks hkl;clear hss hown hbel hs1 hs2 hks Z4 hro Oj a0;go_wp2_with fail;go_loopw [4,45] (fun vb i wr=>MM E S (.slice sl ks.length cap) ks nx (nx+1) w vb i wr) (fun _ i _=>ks.length-(intOf i).toNat)
 case atStart=>exact⟨0,B0,[],S.A.spare,Nat.zero_le _,rfl,H2.b,HI.o.ok.area,H4.a.to (by unfold ff;rw[append_nil];exact Perm.refl _)⟩
 case round =>
  obtain⟨j,B,J,sp,hj,rfl,hcb,hAo,hT⟩:=hrel;by_cases hlt:j<ks.length
  ·obtain⟨sl2,cap2,e1',-,-,hcell,-⟩:=bb (w:=wr) hT.sat.left H4.b Nk;simp only[Value.slice.injEq]at e1';obtain⟨rfl,-,rfl⟩:=e1';obtain⟨g,off,hg,hcc⟩:=hcell Np;subst hg;have hc1:=hcc j (by rw[NP];exact hlt);rw[getElem_map]at hc1;obtain⟨l,hl⟩:=Na (ks[j]);rw[<- hl]at hc1;have hA:=(hT.sat.right.right.left).Q5;have a0':wr.cell? ⟨S.a,0,none⟩=some (.map (some S.X.pm)):=aa hA 0 rfl;have ZA:=ae hA;obtain⟨vsl,QJ,hval,UZ,hvc2,-,-,-⟩:=fk (hT.sat.sub (G:=aG S.X.pm S.ps S.pc) (fun x=>by unfold ff et N9;simp only[ao,af];omega)) HI.o.ok.paths l;obtain⟨vs,hvs⟩:=Na (ah S.ps l);rw[<- hvs]at hval UZ;have hmo:wr.heap[S.X.pm]?=some (aU str (S.ps.map aR) S.pc):=hT.sat.Q7 (by simp[ff,N9,et,aG]);have VT:Py l:=Jt HI.o.ok (by rw[<- H4.c,hl];exact getElem_mem hlt);have HR:=Uh hcb hAo hT hmo hval VT hl hvs;clear hcb hAo hT hmo hval VT hl hvs hcell hcc hA;go_wp2_with ((refine dY dR rfl _ _ rfl underlying119 HR.d HI.o.ok.paths.map (fI _) l rfl rfl HR.f ?_;rw[cX,HR.e]));obtain⟨dn,hdn⟩:=Na (de S (ks.take j))
   have ZQ:dn++vs.map (fun V=>(l,V))=de S (ks.take (j+1)):=by
    have:=xe S ks hlt;rw[<- HR.g,<- HR.t,<- hdn]at this;exact this.symm
   have hpre:∀k,dn++(vs.take k).map (fun V=>(l,V)) <+: de S (fm S.ps):=fun k=>by
    have:=yB S ks hlt k;rw[<- HR.g,<- HR.t,<- hdn]at this;rw[<- H4.c];exact this
   have hvm:∀V∈vs,V∈ah S.ps l:=fun V hV=>by rw[<- HR.t];exact hV
   have HD:=Ry hdn ZQ hpre hvm HR.t HR.e HR.f
   have Vm:vs≠[]->l.length<=255:=fun hne=>by
    obtain⟨V,hV⟩:=exists_mem_of_ne_nil vs hne;exact(HI.o.vers l V (hvm V hV)).2.2.2
   have HL:=NZ Vm;clear hdn ZQ hpre hvm hc1 a0' Vm;go_loopw [4,57] (fun vb i wr=>MN E S (.slice (some ⟨g,off,none⟩) ks.length cap) ks nx (nx+1) w dn l vs vb i wr) (fun _ i _=>vs.length-(intOf i).toNat)
   case atStart=>exact⟨0,B,J,sp,Nat.zero_le _,rfl,by rw[take_zero,map_nil,append_nil,HD.a];exact HR.a,HR.b,HR.c⟩
   case round =>
    clear HR;obtain⟨k,B,J,sp,hk,rfl,hcb,hAo,hT⟩:=hrel;by_cases hkl:k<vs.length
    ·obtain⟨vsl2,vcap2,e2',-,-,Ud,-,-⟩:=fk (hT.sat.sub (G:=aG S.X.pm S.ps S.pc) (fun x=>by unfold ff et N9;simp only[ao,af];omega)) HI.o.ok.paths l;rw[<- HD.e]at e2' Ud;rw[HD.f]at e2';simp only[Value.slice.injEq,true_and]at e2';obtain⟨rfl,rfl⟩:=e2';obtain⟨g2,off2,hg2,hc2⟩:=Ud Np;subst hg2;obtain⟨V,hV⟩:=Na (vs[k]);have hp1:wr.cell? ⟨g2,off2+k,none⟩=some (.pointer (some ⟨V.blk,0,none⟩)):=by rw[hc2 k (by simpa using hkl)];simp[hV,dN]
     have X6:V∈ah S.ps l:=HD.d V (by rw[hV];exact getElem_mem hkl);obtain⟨hvf,Rt,hvK,hvs⟩:=tg HI.o.ok X6 (hT.sat.sub (G:=aG S.X.pm S.ps S.pc) (fun x=>by unfold ff et N9;simp only[ao,af];omega));obtain⟨P6,OG,hcv,hcc,hcc9,-⟩:=fc hvf.tail Rt;have hvb:=ae hvf.Q5;have hnum:=HI.o.vers l V X6
     have htk:dn++(vs.take (k+1)).map (fun V=>(l,V))=(dn++(vs.take k).map (fun V=>(l,V)))++[(l,V)]:=by
      rw[QH hkl,<- hV,NW,NV];rfl
     have HV:=NZ (NK hcb (NK hAo (NK hT (NK X6 (NK Rt (NK hvK (NK hvs (NK hcv (NK hnum htk)))))))));have hcl:V.N8.length<=16000:=hnum.2.2.1;clear hcb hAo hT X6 hvf Rt hvK hvs hcv hnum htk Ud hc2 hV;go_upto_region 14 with(fail);refine cH [([0,1,2,3,4,5,6,7,8],9,[])] [10] HM.o Nc fun W tW=>?_
     simp only[Mix,map_cons,map_nil,nth,QG,QF];have hT1:=tW HV.c;clear tW;have hvf:=(tg HI.o.ok HV.d (hT1.sat.sub (G:=aG S.X.pm S.ps S.pc) (fun x=>by unfold ff et N9;simp only[ao,af];omega))).1;have v0:W.cell? ⟨V.blk,0,none⟩=some (.int .i64 V.num):=aa hvf.Q5 0 rfl;have v1:W.cell? ⟨V.blk,1,none⟩=some (.int .i64 V.size):=aa hvf.Q5 1 rfl;repeat still_step
     refine wpStill_nil (je (dB (gQ 0 V (.slice none 0 0) [])) (fun n=>.pointer (some ⟨n,0,none⟩)) Nc hT1 fun wb W1 hT2=>⟨rfl,?_⟩);simp only[Act.put,QA,QB,QC];repeat still_step
     refine wpStill_nil ?_;have Yy:=(tg HI.o.ok HV.d (hT2.sat.sub (G:=aG S.X.pm S.ps S.pc) (fun x=>by unfold ff et N9;simp only[ao,af];omega))).1;have v2:W1.cell? ⟨V.blk,2,none⟩=some (.slice P6 V.N8.length OG):=by rw[<- HV.h];exact aa Yy.Q5 2 rfl
     have hvl:=ae Yy.Q5;have H2:=NZ hT2;clear hT1 hvf v0 v1 hT2 Yy;go_wp2_with fail;go_loopw [4,76] (fun vb i wr=>MO E S (.slice (some ⟨g,off,none⟩) ks.length cap) ks nx (nx+1) w (dn++(vs.take k).map (fun V=>(l,V))) V wb vb i wr) (fun _ i _=>V.N8.length-(intOf i).toNat)
     case atStart=>exact⟨0,B,J,sp,.slice none 0 0,[],Nat.zero_le _,rfl,HV.a,iT.nil _ _,⟨rfl,fun _=>⟨rfl,rfl⟩⟩,HV.b,H2.o⟩
     case round =>
      have HV:=NZ HV.x;obtain⟨m,B,J,sp,wv,N8,hm,rfl,hcb,hch,hpo,hAo,hT⟩:=hrel;by_cases hml:m<V.N8.length
      ·obtain⟨hvf,-,-,-⟩:=tg HI.o.ok HV.a (hT.sat.sub (G:=aG S.X.pm S.ps S.pc) (fun x=>by unfold ff et N9;simp only[ao,af];omega));obtain⟨csl2,ccap2,e3',-,-,hcells⟩:=fc hvf.tail HV.b;rw[HV.e]at e3';simp only[Value.slice.injEq,true_and]at e3';obtain⟨rfl,rfl⟩:=e3';obtain⟨g3,off3,hg3,hc3⟩:=hcells NI;subst hg3;obtain⟨hq1,hq2⟩:=mY hc3 hml;obtain⟨⟨c,p1,p2⟩,VJ,UF⟩:=HV.c V.N8[m] (getElem_mem hml);have hp2:p2=c.length:=(HI.o.ok.Pm _ VJ).1;subst hp2;have UF:V.N8[m]=(p1,c.length):=UF.symm;rw[UF]at hq1 hq2;simp only at hq1 hq2;obtain⟨Qu,O1,hbv,-,hbc,Rk,-⟩:=aP (dh (hT.sat.sub (G:=aJ u4 B.D) (fun x=>by unfold ff TF;simp only[ao,af];omega)) hcb.row);subst hbv;have Vh:c.length<65536:=(dD (HI.o.ok.Pm _ VJ).2.2).2.2.2.2;have hfit:=(HI.o.ok.Pm _ VJ).2.1;have hbody:=nH HI.o.ok VJ
       have hdl:S.data.length<=137438953472:=by
        have h1:=HI.o.ok.dat.2;have h2:=HI.o.ok.fits;have h3:=HI.o.ok.Px;omega
       have hpl:Hs (p1,c.length):=⟨by show p1<_;simp only at hfit;omega,by show c.length<_;omega⟩;have hD:B.D.length<=810000:=Nat.le_trans (HI.o.le hcb (HD.c k) (by simp[cF])) HI.o.cost;have RG:V.N8.take (m+1)=V.N8.take m++[(p1,c.length)]:=by rw[QH hml,UF]
       have hT1:=hT.Q9 (aE (p1,c.length));have Wj:(wr.alloc (.cells #[.int .i64 p1,.int .i64 c.length] 161)).heap[nx+1]?=some (aU RY B.mp B.mc):=hT1.sat.Q7 (by simp[ff,TF]);have TT:N8.length=m:=by rw[hch.len,NS];omega
       obtain⟨tb,htb⟩:=Na wr.heap.size;have HTB:=NZ htb;have hcom:∃hh:Bool,iB B.mp (p1,c.length)=hh:=⟨_,rfl⟩;obtain⟨hh,Yg⟩:=hcom
       cases hh
       case' true =>
        obtain⟨e,he,hek⟩:=iC.1 Yg;obtain⟨q,hq,Ym,hcb2⟩:=hcb.hit HI.o.ok VJ he hek;have hge:dH B.mp (p1,c.length)=some (RY q):=by rw[<- hek,qm hcb.map.nodup he,hq]
        have HR:=PD Wj hcb.map hge Yg hpl;have hT2:=hT1.Q9 (aE q);rw[World.size_alloc,<- htb]at hT2;have hqb:bt B.s.K q=c:=hcb.ct.body Ym;obtain⟨B2,rfl⟩:=Na B;obtain⟨sp2,rfl⟩:=Na sp;obtain⟨J2,rfl⟩:=Na J;have Oa:=hT2.to (H:=(tb+1,Is (aE q))::(bN (gQ wb V wv N8)++ff S sp2 (.slice (some ⟨g,off,none⟩) ks.length cap) ks nx (nx+1) (.slice Qu B2.D.length O1) B2 ((tb,Is (aE (p1,c.length)))::J2))) (by unfold ff;exact ac);have HC0:=NZ (show LJ E S (.slice (some ⟨g,off,none⟩) ks.length cap) ks nx (nx+1) w (dn++(vs.take k).map (fun V=>(l,V))) V wb m tb c (p1,c.length) q wv N8 (.slice Qu B2.D.length O1) B2 J2 sp2 _ from⟨hcb2,hch,hqb,Ym,hAo,Oa⟩);have HX:=OW hpo RG hbody TT;clear hvf hcells hc3 VJ UF Rk Vh hfit hbody hdl hpl hD RG hT1 Wj hT2 Oa hcb hcb2 hch hpo hAo hT Yg he hek hq Ym hge hqb TT htb;go_upto_region 27 with(first|(refine ai rfl (iO Jy (.tmp 81) (.tmp 82) rfl underlying238 HR.a HR.b (xV _) (p1,c.length) rfl rfl HR.w ?_);rw[HR.c,HR.d];simp only[Option.getD_some,RY])|fail);generalize hW5:(wr.alloc (.cells #[.int .i64 p1,.int .i64 c.length] 161)).alloc (.cells #[.int .i64 q.1,.int .i64 q.2] 161)=W5;have HC:Hid (LJ E S (.slice (some ⟨g,off,none⟩) ks.length cap) ks nx (nx+1) w (dn++(vs.take k).map (fun V=>(l,V))) V wb m tb c (p1,c.length) q wv N8 (.slice Qu B2.D.length O1) B2 J2 sp2 W5):=NZ (by rw[<- hW5];exact HC0.o);generalize Yw:Value.slice Qu B2.D.length O1=vb2 at HC ⊢;rw[<- HTB.o];clear hW5 HTB HR HC0 hq1 hq2 Yw hbc
       case' false =>
        have hne:∀e∈B.mp,e.key≠(p1,c.length):=fun e he hk=>by
         rw[iC.2 ⟨e,he,hk⟩]at Yg;cases Yg
        have hge:dH B.mp (p1,c.length)=none:=gy.2 hne;have hms:=fun hE:E=>hcb.miss (HI.o.nd hE) VJ hne
        obtain⟨bd1,bd2,bd3,bd4,-,-,-⟩:=hcb.bounds HI.o (HD.c k) hD;have hT2:=hT1.Q9 (.cells #[.int .i64 0,.int .i64 0] 161 (0,0));rw[World.size_alloc,<- htb]at hT2;obtain⟨R0,hR0⟩:=Na ((S.a,Is (aL S.X))::(aA S.X.d S.L++(aG S.X.pm S.ps S.pc++(bX S.X.tm S.ts S.tc++(aQ S.X.cm S.cs S.cc++((tb+1,Is (.cells #[.int .i64 0,.int .i64 0] 161 (0,0)))::(tb,Is (aE (p1,c.length)))::(bN (gQ wb V wv N8)++(bH 9 1 (.slice (some ⟨g,off,none⟩) ks.length cap) ks.length (ks.map str)++(TF nx (nx+1) (.slice Qu B.D.length O1) B++J)))))))));have Oa:=hT2.to (H:=aq S.X.ab S.X.d { S.A with spare:=sp }++R0) (by rw[hR0];unfold ff;rw[ig];exact ac);have HL2:=NZ (lX S.a S.X S.X.ab S.X.d rfl { S.A with spare:=sp } S.L p1 c R0 _ Oa.sat (fun x=>by rw[hR0];simp only[ao,af];omega) HI.o.ok.dev hAo HI.o.ok.fits HI.o.ok.Px ((HI.o.ok.Pm _ VJ).2.Qd HI.o.ok.dat));have HR:=Ry Wj hcb.map hge Yg hpl Oa hR0;have HB:=Uh hcb hms hne VJ Vh bd2 bd3 bd4;have HX:=PD hpo RG hbody TT hch;clear hvf hcells hc3 VJ UF Rk Vh hfit hbody hdl hpl RG hT1 Wj hT2 Oa hcb hch hpo hAo hT Yg hge TT hne hms bd1 bd2 bd3 bd4 htb hR0;go_wp2_with (first|(refine ai rfl (iO Jy (.tmp 81) (.tmp 82) rfl underlying238 HR.a HR.b (xV _) (p1,c.length) rfl rfl HR.e ?_);rw[HR.c,HR.d];simp only[Option.getD_none])|fail);refine HL2.o.mono ?_;rintro e w5 ⟨av,cv,sp2,rfl,OB,U6,Og⟩
        have Ox:Turns (N9 S) ((tb+1,Is (.cells #[.int .i64 0,.int .i64 0] 161 (0,0)))::((tb,Is (aE (p1,c.length)))::(aJ (.slice av c.length cv) c++(bN (gQ wb V wv N8)++ff S sp2 (.slice (some ⟨g,off,none⟩) ks.length cap) ks nx (nx+1) (.slice Qu B.D.length O1) B J)))) w w5:=by
         have h1:=HR.f.trans Og;rw[HR.u]at h1;exact h1.to (by unfold ff;rw[ig];exact ac)
        have t1:w5.cell? ⟨tb,1,none⟩=some (.int .i64 c.length):=aa (Ox.sat.Q7 (b:=tb) (o:=aE (p1,c.length)) Nh) 1 rfl;have tl:=ae (Ox.sat.Q7 (b:=tb) (o:=aE (p1,c.length)) Nh);have tl2:=ae Ox.sat.Q5;have H6:=Oz OB U6 Ox;rw[<- HTB.o];clear OB U6 Og Ox HL2
        go_wp2_with (first
         | (refine ai rfl (qJ 161 (.tmp 13) (.tmp 101) rfl (tb+1) #[.int .i64 0,.int .i64 0] #[.int .i64 B.D.length,.int .i64 c.length] 161 H6.y rfl rfl rfl Nc (by simp[Value.oneCell']) ?_);intro w6 Ox;have d0:=aa Ox.sat.Q5 0 rfl;have d1:=aa Ox.sat.Q5 1 rfl;have d2:w6.cell? ⟨tb,0,none⟩=some (.int .i64 p1):=aa (Ox.sat.Q7 (b:=tb) (o:=aE (p1,c.length)) Nh) 0 rfl;have d3:w6.cell? ⟨tb,1,none⟩=some (.int .i64 c.length):=aa (Ox.sat.Q7 (b:=tb) (o:=aE (p1,c.length)) Nh) 1 rfl;have tl:=ae (Ox.sat.Q7 (b:=tb) (o:=aE (p1,c.length)) Nh);have tl2:=ae Ox.sat.Q5;have H7:=NZ (Ox.to (H:=(nx+1,Is (aU RY B.mp B.mc))::((tb+1,Is (.cells #[.int .i64 B.D.length,.int .i64 c.length] 161 (0,0)))::((tb,Is (aE (p1,c.length)))::(aJ (.slice av c.length cv) c++(bN (gQ wb V wv N8)++(bH 9 1 (.slice (some ⟨g,off,none⟩) ks.length cap) ks.length (ks.map str)++((nx,Is (jy B))::(aG B.pm B.ps B.pc++(bX B.tm B.ts B.tc++(aQ B.cm B.cs B.cc++(aJ (.slice Qu B.D.length O1) B.D++(N9 (et S sp2)++J)))))))))))) (by unfold ff TF;exact ac));clear Ox;simp only[Act.put])
         | (refine ai rfl (lJ Jy (.tmp 102) (.tmp 103) (.tmp 104) rfl underlying238 (nx+1) B.mp B.mc H7.o HR.b (p1,c.length) (RY (B.D.length,c.length)) rfl rfl rfl HR.e ?_);intro w7 OH;have e0:w7.cell? ⟨tb+1,0,none⟩=some (.int .i64 B.D.length):=aa OH.sat.tail.Q5 0 rfl;have e1:w7.cell? ⟨tb+1,1,none⟩=some (.int .i64 c.length):=aa OH.sat.tail.Q5 1 rfl;have tl3:=ae OH.sat.tail.Q5;have H8:=NZ OH;clear OH;simp only[Act.put])
         | fail)
        obtain⟨R8,hR8⟩:=Na ((tb+1,Is (.cells #[.int .i64 B.D.length,.int .i64 c.length] 161 (0,0)))::(tb,Is (aE (p1,c.length)))::(bN (gQ wb V wv N8)++(bH 9 1 (.slice (some ⟨g,off,none⟩) ks.length cap) ks.length (ks.map str)++(aG B.pm B.ps B.pc++(bX B.tm B.ts B.tc++((nx+1,Is (aU RY (gJ B.mp B.mc (p1,c.length) (RY (B.D.length,c.length))) (cy B.mp B.mc (p1,c.length))))::(N9 (et S sp2)++J)))))));have OX:=H8.o.to (H:=((nx,Is (.cells (d9 B.pm B.tm B.cm B.X.sc B.X.sb B.X.used) 123 (0,0)))::aQ B.cm B.cs B.cc)++(aJ (.slice av c.length cv) c++(aJ (.slice Qu B.D.length O1) B.D++R8))) (by rw[hR8];unfold jy;exact ac);have HK2:=NZ (pu nx B.pm B.tm B.cm B.cc B.X.sc B.X.sb B.X.used B.cs c av cv (B.D.length,c.length) (d9 B.pm B.tm B.cm B.X.sc B.X.sb B.X.used) 123 w7 OX.sat.left ⟨rfl,rfl,rfl,rfl,rfl,rfl⟩ HB.a.ct.chunks (kE (OX.sat.right.left) H6.a) (by have:=HB.t (be (dz 1 c) 4);omega) (by have:=HB.e;omega) (by have:=HB.f;omega) (by have:=HB.g;omega));have H9:=Ob OX hR8;clear OX hR8;go_wp2_with fail;refine HK2.o.mono ?_;rintro e w8 ⟨v',rfl,hv',O4⟩;have OM:=H9.a.step (Perm.refl _) O4;have OM:Turns (N9 S) ((nx,Is (jy (B.chunk c (p1,c.length) v')))::(aQ B.cm (B.chunk c (p1,c.length) v').cs (B.chunk c (p1,c.length) v').cc++(aJ (.slice av c.length cv) c++(aJ (.slice Qu B.D.length O1) B.D++R8)))) w w8:=OM;have hcc:=kE (OM.sat.tail.right.left) H6.a;have UO:=NZ (ic 1 av cv c w8 hcc (by have:=HB.e;omega));have QW:=Ob hv' OM;clear hv' O4 OM hcc e0 e1 tl3;go_wp2_with fail;refine UO.o.mono ?_;rintro e w9 ⟨v9,rfl,QS,Rj⟩;have Rn:=(Turns.Qb QW.z Rj).to (H:=aJ (.slice Qu B.D.length O1) B.D++(aJ v9 (frame 1 c)++((nx,Is (jy (B.chunk c (p1,c.length) v')))::(aQ B.cm (B.chunk c (p1,c.length) v').cs (B.chunk c (p1,c.length) v').cc++(aJ (.slice av c.length cv) c++R8))))) ac;obtain⟨sl9,SN,rfl,-,-,RF,-⟩:=aP (dh (Rn.sat.right.left) QS);have Uu:=Ob Rn RF;clear QS Rj Rn RF
        go_upto_region 27 with(first
         | (at_builtin;refine ai rfl ?_;refine fu (.tmp 108) (.tmp 110) rfl (.slice Qu B.D.length O1) B.D rfl Uu.a HB.a.row sl9 (frame 1 c).length SN rfl (frame 1 c) rfl Uu.z (by rw[bi];have:=HB.e;omega) ?_;intro Zc c13 W5 O5 Qw _;have Sl:=Ob O5 Qw;clear O5 Qw)
         | fail)
        obtain⟨q,hq⟩:=Na ((B.D.length,c.length));obtain⟨J2,hJ2⟩:=Na (aJ (.slice av c.length cv) c++(aJ (.slice sl9 (frame 1 c).length SN) (frame 1 c)++J));have hcb2:=HB.a.chunk HI.o.ok HB.d HB.b HB.c HB.e Nb HR.e QW.a Sl.a;have Ym:(c,q)∈(B.chunk c (p1,c.length) v').s.K:=by rw[hq];exact mem_append_right _ Nh
        have Oa:=Sl.z.to (H:=(tb+1,Is (aE q))::(bN (gQ wb V wv N8)++ff S sp2 (.slice (some ⟨g,off,none⟩) ks.length cap) ks nx (nx+1) (.slice Zc (B.D++frame 1 c).length c13) (B.chunk c (p1,c.length) v') ((tb,Is (aE (p1,c.length)))::J2))) (by
         rw[hJ2,hq];unfold ff;rw[FJ,H9.z];show Perm _ ((tb+1,Is (.cells #[.int .i64 B.D.length,.int .i64 c.length] 161 (0,0)))::_);exact ac)
        have O9:iT S (B.chunk c (p1,c.length) v').s.K (V.N8.take m) N8:=HX.w.more _;obtain⟨B2,hB2⟩:=Na (B.chunk c (p1,c.length) v');have HC:Hid (LJ E S (.slice (some ⟨g,off,none⟩) ks.length cap) ks nx (nx+1) w (dn++(vs.take k).map (fun V=>(l,V))) V wb m tb c (p1,c.length) q wv N8 (.slice Zc (B.D.length+(frame 1 c).length) c13) B2 J2 sp2 W5):=NZ (by rw[hB2,<- NM];exact⟨hcb2,O9,hcb2.ct.body Ym,Ym,H6.b,Oa⟩);generalize Yw:Value.slice Zc ((B.D.length:Nat)+(frame 1 c).length) c13=vb2 at HC ⊢;have HX:=OW HX.a HX.b HX.c HX.d;clear hq hJ2 hcb2 Ym Oa O9 hB2 Yw Sl Uu QW H9 H8 H7 H6 HR HB UO HK2 HTB hD hq1 hq2 hbc tl tl2 d0 d1 d2 d3
       all_goals
        refine cH [([0,1,2,3,4,5],6,[0,1,2,3,4]),([],7,[0]),([8,9],10,[])] [] HM.o Nc fun W tW=>?_
        simp only[Mix,map_cons,map_nil,nth,QG,QF];have hT:=tW HC.v;clear tW;have gv:∀{W:World},W.heap[wb]?=some (dB (gQ wb V wv N8))->W.cell? ⟨wb,2,none⟩=some wv:=fun h=>aa h 2 rfl
        have gq:∀{W:World},W.heap[tb+1]?=some (aE q)->W.rangeAt (tb+1) 0 [.int .i64 q.1,.int .i64 q.2]:=fun h j v hv=>aa h (0+j) (by rw[Nat.zero_add,<- Array.getElem?_toList];exact hv)
        have g0:=gv (hT.sat.Q7 (by simp[bN,gQ]));repeat still_step
        refine iR 161 (.tmp 13) rfl rfl (tb+1) 0 rfl [.int .i64 q.1,.int .i64 q.2] _ (gq (hT.sat.Q7 Nh)) underlying161 rfl Nc ?_;refine wpStill_nil (je (aE q) (fun n=>.slice (some ⟨n,0,none⟩) 1 1) Nc hT fun n W1 hT1=>⟨?_,?_⟩)
        ·have g0:=gv (hT1.sat.Q7 (by simp[bN,gQ]));repeat still_step
         exact rfl
        have hn:=hT1.sat.Q5
        refine wpStill_nil (kT (.tmp 116) (.tmp 118) rfl wv N8 rfl (hT1.to (H:=aZ wv N8++((wb,Is (dB (gQ wb V wv N8)))::(n,Is (aE q))::(tb+1,Is (aE q))::ff S sp2 (.slice (some ⟨g,off,none⟩) ks.length cap) ks nx (nx+1) vb2 B2 ((tb,Is (aE (p1,c.length)))::J2))) (by rw[Cl];exact ac)) HX.a (some ⟨n,0,none⟩) 1 1 rfl [q] rfl (fun _=>⟨_,rfl,fun j u hu=>by
         rw[Addr.add_lit,Nat.zero_add];exact aa hn j (by rw[<- Array.getElem?_toList];exact hu)⟩) (by have:=HX.x;simp;omega) fun v2 W2 h1 hT2=>⟨?_,?_⟩)
        ·repeat still_step
         exact rfl
        simp only[Act.put,QA,QB,QC];repeat still_step
        have h21:=cT hT2.sat.left h1;refine wpStill_nil (aX 150 (.tmp 121) (.tmp 119) rfl wb 2 (fA (gQ wb V wv N8)) 152 v2 (hT2.to (H:=(wb,Is (dB (gQ wb V wv N8)))::(aZ v2 (N8++[q])++((n,Is (aE q))::(tb+1,Is (aE q))::ff S sp2 (.slice (some ⟨g,off,none⟩) ks.length cap) ks nx (nx+1) vb2 B2 ((tb,Is (aE (p1,c.length)))::J2)))) ac) rfl rfl (by simp[fA]) Nc h21.1 h21.2.1 fun W3 Oa=>⟨rfl,?_⟩);refine wpStill_nil ?_;have HF:=Ob h1 Oa;clear hT gv gq g0 hT1 hn h1 hT2 h21 Oa;go_wp2_with fail;go_roundw
        case rel =>
         refine⟨m+1,B2,(n,Is (aE q))::(tb+1,Is (aE q))::(tb,Is (aE (p1,c.length)))::J2,sp2,v2,N8++[q],Nb,by go_num,?_,?_,HF.a,HC.e,?_⟩
         ·rw[HX.b,NW,map_cons,map_nil,HX.c];exact HC.a
         ·rw[HX.b];exact HC.b.snoc HX.c HC.c ⟨_,HC.d,rfl⟩
         ·have h3:Turns (N9 S) ((wb,Is (dB (gQ wb V v2 (N8++[q]))))::(aZ v2 (N8++[q])++((n,Is (aE q))::(tb+1,Is (aE q))::ff S sp2 (.slice (some ⟨g,off,none⟩) ks.length cap) ks nx (nx+1) vb2 B2 ((tb,Is (aE (p1,c.length)))::J2)))) w _:=HF.z;exact h3.to (by rw[Cl];unfold ff;exact ac)
        case measure=>simp[intOf];omega
      ·obtain rfl:m=V.N8.length:=Nb
       rw[take_length]at hcb hch;have hD:B.D.length<=810000:=Nat.le_trans (HI.o.le hcb (HD.c k) (by simp[cF])) HI.o.cost;obtain⟨bd1,bd2,bd3,bd4,Zd,-,-⟩:=hcb.bounds HI.o (HD.c k) hD;obtain⟨Qu,O1,hbv,-,hbc,-,-⟩:=aP (dh (hT.sat.sub (G:=aJ u4 B.D) (fun x=>by unfold ff TF;simp only[ao,af];omega)) hcb.row);subst hbv;have Vm:=HL.o (fun e=>by rw[e]at hkl;simp at hkl);have hnum:=HV.f;have hkn:(B.ps.map (·.key)).Nodup:=by rw[<- cQ];exact hcb.ct.paths.map.nodup
       obtain⟨R4,SV⟩:=Na (bH 9 1 (.slice (some ⟨g,off,none⟩) ks.length cap) ks.length (ks.map str)++(bX B.tm B.ts B.tc++(aQ B.cm B.cs B.cc++((nx+1,Is (aU RY B.mp B.mc))::(N9 (et S sp)++J)))));have hT1:=hT.to (H:=((nx,Is (.cells (d9 B.pm B.tm B.cm B.X.sc B.X.sb B.X.used) 123 (0,0)))::(aG B.pm B.ps B.pc++bN (gQ wb V wv N8)))++(aJ (.slice Qu B.D.length O1) B.D++R4)) (by rw[SV];unfold ff TF jy;exact ac);have HA:=NZ (qW nx B.pm B.tm B.cm B.pc B.X.sc B.X.sb B.X.used B.ps l (gQ wb V wv N8) (d9 B.pm B.tm B.cm B.X.sc B.X.sb B.X.used) 123 wr hT1.sat.left ⟨rfl,rfl,rfl,rfl,rfl,rfl⟩ hcb.ct.paths Nr (by have:=Zd l;omega) (by simp only[gQ];omega) (by simp only[gQ];omega));have HX:=WQ hcb hch hpo hAo hT1 SV Vm hnum hkn;clear hcb hch hpo hAo hT bd1 bd2 bd3 bd4 Zd hT1 SV Vm hnum hkn;go_wp2_with fail;refine HA.o.mono ?_;rintro e w5 ⟨v',rfl,hv',hT2⟩;have Oa:=HX.e.step (Perm.refl _) hT2;have Oa:Turns (N9 S) ((nx,Is (jy (B.ver l V wb wv v' N8)))::(aG B.pm (j7 B.ps B.pc l v' (gQ wb V wv N8)) (cy (B.ps.map aR) B.pc l)++(aJ (.slice Qu B.D.length O1) B.D++R4))) w w5:=Oa;have hvf:=(Oa.sat.tail.left.tail.perm (rx B.pc l v' (gQ wb V wv N8) HX.q.o)).right.right
       have HVR:Hid (Calls prog 81 #[str l,.pointer (some ⟨wb,0,none⟩)] w5 (fun e w'=>∃av cv,e=.returned (.agg #[.int .u8 2,str l,.int .i64 V.num,.int .i64 V.size,.slice av (bB N8).length cv])/\ak w' av ((bB N8).map dw)/\aV w5 w')) :=
        NZ (jE l (gQ wb V wv N8) w5 hvf HX.c (by have:=HX.b.len;show N8.length<=_;omega))
       have H3:=Ob hv' Oa;clear hv' hT2 Oa hvf;go_wp2_with fail;refine HVR.o.mono ?_;rintro e w6 ⟨av,cv,rfl,hc6,hs6⟩;have hlen:=HX.b.len
       have HW:=NZ (nz 2 l V.num V.size av cv (bB N8) w6 hc6 (by have:=HX.g;omega) (by have:=HX.h.1.1;unfold I64;omega) (by have:=HX.h.2.1;unfold I64;omega) (fun n hn=>by
        obtain⟨q,hq,rfl⟩:=mem_map.1 hn;obtain⟨e,he,rfl⟩:=HX.b.2 q hq;have:=HX.a.ct.WU e he;unfold I64;omega) (by unfold bB;rw[NP];omega))
       have H6:=NZ (H3.z.Q8 hs6);clear hc6 hs6 hlen;go_wp2_with fail;refine HW.o.mono ?_;rintro e w7 ⟨v7,rfl,PN,OH⟩;have OX:=(Turns.Qb H6.o OH).to (H:=aJ (.slice Qu B.D.length O1) B.D++(aJ v7 (frame 2 (eC l V.num V.size (bB N8)))++((nx,Is (jy (B.ver l V wb wv v' N8)))::(aG B.pm (j7 B.ps B.pc l v' (gQ wb V wv N8)) (cy (B.ps.map aR) B.pc l)++R4)))) ac;obtain⟨sl9,SN,rfl,-,-,RF,-⟩:=aP (dh (OX.sat.right.left) PN);have hfl:=fg l V.num V.size N8;have hlen:=HX.b.len;have H8:=Oz OX RF hfl;clear PN OH OX RF hfl
       go_wp2_with (first
        | (at_builtin;refine ai rfl ?_;refine fu (.tmp 126) (.tmp 131) rfl (.slice Qu B.D.length O1) B.D rfl H8.a HX.a.row sl9 _ SN rfl (frame 2 (eC l V.num V.size (bB N8))) rfl H8.b (by rw[H8.y];have:=HX.g;omega) ?_;intro Zc c13 W5 O5 Qw _;rw[NM]at O5 Qw;have Sl:=Ob O5 Qw;clear O5 Qw)
        | fail)
       go_roundw
       case rel =>
        refine⟨k+1,B.ver l V wb wv v' N8,aJ (.slice sl9 (frame 2 (eC l V.num V.size (bB N8))).length SN) (frame 2 (eC l V.num V.size (bB N8)))++J,sp,Nb,by go_num,?_,HX.d,?_⟩
        ·rw[HV.u];exact HX.a.ver HI.o.ok HX.g HX.h.1.2 HX.h.2.1 Nb HX.h.2.2.1 ⟨HV.c,HV.d⟩ HX.b HX.c H3.a Sl.a
        ·refine Sl.z.to ?_;unfold ff;rw[Kt,HX.f];exact ac
       case measure=>simp[intOf];omega
    ·obtain rfl:k=vs.length:=Nb
     have HR:=Oz hcb hAo hT;clear hcb hAo hT;go_wp2_with fail;go_roundw
     case rel=>exact⟨j+1,B,J,sp,Nb,by go_num,by rw[<- HD.b];rw[take_length]at HR;exact HR.a,HR.b,HR.y⟩
     case measure=>simp[intOf];omega
  ·obtain rfl:j=ks.length:=Nb
   rw[take_length]at hcb;have RG:=hT.sat.Q7 (b:=S.X.tm) (o:=aU str (S.ts.map aR) S.tc) (by simp[ff,ig,bX]);have Um:(S.ts.map aR).length<=90000:=by rw[NP];exact HH.y
   obtain⟨D2,hD2,Zg,XU⟩:=px RG HI.o.ok.tags.map Nb;have Zl:=oL S.X.tm _ D2 Fw wr hD2 (by rw[XU];unfold maxLen;omega) (by rw[XU];omega);have HK2:=NZ (callsIn_wide.1 Zl);have HM2:=NZ (callsIn_wide.1 (uG (some S.X.tm) wr));have hA:=(hT.sat.right.right.left).Q5;have a1:wr.cell? ⟨S.a,1,none⟩=some (.map (some S.X.tm)):=aa hA 1 rfl;have hal6:=ae hA;have HR:=OW hcb hAo hT Zg;clear hcb hAo hT RG Um hD2 Zg XU Zl hA;go_wp2_with fail;refine HM2.o.mono ?_;rintro e w5 ⟨rfl,rfl⟩;go_wp2_with fail;refine HK2.o.mono ?_;rintro e w6 ⟨v2,ss2,rfl,qaq,hown2,-,Xc⟩;obtain⟨hs1,hs2⟩:=sw qaq HR.x;rw[hs1,hs2]at hown2;obtain⟨ns,hns⟩:=Na (e8 S.ts);have qaf:nh ((S.ts.map aR).map (·.key))=ns:=by rw[hns,cQ];rfl
   rw[qaf]at hown2;obtain⟨Wv,Ox⟩:=Bi (HR.c.alloc _) rfl (by rw[NP];exact hown2) Xc;rw[NP]at Wv Ox;obtain⟨nsl,WJ,rfl,qaF,hncap,-,-⟩:=bb Ox.sat.left Wv Nk
   have hnl:ns.length<=90000:=by
    have:=HH.y;rw[hns];unfold e8;rw[length_mergeSort,NP];exact this
   have OH:=Ox.to (H:=ff S sp (.slice nsl ns.length WJ) ns nx (nx+1) u4 B (bH 9 1 (.slice sl ks.length cap) ks.length (ks.map str)++J)) (by unfold ff;exact ac);have hal7:=ae (OH.sat.right.right.left).Q5;have H7:=OW OH Wv hns hnl;clear qaq hown2 Xc hs1 hs2 hns qaf Wv Ox OH a1;go_wp2_with fail;go_loopw [4,143] (fun vb i wr=>MP E S (.slice nsl ns.length WJ) ns nx (nx+1) w vb i wr) (fun _ i _=>ns.length-(intOf i).toNat)
   case atStart=>exact⟨0,B,_,sp,Nat.zero_le _,rfl,by rw[<- H4.c];exact HR.a,HR.b,H7.a⟩
   case round =>
    clear HR;obtain⟨j,B,J,sp,hj,rfl,hcb,hAo,hT⟩:=hrel;by_cases hlt:j<ns.length
    ·obtain⟨sl2,cap2,e1',-,-,hcell,-⟩:=bb (w:=wr) hT.sat.left H7.b Nk;simp only[Value.slice.injEq]at e1';obtain⟨rfl,-,rfl⟩:=e1';obtain⟨g,off,hg,hcc⟩:=hcell Np;subst hg;have hc1:=hcc j (by rw[NP];exact hlt);rw[getElem_map]at hc1;obtain⟨m,hm⟩:=Na (ns[j]);rw[<- hm]at hc1;have hmk:m∈e8 S.ts:=by rw[<- H7.c,hm];exact getElem_mem hlt
     obtain⟨hlk,VT⟩:=Cc HI.o.ok.tags hmk;obtain⟨qac,p,n,hpn,qah,hn32⟩:=HI.o.YL hmk;rw[hpn]at hlk;have RG:=hT.sat.Q7 (b:=S.X.tm) (o:=aU str (S.ts.map aR) S.tc) (by simp[ff,ig,bX]);have hA:=(hT.sat.right.right.left).Q5;have a1:wr.cell? ⟨S.a,1,none⟩=some (.map (some S.X.tm)):=aa hA 1 rfl;have hal8:=ae hA;obtain⟨Qu,O1,hbv,-,hbc,-,-⟩:=aP (dh (hT.sat.sub (G:=aJ u4 B.D) (fun x=>by unfold ff TF;simp only[ao,af];omega)) hcb.row);subst hbv;have hnd:=HI.o.ok.tags.map.nodup
     have hnew:∀t∈dg S.ts (ns.take j),t.1≠m:=fun t ht e=>by
      obtain⟨x,hx,rfl⟩:=mem_map.1 ht
      have hn2:(ns.take (j+1)).Nodup:=(take_sublist _ _).nodup (by
       rw[H7.c];unfold e8;rw[cQ]at hnd;exact(mergeSort_perm _ _).nodup_iff.2 hnd)
      rw[QH hlt,<- hm]at hn2;exact(nodup_append.1 hn2).2.2 x hx m Nh e
     have htk:dg S.ts (ns.take (j+1))=dg S.ts (ns.take j)++[(m,p,(n:Int))]:=by
      unfold dg;rw[QH hlt,<- hm,NW];simp[hpn]
     have hD:B.D.length<=810000:=Nat.le_trans (HI.o.le hcb (prefix_refl _) (HI.o.Qi (by rw[<- H7.c];exact take_prefix _ _))) HI.o.cost;obtain⟨-,-,-,-,Zd,-,bd7⟩:=hcb.bounds HI.o (prefix_refl _) hD;obtain⟨R4,SV⟩:=Na (bH 9 1 (.slice (some ⟨g,off,none⟩) ns.length WJ) ns.length (ns.map str)++(aQ B.cm B.cs B.cc++((nx+1,Is (aU RY B.mp B.mc))::(N9 (et S sp)++J))));have hT1:=hT.to (H:=jB nx (jy B) B.pm B.tm B.ps B.pc B.ts B.tc++(aJ (.slice Qu B.D.length O1) B.D++R4)) (by rw[SV];unfold ff TF jB;exact ac);have Zo:QY nx (jy B) B.pm B.tm B.ps B.pc B.ts B.tc m p wr:=⟨hT1.sat.left,fun a W h=>aa h 0 rfl,fun a W h=>aa h 1 rfl,hcb.ct.paths,hcb.ct.tags,VT,by unfold Py;omega,by have:=Zd p;omega,fun V hV=>by have:=bd7 p V hV;omega⟩;have HP:=NZ (EV nx (jy B) B.pm B.tm B.ps B.pc B.ts B.tc m p n wr Zo);have HX:=NZ (NK hcb (NK hAo (NK hT1 (NK SV (NK hnew (NK htk (NK hlk (NK VT (NK RG (NK qac (NK qah hn32)))))))))));clear hcb hAo hT hcell hcc hm hmk hlk VT hpn RG hA hnd hnew htk Zd bd7 hT1 Zo SV qac qah hn32;unfold ry at HP;go_wp2_with ((refine dY dR rfl _ _ rfl underlying120 HX.q.a HI.o.ok.tags.map (kw _) m rfl rfl HX.h ?_;rw[HX.g]));refine HP.o.mono ?_;rintro e w5 ⟨rfl,hT2⟩;have Oa:=HX.c.step (Perm.refl _) hT2;have RG:=Oa.sat.Q7 (b:=S.X.tm) (o:=aU str (S.ts.map aR) S.tc) (by simp[HX.d,ig,bX]);have a1:w5.cell? ⟨S.a,1,none⟩=some (.map (some S.X.tm)):=aa (Oa.sat.Q7 (b:=S.a) (o:=aL S.X) (by simp[HX.d,ig])) 1 rfl;have hal9:=ae (Oa.sat.Q7 (b:=S.a) (o:=aL S.X) (by simp[HX.d,ig]));have HPR:=NZ (l5 4 m p n w5);unfold ry at HPR;have H3:=Ob Oa RG;clear hT2 Oa RG;go_wp2_with ((refine dY dR rfl _ _ rfl underlying120 H3.z HI.o.ok.tags.map (kw _) m rfl rfl HX.h ?_;rw[HX.g]));refine HPR.o.mono ?_;rintro e w6 ⟨rfl,hs6⟩;have HW:=NZ (ku 4 p m n w6 (by have:=HX.q.c;omega) (by have:=HX.q.b;omega) (by have:=HX.q.d;unfold I64;omega));have H6:=NZ (H3.a.Q8 hs6);clear hs6 a1;go_wp2_with fail;refine HW.o.mono ?_;rintro e w7 ⟨v7,rfl,PN,OH⟩;have OX:=(Turns.Qb H6.o OH).to (H:=aJ (.slice Qu B.D.length O1) B.D++(aJ v7 (frame 4 (eG p m n))++(jB nx (jy B) B.pm B.tm (dk B.ps p n 1) B.pc (eS B.ts B.tc m (mn m (p,(n:Int))) (p,(n:Int))) (cy (B.ts.map aR) B.tc m)++R4))) ac;obtain⟨sl9,SN,rfl,-,-,RF,-⟩:=aP (dh (OX.sat.right.left) PN);have hfl:=uk p m n;have H8:=Oz OX RF hfl;clear PN OH OX RF hfl
     go_wp2_with (first
      | (at_builtin;refine ai rfl ?_;refine fu (.tmp 155) (.tmp 165) rfl (.slice Qu B.D.length O1) B.D rfl H8.a HX.a.row sl9 _ SN rfl (frame 4 (eG p m n)) rfl H8.b (by rw[H8.y];have:=HX.q.b;have:=HX.q.c;omega) ?_;intro Zc c13 W5 O5 Qw _;rw[NM]at O5 Qw;have Sl:=Ob O5 Qw;clear O5 Qw)
      | fail)
     go_roundw
     case rel =>
      refine⟨j+1,B.tag m p n,aJ (.slice sl9 (frame 4 (eG p m n)).length SN) (frame 4 (eG p m n))++J,sp,Nb,by go_num,?_,HX.b,?_⟩
      ·rw[HX.f];exact HX.a.tag HX.q.c HX.q.b HX.q.w HX.e Sl.a
      ·refine Sl.z.to ?_;unfold ff;rw[Ks,HX.d];unfold jB;exact ac
     case measure=>simp[intOf];omega
    ·obtain rfl:j=ns.length:=Nb
     rw[take_length,H7.c]at hcb;have hlen:B.D.length<=jj S:=HI.o.le hcb (prefix_refl _) (HI.o.Qi (prefix_refl _));have Xi:=HI.o.cost;have hroom:=HI.o.room;have UF:=HI.o.ok.ep;obtain⟨Qu,O1,hbv,-,hbc,-,-⟩:=aP (dh (hT.sat.sub (G:=aJ u4 B.D) (fun x=>by unfold ff TF;simp only[ao,af];omega)) hcb.row);subst hbv;obtain⟨e1,he1⟩:=Na (Rz S.X.ep);obtain⟨hN,hhN⟩:=Na (au S.L.n);obtain⟨R5,Zp⟩:=Na ((nx,Is (jy B))::(aG B.pm B.ps B.pc++(bX B.tm B.ts B.tc++(aQ B.cm B.cs B.cc++((nx+1,Is (aU RY B.mp B.mc))::(aq S.X.ab S.X.d { S.A with spare:=sp }++(aG S.X.pm S.ps S.pc++(bX S.X.tm S.ts S.tc++(aQ S.X.cm S.cs S.cc++(bH 9 1 (.slice nsl ns.length WJ) ns.length (ns.map str)++J))))))))));have hT1:=hT.to (H:=aA S.X.d S.L++((S.a,Is (aL S.X))::(aJ (.slice Qu B.D.length O1) B.D++R5))) (by rw[Zp];unfold ff TF;rw[ig];exact ac);have hw1:IntKind.u32.wrap ((S.X.ep:Int)+1)=(e1:Int):=by rw[he1];exact AC _
     have n16:=HI.o.ok.n16;have Px:=HI.o.ok.Px
     have hNl:7<=hN/\hN<=1073741824/\2+e1%2*hN+hN<=S.L.n:=by
      rw[hhN];unfold au;rcases Nat.mod_two_eq_zero_or_one e1 with e|e<;>rw[e]<;>omega
     have hal8:=ae (hT1.sat.right.Q5);have HX:=Ry hcb hlen hT1 Zp he1 hhN hNl;have hbd:B.D.length<=128*hN:=by rw[hhN];omega
     have hN9:hN<=1073741824:=hNl.2.1;clear hcb hlen hT hT1 Zp he1 hhN hNl hroom;go_upto_region 39 with(fail);refine cH [([0,1,2,3,4,5,6,7,8],9,[])] [10] HM.o Nc fun W tW=>?_
     simp only[Mix,map_cons,map_nil,nth,QG,QF];have hT2:=tW HX.c;clear tW;have k6:W.cell? ⟨S.a,6,none⟩=some (.pointer (some ⟨S.X.d,0,none⟩)):=aa hT2.sat.right.Q5 6 rfl;have k8:W.cell? ⟨S.a,8,none⟩=some (.int .u32 S.X.ep):=aa hT2.sat.right.Q5 8 rfl;have hh:=pr S.X.d S.L e1 W hT2.sat.left Nb Px (by rw[HX.e];exact Dc _);rw[<- HX.f]at hh;repeat still_step
     refine wpStill_nil (aO Nc hh ?_);rintro ev W5 ⟨ab,ch,rfl,Oa⟩;refine⟨_,rfl,rfl,?_⟩;simp only[Act.put,QA,QB,QC];repeat still_step
     refine wpStill_nil ?_;have Oj:=Turns.Qb hT2 Oa;obtain⟨T,hTd⟩:=Na (⟨2+e1%2*hN,hN,0,an 128,ch,[]⟩:Oq);rw[<- hTd]at Oj;have hRo:=tD ab S.X.d T W5 Oj.sat.left (by rw[hTd];exact hN9) (by rw[hTd];exact Nat.zero_le _);have e2:((T.count:Int)*128-T.end_)=(hN:Int)*128:=by rw[hTd];simp
     unfold zI at hRo;rw[e2]at hRo;have HRo:=NZ hRo;have H4:=Ob Oj hTd;have hro:¬((hN:Int)*128<(B.D.length:Int)):=Nb
     clear hT2 k6 k8 hh Oa Oj hTd e2 hRo;go_wp2_with fail;refine HRo.o.mono ?_;rintro e W6 ⟨rfl,hs6⟩;have Ox:=(H4.a.Q8 hs6).to (H:=((S.a,Is (aL S.X))::(aq ab S.X.d T++(aA S.X.d S.L++aJ (.slice Qu B.D.length O1) B.D)))++R5) ac
     have HMv:=NZ (Dx S.a ab S.X.d S.X T S.L (.slice Qu B.D.length O1) B.D W6 Ox.sat.left rfl UF HI.o.ok.dev n16 Px (by rw[H4.z];exact HX.q.o) (by rw[H4.z];exact Nat.le_add_right _ _) (by rw[H4.z];show 0<hN;have:=HX.g;omega) (by rw[H4.z]) (by rw[H4.z])
      (by rw[H4.z];exact⟨by rw[ap],Nat.zero_le _,fun s hs=>by cases hs⟩) HX.a.row (by rw[H4.z];exact hbd) (by have:=HX.b;omega) (by have:=HX.b;have:=HCH.o;omega))
     have H6:=NZ Ox;clear Ox hs6;go_wp2_with fail;refine HMv.o.mono ?_;rintro e W7 ⟨rfl,L',OH,hL',hn',hsafe,Xf,hdat,UL,hoth⟩;have OX:=H6.o.step (Perm.refl _) OH;have O4:=OX.to (H:=(S.a,Is (.cells (bm S.X).toList.toArray 128 (0,0)))::(aq ab S.X.d { T with end_:=B.D.length,tail:=bK B.D }++(aA S.X.d L'++(aJ (.slice Qu B.D.length O1) B.D++R5)))) (by show Perm (((S.a,Is (.cells (bm S.X).toList.toArray 128 (0,0)))::_)++_) _;exact ac);have hno:=O4.sat.Q7 (b:=nx) (o:=jy B) (by simp[HX.d]);have n0:W7.cell? ⟨nx,0,none⟩=some (.map (some B.pm)):=aa hno 0 rfl;have n1:W7.cell? ⟨nx,1,none⟩=some (.map (some B.tm)):=aa hno 1 rfl;have n2:W7.cell? ⟨nx,2,none⟩=some (.map (some B.cm)):=aa hno 2 rfl;have n3:W7.cell? ⟨nx,3,none⟩=some (.int .i64 B.X.sc):=aa hno 3 rfl;have n4:W7.cell? ⟨nx,4,none⟩=some (.int .i64 B.X.sb):=aa hno 4 rfl;have n5:W7.cell? ⟨nx,5,none⟩=some (.int .i64 B.X.used):=aa hno 5 rfl;have hnl:=ae hno;have hal9:=ae O4.sat.Q5;have H9:=Ry O4 hL' hn' Xf hdat UL hoth;clear OH OX O4 hno hL' hn' hsafe Xf hdat UL hoth
     go_wp2_with (first
      | (refine ai rfl (Eh 123 (.tmp 200) (.tmp 197) rfl S.a 0 (bm S.X).toList #[.map (some B.pm),.map (some B.tm),.map (some B.cm),.int .i64 B.X.sc,.int .i64 B.X.sb,.int .i64 B.X.used] 128 H9.a rfl rfl (by simp[bm]) Nc (by simp[Value.oneCell']) ?_);intro W8 OM;have d7:=aa OM.sat.Q5 7 (v:=.pointer (some ⟨S.X.ab,0,none⟩)) rfl;have d8:=aa OM.sat.Q5 8 (v:=.int .u32 S.X.ep) rfl;have f7:=aY OM.sat.Q5 7;have f8:=aY OM.sat.Q5 8;have hal10:=ae OM.sat.Q5;have QW:=NZ OM;clear OM;simp only[Act.put])
      | fail)
     have s1:=bq QW.o.sat.Q5 7 (.pointer (some ⟨ab,0,none⟩));have s2:=bq s1 8 (.int .u32 e1);have m1:=((N7.refl (fun k=>k=S.a) W8).set1 (i:=7) (.pointer (some ⟨ab,0,none⟩))).set1 (i:=8) (.int .u32 e1);have Rj:=QW.o.Qa m1 s2;go_ret;refine ⟨rfl,yr S B L' ab ch,?_,?_⟩
     ·obtain⟨-,q1,q2,q3,q4,q5,q6⟩:=H9.o;rw[H4.z,HX.e,HX.f]at q4;have hm2:=KA S.X.ep;refine C0 HI.o HX.a HI.o.pins q1 q2 q3 q4 q5 ?_ ?_
      ·rw[lG,lG];refine q6 _ 1 (.inl ?_) ?_
       ·rw[H4.z];show _<=2+_;omega
       ·rcases Nat.mod_two_eq_zero_or_one S.X.ep with e|e
        ·exact .inl Nb
        ·exact .inr Nb
      ·have hr:Rz S.X.ep%2+1<=2+S.X.ep%2*au S.L.n:=Nat.le_trans Nb (Nat.le_add_right _ _);rcases Nat.mod_two_eq_zero_or_one S.X.ep with e|e
       ·have e2:Rz S.X.ep%2=1:=Nb
        refine q6 _ _ (.inl ?_) (.inr hr);rw[H4.z];show 2+S.X.ep%2*au S.L.n+au S.L.n<=2+e1%2*hN;rw[HX.e,HX.f,e,e2];omega
       ·have e2:Rz S.X.ep%2=0:=Nb
        refine q6 _ _ (.inr ?_) (.inr hr);rw[H4.z];show 2+e1%2*hN+hN<=2+S.X.ep%2*au S.L.n;rw[HX.e,HX.f,e,e2];omega
     ·have he:=HX.e;subst he;have Rn:Turns (N9 S) ((S.a,Is (aL (yr S B L' ab ch).X))::(aq ab S.X.d { T with end_:=B.D.length,tail:=bK B.D }++(aA S.X.d L'++(aJ (.slice Qu B.D.length O1) B.D++R5)))) w _:=Rj;refine Rn.drop (fun x=>?_);rw[Kk,HX.d,H4.z,HX.f];simp only[ao,af];omega
theorem nY{E:Prop}(S:AS)(w:World)(h:Sat w (N9 S))(hi:P5 S E)(b:Nat)(hB:QU S b)(hb:b<=90000):
  Calls prog 71 #[.pointer (some ⟨S.a,0,none⟩)] w (kA S E w):=by
 cases hc:S.X.closed with
 | true=>exact(tq S w h hc).mono (fun e w' he=>.inl ⟨hc,he.1,Turns.same h he.2⟩)
 | false=>exact(xW S w h hi b hB hb hc).mono (fun e w' he=>.inr ⟨hc,he.1,he.2⟩)
structure PB (X:WS) (k m:Nat) (N:Nat:=20000):Prop where
 b:QU X.S (m+2*k)
 vs:X.R.vs.length<=k
 ts:X.R.ts.length<=k
 ml:X.M.length<=m
 nums:∀v∈X.R.vs,v.num<=k
 data:X.S.data.length+4*X.R.vs.length<=110*k+2*m
 n:X.S.L.n=N
 q:0<=X.S.X.quota/\X.S.X.quota<=9223372036854775807
 ab:AB X.S (X.M.map (·.bs))
 told:∃rs H,Told X.S rs H
 ep:X.S.X.ep<=k+1
theorem o7(D:Bs):(aD D).length<=D.length:=by
 unfold aD;rw[cI];exact cR D
theorem Told.YH{S:AS}{rs:mG}{H:List HV}(h:Told S rs H)(hok:Oo S)(hn:16<=S.L.n/\S.L.n<=8388608)(hr:S.data.length<=810000)(d':Nat)(L':Ol)(q:Int)(W:World)(hc:Cp S.L L')(hs:Sat W (aA d' L')):
  Calls prog 22 #[.pointer (some ⟨d',0,none⟩),.int .i64 q] W (fun e W''=>∃S',e=.returned (.tuple #[.pointer (some ⟨S'.a,0,none⟩),.nilIface])/\Po d' L' q S.X.ep (aB L'.now (2+S.X.ep%2*au L'.n) (au L'.n)) S'/\Turns (aA d' L') (N9 S') W W''):=by
 have hD:aB L'.now (2+S.X.ep%2*au L'.n) (au L'.n)=cG rs++an (128*S.A.count-S.data.length):=by
  have h1:=hok.dat.1;have h2:S.A.first=2+S.X.ep%2*au L'.n:=by rw[hok.first,hc.2.1]
  have h3:S.A.count=au L'.n:=by rw[hok.count,hc.2.1]
  rw[hc.2.2.1,<- h2,<- h3,h1,h.data]
 obtain⟨us,wh,rest,u1,u2,u3,u4,-⟩:=h.sec trivial;refine Ht d' L' us S.X.ep wh q W hs hc.1 (by rw[hc.2.1];exact hn.1) (by rw[hc.2.1];exact hn.2) (by rw[hc.2.2.2.2];simp) (by rw[hc.2.2.1];exact u1) u2 (by rw[hc.2.2.1];exact u3) ?_ (fun at_ s hR hF=>?_)
 ·intro at_ s hR;rw[hD]at hR;obtain⟨a,b,e1,e2,-⟩:=xx h.ok hR;rw[h.data,e1,eE,NM]at hr;omega
 ·rw[hD]at hR hF;obtain⟨rfl,-⟩:=xL h.ok hR hF h.run;rw[<- h.data];exact u4
theorem Told.Qp{S S':AS}{rs:mG}{H:List HV}(h:Told S rs H)(hok:Oo S){d':Nat}{L':Ol}{q:Int}(hc:Cp S.L L')(ho:Po d' L' q S.X.ep (aB L'.now (2+S.X.ep%2*au L'.n) (au L'.n)) S'):
  Oo S'/\Lu S S'/\S'.X.used=S.X.used/\S'.data=S.data/\Told S' rs H/\S'.X.sc=S'.K.length/\S'.X.sb=((S'.K.map (·.1.length)).sum:Nat)/\(∀e∈S.K,e.1.length<=65535):=by
 obtain⟨sz,OJ,hct,hK,hdat⟩:=h.open hok hc.2.1 hc.2.2.1 ho;have hok':Oo S':=Gw hok hc.2.1 ho rfl hct hK hdat;have hv:Lu S S':=⟨fun l=>by rw[hct.hist,h.hist],hK,by rw[hct.Qy]⟩;obtain⟨e1,e2,e3,e4,e5⟩:=ho.eX;refine⟨hok',hv,by rw[hct.used,h.used],hdat,?_,by rw[hct.sc,hK],by rw[hct.sb,hK],fun e he=>(hct.Pm e he).2.1⟩;refine⟨h.ok,by rw[hdat,h.data],by rw[hK,hv.2.2];exact h.run,fun l=>by rw[hv.1];exact h.hist l,?_,by rw[hct.used]⟩;rw[e2,hdat];exact fun e=>(h.sec e).to (fun k hk=>by rw[lG,ho.other k 1 (.inl (by rw[ho.A.1];omega)),<- lG,hc.2.2.1]) (Nat.le_refl _)
theorem I6(ts:List OV)(p:Bs)(n:Int):0<=iX ts p n/\iX ts p n<=ts.length:=by
 unfold iX;have:=countP_le_length (p:=fun t:OV=>decide (t.path=p/\t.num=n)) (l:=ts);omega
theorem mK.bump{P:cU}{R:Oh}(h:mK P R)(k:Nat)(d:Int)(tv:Value)(ts:List OV):mK P (fQ R (gY R.vs k d) tv ts):=fun v hv=>by
 obtain⟨v0,hv0,e1,e2,-⟩:=KE v hv
 rw[e1,e2];exact h v0 hv0
end
section
open Go.RowKit Go.Maps
end
section
open Go.RowKit Go.Maps
end
section
open Go.RowKit Go.Maps
theorem I0{S:AS}{p:Bs}{n:Int}{V:Oe}(h:iU S p n V):ah S.ps p≠[]:=fun e=>by
 have:=h.2.2;rw[e]at this;cases this
def Ms(R:Oh)(m p:Bs)(n k:Int):Prop:=(R.closed=true/\k=9)\/(R.closed=false/\az m=false/\k=1)\/(R.closed=false/\az m=true/\cJ R p n=.error k)\/(R.closed=false/\az m=true/\(∃v,cJ R p n=.ok v)/\(∃t∈R.ts,t.name=m)/\k=6)
end
section
open Go.RowKit Go.Maps
end
section
open Go.RowKit Go.Maps
end
section
open Go.RowKit Go.Maps
structure Next (X:WS) (k m N:Nat) (S':AS) (R':Oh) (P':cU):Prop where
 pb:∃M',PB { X with S:=S',R:=R',P:=P',M:=M' } k m N
 link:Link S' R'
 ar:Oo S'
 a:S'.a=X.S.a
 d:S'.X.d=X.S.X.d
 cl:S'.X.closed=X.S.X.closed
 quota:S'.X.quota=X.S.X.quota
 ref:PI R'
 blk:R'.blk=X.R.blk
 more:∀p∈X.P,p∈P'
 Ru:jZ P'
 inp:mK P' R'
 flip:∀rs H Rs R0,Told X.S rs H->U2 X.S rs Rs->R0∈Rs->R0.vs=X.R.vs->R0.ts=X.R.ts->∃rs' H',Told S' rs' H'/\U2 S' rs' (Rs++[R'])
def MU(R:Oh)(P:cU)(l D:Bs)(n:Int)(R':Oh)(P':cU):Prop :=
 (R'=R/\P'=P/\((R.closed=true/\n=9)\/(R.closed=false/\az l=false/\n=1)\/(R.closed=false/\az l=true/\4000<D.length/\n=2)\/(R.closed=false/\az l=true/\D.length<=4000/\R.quota<di R.vs+D.length/\n=7))) \/
 (n=0/\R.closed=false/\az l=true/\D.length<=4000/\(di R.vs:Int)+D.length<=R.quota/\∃VK cv,PE cv D/\PI { R with vv:=VK,vs:=dP R.vs l ⟨l,ky R.vs l R.vs.length,D,cv,0⟩ }/\R'={ R with vv:=VK,vs:=dP R.vs l ⟨l,ky R.vs l R.vs.length,D,cv,0⟩ }/\P'=P++[(cv,D)])
def MQ(R:Oh)(p:Bs)(a n:Int)(R':Oh):Prop :=
 (R'=R/\(cJ R p a=.error n\/(n=5/\∃v,cJ R p a=.ok v/\0<v.held))) \/
 (n=0/\∃k v',∃hk:k<R.vs.length,cJ R p a=.ok R.vs[k]/\R.vs[k].held<=0/\mf v' (pf R.vs k)/\R'=DS R k v')
def MT(R:Oh)(p:Bs)(a n:Int)(R':Oh):Prop :=
 (R'=R/\cJ R p 0=.error n) \/
 (n=0/\∃v vs' c v',cJ R p 0=.ok v/\((gC R.vs p).take (ma (gC R.vs p).length a)).foldl (gw p) (R.vs,0)=(vs',c)/\mf v' vs'/\R'=gS R v' vs')
def MW(R:Oh)(m p:Bs)(a n:Int)(R':Oh):Prop :=
 (R'=R/\Ms R m p a n)\/(n=0/\R.closed=false/\az m=true/\(∀t∈R.ts,t.name≠m)/\∃k tv',∃hk:k<R.vs.length,cJ R p a=.ok R.vs[k]/\PI (fQ R (gY R.vs k 1) tv' (rI R.ts m ⟨m,p,R.vs[k].num⟩))/\R'=fQ R (gY R.vs k 1) tv' (rI R.ts m ⟨m,p,R.vs[k].num⟩))
def MX(R:Oh)(m:Bs)(n:Int)(R':Oh):Prop :=
 (R'=R/\((R.closed=true/\n=9)\/(R.closed=false/\az m=false/\n=1)\/(R.closed=false/\az m=true/\(∀t∈R.ts,t.name≠m)/\n=3))) \/
 (n=0/\R.closed=false/\az m=true/\∃i k tv',∃hi:i<R.ts.length,R.ts[i].name=m/\k<R.vs.length/\bZ R.vs R.ts[i].path R.ts[i].num R.vs.length=k/\PI (fQ R (gY R.vs k (-1)) tv' (qb R.ts i))/\R'=fQ R (gY R.vs k (-1)) tv' (qb R.ts i))
end
section
open Go.RowKit Go.Maps
structure RInv (R:Oh):Prop where
 sorted:R.vs.Pairwise (fun a b=>cE b.path a.path=false)
 UR:∀p,((bF R.vs p).map (·.num)).Pairwise (·<·)
 each:∀v∈R.vs,1<=v.num/\az v.path=true/\v.cont.length<=4000
 QT:R.ts.Pairwise (fun a b=>cE a.name b.name=true)
 P9:∀t∈R.ts,az t.name=true/\∃v∈R.vs,v.path=t.path/\v.num=t.num
 held:∀v∈R.vs,v.held=iX R.ts v.path v.num
theorem RInv.uniq{R:Oh}(I:RInv R):qT R.vs:=Lj I.UR
theorem RInv.closed{R:Oh}(I:RInv R)(c:Bool):RInv { R with closed:=c }:=⟨I.sorted,I.UR,I.each,I.QT,I.P9,I.held⟩
theorem RInv.small{R:Oh}(I:RInv R)(ht:R.ts.length<=100000):∀v∈R.vs,v.held.natAbs<=1099511627776:=fun v hv=>by
 rw[I.held v hv];have:=I6 R.ts v.path v.num;omega
theorem RInv.qaA{R:Oh}(I:RInv R):∀t∈R.ts,∃k:Nat,k<R.vs.length/\bZ R.vs t.path t.num R.vs.length=k:=fun t ht=>by
 obtain⟨-,v,hv,e1,e2⟩:=I.P9 t ht
 obtain⟨i,hi,-,hbe,-⟩:=oW I.uniq (fun v hv=>(I.each v hv).1) hv
 rw[e1,e2]at hbe
 exact⟨i,hi,hbe⟩
theorem RInv.nr{R:Oh}(I:RInv R)(l:Bs):1<=ky R.vs l R.vs.length/\∀v∈bF R.vs l,v.num<ky R.vs l R.vs.length:=by
 rw[ro _ _ _ (Nat.le_refl _),take_length];constructor
 ·cases hg:(bF R.vs l).getLast? with
  | none=>simp
  | some v =>
   have:=(I.each v (mem_filter.1 (mem_of_getLast? hg)).1).1;simp only[Option.map_some,Option.getD_some];omega
 ·intro v hv;have ha:=I.UR l;obtain⟨i,hi,rfl⟩:=getElem_of_mem hv;rw[getLast?_eq_getElem?,getElem?_eq_getElem Nb];simp only[Option.map_some,Option.getD_some];by_cases hlast:i=(bF R.vs l).length-1
  ·subst hlast;omega
  ·have:=pairwise_iff_getElem.1 ha i ((bF R.vs l).length-1) (by simpa using hi) Nj Nb;simp only[getElem_map]at this;omega
theorem RInv.put{R:Oh}(I:RInv R){l D:Bs}(hl:az l=true)(hD:D.length<=4000){vv cv:Value}:RInv { R with vv:=vv,vs:=dP R.vs l ⟨l,ky R.vs l R.vs.length,D,cv,0⟩ }:=by
 obtain⟨hnr1,hpos⟩:=I.nr l;obtain⟨x,hx⟩:=Na (⟨l,ky R.vs l R.vs.length,D,cv,0⟩:Oi);have hxp:x.path=l:=by rw[hx]
 have hins:=Ds I.sorted hxp;rw[hx]at hins;refine⟨Dt I.sorted rfl,fun p=>?_,fun v hv=>?_,I.QT,fun t ht=>?_,fun v hv=>?_⟩
 ·simp only;rw[hins];by_cases hp:p=l
  ·subst hp;rw[NR rfl,NW,pairwise_append];refine⟨I.UR p,pairwise_singleton _ _,fun a ha b hb=>?_⟩;obtain⟨v,hv,rfl⟩:=mem_map.1 ha;simp only[map_cons,map_nil,NU]at hb;subst hb;exact hpos v hv
  ·rw[NQ hp];exact I.UR p
 ·rcases qr.1 hv with hv|rfl
  ·exact I.each v hv
  ·exact⟨hnr1,hl,hD⟩
 ·obtain⟨h1,v,hv,h2⟩:=I.P9 t ht;exact⟨h1,v,qr.2 (.inl hv),h2⟩
 ·rcases qr.1 hv with hv|rfl
  ·exact I.held v hv
  ·refine(Dp (fun t ht=>?_)).symm;rintro⟨e1,e2⟩;obtain⟨-,v,hv,e3,e4⟩:=I.P9 t ht;simp only at e1 e2;have:=hpos v (mem_filter.2 ⟨hv,by simp[e3,e1]⟩);omega
theorem RInv.gone{R:Oh}(I:RInv R){p:Bs}{ns:List Int}{vv:Value}(hg:∀v∈R.vs,v.path=p->v.num∈ns->v.held<=0):RInv { R with vv:=vv,vs:=kI R.vs p ns } where
 sorted:=I.sorted.filter _
 UR:=fun q=>by
  have h1:=I.UR q
  simp only
  rw[F3]
  split
  ·rename_i h;subst h;exact h1.sublist (filter_sublist.map _)
  ·exact h1
 each:=fun v hv=>I.each v (mem_filter.1 hv).1
 QT:=I.QT
 P9:=fun t ht=>by
  obtain⟨h1,v,hv,h2,h3⟩:=I.P9 t ht
  refine⟨h1,v,mem_filter.2 ⟨hv,?_⟩,h2,h3⟩
  cases hb:WE p ns v with
  | false=>rfl
  | true =>
   unfold WE at hb
   simp only[Bool.and_eq_true,decide_eq_true_eq,contains_iff_mem]at hb
   have h4:=hg v hv hb.1 hb.2
   have h5:1<=iX R.ts t.path t.num:=F5 ht
   rw[I.held v hv,h2,h3]at h4
   omega
 held:=fun v hv=>I.held v (mem_filter.1 hv).1
theorem RInv.bump{R:Oh}(I:RInv R){p:Bs}{n d:Int}{tv:Value}{ts':List OV}(h2:ts'.Pairwise (fun a b=>cE a.name b.name=true))(h3:∀t∈ts',az t.name=true/\∃v∈R.vs,v.path=t.path/\v.num=t.num)(h4:∀v∈R.vs,(fW p n d v).held=iX ts' v.path v.num):RInv (fQ R (R.vs.map (fW p n d)) tv ts') where
 sorted:=by
  show(R.vs.map (fW p n d)).Pairwise _
  rw[pairwise_map]
  exact I.sorted.imp fun h=>by rw[(fX p n d _).1,(fX p n d _).1];exact h
 UR:=fun q=>by
  show((bF (R.vs.map (fW p n d)) q).map (·.num)).Pairwise _
  rw[CX,map_map]
  have:(bF R.vs q).map ((·.num) ∘ fW p n d)=(bF R.vs q).map (·.num):=map_congr_left fun v _=>(fX p n d v).2.1
  rw[this];exact I.UR q
 each:=fun v hv=>by
  obtain⟨u,hu,rfl⟩:=mem_map.1 (show v∈R.vs.map (fW p n d)from hv)
  obtain⟨e1,e2,e3,-⟩:=fX p n d u
  rw[e1,e2,e3];exact I.each u hu
 QT:=h2
 P9:=fun t ht=>by
  obtain⟨a,v,hv,b,c⟩:=h3 t ht
  refine⟨a,fW p n d v,mem_map.2 ⟨v,hv,rfl⟩,?_,?_⟩
  ·rw[(fX p n d v).1];exact b
  ·rw[(fX p n d v).2.1];exact c
 held:=fun v hv=>by
  obtain⟨u,hu,rfl⟩:=mem_map.1 (show v∈R.vs.map (fW p n d)from hv)
  obtain⟨e1,e2,-,-⟩:=fX p n d u
  rw[e1,e2];exact h4 u hu
structure O8 (R R':Oh) (P':cU) (k:Nat) (d:Nat:=0):Prop where
 inv:RInv R'
 ok:PI R'
 inp:mK P' R'
 blk:R'.blk=R.blk
 cl:R'.closed=R.closed
 vs:R'.vs.length<=k
 ts:R'.ts.length<=k
 nums:∀v∈R'.vs,v.num<=k
 used:di R'.vs<=di R.vs+d
theorem K5{R:Oh}{p:Bs}{n:Int}{v:Oi}(h:cJ R p n=.ok v):v∈R.vs/\v.path=p:=by
 unfold cJ at h;split at h
 ·cases h
 ·split at h
  ·split at h
   ·rename_i u hu;obtain rfl:=Except.ok.inj h;rw[DT]at hu;obtain⟨h1,h2⟩:=mem_filter.1 (mem_of_getLast? hu);unfold lz at h2;simp only[Bool.and_eq_true,decide_eq_true_eq]at h2;exact⟨h1,h2.1⟩
   ·cases h
  ·cases h
section
variable {R R':Oh} {P P':cU} {k:Nat} (I:RInv R) (ok:PI R) (inp:mK P R) (hv:R.vs.length<=k) (ht:R.ts.length<=k) (hn:∀v∈R.vs,v.num<=k)
include I ok inp hv ht hn
theorem ef{d:Nat}:O8 R R P (k+1) d:=⟨I,ok,inp,rfl,rfl,Nb,Nb,fun v h=>(by have:=hn v h;omega),Nb⟩
theorem xC{l D:Bs}{n:Int}(h:MU R P l D n R' P'):O8 R R' P' (k+1) D.length:=by
 rcases h with⟨rfl,rfl,-⟩|⟨-,-,h2,h3,-,vv,cv,-,hro,rfl,rfl⟩
 ·exact ef I ok inp hv ht hn
 ·obtain⟨n1,n2⟩:=I.nr l;refine⟨I.put h2 h3,hro,fun v hv=>?_,rfl,rfl,by simp only;rw[KM];omega,by simp only;omega,fun v hv=>?_,by simp only;rw[Jg];simp⟩
  ·rcases qr.1 hv with hv|rfl
   ·exact mem_append_left _ (inp v hv)
   ·exact mem_append_right _ Nh
  ·rcases qr.1 hv with hv|rfl
   ·have:=hn v hv;omega
   ·simp only;rw[ro _ _ _ (Nat.le_refl _),take_length]
    cases hg:(bF R.vs l).getLast? with
    | none=>simp;omega
    | some v =>
     have:=hn v (mem_filter.1 (mem_of_getLast? hg)).1;simp only[Option.map_some,Option.getD_some];omega
theorem uS{p:Bs}{ns:List Int}{vv:Value}(hg:∀v∈R.vs,v.path=p->v.num∈ns->v.held<=0)(hro:mf vv (kI R.vs p ns)):O8 R { R with vv:=vv,vs:=kI R.vs p ns } P (k+1) :=
 ⟨I.gone hg,⟨hro,ok.ts⟩,fun v hv=>inp v (mem_filter.1 hv).1,rfl,rfl,Nat.le_trans (length_filter_le _ _) Nb,by simp only;omega,fun v hv=>(by have:=hn v (mem_filter.1 hv).1;omega),jc _ _ _⟩
theorem Gx{p:Bs}{a n:Int}(h:MQ R p a n R'):O8 R R' P (k+1):=by
 rcases h with⟨rfl,-⟩|⟨-,i,vv,hi,h1,h2,h3,rfl⟩
 ·exact ef I ok inp hv ht hn
 ·have hc:=An (p:=R.vs[i].path) (n:=R.vs[i].num) I.uniq hi rfl rfl;unfold DS;rw[hc]at h3 ⊢;refine uS I ok inp hv ht hn (fun v hv hp hm=>?_) h3;rw[NU]at hm;obtain⟨j,hj,rfl⟩:=getElem_of_mem hv;obtain rfl:=I.uniq.one hj hi hp hm;exact h2
theorem Gy{p:Bs}{a n:Int}(h:MT R p a n R'):O8 R R' P (k+1):=by
 rcases h with⟨rfl,-⟩|⟨-,v,vs',c,vv,-,hf,h3,rfl⟩
 ·exact ef I ok inp hv ht hn
 ·have hnl:(gC R.vs p).length=(bF R.vs p).length:=by unfold gC;rw[NP];rfl
  obtain⟨j,hj⟩:=Na (ma (gC R.vs p).length a);have hjl:j<=(bF R.vs p).length:=by rw[hj,hnl];unfold ma;split<;>omega
  have h4:(gC R.vs p).take j=((bF R.vs p).take j).map (·.num):=by unfold gC;rw[map_take];rfl
  rw[<- hj,h4,uL I.uniq (fun v hv=>(I.each v hv).1) p j hjl]at hf;simp only[Prod.mk.injEq]at hf;unfold gS;rw[<- hf.1]at h3 ⊢;refine uS I ok inp hv ht hn (fun v hv hp hm=>?_) h3;obtain⟨u,hu,e⟩:=mem_map.1 hm;obtain⟨hu1,hu2⟩:=mem_filter.1 hu;have hu3:=mem_filter.1 (mem_of_mem_take hu1);obtain⟨i,hi,rfl⟩:=getElem_of_mem hv;obtain⟨i',hi',rfl⟩:=getElem_of_mem hu3.1;obtain rfl:=I.uniq.one hi' hi (by rw[hp];simpa using hu3.2) e;simpa[xc]using hu2
theorem Gz{m p:Bs}{a n:Int}(h:MW R m p a n R'):O8 R R' P (k+1):=by
 rcases h with⟨rfl,-⟩|⟨-,-,hm,hno,i,tv,hi,hg,hro,rfl⟩
 ·exact ef I ok inp hv ht hn
 ·obtain⟨-,hpp⟩:=K5 hg;have hpm:=GV R.ts m ⟨m,p,R.vs[i].num⟩;have hbm:=uv I.uniq hi 1;refine⟨?_,hro,mK.bump inp _ _ _ _,rfl,rfl,?_,?_,fun v hv=>?_,by show di (gY R.vs i 1)<=_;rw[hbm,tX];omega⟩
  ·rw[hbm,hpp];refine I.bump (Ca I.QT hno rfl) (fun t ht=>?_) (fun v hv=>?_)
   ·rcases mem_cons.1 (hpm.mem_iff.1 ht)with rfl|ht
    ·exact⟨hm,R.vs[i],getElem_mem hi,hpp,rfl⟩
    ·exact I.P9 t ht
   ·rw[ux hpm,uw,<- I.held v hv];unfold fW;by_cases hb:v.path=p/\v.num=R.vs[i].num
    ·rw[NR hb,NR ⟨hb.1.symm,hb.2.symm⟩]
    ·rw[NQ hb,NQ (fun e=>hb ⟨e.1.symm,e.2.symm⟩),Int.add_zero]
  ·show(gY R.vs i 1).length<=_;rw[ly];omega
  ·show(rI R.ts m _).length<=_;rw[hpm.length_eq];simp;omega
  ·have hv2:v∈gY R.vs i 1:=hv;rw[hbm]at hv2;obtain⟨u,hu,rfl⟩:=mem_map.1 hv2;rw[(fX _ _ _ u).2.1];have:=hn u hu;omega
theorem GA{m:Bs}{n:Int}(h:MX R m n R'):O8 R R' P (k+1):=by
 rcases h with⟨rfl,-⟩|⟨-,-,hm,i,j,tv,hi,him,hj,hb,hro,rfl⟩
 ·exact ef I ok inp hv ht hn
 ·obtain⟨-,v,hvm,hv1,hv2⟩:=I.P9 R.ts[i] (getElem_mem hi);obtain⟨k',hk',hk2,hb',-⟩:=oW I.uniq (fun v hv=>(I.each v hv).1) hvm;have hkk:k'=j:=by rw[hv1,hv2,hb]at hb';omega
  subst hkk;have hcut:=Li I.QT hi
  have hperm:R.ts.Perm (R.ts[i]::qb R.ts i):=by
   have e:R.ts=R.ts.take i++R.ts[i]::R.ts.drop (i+1):=by rw[<- drop_eq_getElem_cons hi,take_append_drop]
   unfold qb
   calc R.ts.Perm (R.ts.take i++R.ts[i]::R.ts.drop (i+1)):=by rw[<- e]
    _ |>.Perm (R.ts[i]::(R.ts.take i++R.ts.drop (i+1))):=perm_middle
  have hbm:=uv I.uniq hk' (-1);rw[hk2,hv1,hv2]at hbm;refine⟨?_,hro,mK.bump inp _ _ _ _,rfl,rfl,?_,?_,fun u hu=>?_,by show di (gY R.vs k' (-1))<=_;rw[hbm,tX];omega⟩
  ·rw[hbm];refine I.bump (by rw[hcut];exact I.QT.filter _) (fun t ht=>I.P9 t (by rw[hcut]at ht;exact(mem_filter.1 ht).1)) (fun u hu=>?_);have h7:=I.held u hu;rw[ux hperm,uw]at h7;unfold fW;by_cases hb2:u.path=R.ts[i].path/\u.num=R.ts[i].num
   ·rw[NR hb2];rw[NR ⟨hb2.1.symm,hb2.2.symm⟩]at h7;show u.held+-1=_;omega
   ·rw[NQ hb2];rw[NQ (fun e=>hb2 ⟨e.1.symm,e.2.symm⟩)]at h7;omega
  ·show(gY R.vs k' (-1)).length<=_;rw[ly];omega
  ·show(qb R.ts i).length<=_;unfold qb;simp;omega
  ·have hu2:u∈gY R.vs k' (-1):=hu;rw[hbm]at hu2;obtain⟨x,hx,rfl⟩:=mem_map.1 hu2;rw[(fX _ _ _ x).2.1];have:=hn x hx;omega
end
end
section
open Go.RowKit Go.Maps
theorem sW{D:Bs}{X:Om}{ps:List bf}{pc:Nat}{cs:List kx}{cc:Nat}{ts:List fJ}{tc:Nat}{sz:List (OT Int)}{OJ at_:Nat}{s:Rh}(hct:OE D X ps pc cs cc ts tc sz OJ at_ s):∀p∈ps,∀V∈p.g,∃h∈s.H,h.p=p.key/\bV h=bu V:=fun p hp V hV=>by
 have h1:=hct.hist p.key
 rw[ia hct.paths hp]at h1
 have h2:bu V∈p.g.map bu:=mem_map.2 ⟨V,hV,rfl⟩
 rw[h1]at h2
 obtain⟨h,hh,e⟩:=mem_map.1 h2
 exact⟨h,(mem_filter.1 hh).1,by simpa using(mem_filter.1 hh).2,e⟩
theorem Po.ok{d:Nat}{L:Ol}{q:Int}{e:Nat}{D:Bs}{S:AS}(ho:Po d L q e D S)(hn:16<=L.n/\L.n<=1073741824)(he:e<4294967296):Oo S:=by
 obtain⟨at_,s,sz,OJ,hct,-,hdat,hK⟩:=ho.ct;obtain⟨-,e2,-,-,e5⟩:=ho.eX;refine⟨ho.dev.1,by rw[ho.dev.2.1];exact hn.1,by rw[ho.dev.2.1];exact hn.2,⟨by rw[ho.A.2.2.2.1];exact mo _,by rw[ho.A.2.2.2.2];simp,by rw[ho.A.2.2.2.2];intro s hs;cases hs⟩,by rw[ho.A.1,e2,ho.dev.2.1],by rw[ho.A.2.1,ho.dev.2.1],ho.A.2.2.1,ho.A.2.2.2.1,ho.dat,hct.paths,hct.tags,hct.chunks,?_,?_,?_,hct.VF,e5,by rw[e2];exact he⟩
 ·intro k;rw[<- hK];exact hct.kin k
 ·intro x hx;rw[<- hK]at hx;obtain⟨h1,-,h3⟩:=hct.Pm x hx;exact⟨h1,by rw[hdat];exact h3⟩
 ·intro p hp V hV;obtain⟨h,hh,-,e⟩:=sW hct p hp V hV;obtain⟨h1,h2⟩:=hct.SB h hh;unfold bV bu at e;simp only[Prod.mk.injEq]at e;rw[<- hK,<- e.2.1,<- e.2.2.1];exact⟨h1,h2⟩
theorem Po.bound{d:Nat}{L:Ol}{q:Int}{e:Nat}{D:Bs}{S:AS}(ho:Po d L q e D S)(hD:D.length<=810000)(hq:S.X.quota.natAbs<=9223372036854775807):QU S 90000:=by
 obtain⟨at_,s,sz,OJ,hct,-,hdat,hK⟩:=ho.ct;have hle:=hct.le;have hc:=(hct.cnt trivial).n;have hKl:(s.K.map (·.1.length)).sum<=65535*s.K.length:=lj (fun e he=>(hct.Pm e he).2.1);have hHl:(s.H.map (·.size)).sum<=65535*s.H.length:=lj (fun h hh=>((hct.cnt trivial).size h hh).2.2.1);have hT:=congrArg length hct.Qy;rw[NP]at hT;refine⟨by rw[<- hK];omega,?_,Nb,fun p hp=>?_,fun p hp=>?_,by rw[hct.used];omega,by rw[hct.sc];omega,by rw[hct.sb];omega,hq,by rw[ho.dev.2.2.2];simp⟩
 ·have h1:(S.ps.map (·.key)) ⊆ (s.H.map (·.p)):=fun k hk=>by
   obtain⟨p,hp,rfl⟩:=mem_map.1 hk;obtain⟨V,hV⟩:=exists_mem_of_ne_nil _ (hct.VF p hp);obtain⟨h,hh,e,-⟩:=sW hct p hp V hV;exact mem_map.2 ⟨h,hh,e⟩
  have h3:=(pv hct.paths).length_le_of_subset h1;rw[NP,NP]at h3;omega
 ·obtain⟨V0,hV0⟩:=exists_mem_of_ne_nil _ (hct.VF p hp);obtain⟨h0,hh0,e0,-⟩:=sW hct p hp V0 hV0;have h1:=hct.hist p.key;rw[ia hct.paths hp]at h1;have h2:=congrArg length h1;rw[NP,NP]at h2;have h3:=length_filter_le (fun h:HV=>decide (h.p=p.key)) s.H;refine⟨by rw[<- e0];exact((hct.cnt trivial).size h0 hh0).1,Nb,fun V hV=>?_⟩;obtain⟨h,hh,-,ev⟩:=sW hct p hp V hV;obtain⟨-,c2,c3,c4⟩:=(hct.cnt trivial).size h hh;have c5:=(hct.cnt trivial).held h hh;unfold bV bu at ev;simp only[Prod.mk.injEq]at ev;rw[<- ev.1,<- ev.2.1,<- ev.2.2.1,<- ev.2.2.2];exact⟨Nb,Nb,Nb,Nb⟩
 ·have h1:eV p∈s.T:=by rw[<- hct.Qy];exact mem_map.2 ⟨p,hp,rfl⟩
  obtain⟨c1,c2,c3,c4⟩:=(hct.cnt trivial).tag _ h1;have c3:0<=p.g.2:=c3;have c4:p.g.2<4294967296:=c4;exact⟨c1,c2,Nb⟩
structure GB (S:AS) (k:Nat):Prop where
 ok:Oo S
 n:S.L.n=648
 gh:∃H,GH S H/\∀h∈H,h.p.length<=255/\h.num<=4294967295+k/\h.size<=65535/\h.held.natAbs<=41344+k
 tags:∀t∈S.ts,t.key.length<=255/\t.g.1.length<=255/\0<=t.g.2/\t.g.2<=4294967295+k
 sc:S.X.sc=S.K.length
 sb:S.X.sb=((S.K.map (·.1.length)).sum:Nat)
 N8:S.L.N8.length<=100000*k
 quota:0<=S.X.quota/\S.X.quota<=9223372036854775807
theorem GB.room{S:AS}{k:Nat}(h:GB S k):S.A.count=323/\S.data.length<=41344:=by
 have h1:=h.ok.dat.2;have h2:=h.ok.count;rw[h.n]at h2;have h3:au 648=323:=rfl;rw[h3]at h2;exact⟨h2,Nb⟩
theorem wT{H:List HV}{h:HV}(hh:h∈H):h.p.length+16+4*h.N8.length<=il H:=by
 unfold il;obtain⟨a,b,rfl⟩:=append_of_mem hh;simp only[NW,map_cons,sum_append,sum_cons];omega
theorem GH.vers{S:AS}{H:List HV}(t:GH S H){l:Bs}{V:Oe}(hV:V∈ah S.ps l):∃h∈H,h.p=l/\bV h=bu V:=by
 have h2:bu V∈(ah S.ps l).map bu:=mem_map.2 ⟨V,hV,rfl⟩;rw[t.hist]at h2;obtain⟨h,hh,e⟩:=mem_map.1 h2;exact⟨h,(mem_filter.1 hh).1,by simpa using(mem_filter.1 hh).2,e⟩
theorem qs{S:AS}(hok:Oo S){p:bf}(hp:p∈S.ps){V:Oe}(hV:V∈p.g):V∈ah S.ps p.key:=by rw[ia hok.paths hp];exact hV
theorem GB.b{S:AS}{k:Nat}(h:GB S k)(hk:k<=1000):QU S 70000:=by
 obtain⟨H,t,hH⟩:=h.gh;obtain⟨-,hd⟩:=h.room;have hcn:=t.need;have c1:=wS H;have c2:=wU S.K;have c3:=wV (S.ts.map eV);rw[NP]at c3;have hKl:(S.K.map (·.1.length)).sum<=65535*S.K.length:=lj (fun e he=>by have:=(dD (h.ok.Pm e he).2.2).2.2.2.2;omega);have hHl:(H.map (·.size)).sum<=65535*H.length:=lj (fun x hx=>(hH x hx).2.2.1);have hq:=h.quota;have hch:=h.N8;refine⟨Nb,?_,Nb,fun p hp=>?_,fun p hp=>?_,by rw[t.used];omega,by rw[h.sc];omega,by rw[h.sb];omega,Nb,Nb⟩
 ·have h1:(S.ps.map (·.key)) ⊆ (H.map (·.p)):=fun k hk=>by
   obtain⟨p,hp,rfl⟩:=mem_map.1 hk;obtain⟨V,hV⟩:=exists_mem_of_ne_nil _ (h.ok.some p hp);obtain⟨x,hx,e,-⟩:=t.vers (qs h.ok hp hV);exact mem_map.2 ⟨x,hx,e⟩
  have h3:=(pv h.ok.paths).length_le_of_subset h1;rw[NP,NP]at h3;omega
 ·obtain⟨V0,hV0⟩:=exists_mem_of_ne_nil _ (h.ok.some p hp);obtain⟨h0,hh0,e0,-⟩:=t.vers (qs h.ok hp hV0);have h1:=t.hist p.key;rw[ia h.ok.paths hp]at h1;have h2:=congrArg length h1;rw[NP,NP]at h2;have h3:=length_filter_le (fun h:HV=>decide (h.p=p.key)) H;refine⟨by rw[<- e0];exact(hH h0 hh0).1,Nb,fun V hV=>?_⟩;obtain⟨x,hx,-,ev⟩:=t.vers (qs h.ok hp hV);obtain⟨-,d2,d3,d4⟩:=hH x hx;have d5:=wT hx;unfold bV bu at ev;simp only[Prod.mk.injEq]at ev;rw[<- ev.1,<- ev.2.1,<- ev.2.2.1,<- ev.2.2.2];exact⟨Nb,Nb,Nb,Nb⟩
 ·obtain⟨d1,d2,d3,d4⟩:=h.tags p hp;exact⟨d1,d2,Nb⟩
theorem GB.mono{S:AS}{k k':Nat}(h:GB S k)(hk:k<=k'):GB S k' where
 ok:=h.ok
 n:=h.n
 gh:=by
  obtain⟨H,t,hH⟩:=h.gh
  exact⟨H,t,fun x hx=>by obtain⟨a,b,c,d⟩:=hH x hx;exact⟨a,Nb,c,Nb⟩⟩
 tags:=fun t ht=>by obtain⟨a,b,c,d⟩:=h.tags t ht;exact⟨a,b,c,Nb⟩
 sc:=h.sc
 sb:=h.sb
 N8:=by have:=h.N8;have:=Nat.mul_le_mul_left 100000 hk;omega
 quota:=h.quota
theorem GB.like{S S':AS}{k:Nat}(h:GB S k)(hok':Oo S')(hn:S'.L.n=S.L.n)(hps:S'.ps=S.ps)(hts:S'.ts=S.ts)(hK:S'.K=S.K)(hd:S'.data=S.data)(hX:S'.X.used=S.X.used/\S'.X.sc=S.X.sc/\S'.X.sb=S.X.sb/\S'.X.quota=S.X.quota)(hc:S'.L.N8.length<=100000*k):GB S' k where
 ok:=hok'
 n:=hn.trans h.n
 gh:=by
  obtain⟨H,t,hH⟩:=h.gh
  exact⟨H,⟨by rw[hps];exact t.hist,by rw[hX.1];exact t.used,by rw[hK,hts,hd];exact t.need⟩,hH⟩
 tags:=by rw[hts];exact h.tags
 sc:=by rw[hX.2.1,hK];exact h.sc
 sb:=by rw[hX.2.2.1,hK];exact h.sb
 N8:=hc
 quota:=by rw[hX.2.2.2];exact h.quota
theorem GB.spare{S:AS}{k:Nat}(h:GB S k){sp:List (Nat×Nat×Nat)}(ha:Ov { S.A with spare:=sp }):GB (et S sp) k:=h.like (h.ok.spare ha) rfl rfl rfl rfl rfl ⟨rfl,rfl,rfl,rfl⟩ h.N8
theorem GB.flush{S:AS}{k:Nat}(h:GB S k){L':Ol}(hf:nD S.L L'):GB (gI S L') k:=h.like (h.ok.flush hf) hf.2.1 rfl rfl rfl rfl ⟨rfl,rfl,rfl,rfl⟩ (by show L'.N8.length<=_;rw[hf.2.2.2.2];simp)
theorem GB.close{S:AS}{k:Nat}(h:GB S k):GB (yq S) k:=h.like h.ok.close rfl rfl rfl rfl rfl ⟨rfl,rfl,rfl,rfl⟩ h.N8
theorem A0{vs:List Oe}{b:Nat}(h:∀V∈vs,V.num<=b):eM vs<=b:=by
 unfold eM
 cases hg:vs.getLast? with
 | none=>simp
 | some V=>exact h V (mem_of_getLast? hg)
theorem GB.put{S S':AS}{k:Nat}(h:GB S k){l D:Bs}{V:Oe}{b:Nat}(hp:PW S S' l D V)(hok':Oo S')(_:QU S' b)(_:b<=90000)(hl:l.length<=255)(hD:D.length<=4000)(hch:S'.L.N8.length<=100000*(k+1)):GB S' (k+1):=by
 obtain⟨H,t,hH⟩:=h.gh
 have hn:∀U∈ah S.ps l,U.num<=4294967295+k:=fun U hU=>by
  obtain⟨x,hx,-,e⟩:=t.vers hU;have:=(hH x hx).2.1;unfold bV bu at e;simp only[Prod.mk.injEq]at e;omega
 have hVn:V.num<=4294967295+(k+1):=by rw[hp.num];have:=A0 hn;omega
 refine⟨hok',hp.n.trans h.n,⟨H++[⟨l,V.num,V.size,V.N8,0⟩],⟨fun m=>?_,?_,?_⟩,fun x hx=>?_⟩,?_,?_,?_,hch,by rw[hp.quota];exact h.quota⟩
 ·rw[hp.vers,filter_append,NW];by_cases hm:m=l
  ·subst hm;rw[NR rfl,NW,t.hist];congr 1;simp[bu,bV,hp.held]
  ·rw[NQ hm,t.hist];have:¬l=m:=fun e=>hm e.symm
   simp[this]
 ·rw[hp.used,t.used,NW,sum_append];simp[hp.size]
 ·have h1:=t.need;have h2:=fg l V.num V.size V.N8
  have h3:ga (bW S.data.length (bJ S D))=(dc (bJ S D)).length:=by
   have key:∀(fs:List Bs) (a:Nat),ga (bW a fs)=(dc fs).length:=by
    intro fs;induction fs with
    | nil=>intro a;rfl
    | cons c r ih =>
     intro a;have h1:=ih (a+c.length+9);have e2:dc (c::r)=frame 1 c++dc r:=rfl;rw[e2,NM,bi,<- h1];show c.length+9+ga (bW (a+c.length+9) r)=_;omega
   exact key _ _
  rw[hp.K,hp.ts,hp.data];unfold ga il at *
  rw[NW,sum_append,NW,sum_append,NM,NM,h2];simp only[map_cons,map_nil,sum_cons,sum_nil];omega
 ·rcases mem_append.1 hx with hx|hx
  ·obtain⟨a,b,c,d⟩:=hH x hx;exact⟨a,Nb,c,Nb⟩
  ·rw[mem_singleton.1 hx];exact⟨hl,hVn,by show V.size<=_;rw[hp.size];omega,Nh⟩
 ·rw[hp.ts];intro u hu;obtain⟨a,b,c,d⟩:=h.tags u hu;exact⟨a,b,c,Nb⟩
 ·rw[hp.sc,hp.K,h.sc,NM]
  have:∀(fs:List Bs) (a:Nat),(bW a fs).length=fs.length:=fun fs=>by
   induction fs with
   | nil=>intro a;rfl
   | cons c r ih=>intro a;simp[bW,ih]
  rw[this];omega
 ·rw[hp.sb,hp.K,h.sb,NW,sum_append]
  have:∀(fs:List Bs) (a:Nat),(bW a fs).map (·.1.length)=fs.map length:=fun fs=>by
   induction fs with
   | nil=>intro a;rfl
   | cons c r ih=>intro a;simp[bW,ih]
  rw[this];omega
theorem C1(H:List HV)(p:Bs)(ns:List Int):il (iV H p ns)<=il H:=jc _ _ _
theorem GB.gone{S:AS}{k:Nat}(h:GB S k){p:Bs}{ns:List Int}{v':Value}{L':Ol}(hr:PS S L' (frame 3 (fP p ns)))(hl:p.length<=255)(hp:eP v' (dW ns (ah S.ps p)))(hne:ah S.ps p≠[]):GB (r9 S p ns v' L') (k+1):=by
 obtain⟨H,t,hH⟩:=h.gh;have hok':Oo (r9 S p ns v' L'):=I3 h.ok hr Nr hp hne;have hs:=FQ H p ns;rw[<- t.hist,<- I4]at hs;have hd:=hok'.dat.2;have hcnt:=hok'.count;have hdl:(S.data++frame 3 (fP p ns)).length<=128*S.A.count:=hd;obtain⟨hc1,-⟩:=h.room;rw[hc1,NM]at hdl;refine⟨hok',by show L'.n=_;rw[hr.n];exact h.n,⟨iV H p ns,⟨fun l=>?_,?_,?_⟩,fun x hx=>?_⟩,?_,h.sc,h.sb,?_,h.quota⟩
 ·show(ah (kd S.ps S.pc p v' ns) l).map bu=_;rw[ug];unfold iV;rw[filter_filter];by_cases hl:l=p
  ·subst hl;rw[NR rfl,Gd,t.hist,filter_map,filter_filter];congr 1;refine filter_congr fun x _=>?_
   by_cases hx:x.p=l
   ·simp only[Function.comp_apply,bV,hx,decide_true,Bool.true_and,Bool.and_true]
   ·simp only[hx,decide_false,Bool.false_and,Bool.and_false]
  ·rw[NQ hl,t.hist];congr 1;refine filter_congr fun x _=>?_
   by_cases hx:x.p=l
   ·have:¬x.p=p:=fun e=>hl (hx.symm.trans e)
    simp[hx,hl]
   ·simp[hx]
 ·show S.X.used-(cw ns (ah S.ps p):Nat)=_;rw[t.used];omega
 ·have h1:=t.need;have h2:=C1 H p ns;show ga S.K+il (iV H p ns)+cF (S.ts.map eV)<=(S.data++frame 3 (fP p ns)).length;rw[NM];omega
 ·obtain⟨a,b,c,d⟩:=hH x (mem_filter.1 hx).1;exact⟨a,Nb,c,Nb⟩
 ·intro u hu;obtain⟨a,b,c,d⟩:=h.tags u hu;exact⟨a,b,c,Nb⟩
 ·show L'.N8.length<=_;have:=hr.N8;have:=h.N8;omega
theorem GB.hold{S S':AS}{k:Nat}(h:GB S k){p:Bs}{n d:Int}(hd1:d.natAbs<=1){L':Ol}{r:Bs}(hr:PS S L' r)(hok':Oo S')(hps:S'.ps=dk S.ps p n d)(hS:S'.K=S.K/\S'.L=L'/\S'.X=S.X/\S'.data=S.data++r/\S'.A.count=S.A.count)(hT:cF (S'.ts.map eV)<=cF (S.ts.map eV)+r.length)(ht:∀t∈S'.ts,t.key.length<=255/\t.g.1.length<=255/\0<=t.g.2/\t.g.2<=4294967295+k):GB S' (k+1):=by
 obtain⟨H,t,hH⟩:=h.gh;have hdl:=hok'.dat.2;obtain⟨hc1,-⟩:=h.room;rw[hS.2.2.2.2,hS.2.2.2.1,hc1,NM]at hdl;refine⟨hok',by rw[hS.2.1,hr.n];exact h.n,⟨eZ H p n d,⟨fun l=>by rw[hps];exact Dq t.hist p n d l,by rw[hS.2.2.1,F9];exact t.used,?_⟩,fun x hx=>?_⟩,fun u hu=>?_,by rw[hS.2.2.1,hS.1];exact h.sc,by rw[hS.2.2.1,hS.1];exact h.sb,?_,by rw[hS.2.2.1];exact h.quota⟩
 ·have h1:=t.need;rw[hS.1,hS.2.2.2.1,o9,NM];omega
 ·obtain⟨x0,hx0,e1,e2,e3,e4,e5⟩:=nM hx;obtain⟨a,b,c,e⟩:=hH x0 hx0;rw[e1,e2,e3];refine⟨a,Nb,c,?_⟩;rcases e5 with e5|e5<;>rw[e5]<;>omega
 ·obtain⟨a,b,c,e⟩:=ht u hu;exact⟨a,b,c,Nb⟩
 ·rw[hS.2.1];have:=hr.N8;have:=h.N8;omega
theorem GB.col{S:AS}{k:Nat}(h:GB S k)(hk:k<=1000):P5 S False:=by
 obtain⟨H,t,hH⟩:=h.gh;obtain⟨hc1,hd⟩:=h.room;have hcn:=t.need
 have Xi:jj S<=41344:=by
  have hkn:(fm S.ps).Nodup:=by
   unfold fm nh;exact(mergeSort_perm _ _).nodup_iff.2 (by rw[<- cQ];exact h.ok.paths.map.nodup)
  have hp:=lZ (fun x:Bs×Oe=>x.1) (·.2.N8.length) (fun h:HV=>h.p) (·.N8.length) (A:=de S (fm S.ps)) (B:=H) (fun l=>by
   have e1:=congrArg (List.map (fun V:Oe=>V.N8.length)) (kZ S l hkn);have e2:=congrArg (List.map (fun t:CG=>t.2.2.1.length)) (t.hist l);rw[map_map]at e1;rw[map_map,map_map]at e2;refine e1.trans (Eq.trans ?_ e2);split
   ·rfl
   ·rename_i hl
    have:ah S.ps l=[]:=by
     cases hv:ah S.ps l with
     | nil=>rfl
     | cons V r =>
      obtain⟨p,hp,hk,-⟩:=ft (show ah S.ps l≠[] by rw[hv];simp);exact absurd (rF.2 (mem_map.2 ⟨p,hp,hk⟩)) hl
    rw[this];rfl)
  have h2:=(hp.map (fun t=>t.1.length+16+4*t.2)).sum_nat;rw[map_map,map_map]at h2;unfold jj mB;unfold il at hcn;simp only[Function.comp_def]at h2;rw[h2];omega
 have h3:au 648=323:=rfl;refine⟨h.ok,fun e=>e.elim,fun l V hV=>?_,fun u hu=>?_,fun e=>e.elim,Nb,fun e=>e.elim,fun e=>e.elim,by rw[h.n,h3];omega⟩
 ·obtain⟨x,hx,e0,ev⟩:=t.vers hV;obtain⟨a,b,c,d⟩:=hH x hx;have d5:=wT hx;unfold bV bu at ev;simp only[Prod.mk.injEq]at ev;rw[<- e0,<- ev.1,<- ev.2.1,<- ev.2.2.1];exact⟨⟨Nb,fun e=>e.elim⟩,Nb,Nb,a⟩
 ·obtain⟨a,b,c,d⟩:=h.tags u hu;exact⟨a,b,c,Nb,fun e=>e.elim⟩
theorem GB.collected{S S':AS}{k:Nat}(h:GB S k)(hc:QV S S' False):GB S' (k+1):=by
 obtain⟨H,t,hH⟩:=h.gh;obtain⟨H',t'⟩:=hc.gh
 have hrm:S'.data.length<=41344:=by
  have h1:=hc.ok.dat.2;have h2:=hc.ok.count;rw[hc.n,h.n]at h2;have h3:au 648=323:=rfl;rw[h3]at h2;omega
 refine⟨hc.ok,hc.n.trans h.n,⟨H',t',fun x hx=>?_⟩,fun u hu=>?_,hc.sc,hc.sb,by rw[hc.N8];simp,by rw[hc.quota];exact h.quota⟩
 ·have h1:bV x∈(ah S'.ps x.p).map bu:=by
   rw[t'.hist];exact mem_map.2 ⟨x,mem_filter.2 ⟨hx,Nh⟩,rfl⟩
  obtain⟨V,hV,e⟩:=mem_map.1 h1;have h2:gG S'.K V∈(ah S.ps x.p).map (gG S.K):=by rw[<- hc.views];exact mem_map.2 ⟨V,hV,rfl⟩
  obtain⟨V0,hV0,e0⟩:=mem_map.1 h2;obtain⟨y,hy,ey,ev⟩:=t.vers hV0;obtain⟨a,b,c,d⟩:=hH y hy;have hh:=hc.ZU x.p V hV;unfold bV bu at e ev;unfold gG at e0;simp only[Prod.mk.injEq]at e e0 ev;rw[<- ey];exact⟨a,Nb,Nb,Nb⟩
 ·have h1:Cb u∈S.ts.map Cb:=hc.tags.mem_iff.1 (mem_map.2 ⟨u,hu,rfl⟩);obtain⟨u0,hu0,e⟩:=mem_map.1 h1;obtain⟨a,b,c,d⟩:=h.tags u0 hu0;unfold Cb at e;simp only[Prod.mk.injEq]at e;rw[<- e.1,<- e.2.1,<- e.2.2];exact⟨a,b,c,Nb⟩
theorem GB.open{d:Nat}{L:Ol}{q:Int}{e:Nat}{D:Bs}{S:AS}(ho:Po d L q e D S)(hn:L.n=648)(he:e<4294967296)(hq:q<=9223372036854775807):GB S 0:=by
 have hok:=ho.ok (by rw[hn];omega) he;obtain⟨at_,s,sz,OJ,hct,-,hdat,hK⟩:=ho.ct;obtain⟨-,-,e3,-,-⟩:=ho.eX
 have hrm:S.data.length<=41344:=by
  have h1:=hok.dat.2;have h2:=hok.count;rw[ho.dev.2.1,hn]at h2;have h3:au 648=323:=rfl;rw[h3]at h2;omega
 have hal:at_=S.data.length:=by rw[hdat,NS,Nat.min_eq_left hct.le]
 obtain⟨rs,r1,r2,r3⟩:=uP (hct.reach trivial) hct.le;have Vp:=BN r3 Nh;rw[r2,<- hdat]at Vp;have hcnt:=hct.cnt trivial;have hcl:fO q=S.X.quota:=e3.symm;refine⟨hok,ho.dev.2.1.trans hn,⟨s.H,⟨hct.hist,hct.used,?_⟩,fun x hx=>?_⟩,fun u hu=>?_,by rw[hct.sc,hK],by rw[hct.sb,hK],by rw[ho.dev.2.2.2];simp,?_⟩
 ·rw[<- hK,hct.Qy];unfold need at Vp;simp only[ga,il,cF,map_nil,sum_nil]at Vp ⊢;omega
 ·obtain⟨a,b,c,-⟩:=hcnt.size x hx;have:=hcnt.held x hx;exact⟨a,Nb,c,Nb⟩
 ·have h1:eV u∈s.T:=by rw[<- hct.Qy];exact mem_map.2 ⟨u,hu,rfl⟩
  obtain⟨c1,c2,c3,c4⟩:=hcnt.tag _ h1;have c3:0<=u.g.2:=c3;have c4:u.g.2<4294967296:=c4;exact⟨c1,c2,c3,Nb⟩
 ·rw[e3];unfold fO;split<;>omega
theorem GB.start{q:Int}{d:Nat}{S:AS}(h:sU 648 q d S)(hq:q<=9223372036854775807):GB S 0:=by
 obtain⟨s1,s2,s3,s4,s5,s6,s7,s8,s9,s10,s11,s12,s13,s14,s15,-⟩:=h;refine⟨s1,s12,⟨[],⟨fun l=>by rw[s8];rfl,by rw[s5];rfl,by rw[s10,s9];simp[ga,il,cF]⟩,(fun x hx=>by cases hx)⟩,(by rw[s9];intro u hu;cases hu),by rw[s6,s10];rfl,by rw[s7,s10];rfl,by rw[s15];simp,?_⟩;rw[s4];unfold fO;split<;>omega
def gF(X:WS):HF:=(X.U.blk,Is (bw X.U))::(N9 X.S++(aC X.R++(ay X.P++bP X.U.most X.M)))
structure PV (w0 W:World) (X:WS):Prop where
 turns:Turns [] (gF X) w0 W
 a:X.U.a=some X.S.a
 r:X.U.r=X.R.blk
 ref:PI X.R
 Ru:jZ X.P
 inp:mK X.P X.R
 most:vi X.U.most X.M
 ms:∀x∈X.M,Fr w0 X.P x
 lc:X.R.closed=X.S.X.closed
 inv:RInv X.R
structure GP (X:WS) (k m:Nat):Prop where
 gb:GB X.S k
 vs:X.R.vs.length<=k
 ts:X.R.ts.length<=k
 nums:∀v∈X.R.vs,v.num<=k
 used:di X.R.vs<=m
 ml:X.M.length<=m
 mb:∀x∈X.M,x.bs.length<=4000
theorem GP.mono{X:WS}{k m k' m':Nat}(h:GP X k m)(hk:k<=k')(hm:m<=m'):GP X k' m' :=
 ⟨h.gb.mono hk,by have:=h.vs;omega,by have:=h.ts;omega,fun v hv=>(by have:=h.nums v hv;omega),by have:=h.used;omega,by have:=h.ml;omega,h.mb⟩
theorem PV.Qj{w0 W W':World}{X:WS}{k m:Nat}(h:PV w0 W X)(hp:GP X k m)(hk:k<=1000)(hs:Sat W' (aC X.R++ay X.P)):OD X.R X.P W' :=
 ⟨hs.left,h.ref,hs.right,h.Ru,h.inp,by have:=hp.vs;omega,fun v hv=>by have:=(h.inv.each v hv).2.2;omega⟩
structure RB (R:Oh) (P:cU) (k:Nat):Prop where
 inv:RInv R
 ok:PI R
 Ru:jZ P
 inp:mK P R
 vs:R.vs.length<=k
 ts:R.ts.length<=k
 nums:∀v∈R.vs,v.num<=k
theorem RB.at{R:Oh}{P:cU}{k:Nat}(h:RB R P k)(hk:k<=1000){W:World}(hs:Sat W (aC R++ay P)):OD R P W :=
 ⟨hs.left,h.ok,hs.right,h.Ru,h.inp,by have:=h.vs;omega,fun v hv=>by have:=(h.inv.each v hv).2.2;omega⟩
theorem PV.rb{w0 W:World}{X:WS}{k m:Nat}(h:PV w0 W X)(hp:GP X k m):RB X.R X.P k:=⟨h.inv,h.ref,h.Ru,h.inp,hp.vs,hp.ts,hp.nums⟩
def gK(w0:World)(X:WS)(k m:Nat)(e:Ending)(W':World):Prop:=∃z X',e=.returned (.bool z)/\PV w0 W' X'/\GP X' k m/\X'.U.blk=X.U.blk
theorem PV.back{w0 W W':World}{X:WS}(h:PV w0 W X)(hT:Turns [] (gF X) w0 W'):PV w0 W' X:={ h with turns:=hT }
theorem PV.next{w0 W W':World}{X:WS}(h:PV w0 W X){S':AS}{R':Oh}(hT:Turns [] (gF { X with S:=S',R:=R' }) w0 W')(ha:S'.a=X.S.a)(hr:R'.blk=X.R.blk)(hro:PI R')(hin:mK X.P R')(hl:R'.closed=S'.X.closed)(hi:RInv R'):PV w0 W' { X with S:=S',R:=R' } where
 turns:=hT
 a:=by show X.U.a=some S'.a;rw[ha];exact h.a
 r:=by show X.U.r=R'.blk;rw[hr];exact h.r
 ref:=hro
 Ru:=h.Ru
 inp:=hin
 most:=h.most
 ms:=h.ms
 lc:=hl
 inv:=hi
def Ls(w0:World)(X:WS)(Φ:AS->Prop)(Ψ:Oh->Prop)(e:Ending)(w':World):Prop:=∃z S' R',e=.returned (.bool z)/\Φ S'/\Ψ R'/\Turns [] (gF { X with S:=S',R:=R' }) w0 w'
theorem vT(w0 W:World)(X:WS)(o:Pj)(h:PV w0 W X)(hE:bh w0)(hk:o.kind=9\/o.kind=10\/o.kind=11\/o.kind=12)(Φ:AS->Prop)(Ψ:Oh->Prop)(hours:(∀W',Sat W' (N9 X.S)->Calls prog 62 #[.pointer (some ⟨X.S.a,0,none⟩),str o.s,.int .i64 o.a] W' (fun e w'=>∃ev n S',e=.returned (ev)/\oP ev n/\Φ S'/\Turns (N9 X.S) (N9 S') W' w')) /\
   (∀W',Sat W' (N9 X.S)->Calls prog 64 #[.pointer (some ⟨X.S.a,0,none⟩),str o.s,.int .i64 o.a] W' (fun e w'=>∃c ev n S',e=.returned (.tuple #[.int .i64 c,ev])/\oP ev n/\Φ S'/\Turns (N9 X.S) (N9 S') W' w')) /\
   (∀W',Sat W' (N9 X.S)->Calls prog 66 #[.pointer (some ⟨X.S.a,0,none⟩),str o.t,str o.s,.int .i64 o.a] W' (fun e w'=>∃ev n S',e=.returned (ev)/\oP ev n/\Φ S'/\Turns (N9 X.S) (N9 S') W' w')) /\
   (∀W',Sat W' (N9 X.S)->Calls prog 68 #[.pointer (some ⟨X.S.a,0,none⟩),str o.t] W' (fun e w'=>∃ev n S',e=.returned (ev)/\oP ev n/\Φ S'/\Turns (N9 X.S) (N9 S') W' w')))(href:(∀W',Sat W' (aC X.R++ay X.P)->Calls prog 63 #[.pointer (some ⟨X.R.blk,0,none⟩),str o.s,.int .i64 o.a] W' (fun e w'=>∃n R',e=.returned (.int .i64 n)/\Ψ R'/\Turns (aC X.R++ay X.P) (aC R'++ay X.P) W' w')) /\
   (∀W',Sat W' (aC X.R++ay X.P)->Calls prog 65 #[.pointer (some ⟨X.R.blk,0,none⟩),str o.s,.int .i64 o.a] W' (fun e w'=>∃m n R',e=.returned (.tuple #[.int .i64 m,.int .i64 n])/\Ψ R'/\Turns (aC X.R++ay X.P) (aC R'++ay X.P) W' w')) /\
   (∀W',Sat W' (aC X.R++ay X.P)->Calls prog 67 #[.pointer (some ⟨X.R.blk,0,none⟩),str o.t,str o.s,.int .i64 o.a] W' (fun e w'=>∃n R',e=.returned (.int .i64 n)/\Ψ R'/\Turns (aC X.R++ay X.P) (aC R'++ay X.P) W' w')) /\
   (∀W',Sat W' (aC X.R++ay X.P)->Calls prog 69 #[.pointer (some ⟨X.R.blk,0,none⟩),str o.t] W' (fun e w'=>∃n R',e=.returned (.int .i64 n)/\Ψ R'/\Turns (aC X.R++ay X.P) (aC R'++ay X.P) W' w'))):
  Calls prog 23 #[.pointer (some ⟨X.U.blk,0,none⟩),PG o] W (Ls w0 X Φ Ψ):=by
 obtain⟨ok,oa,Ot,oc,os,ot,OA,od⟩:=o;dsimp only at hk hours href;obtain⟨ob,hob⟩:=Na W.heap.size;obtain⟨W1,hW1⟩:=Na (W.alloc (.cells #[.int .i64 ok,.int .i64 oa,.int .i64 Ot,.int .i64 oc,str os,str ot,OA] 65));obtain⟨J,hJ⟩:=Na ((ob,Is (oO ⟨ok,oa,Ot,oc,os,ot,OA,od⟩))::(X.U.blk,Is (bw X.U))::bP X.U.most X.M:HF)
 have hT1:Turns [] (N9 X.S++((aC X.R++ay X.P)++J)) w0 W1:=by
  rw[hW1,hJ,hob];have:=h.turns.Q9 (.cells #[.int .i64 ok,.int .i64 oa,.int .i64 Ot,.int .i64 oc,str os,str ot,OA] 65);unfold gF at this;exact this.to (H:=N9 X.S++((aC X.R++ay X.P)++((W.heap.size,Is (.cells #[.int .i64 ok,.int .i64 oa,.int .i64 Ot,.int .i64 oc,str os,str ot,OA] 65))::(X.U.blk,Is (bw X.U))::bP X.U.most X.M))) ac
 have hcells:∀(W:World) (G:HF),Turns [] (G++J) w0 W ->
   W.cell? ⟨X.U.blk,1,none⟩=some (.pointer (some ⟨X.S.a,0,none⟩))/\W.cell? ⟨X.U.blk,2,none⟩=some (.pointer (some ⟨X.R.blk,0,none⟩))/\W.cell? ⟨ob,4,none⟩=some (str os)/\W.cell? ⟨ob,5,none⟩=some (str ot)/\W.cell? ⟨ob,1,none⟩=some (.int .i64 oa)/\bh W:=by
  intro W G hT;rw[hJ]at hT;have hu:W.heap[X.U.blk]?=some (bw X.U):=hT.sat.Q7 Nh;have ho:W.heap[ob]?=some (oO ⟨ok,oa,Ot,oc,os,ot,OA,od⟩):=hT.sat.Q7 Nh;refine⟨?_,?_,aa ho 4 rfl,aa ho 5 rfl,aa ho 1 rfl,hE.keep hT.mods (fun h=>by simp at h)⟩
  ·have:=aa hu 1 (v:=rB X.U.a) rfl;rw[h.a]at this;exact this
  ·have:=aa hu 2 (v:=.pointer (some ⟨X.U.r,0,none⟩)) rfl;rw[h.r]at this;exact this
 obtain⟨u1,-,o4,o5,o1,-⟩:=hcells W1 (N9 X.S++(aC X.R++ay X.P)) (hT1.to ac);have HH:=Ob hours href;have PL:=OW hcells hW1 hob hJ;have HT1:=NZ hT1;clear h hE hours href hT1 hcells hW1 hob hJ;unfold PG QI;rcases hk with rfl|rfl|rfl|rfl
 case' inl =>
  go_enter func23,ntmps23;go_upto_region 18 with(fail);rw[<- PL.b,<- PL.c];refine aF 8 HM.o Nc rfl ?_;simp only[QE,take_zero];repeat still_step
  refine wpStill_nil ?_;refine aO Nc (HH.a.1 W1.drew HT1.o.drew.sat.left) ?_;rintro e W3 ⟨ev,n,S',rfl,hev,Rf,hG⟩;refine⟨_,rfl,?_⟩;simp only[Act.put,QA,QB,QC,QD,drop_zero];repeat still_step
  refine wpStill_nil ?_;have Oa:=(HT1.o.drew.step (Perm.refl _) hG).to (H:=(aC X.R++ay X.P)++(N9 S'++J)) ac;obtain⟨-,u2,o4,o5,o1,-⟩:=PL.a W3 ((aC X.R++ay X.P)++N9 S') (Oa.to ac);have HT3:=Oz Oa hev Rf;clear hG Oa hev Rf;go_upto_region 19 with(fail);refine aF 8 HM.o Nc rfl ?_;simp only[QE,take_zero];repeat still_step
  refine wpStill_nil ?_;refine aO Nc (HH.b W3.drew HT3.a.drew.sat.left) ?_;rintro e W4 ⟨n2,R',rfl,P8,hG⟩;refine⟨_,rfl,?_⟩;simp only[Act.put,QA,QB,QC,QD,drop_zero];repeat still_step
  refine wpStill_nil ?_
 case' inr.inl =>
  go_enter func23,ntmps23;go_upto_region 23 with(fail);rw[<- PL.b,<- PL.c];refine aF 8 HM.o Nc rfl ?_;simp only[QE,take_zero];repeat still_step
  refine wpStill_nil ?_;refine aO Nc (HH.a.2.1 W1.drew HT1.o.drew.sat.left) ?_;rintro e W3 ⟨c,ev,n,S',rfl,hev,Rf,hG⟩;refine⟨_,rfl,?_⟩;simp only[Act.put,QA,QB,QC,QD,drop_zero];repeat still_step
  refine wpStill_nil ?_;have Oa:=(HT1.o.drew.step (Perm.refl _) hG).to (H:=(aC X.R++ay X.P)++(N9 S'++J)) ac;obtain⟨-,u2,o4,o5,o1,-⟩:=PL.a W3 ((aC X.R++ay X.P)++N9 S') (Oa.to ac);have HT3:=Oz Oa hev Rf;clear hG Oa hev Rf;go_upto_region 24 with(fail);refine aF 8 HM.o Nc rfl ?_;simp only[QE,take_zero];repeat still_step
  refine wpStill_nil ?_;refine aO Nc (HH.c W3.drew HT3.a.drew.sat.left) ?_;rintro e W4 ⟨m,n2,R',rfl,P8,hG⟩;refine⟨_,rfl,?_⟩;simp only[Act.put,QA,QB,QC,QD,drop_zero];repeat still_step
  refine wpStill_nil ?_
 case' inr.inr.inl =>
  go_enter func23,ntmps23;go_upto_region 28 with(fail);rw[<- PL.b,<- PL.c];refine aF 10 HM.o Nc rfl ?_;simp only[QE,take_zero];repeat still_step
  refine wpStill_nil ?_;refine aO Nc (HH.a.2.2.1 W1.drew HT1.o.drew.sat.left) ?_;rintro e W3 ⟨ev,n,S',rfl,hev,Rf,hG⟩;refine⟨_,rfl,?_⟩;simp only[Act.put,QA,QB,QC,QD,drop_zero];repeat still_step
  refine wpStill_nil ?_;have Oa:=(HT1.o.drew.step (Perm.refl _) hG).to (H:=(aC X.R++ay X.P)++(N9 S'++J)) ac;obtain⟨-,u2,o4,o5,o1,-⟩:=PL.a W3 ((aC X.R++ay X.P)++N9 S') (Oa.to ac);have HT3:=Oz Oa hev Rf;clear hG Oa hev Rf;go_upto_region 29 with(fail);refine aF 10 HM.o Nc rfl ?_;simp only[QE,take_zero];repeat still_step
  refine wpStill_nil ?_;refine aO Nc (HH.d W3.drew HT3.a.drew.sat.left) ?_;rintro e W4 ⟨n2,R',rfl,P8,hG⟩;refine⟨_,rfl,?_⟩;simp only[Act.put,QA,QB,QC,QD,drop_zero];repeat still_step
  refine wpStill_nil ?_
 case' inr.inr.inr =>
  go_enter func23,ntmps23;go_upto_region 33 with(fail);rw[<- PL.b,<- PL.c];refine aF 6 HM.o Nc rfl ?_;simp only[QE,take_zero];repeat still_step
  refine wpStill_nil ?_;refine aO Nc (HH.a.2.2.2 W1.drew HT1.o.drew.sat.left) ?_;rintro e W3 ⟨ev,n,S',rfl,hev,Rf,hG⟩;refine⟨_,rfl,?_⟩;simp only[Act.put,QA,QB,QC,QD,drop_zero];repeat still_step
  refine wpStill_nil ?_;have Oa:=(HT1.o.drew.step (Perm.refl _) hG).to (H:=(aC X.R++ay X.P)++(N9 S'++J)) ac;obtain⟨-,u2,o4,o5,o1,-⟩:=PL.a W3 ((aC X.R++ay X.P)++N9 S') (Oa.to ac);have HT3:=Oz Oa hev Rf;clear hG Oa hev Rf;go_upto_region 34 with(fail);refine aF 6 HM.o Nc rfl ?_;simp only[QE,take_zero];repeat still_step
  refine wpStill_nil ?_;refine aO Nc (HH.w W3.drew HT3.a.drew.sat.left) ?_;rintro e W4 ⟨n2,R',rfl,P8,hG⟩;refine⟨_,rfl,?_⟩;simp only[Act.put,QA,QB,QC,QD,drop_zero];repeat still_step
  refine wpStill_nil ?_
 all_goals
  have Og:=HT3.a.drew.step (Perm.refl _) hG;have PX:=NZ (bc ev n W4 (PL.a W4 ((aC R'++ay X.P)++N9 S') (Og.to ac)).2.2.2.2.2 (HT3.b.is W4));have QX:=Ob Og P8;clear hG Og P8 u2 o4 o5 o1;go_wp2_with fail;refine PX.o.mono ?_;rintro e W5 ⟨rfl,hs5⟩;have RU:=NZ (QX.a.Q8 hs5);clear hs5;go_wp2_with (go_at_call 41;refine(bC _ _).mono ?_;rintro e w' ⟨rfl,rfl⟩)
  all_goals
   go_ret;refine ⟨_,S',R',rfl,HT3.y,QX.z,?_⟩;refine RU.o.drop (fun x=>?_);rw[PL.x];unfold gF;simp only[ao,af]<;>omega
theorem GP.of{X:WS}{k m:Nat}(h:GP X k m){S':AS}{R':Oh}(hg:GB S' (k+1))(hv:R'.vs.length<=k+1)(ht:R'.ts.length<=k+1)(hn:∀v∈R'.vs,v.num<=k+1)(hu:di R'.vs<=m):GP { X with S:=S',R:=R' } (k+1) m where
 gb:=hg
 vs:=hv
 ts:=ht
 nums:=hn
 used:=hu
 ml:=h.ml
 mb:=h.mb
theorem GP.keep{X:WS}{k m:Nat}(h:GP X k m){S':AS}(hg:GB S' (k+1)):GP { X with S:=S' } (k+1) m :=
 h.of hg (by have:=h.vs;omega) (by have:=h.ts;omega) (fun v hv=>by have:=h.nums v hv;omega) h.used
theorem pI.gb{S S1:AS}(h:pI S S1){k:Nat}(hg:GB S k):GB S1 k:=by
 rcases h with⟨_,rfl⟩|⟨_,L',hf,rfl⟩
 ·exact hg
 ·exact(hg.flush hf).close
theorem sN(w0 W:World)(X:WS)(o:Pj)(k m:Nat)(h:PV w0 W X)(hp:GP X k m)(hb:k<=1000)(hE:bh w0)(hk:o.kind=6):
  Calls prog 23 #[.pointer (some ⟨X.U.blk,0,none⟩),PG o] W (gK w0 X (k+1) m):=by
 obtain⟨ok,oa,Ot,oc,os,ot,OA,od⟩:=o;simp only at hk;subst hk;have HH:=OW h hp hb hE;clear h hp hb hE;unfold PG QI;go_enter func23,ntmps23;go_upto_region 38 with(fail);have hT1:=HH.a.turns.alloc (.cells #[.int .i64 6,.int .i64 oa,.int .i64 Ot,.int .i64 oc,str os,str ot,OA] 65);generalize W.alloc (.cells #[.int .i64 6,.int .i64 oa,.int .i64 Ot,.int .i64 oc,str os,str ot,OA] 65)=W1 at hT1 ⊢
 have u1:W1.cell? ⟨X.U.blk,1,none⟩=some (.pointer (some ⟨X.S.a,0,none⟩)):=by
  have:=aa hT1.sat.Q5 1 (v:=rB X.U.a) rfl;rw[HH.a.a]at this;exact this
 have HT1:=NZ hT1;clear hT1;go_wp2_with fail;refine(lN X.S 70000 W1 HT1.o.sat.tail.left HH.b.gb.ok (HH.b.gb.b HH.c) Nb).mono ?_;intro e W2 hp
 have key:∃(S':AS) (ev:Value),e=.returned ev/\((X.R.closed=false/\ev=.nilIface)\/(X.R.closed=true/\ev=cr 9))/\Turns (N9 X.S) (N9 S') W1 W2/\(S'=X.S\/∃L',nD X.S.L L'/\S'=gI X.S L'):=by
  rcases hp with⟨hc,rfl,hG⟩|⟨hc,rfl,L',hf,hG⟩
  ·exact⟨X.S,_,rfl,.inr ⟨by rw[HH.a.lc];exact hc,rfl⟩,hG,.inl rfl⟩
  ·exact⟨gI X.S L',_,rfl,.inl ⟨by rw[HH.a.lc];exact hc,rfl⟩,hG,.inr ⟨L',hf,rfl⟩⟩
 obtain⟨S',ev,rfl,hev,hG,hS⟩:=key
 have hT2:Turns [] ((X.U.blk,Is (bw X.U))::(N9 S'++(aC X.R++(ay X.P++bP X.U.most X.M)))) w0 W2:=by
  have:=HT1.o;unfold gF at this;exact((this.to (H:=N9 X.S++((X.U.blk,Is (bw X.U))::(aC X.R++(ay X.P++bP X.U.most X.M)))) ac).step (Perm.refl _) hG).to ac
 have XC:=NZ (lT X.U.blk X.U X.R ev W2 hT2.sat.Q5 HH.a.r (hT2.sat.Q7 (by unfold aC;simp)) (HH.x.keep hT2.mods (fun h=>by simp at h)) hev);have HT2:=Ob hT2 hS;clear hp hev hG hS hT2;go_wp2_with fail;refine XC.o.mono ?_;rintro e W3 ⟨rfl,hs3⟩;have HT3:=NZ (HT2.a.Q8 hs3);clear hs3;go_wp2_with fail;go_ret;rcases HT2.z with hS|⟨L',hf,hS⟩
 ·have h3:=HT3.o;rw[hS]at h3;exact⟨true,X,rfl,HH.a.back h3,HH.b.mono Nb Nb,rfl⟩
 ·have h3:=HT3.o;rw[hS]at h3;exact⟨true,{ X with S:=gI X.S L' },rfl,HH.a.next (S':=gI X.S L') (R':=X.R) h3 rfl rfl HH.a.ref HH.a.inp HH.a.lc HH.a.inv,HH.b.keep ((HH.b.gb.flush hf).mono Nb),rfl⟩
theorem ri(w0 W:World)(X:WS)(o:Pj)(k m:Nat)(h:PV w0 W X)(hp:GP X k m)(hb:k<=1000)(hE:bh w0)(hk:o.kind=7):
  Calls prog 23 #[.pointer (some ⟨X.U.blk,0,none⟩),PG o] W (gK w0 X (k+1) m):=by
 obtain⟨ok,oa,Ot,oc,os,ot,OA,od⟩:=o;simp only at hk;subst hk;have HH:=OW h hp hb hE;clear h hp hb hE;unfold PG QI;go_enter func23,ntmps23;go_upto_region 49 with(fail);obtain⟨ob,hob⟩:=Na W.heap.size
 have hT1:Turns [] ((ob,Is (oO ⟨7,oa,Ot,oc,os,ot,OA,od⟩))::gF X) w0 (W.alloc (.cells #[.int .i64 7,.int .i64 oa,.int .i64 Ot,.int .i64 oc,str os,str ot,OA] 65)):=by
  rw[hob];exact HH.a.turns.Q9 _
 rw[<- hob];generalize W.alloc (.cells #[.int .i64 7,.int .i64 oa,.int .i64 Ot,.int .i64 oc,str os,str ot,OA] 65)=W1 at hT1 ⊢
 have u1:W1.cell? ⟨X.U.blk,1,none⟩=some (.pointer (some ⟨X.S.a,0,none⟩)):=by
  have:=aa hT1.sat.tail.Q5 1 (v:=rB X.U.a) rfl;rw[HH.a.a]at this;exact this
 have HT1:=NZ hT1;clear hT1 hob;go_wp2_with fail;refine(rL X.S 70000 W1 HT1.o.sat.tail.tail.left HH.b.gb.ok (HH.b.gb.b HH.c) Nb).mono ?_;intro e W2 hp
 have key:∃(S1:AS) (ev:Value),e=.returned ev/\((X.R.closed=false/\ev=.nilIface)\/(X.R.closed=true/\ev=cr 9))/\Turns (N9 X.S) (N9 S1) W1 W2/\pI X.S S1:=by
  rcases hp with⟨hc,rfl,hG⟩|⟨hc,rfl,L',hf,hG⟩
  ·exact⟨X.S,_,rfl,.inr ⟨by rw[HH.a.lc];exact hc,rfl⟩,hG,.inl ⟨hc,rfl⟩⟩
  ·exact⟨yq (gI X.S L'),_,rfl,.inl ⟨by rw[HH.a.lc];exact hc,rfl⟩,hG,.inr ⟨hc,L',hf,rfl⟩⟩
 obtain⟨S1,ev,rfl,hev,hG,hS⟩:=key
 have hT2:Turns [] ((X.R.blk,Is (fL X.R))::((ob,Is (oO ⟨7,oa,Ot,oc,os,ot,OA,od⟩))::(X.U.blk,Is (bw X.U))::(N9 S1++(eh X.R.vv X.R.vs++(eH X.R.tv X.R.ts++(ay X.P++bP X.U.most X.M)))))) w0 W2:=by
  have:=HT1.o;unfold gF at this;exact((this.to (H:=N9 X.S++((ob,Is (oO ⟨7,oa,Ot,oc,os,ot,OA,od⟩))::(X.U.blk,Is (bw X.U))::(aC X.R++(ay X.P++bP X.U.most X.M)))) ac).step (Perm.refl _) hG).to (by unfold aC;exact ac)
 have XC:=NZ (lT X.U.blk X.U X.R ev W2 (hT2.sat.Q7 Nh) HH.a.r hT2.sat.Q5 (HH.x.keep hT2.mods (fun h=>by simp at h)) hev);have HT2:=Ob hT2 hS;clear hp hev hG hS hT2 u1;go_wp2_with fail;refine XC.o.mono ?_;rintro e W3 ⟨rfl,hs3⟩;have Oa:=HT2.a.Q8 hs3
 have u2:W3.cell? ⟨X.U.blk,2,none⟩=some (.pointer (some ⟨X.R.blk,0,none⟩)):=by
  have:=aa (Oa.sat.Q7 (b:=X.U.blk) (o:=bw X.U) Nh) 2 (v:=.pointer (some ⟨X.U.r,0,none⟩)) rfl;rw[HH.a.r]at this;exact this
 have HT3:=NZ Oa;clear hs3 Oa;go_wp2_with (refine ai rfl (aX 4 (.tmp 270) (.const (.bool true)) rfl X.R.blk 3 (da X.R) 60 (.bool true) HT3.o rfl rfl (by simp[da]) Nc rfl rfl ?_);intro W4 Oj;have o0:W4.cell? ⟨ob,0,none⟩=some (.int .i64 7):=aa (Oj.sat.Q7 (b:=ob) (o:=oO ⟨7,oa,Ot,oc,os,ot,OA,od⟩) Nh) 0 rfl;have HT4:=NZ (show Turns [] ((X.R.blk,Is (fL { X.R with closed:=true }))::((ob,Is (oO ⟨7,oa,Ot,oc,os,ot,OA,od⟩))::(X.U.blk,Is (bw X.U))::(N9 S1++(eh X.R.vv X.R.vs++(eH X.R.tv X.R.ts++(ay X.P++bP X.U.most X.M)))))) w0 W4 from Oj);clear Oj;simp only[Act.put]);have hf:=HT2.z.facts;go_ret;refine ⟨true,{ X with S:=S1,R:={ X.R with closed:=true } },rfl,HH.a.next (S':=S1) (R':={ X.R with closed:=true }) (HT4.o.drop (fun x=>?_)) hf.2.2.1 rfl ⟨HH.a.ref.vs,HH.a.ref.ts⟩ HH.a.inp hf.2.2.2.2.symm (HH.a.inv.closed true),HH.b.of ((HT2.z.gb HH.b.gb).mono Nb) ?_ ?_ ?_ HH.b.used,rfl⟩
 ·unfold gF aC;simp only[ao,af]<;>omega
 ·have:=HH.b.vs;show X.R.vs.length<=_;omega
 ·have:=HH.b.ts;show X.R.ts.length<=_;omega
 ·intro v hv;have:=HH.b.nums v hv;omega
end
section
open Go.RowKit Go.Maps
theorem xv(P:cU)(v:Value)(D:Bs):ay (P++[(v,D)])=ay P++aJ v D:=by
 unfold ay;rw[flatMap_append];simp
def kC(S:AS)(k:Nat)(S':AS):Prop:=S'.a=S.a/\(S'.X.closed=S.X.closed/\S'.X.d=S.X.d)/\GB S' (k+1)
theorem GB.same{S:AS}{k:Nat}(h:GB S k):kC S k S:=⟨rfl,⟨rfl,rfl⟩,h.mono Nb⟩
theorem GB.vl{S:AS}{k:Nat}(h:GB S k)(l:Bs):(ah S.ps l).length<=15000:=by
 obtain⟨H,t,-⟩:=h.gh;obtain⟨-,hd⟩:=h.room;have h1:=congrArg length (t.hist l);rw[NP,NP]at h1;have h2:=length_filter_le (fun h:HV=>decide (h.p=l)) H;have h3:=wS H;have h4:=t.need;omega
theorem GB.num{S:AS}{k:Nat}(h:GB S k){l:Bs}{V:Oe}(hV:V∈ah S.ps l):V.num<=4294967295+k:=by
 obtain⟨H,t,hH⟩:=h.gh;obtain⟨x,hx,-,e⟩:=t.vers hV;have:=(hH x hx).2.1;unfold bV bu at e;simp only[Prod.mk.injEq]at e;omega
theorem IZ{S:AS}(hok:Oo S){p:Bs}{n:Int}{V:Oe}(h:iU S p n V):V∈ah S.ps p:=by
 obtain⟨q,hq,hk,hV⟩:=nT h.2.2;rw[<- hk,ia hok.paths hq];exact hV
theorem GB.WV{S:AS}{k:Nat}(h:GB S k){p:Bs}{n:Int}{V:Oe}(hf:iU S p n V){ns:List Int}{v':Value}{L':Ol}(hr:PS S L' (frame 3 (fP p ns)))(hp:eP v' (dW ns (ah S.ps p))):kC S k (r9 S p ns v' L') :=
 ⟨rfl,⟨rfl,rfl⟩,h.gone hr (by have:=dy hf.2.1;omega) hp (I0 hf)⟩
theorem Jw(p m:Bs)(n:Int)(k:UInt8):(frame k (eG p m n)).length=p.length+m.length+15:=by
 rw[bi];unfold eG;simp only[NM,bS,bU];omega
theorem GB.tagF{S:AS}{k:Nat}(h:GB S k){m p:Bs}{n:Int}{V:Oe}{L':Ol}(hm:az m=true)(hf:iU S p n V)(hno:kh S.ts m=false)(hr:PS S L' (frame 4 (eG p m V.num))):kC S k (Lg S m p V.num L'):=by
 have e:eS S.ts S.tc m (mn m (p,(V.num:Int))) (p,(V.num:Int))=S.ts++[⟨m,S.tc,mn m (p,(V.num:Int)),(p,(V.num:Int))⟩]:=by
  unfold eS;rw[hno];rfl
 have hpl:=dy hf.2.1;have hml:=dy hm;refine⟨rfl,⟨rfl,rfl⟩,h.hold (p:=p) (n:=V.num) (d:=1) Nb hr (Lh h.ok hr Nr) rfl ⟨rfl,rfl,rfl,rfl,rfl⟩ ?_ (fun t ht=>?_)⟩
 ·show cF ((eS S.ts S.tc m (mn m (p,(V.num:Int))) (p,(V.num:Int))).map eV)<=_;rw[e,Jw];unfold cF;rw[NW,NW,sum_append];simp only[map_cons,map_nil,sum_cons,sum_nil,eV];omega
 ·have ht2:t∈eS S.ts S.tc m (mn m (p,(V.num:Int))) (p,(V.num:Int)):=ht;rw[e]at ht2;rcases mem_append.1 ht2 with ht|ht
  ·exact h.tags t ht
  ·rw[mem_singleton.1 ht];have:=h.num (IZ h.ok hf);exact⟨by show m.length<=_;omega,by show p.length<=_;omega,by show(0:Int)<=V.num;omega,by show(V.num:Int)<=_;omega⟩
theorem GB.YM{S:AS}{k:Nat}(h:GB S k){m:Bs}{q:fJ}{L':Ol}(hr:PS S L' (frame 5 (eG q.g.1 m q.g.2))):kC S k (zg S m q.g.1 q.g.2 L'):=by
 refine⟨rfl,⟨rfl,rfl⟩,h.hold (p:=q.g.1) (n:=q.g.2) (d:=-1) Nb hr (GY h.ok hr) rfl ⟨rfl,rfl,rfl,rfl,rfl⟩ ?_ (fun t ht=>h.tags t (mem_filter.1 (show t∈bM S.ts m from ht)).1)⟩;show cF ((bM S.ts m).map eV)<=_;rw[Cf];have:=jc (fun t:Tg=>t.1.length+t.2.1.length+15) (fun t => !decide (t.1=m)) (S.ts.map eV);unfold cF Ar;omega
theorem FX{w0:World}{X:WS}{k m:Nat}{W:World}(h:PV w0 W X)(hp:GP X k m){e:Ending}{w':World}(hd:Ls w0 X (kC X.S k) (fun R'=>O8 X.R R' X.P (k+1)) e w'):gK w0 X (k+1) m e w':=by
 obtain⟨z,S',R',rfl,⟨h1,h2,h3⟩,hr,hT⟩:=hd;exact⟨z,_,rfl,h.next hT h1 hr.blk hr.ok hr.inp (by rw[hr.cl,h2.1];exact h.lc) hr.inv,hp.of h3 hr.vs hr.ts hr.nums (by have:=hr.used;have:=hp.used;omega),rfl⟩
section
variable {S:AS} {k:Nat} (h:GB S k) (hb:k<=1000) {W:World} (hs:Sat W (N9 S))
include h hb hs
theorem Mu(p:Bs)(a:Int):Calls prog 62 #[.pointer (some ⟨S.a,0,none⟩),str p,.int .i64 a] W (fun e w'=>∃ev n S',e=.returned ev/\oP ev n/\kC S k S'/\Turns (N9 S) (N9 S') W w'):=by
 refine(xY S p a 70000 W hs h.ok (h.b hb) Nb).mono ?_;rintro e w' (⟨n,hf,rfl,hG⟩|⟨V,hf,⟨hh,rfl,hG⟩|⟨hh,Yp⟩⟩)
 ·exact⟨_,n,S,rfl,.inr rfl,h.same,hG⟩
 ·exact⟨_,5,S,rfl,.inr rfl,h.same,hG⟩
 ·unfold j6 at Yp;simp only[append_nil]at Yp;rcases Yp with⟨-,rfl,hG⟩|⟨-,rfl,v',L',hr,hv,hG⟩
  ·exact⟨_,8,S,rfl,.inr rfl,h.same,hG⟩
  ·exact⟨_,0,_,rfl,.inl ⟨rfl,rfl⟩,h.WV hf hr hv,hG⟩
theorem Mv(p:Bs)(a:Int):Calls prog 64 #[.pointer (some ⟨S.a,0,none⟩),str p,.int .i64 a] W (fun e w'=>∃c ev n S',e=.returned (.tuple #[.int .i64 c,ev])/\oP ev n/\kC S k S'/\Turns (N9 S) (N9 S') W w'):=by
 refine(zC S p a 70000 W hs h.ok (h.b hb) Nb (h.vl p)).mono ?_;rintro e w' (⟨n,hf,rfl,hG⟩|⟨V,hf,⟨-,rfl,hG⟩|⟨-,rfl,v',L',hr,hv,hG⟩⟩)
 ·exact⟨_,_,n,S,rfl,.inr rfl,h.same,hG⟩
 ·exact⟨_,_,8,S,rfl,.inr rfl,h.same,hG⟩
 ·exact⟨_,_,0,_,rfl,.inl ⟨rfl,rfl⟩,h.WV hf hr hv,hG⟩
theorem Mw(m p:Bs)(a:Int):Calls prog 66 #[.pointer (some ⟨S.a,0,none⟩),str m,str p,.int .i64 a] W (fun e w'=>∃ev n S',e=.returned ev/\oP ev n/\kC S k S'/\Turns (N9 S) (N9 S') W w'):=by
 refine(Fu S m p a 70000 W hs h.ok (h.b hb) Nb).mono ?_;rintro e w' (⟨n,hf,rfl,hG⟩|⟨V,L',hpm,hf,hno,-,rfl,hrc,hG⟩)
 ·exact⟨_,n,S,rfl,.inr rfl,h.same,hG⟩
 ·exact⟨_,0,_,rfl,.inl ⟨rfl,rfl⟩,h.tagF hpm hf hno hrc,hG⟩
theorem Mx(m:Bs):Calls prog 68 #[.pointer (some ⟨S.a,0,none⟩),str m] W (fun e w'=>∃ev n S',e=.returned ev/\oP ev n/\kC S k S'/\Turns (N9 S) (N9 S') W w'):=by
 refine(zN S m 70000 W hs h.ok (h.b hb) Nb).mono ?_;rintro e w' (⟨n,hf,rfl,hG⟩|⟨q,hq,L',hqk,hc,hpm,-,rfl,hrc,hG⟩)
 ·exact⟨_,n,S,rfl,.inr rfl,h.same,hG⟩
 ·exact⟨_,0,_,rfl,.inl ⟨rfl,rfl⟩,h.YM hrc,hG⟩
end
section
variable {R:Oh} {P:cU} {k:Nat} (h:RB R P k) (hb:k<=1000) {W:World} (hs:Sat W (aC R++ay P))
include h hb hs
theorem Lx(p:Bs)(a:Int):Calls prog 63 #[.pointer (some ⟨R.blk,0,none⟩),str p,.int .i64 a] W (fun e w'=>∃n R',e=.returned (.int .i64 n)/\O8 R R' P (k+1)/\Turns (aC R++ay P) (aC R'++ay P) W w'):=by
 refine(oH R P p a W (h.at hb hs)).mono ?_;rintro e w' (⟨n,h1,rfl,hG⟩|⟨v,h1,h2,rfl,hG⟩|⟨i,vv,hi,h1,h2,h3,rfl,h4,hG⟩)
 ·exact⟨n,_,rfl,ef h.inv h.ok h.inp h.vs h.ts h.nums,hG.frame hs⟩
 ·exact⟨5,_,rfl,ef h.inv h.ok h.inp h.vs h.ts h.nums,hG.frame hs⟩
 ·exact⟨0,_,rfl,Gx h.inv h.ok h.inp h.vs h.ts h.nums (p:=p) (a:=a) (n:=0) (.inr ⟨rfl,i,vv,hi,h1,h3,h4,rfl⟩),hG.frame hs⟩
theorem Ly(p:Bs)(a:Int)(ha:Za a):Calls prog 65 #[.pointer (some ⟨R.blk,0,none⟩),str p,.int .i64 a] W (fun e w'=>∃c n R',e=.returned (.tuple #[.int .i64 c,.int .i64 n])/\O8 R R' P (k+1)/\Turns (aC R++ay P) (aC R'++ay P) W w'):=by
 refine(yW R P p a W (h.at hb hs) hs ha).mono ?_;rintro e w' (⟨n,h1,rfl,hG⟩|⟨v,h1,vs',c,vv,h2,rfl,h3,hG⟩)
 ·exact⟨_,n,_,rfl,ef h.inv h.ok h.inp h.vs h.ts h.nums,hG⟩
 ·exact⟨_,0,_,rfl,Gy h.inv h.ok h.inp h.vs h.ts h.nums (p:=p) (a:=a) (n:=0) (.inr ⟨rfl,v,vs',c,vv,h1,h2,h3,rfl⟩),hG⟩
theorem Lz(m p:Bs)(a:Int):Calls prog 67 #[.pointer (some ⟨R.blk,0,none⟩),str m,str p,.int .i64 a] W (fun e w'=>∃n R',e=.returned (.int .i64 n)/\O8 R R' P (k+1)/\Turns (aC R++ay P) (aC R'++ay P) W w'):=by
 have hts:=h.ts;refine(DV R P m p a W (h.at hb hs) hs Nb (h.inv.small Nb)).mono ?_;rintro e w' (⟨n,rfl,hG,h1⟩|⟨h1,h2,h3,i,tv,hi,h4,-,rfl,h5,hG⟩)
 ·exact⟨n,_,rfl,ef h.inv h.ok h.inp h.vs h.ts h.nums,hG.frame hs⟩
 ·exact⟨0,_,rfl,Gz h.inv h.ok h.inp h.vs h.ts h.nums (m:=m) (p:=p) (a:=a) (n:=0) (.inr ⟨rfl,h1,h2,h3,i,tv,hi,h4,h5,rfl⟩),hG⟩
theorem LA(m:Bs):Calls prog 69 #[.pointer (some ⟨R.blk,0,none⟩),str m] W (fun e w'=>∃n R',e=.returned (.int .i64 n)/\O8 R R' P (k+1)/\Turns (aC R++ay P) (aC R'++ay P) W w'):=by
 have hts:=h.ts;refine(yX R P m W (h.at hb hs) hs Nb (h.inv.small Nb) h.inv.qaA).mono ?_;rintro e w' (⟨n,rfl,hG,h1⟩|⟨h1,h2,i,j,tv,hi,h3,h4,h5,rfl,h6,hG⟩)
 ·exact⟨n,_,rfl,ef h.inv h.ok h.inp h.vs h.ts h.nums,hG.frame hs⟩
 ·exact⟨0,_,rfl,GA h.inv h.ok h.inp h.vs h.ts h.nums (m:=m) (n:=0) (.inr ⟨rfl,h1,h2,i,j,tv,hi,h3,h4,h5,h6,rfl⟩),hG⟩
end
theorem ut(w0 W:World)(X:WS)(o:Pj)(k m:Nat)(h:PV w0 W X)(hp:GP X k m)(hb:k<=1000)(hE:bh w0)(ho:Qs w0 o)(hk:o.kind=9\/o.kind=10\/o.kind=11\/o.kind=12):
  Calls prog 23 #[.pointer (some ⟨X.U.blk,0,none⟩),PG o] W (gK w0 X (k+1) m) :=
 (vT w0 W X o h hE hk (kC X.S k) (fun R'=>O8 X.R R' X.P (k+1))
  ⟨fun _ hs=>Mu hp.gb hb hs _ _,fun _ hs=>Mv hp.gb hb hs _ _,fun _ hs=>Mw hp.gb hb hs _ _ _,fun _ hs=>Mx hp.gb hb hs _⟩
  ⟨fun _ hs=>Lx (h.rb hp) hb hs _ _,fun _ hs=>Ly (h.rb hp) hb hs _ _ ho.a,fun _ hs=>Lz (h.rb hp) hb hs _ _ _,fun _ hs=>LA (h.rb hp) hb hs _⟩).mono (fun _ _ hd=>FX h hp hd)
end
section
open Go.RowKit Go.Maps
theorem lQ(vs:List Oi)(j:Nat):(gt (vs.take j)).length<=di vs:=by
 have key:∀(vs:List Oi) (l:List Bs),(vs.foldl (fun l v=>fT l (aD v.cont)) l).length<=l.length+di vs:=by
  intro vs;induction vs with
  | nil=>intro l;simp
  | cons v r ih =>
   intro l;have h1:=ih (fT l (aD v.cont));have h2:=qU l (aD v.cont);have h3:=o7 v.cont;have h4:di (v::r)=v.cont.length+di r:=rfl;rw[foldl_cons,h4];omega
 have h1:=key (vs.take j) []
 have h2:di vs=di (vs.take j)+di (vs.drop j):=by
  unfold di;rw[<- sum_append,<- NW,take_append_drop]
 unfold gt;simp only[length_nil]at h1;omega
theorem Ai{c D:Bs}(h:c∈aD D):c.length<=D.length:=by
 rw[<- oy D,length_flatten];obtain⟨a,b,e⟩:=append_of_mem h;rw[e];simp;omega
theorem ur(w0 W:World)(X:WS)(o:Pj)(k m:Nat)(h:PV w0 W X)(hp:GP X k m)(hb:k<=1000)(hE:bh w0)(hk:o.kind=14)(hc:X.R.closed=true)(hC:∀W,Sat W (N9 X.S)->Calls prog 71 #[.pointer (some ⟨X.S.a,0,none⟩)] W (kA X.S False W)):
  Calls prog 23 #[.pointer (some ⟨X.U.blk,0,none⟩),PG o] W (gK w0 X (k+1) m):=by
 obtain⟨ok,oa,Ot,oc,os,ot,OA,od⟩:=o;simp only at hk;subst hk;have HH:=OW h hE hC hc;have HP:=Ob hp hb;clear h hE hC hc hp hb;unfold PG QI;go_enter func23,ntmps23;go_upto_region 41 with(fail);have hT1:=HH.a.turns.alloc (.cells #[.int .i64 14,.int .i64 oa,.int .i64 Ot,.int .i64 oc,str os,str ot,OA] 65);generalize W.alloc (.cells #[.int .i64 14,.int .i64 oa,.int .i64 Ot,.int .i64 oc,str os,str ot,OA] 65)=W1 at hT1 ⊢
 have u1:W1.cell? ⟨X.U.blk,1,none⟩=some (.pointer (some ⟨X.S.a,0,none⟩)):=by
  have:=aa hT1.sat.Q5 1 (v:=rB X.U.a) rfl;rw[HH.a.a]at this;exact this
 have Wy:=ae hT1.sat.Q5;have HC:=NZ (HH.c W1 hT1.sat.tail.left);have HT1:=NZ hT1;clear hT1;go_wp2_with fail;refine HC.o.mono ?_;intro e W2 hp;have hcl:X.S.X.closed=true:=by rw[<- HH.a.lc];exact HH.x
 rcases hp with⟨-,rfl,hG⟩|⟨hf,-,-⟩
 ·have hT2:Turns [] (gF X) w0 W2:=by
   have:=HT1.o;unfold gF at this ⊢;exact((this.to (H:=N9 X.S++((X.U.blk,Is (bw X.U))::(aC X.R++(ay X.P++bP X.U.most X.M)))) ac).step (Perm.refl _) hG).to ac
  have hr2:W2.heap[X.R.blk]?=some (fL X.R):=hT2.sat.tail.right.left.Q5;have r3:W2.cell? ⟨X.R.blk,3,none⟩=some (.bool X.R.closed):=aa hr2 3 rfl;rw[HH.x]at r3
  have u2:W2.cell? ⟨X.U.blk,2,none⟩=some (.pointer (some ⟨X.R.blk,0,none⟩)):=by
   have:=aa hT2.sat.Q5 2 (v:=.pointer (some ⟨X.U.r,0,none⟩)) rfl;rw[HH.a.r]at this;exact this
  have qau:=ae hT2.sat.Q5;have XC:=NZ (lT X.U.blk X.U X.R (cr 9) W2 hT2.sat.Q5 HH.a.r hr2 (HH.b.keep hT2.mods (fun h=>by simp at h)) (.inr ⟨HH.x,rfl⟩));have HT2:=NZ hT2;clear hT2 hG hr2 u1 hcl;go_wp2_with fail;refine XC.o.mono ?_;rintro e W3 ⟨rfl,hs3⟩;have HT3:=NZ (HT2.o.Q8 hs3);clear hs3 u2 r3;go_wp2_with fail;go_ret;exact ⟨true,X,rfl,HH.a.back HT3.o,HP.a.mono Nb Nb,rfl⟩
 ·rw[hcl]at hf;cases hf
theorem Nw{p:Prop}(h:p:=by simp[cA]):p:=h
theorem yH(w0 W:World)(X:WS)(o:Pj)(k m:Nat)(h:PV w0 W X)(hp:GP X k m)(hb:k<=1000)(hE:bh w0)(hk:o.kind=14)(hc:X.R.closed=false)(hm:m<=60000)(hC:∀W,Sat W (N9 X.S)->Calls prog 71 #[.pointer (some ⟨X.S.a,0,none⟩)] W (kA X.S False W)):
  Calls prog 23 #[.pointer (some ⟨X.U.blk,0,none⟩),PG o] W (gK w0 X (k+1) m):=by
 obtain⟨ok,oa,Ot,oc,os,ot,OA,od⟩:=o;simp only at hk;subst hk;have HH:=PD h hE hC hc hm;have HP:=Ob hp hb;clear h hE hC hc hm hp hb;unfold PG QI;go_enter func23,ntmps23;go_upto_region 41 with(fail);have hT1:=HH.a.turns.alloc (.cells #[.int .i64 14,.int .i64 oa,.int .i64 Ot,.int .i64 oc,str os,str ot,OA] 65);generalize W.alloc (.cells #[.int .i64 14,.int .i64 oa,.int .i64 Ot,.int .i64 oc,str os,str ot,OA] 65)=W1 at hT1 ⊢
 have u1:W1.cell? ⟨X.U.blk,1,none⟩=some (.pointer (some ⟨X.S.a,0,none⟩)):=by
  have:=aa hT1.sat.Q5 1 (v:=rB X.U.a) rfl;rw[HH.a.a]at this;exact this
 have Wy:=ae hT1.sat.Q5;have HC:=NZ (HH.c W1 hT1.sat.tail.left);have HT1:=NZ hT1;clear hT1;go_wp2_with fail;refine HC.o.mono ?_;intro e W2 hp;have hcl:X.S.X.closed=false:=by rw[<- HH.a.lc];exact HH.d
 rcases hp with⟨hf,-,-⟩|⟨-,rfl,S',hci,hG⟩
 ·rw[hcl]at hf;cases hf
 ·have hT2:Turns [] ((X.U.blk,Is (bw X.U))::(N9 S'++(aC X.R++(ay X.P++bP X.U.most X.M)))) w0 W2:=by
   have:=HT1.o;unfold gF at this;exact((this.to (H:=N9 X.S++((X.U.blk,Is (bw X.U))::(aC X.R++(ay X.P++bP X.U.most X.M)))) ac).step (Perm.refl _) hG).to ac
  have hr2:W2.heap[X.R.blk]?=some (fL X.R):=hT2.sat.tail.right.left.Q5;have r3:W2.cell? ⟨X.R.blk,3,none⟩=some (.bool X.R.closed):=aa hr2 3 rfl;rw[HH.d]at r3
  have u2:W2.cell? ⟨X.U.blk,2,none⟩=some (.pointer (some ⟨X.R.blk,0,none⟩)):=by
   have:=aa hT2.sat.Q5 2 (v:=.pointer (some ⟨X.U.r,0,none⟩)) rfl;rw[HH.a.r]at this;exact this
  have qau:=ae hT2.sat.Q5;have HCh:=NZ (oG X.R X.P W2 (HH.a.Qj HP.a HP.z (hT2.sat.tail.right.sub (G:=aC X.R++ay X.P) (fun x=>by simp only[af];omega))) (fun j _=>by have h1:=lQ X.R.vs j;have h2:=HP.a.used;have h3:=HH.w;omega));have HT2:=Ob hT2 hci;clear hT2 hG hr2 u1 hcl hci;go_wp2_with fail;refine HCh.o.mono ?_;rintro e W3 ⟨v,M',rfl,hok',hM',hin',Oa⟩;have Oj:=(Turns.Qb HT2.a Oa).to (H:=(X.U.blk,Is (bw X.U))::(bP v M'++(N9 S'++(aC X.R++(ay X.P++bP X.U.most X.M))))) ac;have k2:=cT Oj.sat.tail.left hok';have HT4:=PD Oj hok' hM' hin' k2;have qav:=ae Oj.sat.Q5;clear Oj hok' hM' hin' Oa k2 u2 r3;go_wp2_with (refine ai rfl (aX 61 (.tmp 246) (.tmp 244) rfl X.U.blk 5 (cA X.U) 63 v HT4.a rfl rfl Nw Nc HT4.e HT4.f ?_);intro W5 k5;have QX:=NZ k5;clear k5);have Og:Turns [] ((X.U.blk,Is (bw { X.U with most:=v }))::(bP v M'++(N9 S'++(aC X.R++(ay X.P++bP X.U.most X.M))))) w0 W5:=QX.o;have XC:=NZ (lT X.U.blk { X.U with most:=v } X.R .nilIface W5 Og.sat.Q5 HH.a.r (Og.sat.tail.right.right.left.Q5) (HH.b.keep Og.mods (fun h=>by simp at h)) (.inl ⟨HH.d,rfl⟩));have RU:=NZ Og;clear Og QX;go_wp2_with fail;refine XC.o.mono ?_;rintro e W6 ⟨rfl,hs6⟩;have VH:=NZ (RU.o.Q8 hs6);clear hs6;go_wp2_with fail;go_ret;refine ⟨true,{ X with S:=S',U:={ X.U with most:=v },M:=M' },rfl,?_,?_,rfl⟩
  ·exact { HH.a with
    turns:=VH.o.drop (fun x=>by unfold gF;simp only[ao,af];omega)
    a:=by show X.U.a=some S'.a;rw[HT2.z.a];exact HH.a.a
    most:=HT4.b
    ms:=fun x hx=>by
     obtain⟨u,hu,sl,cap,e1,e2,e3,e4⟩:=HT4.d x hx
     exact .inr ⟨_,HH.a.inp u hu,sl,cap,e1,e2,e3,e4⟩
    lc:=by show X.R.closed=S'.X.closed;rw[HT2.z.closed];exact HH.a.lc }
  ·have h1:=HP.a
   have hlen:M'.length<=m:=by
    have h2:=congrArg length HT4.c;rw[NP]at h2;have h3:=lQ X.R.vs X.R.vs.length;rw[take_length]at h3;have h4:=h1.used;omega
   exact⟨h1.gb.collected HT2.z,by have:=h1.vs;show X.R.vs.length<=_;omega,by have:=h1.ts;show X.R.ts.length<=_;omega,fun v hv=>(by have:=h1.nums v hv;omega),h1.used,hlen,fun x hx=>by
    have h2:x.bs∈gt X.R.vs:=by rw[<- HT4.c];exact mem_map.2 ⟨x,hx,rfl⟩
    obtain⟨v,hv,hc⟩:=Aj h2;have h3:=Ai hc;have h4:=(HH.a.inv.each v hv).2.2;omega⟩
theorem pq(w0 W:World)(X:WS)(o:Pj)(k m:Nat)(h:PV w0 W X)(hp:GP X k m)(hb:k<=1000)(hm:m<=60000)(hE:bh w0)(hk:o.kind=14):
  Calls prog 23 #[.pointer (some ⟨X.U.blk,0,none⟩),PG o] W (gK w0 X (k+1) m):=by
 have hC:∀W,Sat W (N9 X.S)->Calls prog 71 #[.pointer (some ⟨X.S.a,0,none⟩)] W (kA X.S False W):=fun W hs=>nY X.S W hs (hp.gb.col hb) 70000 (hp.gb.b hb) Nb
 cases hc:X.R.closed with
 | true=>exact ur w0 W X o k m h hp hb hE hk hc hC
 | false=>exact yH w0 W X o k m h hp hb hE hk hc hm hC
theorem Bu{S:AS}{k:Nat}(h:GB S k){l D:Bs}{w:World}{e:Ending}{w':World}(hp:sS S l D 70000 w e w'):
  ∃(kk:Int) (ev:Value) (n:Int) (S':AS),e=.returned (.tuple #[.int .i64 kk,ev])/\oP ev n/\kC S k S'/\Turns (N9 S) (N9 S') w w':=by
 rcases hp with⟨n,rfl,hG,-⟩|⟨h1,h2,h3,h4,⟨sp,N8,rfl,h5,hG,-⟩|⟨S',V,rfl,h5,h6,h7,hG⟩⟩
 ·exact⟨_,_,n,S,rfl,.inr rfl,h.same,hG⟩
 ·exact⟨_,_,8,et S sp,rfl,.inr rfl,⟨rfl,⟨rfl,rfl⟩,(h.spare h5).mono Nb⟩,hG⟩
 ·refine⟨_,_,0,S',rfl,.inl ⟨rfl,rfl⟩,⟨h5.a,⟨h5.closed,h5.d⟩,?_⟩,hG⟩;have hpl:=dy h2;have hr:=Bw (S:=S) (D:=D) hpl (n:=(V.num:Int)) (s:=(V.size:Int)) h5.YE;have hg:=h5.grow;rw[NM]at hg;have hc:=h.N8;exact h.put h5 h6 (b:=80000) (h7 80000 (by have:=kf S D;omega) (by have:=o7 D;omega)) Nb Nb h3 Nb
theorem K3{w0 W7:World}{X:WS}{k m:Nat}{W:World}(h:PV w0 W X)(hp:GP X k m){o:Pj}{dsl:Option Addr}{OC:Nat}(hq:o.d.length<=OC/\OC<=9223372036854775807)(hd:ak w0 dsl (o.d.map am))(hP:X.R.closed=false/\az o.s=true/\o.d.length<=4000/\(di X.R.vs:Int)+o.d.length<=X.R.quota){S':AS}(hs:kC X.S k S'){vv cv:Value}(hc:PE cv o.d/\PI (we X o vv cv)){mv:Value}{M':List RI}{ob:Nat}{oo:Obj}(hT:Turns [] ((X.U.blk,Is (bw { X.U with most:=mv }))::(ob,Is oo)::(bP mv M'++(N9 S'++(aC (we X o vv cv)++(aJ cv o.d++ay X.P))))) w0 W7)(g1:vi mv M')(g2:M'.map (·.bs)=fT (X.M.map (·.bs)) (aD o.d))(g3:∀x∈M',x∈X.M\/lM dsl OC o.d x):
  PV w0 W7 { X with U:={ X.U with most:=mv },S:=S',R:=we X o vv cv,P:=X.P++[(cv,o.d)],M:=M' }/\GP { X with U:={ X.U with most:=mv },S:=S',R:=we X o vv cv,P:=X.P++[(cv,o.d)],M:=M' } (k+1) (m+o.d.length):=by
 have hr:O8 X.R (we X o vv cv) (X.P++[(cv,o.d)]) (k+1) o.d.length:=xC h.inv h.ref h.inp hp.vs hp.ts hp.nums (l:=o.s) (D:=o.d) (n:=0) (.inr ⟨rfl,hP.1,hP.2.1,hP.2.2.1,hP.2.2.2,vv,cv,hc.1,hc.2,rfl,rfl⟩);have hmem:∀p∈X.P,p∈X.P++[(cv,o.d)]:=fun p hp=>mem_append_left _ hp
 obtain⟨s1,s2,s3⟩:=hs;refine⟨⟨hT.drop (fun x=>?_),?_,h.r,hc.2,?_,hr.inp,g1,?_,?_,hr.inv⟩,⟨s3,hr.vs,hr.ts,hr.nums,by have:=hr.used;have:=hp.used;show di (we X o vv cv).vs<=_;omega,?_,?_⟩⟩
 ·unfold gF;show cnt x ((X.U.blk,Is (bw { X.U with most:=mv }))::(N9 S'++(aC (we X o vv cv)++(ay (X.P++[(cv,o.d)])++bP mv M'))))<=_;rw[xv];simp only[ao,af];omega
 ·show X.U.a=some S'.a;rw[s1];exact h.a
 ·intro p hp;rcases mem_append.1 hp with hp|hp
  ·exact h.Ru p hp
  ·obtain rfl:=mem_singleton.1 hp;exact hc.1
 ·intro x hx;rcases g3 x hx with hx|hx
  ·exact(h.ms x hx).grow hmem
  ·exact .inl (hx.at hd hq.1 hq.2)
 ·show X.R.closed=S'.X.closed;rw[s2.1];exact h.lc
 ·have h1:=congrArg length g2;have h2:=qU (X.M.map (·.bs)) (aD o.d);have h3:=o7 o.d;have h4:=hp.ml;rw[NP]at h1 h2;show M'.length<=_;omega
 ·intro x hx;have h1:x.bs∈fT (X.M.map (·.bs)) (aD o.d):=by rw[<- g2];exact mem_map.2 ⟨x,hx,rfl⟩
  rcases wD.1 h1 with h1|h1
  ·obtain⟨y,hy,e⟩:=mem_map.1 h1;rw[<- e];exact hp.mb y hy
  ·have:=Ai h1;have:=hP.2.2.1;omega
theorem uu(w0 W:World)(X:WS)(o:Pj)(k m:Nat)(h:PV w0 W X)(hp:GP X k m)(hb:k<=1000)(hm:m+o.d.length<=60000)(hE:bh w0)(ho:Qs w0 o)(hk:o.kind=1):
  Calls prog 23 #[.pointer (some ⟨X.U.blk,0,none⟩),PG o] W (gK w0 X (k+1) (m+o.d.length)):=by
 obtain⟨dsl,OC,hdv,hdc,hdc9,hdcell⟩:=ho.dv;have HH:=Ry h hp hb hm hE ho hk;have HQ:=Ob hdc hdc9;have HD:=Ob hdv hdcell;have hk':=hk;obtain⟨ok,oa,Ot,oc,os,ot,OA,od⟩:=o;simp only at hk' hdv hdc hdcell hm;subst hk';subst hdv;have hd6:od.length<=60000:=Nb
 clear h hp hb hm hE ho hk hdcell;unfold PG QI;go_enter func23,ntmps23;go_upto_region 9 with(fail);obtain⟨ob,hob⟩:=Na W.heap.size
 have hT1:Turns [] ((ob,Is (oO ⟨1,oa,Ot,oc,os,ot,.slice dsl od.length OC,od⟩))::gF X) w0 (W.alloc (.cells #[.int .i64 1,.int .i64 oa,.int .i64 Ot,.int .i64 oc,str os,str ot,.slice dsl od.length OC] 65)):=by
  rw[hob];exact HH.a.turns.Q9 _
 rw[<- hob];generalize W.alloc (.cells #[.int .i64 1,.int .i64 oa,.int .i64 Ot,.int .i64 oc,str os,str ot,.slice dsl od.length OC] 65)=W1 at hT1 ⊢;have o6:W1.cell? ⟨ob,6,none⟩=some (.slice dsl od.length OC):=aa hT1.sat.Q5 6 rfl;have hDW:∀(W:World) (G:HF),Turns [] G w0 W->ak W dsl (od.map am):=fun W G hG=>HD.z.turns (by exact hG)
 have HDW:=NZ hDW;have HT1:=NZ hT1;clear hT1 hDW hob;go_wp2_with fail;refine(BK dsl OC od W1 Nb (HDW.o _ _ HT1.o)).mono ?_;intro e W2 hr;obtain⟨rfl,UJ⟩:=BL hr;obtain⟨B,hBd⟩:=Na W1.heap.size;rw[<- hBd]at UJ ⊢
 have hT2:Turns [] (N9 X.S++((ob,Is (oO ⟨1,oa,Ot,oc,os,ot,.slice dsl od.length OC,od⟩))::(B,Is (.cells (aw (od++[71,72])) 5 (0,0)))::(X.U.blk,Is (bw X.U))::(aC X.R++(ay X.P++bP X.U.most X.M)))) w0 W2:=by
  have:=HT1.o.Qb UJ;unfold gF at this;exact this.to ac
 have HT2:=NZ hT2;clear hr UJ hT2 hBd o6;go_upto_region 10 with(fail)
 have hcells:∀(W:World) (G:HF),Turns [] (G++((ob,Is (oO ⟨1,oa,Ot,oc,os,ot,.slice dsl od.length OC,od⟩))::(B,Is (.cells (aw (od++[71,72])) 5 (0,0)))::(X.U.blk,Is (bw X.U))::(aC X.R++(ay X.P++bP X.U.most X.M)))) w0 W ->
   W.cell? ⟨X.U.blk,1,none⟩=some (.pointer (some ⟨X.S.a,0,none⟩))/\W.cell? ⟨ob,4,none⟩=some (str os):=by
  intro W G hT;have hu:W.heap[X.U.blk]?=some (bw X.U):=hT.sat.Q7 Nh;have ho:W.heap[ob]?=some (oO ⟨1,oa,Ot,oc,os,ot,.slice dsl od.length OC,od⟩):=hT.sat.Q7 Nh;refine⟨?_,aa ho 4 rfl⟩;have:=aa hu 1 (v:=rB X.U.a) rfl;rw[HH.a.a]at this;exact this
 have PL:=NZ hcells;clear hcells;obtain⟨u1,o4⟩:=PL.o W2 _ HT2.o;have HO:=NZ (qS X.S os od (some ⟨B,0,none⟩) (od.length+2) 70000 W2.drew (HT2.o.drew.sat.left) HH.b.gb.ok (HH.b.gb.b HH.c) Nb (DY (HT2.o.drew.sat.Q7 Nh)) Nb Nb (fun _ x hx hd=>by obtain rfl:=Option.some.inj hx;exact HT2.o.drew.sat.Qh hd Nh) (by have:=HH.f.s;simp only at this;omega) (by have:=HH.b.gb.quota;omega));refine aF 7 HM.o Nc rfl ?_;simp only[QE,take_zero];repeat still_step
 refine wpStill_nil ?_;refine aO Nc HO.o ?_;intro e W3 hp;obtain⟨kk,ev,n,S',rfl,hev,hgn,hG⟩:=Bu HH.b.gb hp;refine⟨_,rfl,?_⟩;simp only[Act.put,QA,QB,QC,QD,drop_zero];repeat still_step
 refine wpStill_nil ?_;have Oa:=HT2.o.drew.step (Perm.refl _) hG;have HT3:=Oz Oa hev hgn;clear hp hG Oa hev hgn;have o6:W3.cell? ⟨ob,6,none⟩=some (.slice dsl od.length OC):=aa (HT3.a.sat.Q7 (b:=ob) (o:=oO ⟨1,oa,Ot,oc,os,ot,.slice dsl od.length OC,od⟩) Nh) 6 rfl;go_wp2_with fail;refine(BV B dsl OC od W3 Nb (HT3.a.sat.Q7 Nh) (HDW.o _ _ HT3.a)).mono ?_;rintro e W4 ⟨rfl,hs4⟩
 have Oj:Turns [] (N9 S'++((ob,Is (oO ⟨1,oa,Ot,oc,os,ot,.slice dsl od.length OC,od⟩))::(X.U.blk,Is (bw X.U))::(aC X.R++(ay X.P++bP X.U.most X.M)))) w0 W4 :=
  (HT3.a.to (H:=(B,Is (.cells (aw (od++[71,72])) 5 (0,0)))::(N9 S'++((ob,Is (oO ⟨1,oa,Ot,oc,os,ot,.slice dsl od.length OC,od⟩))::(X.U.blk,Is (bw X.U))::(aC X.R++(ay X.P++bP X.U.most X.M))))) ac).WI hs4
 have hc4:∀(W:World) (F:HF),Turns [] (F++((ob,Is (oO ⟨1,oa,Ot,oc,os,ot,.slice dsl od.length OC,od⟩))::(X.U.blk,Is (bw X.U))::(ay X.P++bP X.U.most X.M))) w0 W->W.cell? ⟨X.U.blk,2,none⟩=some (.pointer (some ⟨X.R.blk,0,none⟩))/\W.cell? ⟨ob,4,none⟩=some (str os)/\W.cell? ⟨ob,6,none⟩=some (.slice dsl od.length OC):=by
  intro W F hT;have hu:W.heap[X.U.blk]?=some (bw X.U):=hT.sat.Q7 Nh;have ho:W.heap[ob]?=some (oO ⟨1,oa,Ot,oc,os,ot,.slice dsl od.length OC,od⟩):=hT.sat.Q7 Nh;refine⟨?_,aa ho 4 rfl,aa ho 6 rfl⟩;have:=aa hu 2 (v:=.pointer (some ⟨X.U.r,0,none⟩)) rfl;rw[HH.a.r]at this;exact this
 have HT4:=Ob Oj hc4;clear hs4 Oj hc4 o6;go_upto_region 12 with(fail);obtain⟨u2,o4',o6'⟩:=HT4.z W4 (N9 S'++aC X.R) (HT4.a.to ac);have HR:=NZ (uO X.R X.P os od dsl OC W4.drew (HH.a.Qj HH.b HH.c (HT4.a.drew.sat.right.tail.tail.sub (G:=aC X.R++ay X.P) (fun x=>by simp only[af];omega))) (fun v hv=>by have h1:=HH.b.nums v hv;have h2:=(HH.a.inv.each v hv).1;have h3:=HH.c;omega) (HDW.o _ _ HT4.a.drew) Nb);refine aF 8 HM.o Nc rfl ?_;simp only[QE,take_zero];repeat still_step
 refine wpStill_nil ?_;refine aO Nc HR.o ?_;intro e W5 hp;rcases hp with⟨f,rfl,hs5,hf⟩|⟨h1,h2,h3,h4,vv,cv,rfl,hco,hro,hG⟩
 ·have hf0:f≠0:=Nb
  refine⟨_,rfl,?_⟩;simp only[Act.put,QA,QB,QC,QD,drop_zero];repeat still_step
  refine wpStill_nil ?_;have Og:=HT4.a.drew.Q8 hs5;have WX:bh W5:=HH.e.keep Og.mods (fun h=>by simp at h);have PX:=NZ (bc ev n W5 WX (HT3.b.is W5));have QX:=NZ Og;have hn0:(f==0)=false:=by simpa using hf0
  clear hs5 Og WX hf hf0;go_wp2_with fail;refine PX.o.mono ?_;rintro e W6 ⟨rfl,hs6⟩;have Ox:=QX.o.Q8 hs6
  have hfin:PV w0 W6 { X with S:=S',R:=X.R }/\GP { X with S:=S',R:=X.R } (k+1) (m+od.length):=by
   refine⟨HH.a.next (Ox.drop (fun x=>by unfold gF;simp only[ao,af]<;>omega)) HT3.c rfl HH.a.ref HH.a.inp (by rw[HT3.d.1];exact HH.a.lc) HH.a.inv,?_⟩;exact(HH.b.keep HT3.w).mono (Nat.le_refl _) Nb
  have HF:=NZ hfin;clear hs6 Ox hfin;by_cases hkm:kk=0
  ·go_wp2_with (go_at_call 41;refine(bC _ _).mono ?_;rintro e w' ⟨rfl,rfl⟩)
   all_goals
    go_ret;refine ⟨_,_,rfl,HF.a,HF.z,rfl⟩
  ·go_wp2_with (go_at_call 41;refine(bC _ _).mono ?_;rintro e w' ⟨rfl,rfl⟩)
   all_goals
    go_ret;refine ⟨_,_,rfl,HF.a,HF.z,rfl⟩
 ·refine⟨_,rfl,?_⟩;simp only[Act.put,QA,QB,QC,QD,drop_zero];repeat still_step
  refine wpStill_nil ?_
  have Og:Turns [] ((X.U.blk,Is (bw X.U))::(ob,Is (oO ⟨1,oa,Ot,oc,os,ot,.slice dsl od.length OC,od⟩))::(bP X.U.most X.M++(N9 S'++(aC (we X ⟨1,oa,Ot,oc,os,ot,.slice dsl od.length OC,od⟩ vv cv)++(aJ cv od++ay X.P))))) w0 W5:=by
   have:=(HT4.a.drew.to (H:=aC X.R++(N9 S'++((ob,Is (oO ⟨1,oa,Ot,oc,os,ot,.slice dsl od.length OC,od⟩))::(X.U.blk,Is (bw X.U))::(ay X.P++bP X.U.most X.M)))) ac).step (Perm.refl _) hG;exact this.to (by unfold we;exact ac)
  have WX:bh W5:=HH.e.keep Og.mods (fun h=>by simp at h);have PX:=NZ (bc ev n W5 WX (HT3.b.is W5));have QX:=Oz Og hco hro;have HP:=OW h1 h2 h3 h4;clear hG Og WX hco hro h1 h2 h3 h4;go_wp2_with fail;refine PX.o.mono ?_;rintro e W6 ⟨rfl,hs6⟩;have RU:=NZ (QX.a.Q8 hs6);clear hs6;go_upto_region 15 with(fail);obtain⟨o,ho⟩:=Na (⟨1,oa,Ot,oc,os,ot,.slice dsl od.length OC,od⟩:Pj);obtain⟨Zr,hZr⟩:=Na (N9 S'++(aC (we X o vv cv)++(aJ cv od++ay X.P)):HF);rw[<- ho,<- hZr]at RU;have Y9:=Ob ho hZr;clear ho hZr;refine cH [([0,1,2,3,4,5,6],7,[0]),([8,9],10,[])] [] HM.o Nc fun W tW=>?_
  simp only[Mix,map_cons,map_nil,nth,QG,QF];have hTx:=tW RU.o;clear tW;have g0:W.cell? ⟨X.U.blk,5,none⟩=some X.U.most:=aa hTx.sat.Q5 5 rfl
  have g1:W.cell? ⟨ob,6,none⟩=some (.slice dsl od.length OC):=by
   have:=aa hTx.sat.tail.Q5 6 (v:=o.dv) rfl;rw[Y9.a]at this;exact this
  repeat still_step
  have hx:=hTx.to (H:=bP X.U.most X.M++((X.U.blk,Is (bw X.U))::(ob,Is (oO o))::Zr)) ac;have Ur:∀x,cnt x (ay X.P)<=cnt x Zr:=fun x=>by rw[Y9.z];simp only[af];omega
  refine wpStill_nil (aO Nc (uN dsl OC od X.U.most X.M W hx.sat.left HH.a.most (fun W' G hG x hxm=>?q1) (fun W' G hG=>?q2) HQ.a HQ.z Nb (by have:=HH.b.ml;have:=HH.d;omega)) ?_)
  case q1 =>
   have hy:=hx.step (Perm.refl _) hG;exact(HH.a.ms x hxm).at hy (hy.sat.sub (G:=ay X.P) (fun x=>by have:=Ur x;simp only[ao,af];omega)) HH.a.Ru
  case q2=>exact HDW.o _ _ (hx.step (Perm.refl _) hG)
  rintro e W5' ⟨y84,M',rfl,g1',g2,g3,g4⟩;have k1:=hx.step (Perm.refl _) g4;refine⟨_,rfl,by(repeat still_step);exact rfl,?_⟩;simp only[Act.put,QA,QB,QC];repeat still_step
  have k2:=cT k1.sat.left g1';refine wpStill_nil (aX 61 (.tmp 86) (.tmp 84) rfl X.U.blk 5 (cA X.U) 63 y84 (k1.to (H:=(X.U.blk,Is (bw X.U))::((ob,Is (oO o))::(bP y84 M'++Zr))) ac) rfl rfl Nw Nc k2.1 k2.2.1 fun W7 k3=>⟨rfl,?_⟩);simp only[Act.put];refine wpStill_nil ?_;have OH:Turns [] ((X.U.blk,Is (bw { X.U with most:=y84 }))::(ob,Is (oO o))::(bP y84 M'++Zr)) w0 W7:=k3;rw[Y9.z,Y9.a]at OH;have hfin:=K3 (o:=⟨1,oa,Ot,oc,os,ot,.slice dsl od.length OC,od⟩) HH.a HH.b HQ.o HD.z HP.o HT3.y QX.z OH g1' g2 g3;have HF:=NZ hfin;clear RU Y9 hTx g0 g1 hx Ur g1' g2 g3 g4 k1 k2 k3 OH hfin;by_cases hkm:kk=(ky X.R.vs os X.R.vs.length:Int)
  ·go_wp2_with (go_at_call 41;refine(bC _ _).mono ?_;rintro e w' ⟨rfl,rfl⟩)
   all_goals
    go_ret;refine ⟨_,_,rfl,HF.a,HF.z,rfl⟩
  ·go_wp2_with (go_at_call 41;refine(bC _ _).mono ?_;rintro e w' ⟨rfl,rfl⟩)
   all_goals
    go_ret;refine ⟨_,_,rfl,HF.a,HF.z,rfl⟩
end
end Go.Proofs.YtdhobpbngkainaaGreatDoor
