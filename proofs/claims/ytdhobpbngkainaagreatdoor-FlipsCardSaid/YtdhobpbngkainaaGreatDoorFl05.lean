/- Ours. A part of the proof, made small by a program. -/
import Derived.Test.YtdhobpbngkainaaGreatDoorFl04
set_option maxRecDepth 100000
set_option maxHeartbeats 4000000
namespace Go.Proofs.YtdhobpbngkainaaGreatDoor
open List
section
open Go.RowKit Go.Maps
open Go.ChangeMaps (setBlock)
def di(n d:Int)(V:VerL):VerL:=if(V.num:Int)=n then { V with held:=V.held+d } else V
def cP(ps:List aW)(p:Bs)(n d:Int):List aW:=ps.map (fun q=>if q.key=p then { q with g:=q.g.map (di n d) } else q)
theorem gy(n d:Int)(V:VerL):(di n d V).blk=V.blk/\(di n d V).cv=V.cv/\(di n d V).chs=V.chs/\(di n d V).num=V.num/\(di n d V).size=V.size:=by
 unfold di;split<;>exact⟨rfl,rfl,rfl,rfl,rfl⟩
theorem wH(n d:Int)(vs:List VerL):(vs.map (di n d)).map ee=vs.map ee:=by
 rw[map_map];refine map_congr_left fun V _=>?_
 show ee (di n d V)=ee V;unfold ee;rw[(gy n d V).1]
theorem nD(ps:List aW)(p:Bs)(n d:Int):(cP ps p n d).map aO=ps.map aO:=by
 unfold cP;rw[map_map];refine map_congr_left fun q _=>?_
 show aO (if q.key=p then _ else q)=_;split<;>rfl
theorem C1(ps:List aW)(p:Bs)(n d:Int)(l:Bs):(cP ps p n d).find? (fun q=>decide (q.key=l))=(ps.find? (fun q=>decide (q.key=l))).map (fun q=>if q.key=p then { q with g:=q.g.map (di n d) } else q):=by
 unfold cP;rw[find?_map];congr 2;funext q;show decide ((if q.key=p then _ else q).key=l)=_;split<;>rfl
theorem gT(ps:List aW)(p:Bs)(n d:Int)(l:Bs):af (cP ps p n d) l=if l=p then(af ps p).map (di n d)else af ps l:=by
 unfold af gOf;rw[C1];by_cases h:l=p
 ·subst h;rw[if_pos rfl]
  cases hf:ps.find? (fun q=>decide (q.key=l))with
  | none=>rfl
  | some q =>
   have:q.key=l:=by simpa using find?_some hf
   simp[this]
 ·rw[if_neg h]
  cases hf:ps.find? (fun q=>decide (q.key=l))with
  | none=>rfl
  | some q =>
   have:q.key=l:=by simpa using find?_some hf
   simp[this,h]
theorem FL(ps:List aW)(p:Bs)(n d:Int)(z:Value)(l:Bs):eH z (cP ps p n d) l=eH z ps l:=by
 rw[<- cY,<- cY,nD]
theorem ye(ps:List aW)(p:Bs)(n d:Int):bH (cP ps p n d) p=bH ps p:=by
 unfold bH cP;induction ps with
 | nil=>rfl
 | cons q r ih =>
  rw[map_cons,filter_cons,filter_cons,ih];by_cases h:q.key=p
  ·simp[h]
  ·simp[h]
theorem Al{ps:List aW}{c:Nat}(h:PathsOk ps c)(p:Bs)(n d:Int):PathsOk (cP ps p n d) c:=by
 refine⟨by rw[nD];exact h.map,fun q hq=>?_⟩;obtain⟨q0,hq0,rfl⟩:=mem_map.1 hq;have h0:=h.rows q0 hq0;split
 ·refine⟨?_,fun V hV=>?_⟩
  ·have h1:=h0.1;unfold eP at h1 ⊢;rw[wH,length_map];exact h1
  ·obtain⟨V0,hV0,rfl⟩:=mem_map.1 hV;rw[(gy n d V0).2.1,(gy n d V0).2.2.1];exact h0.2 V0 hV0
 ·exact h0
theorem wG{ps:List aW}{p:Bs}{n d:Int}(h:∀q∈ps,q.g≠[]):∀q∈cP ps p n d,q.g≠[]:=fun q hq=>by
 obtain⟨q0,hq0,rfl⟩:=mem_map.1 hq
 split
 ·exact fun e=>h q0 hq0 (map_eq_nil_iff.1 e)
 ·exact h q0 hq0
theorem yq{ps:List aW}(p:Bs)(n d:Int)(h:(ps.map (·.key)).Nodup):(gm er (cP ps p n d)).Perm (ek (eH (.slice none 0 0) ps p) (af ps p)++(gm er (bH ps p)++((af ps p).map (di n d)).flatMap bT)):=by
 have hk:((cP ps p n d).map (·.key)).Nodup:=by rw[<- cE,nD,cE];exact h
 have:=kz p hk;unfold dH at this;rw[FL,ye,gT,if_pos rfl]at this;have e:ek (eH (.slice none 0 0) ps p) ((af ps p).map (di n d))=ek (eH (.slice none 0 0) ps p) (af ps p):=by unfold ek;rw[wH,length_map]
 rwa [e]at this
def D1(F1 G:HF)(vs:List VerL)(n d:Int)(w:World)(v _v7:Value)(W:World):Prop :=
 ∃k:Nat,k<=vs.length/\v=.int .i64 k/\Turns F1 (((vs.take k).map (di n d)).flatMap bT++((vs.drop k).flatMap bT++G)) w W
def qU(m p:Bs)(n:Int):Value:=.agg #[str m,str p,.int .i64 n]
def BO(O:Obj)(j:Nat)(v:Value):Prop:=∀(a:Nat) (W:World),W.heap[a]?=some O->W.cell? ⟨a,j,none⟩=some v
def GV(a:Nat)(O:Obj)(pm:Nat)(ps:List aW)(pc:Nat)(p:Bs)(n d:Int)(w:World)(e:Ending)(w':World):Prop :=
 e=.returned (.tuple #[])/\Turns ((a,Is O)::aF pm ps pc) ((a,Is O)::aF pm (cP ps p n d) pc) w w'
theorem Iy(a:Nat)(O:Obj)(pm:Nat)(hO:BO O 0 (.map (some pm)))(ps:List aW)(pc:Nat)(m p:Bs)(n d:Int)(w:World)(h:Sat w ((a,Is O)::aF pm ps pc))(hok:PathsOk ps pc)(hl:OkS p)(hvl:(af ps p).length<=1099511627776)(hd : -1<=d/\d<=1)(hh:∀V∈af ps p,V.held.natAbs<=1099511627776):
  Calls Tryz.prog 145 #[.pointer (some ⟨a,0,none⟩),qU m p n,.int .i64 d] w (GV a O pm ps pc p n d w):=by
 obtain⟨F1,hF1⟩:∃F1,F1=(a,Is O)::aF pm ps pc:=⟨_,rfl⟩;obtain⟨v0,hv0⟩:∃v0,v0=eH (.slice none 0 0) ps p:=⟨_,rfl⟩;obtain⟨vs,hvs⟩:∃vs,vs=af ps p:=⟨_,rfl⟩;obtain⟨G,hG⟩:∃G,G=(a,Is O)::(pm,Is (aQ str (ps.map aO) pc))::(ek v0 vs++gm er (bH ps p)):=⟨_,rfl⟩
 have hT0:Turns F1 (vs.flatMap bT++G) w w:=by
  rw[hF1,hG];refine(Turns.refl h).to ?_;have hp:=kz p (by rw[<- cE];exact hok.map.nodup);unfold dH at hp;rw[<- hv0,<- hvs]at hp;unfold aF;refine(Perm.cons _ (Perm.cons _ hp)).trans ?_;exact ae
 obtain⟨sl,cap,hl1,hl2,hl6,hl3,hl4,-⟩:=gV h.tail hok p;rw[<- hv0,<- hvs]at hl1;rw[<- hvs]at hvl hh hl2 hl3;have a0:w.cell? ⟨a,0,none⟩=some (.map (some pm)):=hO _ _ h.Q5;have hal:=ac h.Q5;have hmo:=h.tail.Q5;subst hl1;have HH:=qqH (And.intro hT0 (And.intro hok (And.intro hl (And.intro hh (And.intro hv0 (And.intro hvs (And.intro hG (And.intro hF1 (And.intro hmo h)))))))));have hval:eH (.slice none 0 0) ps p=.slice sl vs.length cap:=hv0.symm;have hptr:eP (.slice sl vs.length cap) vs:=by rw[hv0,hvs];exact uw hok p
 have HP:=Hq2 hptr hval;clear hT0 hok hl hh hv0 hvs hG hF1 hmo h hptr hl3 hl4 hval;unfold qU;go_enter Tryz.func145,Tryz.ntmps145;go_upto_region 1 with(fail);obtain⟨pb,hpb⟩:∃pb,pb=w.heap.size:=⟨_,rfl⟩;obtain⟨W,hW⟩:∃W,W=w.alloc (.cells #[str m,str p,.int .i64 n] 230):=⟨_,rfl⟩;rw[<- hW];have hs:aX w W:=by rw[hW];exact(Mods.refl _ w).alloc _
 have hT1:Turns F1 (vs.flatMap bT++((pb,Is (.cells #[str m,str p,.int .i64 n] 230 (0,0)))::G)) w W:=by
  have:=HH.a.Q8 (.cells #[str m,str p,.int .i64 n] 230);rw[hpb,hW];exact this.to ae
 subst hpb;have hbo:=hT1.sat.Q7 (b:=w.heap.size) (o:=.cells #[str m,str p,.int .i64 n] 230 (0,0)) (by simp);have b1:W.cell? ⟨w.heap.size,1,none⟩=some (str p):=aa hbo 1 rfl;have hbl:w.heap.size<W.heap.size:=ac hbo;have a1:W.cell? ⟨a,0,none⟩=some (.map (some pm)):=hO _ _ (hs.at HH.out.2.2.2.2.2.2.2.2.2.Q5 id)
 have hlk:∀k,(Instr.lookup 119 (.map (some pm)) (str p) false).run Tryz.prog (W.drewN k)=.ok (.slice sl vs.length cap) (W.drewN k):=fun k=>by
  have:=uH eb Tryz.underlying119 (w:=W.drewN k) (hs.at HH.out.2.2.2.2.2.2.2.2.1 id) HH.b.map (gz _) HH.c;rwa [cY,HP.z]at this
 have H1:=qqH hT1;clear hW hs hT1 hbo a0;go_quiet (fail);have HT:=qqH (H1.out.drewN nq);clear hlk a1 b1;obtain⟨pb,hpb⟩:∃pb,pb=w.heap.size:=⟨_,rfl⟩;rw[<- hpb]at HT hbl ⊢;clear hpb;go_wp2_with fail;go_loopw [16,7] (fun v v7 wr=>D1 F1 ((pb,Is (.cells #[str m,str p,.int .i64 n] 230 (0,0)))::G) vs n d w v v7 wr) (fun v _ _=>vs.length-(intOf v).toNat)
 case atStart=>exact⟨0,Nat.zero_le _,rfl,by simpa using HT.out⟩
 case round =>
  obtain⟨k,hk,rfl,hT⟩:=hrel;by_cases hlt:k<vs.length
  ·obtain⟨V,hV⟩:∃V,V=vs[k]:=⟨_,rfl⟩;have hdr:vs.drop k=V::vs.drop (k+1):=by rw[hV];exact drop_eq_getElem_cons hlt
   obtain⟨a',c',e1,-,-,hrow,-⟩:=aP (aR (hT.sat.sub (G:=ek (.slice sl vs.length cap) vs) (fun x=>by rw[HH.g];simp only[ao,ah];omega)) HP.a);simp only[Value.slice.injEq]at e1;obtain⟨rfl,-,-⟩:=e1;obtain⟨g,off,hg,hcell⟩:=hrow (by rw[length_map];omega);subst hg;have hck:wr.cell? ⟨g,off+k,none⟩=some (ee V):=by rw[hcell k (by simpa using hlt)];simp[hV]
   unfold ee at hck;rw[hdr]at hT;have hT2:=hT.to (H:=(V.blk,Is (dq V))::(((vs.take k).map (di n d)).flatMap bT++(aU V.cv V.chs++((vs.drop (k+1)).flatMap bT++((pb,Is (.cells #[str m,str p,.int .i64 n] 230 (0,0)))::G))))) (by rw[flatMap_cons];unfold bT;exact ae);have hvo:=hT2.sat.Q5;have v0:wr.cell? ⟨V.blk,0,none⟩=some (.int .i64 V.num):=aa hvo 0 rfl;have v3:wr.cell? ⟨V.blk,3,none⟩=some (.int .i64 V.held):=aa hvo 3 rfl;have f3:=bf hvo 3;have hbo:=hT2.sat.Q7 (b:=pb) (o:=.cells #[str m,str p,.int .i64 n] 230 (0,0)) (by simp);have b2:wr.cell? ⟨pb,2,none⟩=some (.int .i64 n):=aa hbo 2 rfl;have hhV:=HH.d V (hV ▸ getElem_mem hlt);have htk:(vs.take (k+1)).map (di n d)=(vs.take k).map (di n d)++[di n d V]:=by rw[QH hlt,map_append,hV];rfl
   have HR:=Hq3 hT2 hvo htk;clear hT hT2 hvo hbo hcell hrow htk hdr hV
   have HRel:∀W':World,Turns F1 ((V.blk,Is (dq (di n d V)))::(((vs.take k).map (di n d)).flatMap bT++(aU V.cv V.chs++((vs.drop (k+1)).flatMap bT++((pb,Is (.cells #[str m,str p,.int .i64 n] 230 (0,0)))::G))))) w W'->∀v7,D1 F1 ((pb,Is (.cells #[str m,str p,.int .i64 n] 230 (0,0)))::G) vs n d w (.int .i64 ((k:Int)+1)) v7 W':=fun W' hT v7=>by
    refine⟨k+1,by omega,by go_num,hT.to ?_⟩;rw[HR.y,flatMap_append]
    have hv:[di n d V].flatMap bT=(V.blk,Is (dq (di n d V)))::aU V.cv V.chs:=by
     obtain⟨e1,e2,e3,-⟩:=gy n d V;simp only[flatMap_cons,flatMap_nil,append_nil,bT,e1,e2,e3]
    rw[hv];exact ae
   have HREL:=qqH HRel;clear HRel;by_cases c1:(V.num:Int)=n
   ·have hho:di n d V={ V with held:=V.held+d }:=by unfold di;rw[if_pos c1]
    have hw:IntKind.i64.wrap (V.held+d)=V.held+d:=IntWalk.i64_in _ (by omega);have HW:=Hq2 hho hw;clear hho hw;go_wp2_with fail;go_quiet (fail);have HV:=Hq2 v3 f3;clear v0 v3 f3 b2 hck;obtain⟨w1,hw1⟩:∃w1,w1=wr.drewN nq:=⟨_,rfl⟩;rw[<- hw1];have hT1:=hw1 ▸ HR.a.drewN nq;have hvo1:=hT1.sat.Q5;have v3:w1.cell? ⟨V.blk,3,none⟩=some (.int .i64 V.held):=aa hvo1 3 rfl;have f3:=bf hvo1 3;have H1:=Hq2 hT1 hvo1;clear hw1 hT1 hvo1;have hw:=HW.z;go_wp2_with fail;go_roundw
    case rel =>
     refine HREL.out _ ?_ _;refine(H1.a.Qa ((Mods.refl _ w1).set1 (i:=3) (.int .i64 (V.held+d))) ?_);rw[bB H1.z 3 _,HW.a];rfl
    case measure=>simp[intOf];omega
   ·have hho:di n d V=V:=by unfold di;rw[if_neg c1]
    have HW:=qqH hho;clear hho;go_wp2_with fail;go_quiet (fail);go_wp2_with fail;go_roundw
    case rel =>
     refine HREL.out _ ?_ _;rw[HW.out];exact HR.a.drewN nq
    case measure=>simp[intOf];omega
  ·obtain rfl:k=vs.length:=by omega
   rw[take_length,drop_length]at hT;have HR:=qqH hT;clear hT;go_wp2_with fail;refine bodyPost_end (results_none rfl _ _ _) rfl ⟨rfl,?_⟩;rw[<- HH.h];have hp:=yq p n d (by rw[<- cE];exact HH.b.map.nodup);rw[HP.z,<- HH.f]at hp;unfold aF;rw[nD];refine HR.out.drop (fun x=>?_);have h1:=tA hp x;rw[HH.g];simp only[ao,ah]at h1 ⊢;omega
end
section
open Go.RowKit Go.Maps
abbrev E8:=Nat×Nat×List (Nat×Nat)×Int
def bump(n d:Int)(t:E8):E8:=if(t.1:Int)=n then(t.1,t.2.1,t.2.2.1,t.2.2.2+d)else t
theorem GH(n d:Int)(V:VerL):bp (di n d V)=bump n d (bp V):=by
 unfold bp di bump;split<;>rfl
theorem GI(ns:List Int)(vs:List VerL):(dD ns vs).map bp=(vs.map bp).filter (fun t => !ns.contains (t.1:Int)):=by
 rw[filter_map];rfl
theorem FI(H:List HV)(p l:Bs)(ns:List Int):((jt H p ns).filter (fun h=>decide (h.p=l))).map cy=if l=p then((H.filter (fun h=>decide (h.p=p))).map cy).filter (fun t => !ns.contains (t.1:Int))else(H.filter (fun h=>decide (h.p=l))).map cy:=by
 unfold jt;rw[filter_filter];split
 ·rename_i e;subst e;rw[filter_map,filter_filter];congr 2;funext h;show(decide (h.p=l) && !(decide (h.p=l)&&ns.contains (h.num:Int)))=(!ns.contains (h.num:Int)&&decide (h.p=l))
  cases decide (h.p=l)<;>simp
 ·rename_i e;congr 2;funext h;by_cases hp:h.p=l
  ·have:¬h.p=p:=fun e2=>e (hp.symm.trans e2)
   simp[hp,e]
  ·simp[hp]
theorem FJ(H:List HV)(p l:Bs)(n d:Int):((fw H p n d).filter (fun h=>decide (h.p=l))).map cy=if l=p then((H.filter (fun h=>decide (h.p=p))).map cy).map (bump n d)else(H.filter (fun h=>decide (h.p=l))).map cy:=by
 unfold fw;induction H with
 | nil=>simp
 | cons h r ih =>
  rw[map_cons,filter_cons,filter_cons,filter_cons];by_cases h1:h.p=l<;>by_cases h2:h.p=p<;>by_cases h3:(h.num:Int)=n<;>by_cases h4:l=p<;>simp_all[cy,bump]
theorem Gv(H:List HV)(p:Bs)(ns:List Int):(H.map (·.size)).sum=((jt H p ns).map (·.size)).sum+((((H.filter (fun h=>decide (h.p=p))).map cy).filter (fun t=>ns.contains (t.1:Int))).map (·.2.1)).sum:=by
 unfold jt;induction H with
 | nil=>rfl
 | cons h r ih =>
  rw[filter_cons,filter_cons];by_cases h1:h.p=p<;>by_cases h2:ns.contains (h.num:Int)=true<;>simp_all[cy]<;>omega
theorem yb(ns:List Int)(vs:List VerL):bX ns vs=(((vs.map bp).filter (fun t=>ns.contains (t.1:Int))).map (·.2.1)).sum:=by
 unfold bX;rw[filter_map,map_map];rfl
theorem BD(ts:List fq)(tc:Nat)(m p:Bs)(n:Int):(ef ts tc m (mx m (p,n)) (p,n)).map ex=lS (ts.map ex) (m,p,n):=by
 have e:(ts.map ex).any (fun t=>decide (t.1=m))=gJ ts m:=by unfold gJ;rw[any_map];rfl
 unfold ef lS;rw[e];split
 ·rw[map_map,map_map];refine map_congr_left fun q _=>?_
  show ex (if q.key=m then _ else q)=if q.key=m then _ else ex q
  split
  ·rename_i h;simp[ex,h]
  ·rfl
 ·simp[ex]
theorem Ji(ts:List fq)(m:Bs):(bH ts m).map ex=zT (ts.map ex) m:=by
 unfold bH zT;rw[filter_map];rfl
theorem uQ{ts:List fq}{tc:Nat}(h:TagsOk ts tc){m:Bs}(hm:OkS m)(g:Bs×Int):TagsOk (ef ts tc m (mx m g) g) (cw (ts.map aO) tc m):=by
 refine⟨by rw[iE];exact h.map.put hm _,fun q hq=>?_⟩;rcases fx hq with⟨h1,_⟩|⟨h1,h2,h3⟩
 ·exact h.val q h1
 ·rw[h1,h2,h3]
theorem DK{ts:List fq}{tc:Nat}(h:TagsOk ts tc)(m:Bs):TagsOk (bH ts m) tc :=
 ⟨by rw[mG];exact h.map.del m,fun q hq=>h.val q (mem_filter.1 hq).1⟩
theorem AY(T:List Tg)(x:Tg):(lS T x).length<=T.length+1:=by
 unfold lS;split<;>simp
theorem AZ{T:List Tg}{x t:Tg}(h:t∈lS T x):t=x\/t∈T:=by
 unfold lS at h;split at h
 ·obtain⟨y,hy,rfl⟩:=mem_map.1 h;split
  ·exact .inl rfl
  ·exact .inr hy
 ·rcases mem_append.1 h with h|h
  ·exact .inr h
  ·exact .inl (mem_singleton.1 h)
theorem qH{H:List HV}{p:Bs}{n d:Int}{h:HV}(hh:h∈fw H p n d):∃h0∈H,h.p=h0.p/\h.num=h0.num/\h.size=h0.size/\h.chs=h0.chs/\(h.held=h0.held\/h.held=h0.held+d):=by
 obtain⟨h0,h1,rfl⟩:=mem_map.1 hh;refine⟨h0,h1,?_⟩;split
 ·exact⟨rfl,rfl,rfl,rfl,.inr rfl⟩
 ·exact⟨rfl,rfl,rfl,rfl,.inl rfl⟩
theorem Cnt.grow{at_ n:Nat}{s:PSt}(h:Cnt at_ s):Cnt (at_+n) s :=
 ⟨by have:=h.n;omega,fun x hx=>by have:=h.held x hx;omega,h.size,h.tag⟩
end
section
open Go.RowKit Go.Maps
theorem A7(l:Bs)(bad:Bool)(n:Nat):db l bad n<256 ^ n:=by
 unfold db;split
 ·exact Nat.pow_pos (by omega)
 ·have h1:=fV (l.take n);exact Nat.lt_of_lt_of_le h1 (Nat.pow_le_pow_right (by omega) (by simp;omega))
theorem AL{l:Bs}:∀x∈iB l,0<=x/\x<=4294967296:=fun x hx=>by
 unfold iB at hx
 obtain⟨i,-,rfl⟩:=mem_map.1 hx
 have h1:=fV ((l.drop (4*i)).take 4)
 have h2:256 ^ ((l.drop (4*i)).take 4).length<=256 ^ 4:=Nat.pow_le_pow_right (by omega) (by simp;omega)
 omega
theorem mX{α:Type}{f:α->Nat}{m:Nat}:∀{l:List α},(∀x∈l,f x<=m)->(l.map f).sum<=m*l.length
 | [],_=>by simp
 | a::l,h=>by
  have h1:=h a (by simp)
  have h2:=mX (l:=l) (fun x hx=>h x (by simp[hx]))
  simp only[map_cons,sum_cons,length_cons,Nat.mul_add,Nat.mul_one]
  omega
def Mf(k:UInt8)(body:Bs):RecR->Prop
 | .ver p num size ats=>p.length<=255/\num<4294967296/\size<=65535/\(∀x∈ats,0<=x/\x<=4294967296)/\ats.length<=body.length
 | .gone p ns=>p.length<=255/\ns.length<=body.length
 | .pin q p m n=>q=k/\(k=4\/k=5)/\p.length<=255/\m.length<=255/\n<4294967296
theorem mS{k:UInt8}{body:Bs}{r:RecR}(h:fb k body=some r):Mf k body r:=by
 have n4:∀l b,db l b 4<4294967296:=fun l b=>Nat.lt_of_lt_of_le (A7 l b 4) (by omega)
 have n2:∀l b,db l b 2<=65535:=fun l b=>by have:=A7 l b 2;omega
 have hl:(rT (body,false)).1.length<=body.length:=iG _ _;unfold fb at h;simp only at h;split at h
 ·split at h
  ·simp only[Option.some.injEq]at h;subst h;refine⟨ma _ _,n4 _ _,n2 _ _,AL,?_⟩;rw[iZ];have h1:(rN (rN (rT (body,false)) 4) 2).1.length<=body.length:=Nat.le_trans (gk _ _ _) (Nat.le_trans (gk _ _ _) (iG _ _));omega
  ·cases h
 ·split at h
  ·split at h
   ·simp only[Option.some.injEq]at h;subst h;exact⟨ma _ _,by rw[iZ];omega⟩
   ·cases h
  ·split at h
   ·rename_i h45;split at h
    ·simp only[Option.some.injEq]at h;subst h;exact⟨rfl,h45,ma _ _,ma _ _,n4 _ _⟩
    ·cases h
   ·cases h
section
variable {D:Bs} {X:ArchL} {ps:List aW} {pc:Nat} {cs:List kg} {cc:Nat} {ts:List fq} {tc:Nat} {sz:List (Ent Int)} {szc at_:Nat} {s:PSt} {body:Bs} {n:Nat} {k:UInt8}
theorem CtOk.at_lt(h:CtOk D X ps pc cs cc ts tc sz szc at_ s):∀e∈s.K,e.2.1<at_:=fun e he=>by
 have h1:=(h.kat e he).2.2.1
 rw[length_take]at h1
 omega
theorem CtOk.on(h:CtOk D X ps pc cs cc ts tc sz szc at_ s)(ho:bM (D.drop at_)=some (k,body,n)):at_+n<=D.length/\9<=n/\body.length<=65535/\∀e∈s.K,e.2.2=e.1.length/\e.1.length<=65535/\dw (D.take (at_+n)) e.2.1 e.1:=by
 obtain⟨-,h2,h3,-,h5⟩:=dx ho;rw[length_drop]at h3;have:=h.le;refine⟨by omega,by omega,by omega,fun e he=>?_⟩;obtain⟨k1,k2,k3⟩:=h.kat e he;exact⟨k1,k2,k3.grow (by omega)⟩
theorem CtOk.chunk(h:CtOk D X ps pc cs cc ts tc sz szc at_ s)(ho:bM (D.drop at_)=some (1,body,n))(hat:at_<=4294967296){v:Value}(hv:cd v (aY cs (ed body)++[(at_,body.length)])):
  CtOk D { X with sc:=X.sc+1,sb:=X.sb+body.length } ps pc (ef cs cc (ed body) v (aY cs (ed body)++[(at_,body.length)])) (cw (cs.map aO) cc (ed body)) ts tc (gA sz szc (at_:Int) (.int .i64 body.length)) (cw sz szc (at_:Int)) (at_+n) { s with K:=s.K++[(body,at_,body.length)] }:=by
 obtain⟨h1,h2,h3,h4⟩:=dw.at_ ho h.le;obtain⟨-,o2,-,o4⟩:=h.on ho;have hnone:kj s.K at_=none:=Gw h.at_lt;refine⟨h.reach.next ho rfl,h2,⟨?_,h.cnt.grow.held,h.cnt.size,h.cnt.tag⟩,h.paths,pL h.chunks (by unfold ed;exact bE _ _) hv,h.tags,Aw h.kin body _ v,fun e he=>?_,h.hist,h.nem,fun x hx=>⟨fun q hq=>?_,(h.chsK x hx).2⟩,h.used,?_,?_,h.map.put ⟨by omega,by omega⟩ _,fun k=>?_,h.tagT⟩
 ·have:=h.cnt.n;simp only[length_append,length_singleton];omega
 ·rcases mem_append.1 he with he|he
  ·exact o4 e he
  ·obtain rfl:=mem_singleton.1 he;exact⟨rfl,h3,h4⟩
 ·obtain⟨e,he,hq2⟩:=(h.chsK x hx).1 q hq;exact⟨e,mem_append_left _ he,hq2⟩
 ·show X.sc+1=_;rw[h.sc];simp
 ·show X.sb+body.length=_;rw[h.sb];simp
 ·rw[FB,Bu,h.get k];by_cases hk:k=(at_:Int)
  ·subst hk;rw[if_pos rfl,hnone,if_pos rfl];rfl
  ·rw[if_neg hk,if_neg (fun e=>hk e.symm)];simp
theorem qz{p l:Bs}{v:Value}{V:VerL}:af (kh ps pc p v V) l=if l=p then af ps p++[V]else af ps l:=pU [] ps pc p l v _
theorem CtOk.ver(h:CtOk D X ps pc cs cc ts tc sz szc at_ s)(hk1:k≠1)(ho:bM (D.drop at_)=some (k,body,n)){p:Bs}{num m:Nat}{ats:List Int}(hr:fb k body=some (.ver p num m ats)){chs:List (Nat×Nat)}(hc:dt (kj s.K) ats=some chs)(hm:(chs.map (·.2)).sum=m){b:Nat}{cv v':Value}(hcv:cd cv chs)(hv:eP v' (af ps p++[⟨b,num,m,cv,chs,0⟩])):
  CtOk D { X with used:=X.used+m } (kh ps pc p v' ⟨b,num,m,cv,chs,0⟩) (cw (ps.map aO) pc p) cs cc ts tc sz szc (at_+n) { s with H:=s.H++[⟨p,num,m,chs,0⟩] }:=by
 obtain⟨o1,o2,o3,o4⟩:=h.on ho;obtain⟨r1,r2,r3,-,r5⟩:=mS hr;have hcl:=nC hc
 have hs:fy at_ s k body=some { s with H:=s.H++[⟨p,num,m,chs,0⟩] }:=by
  unfold fy;rw[if_neg hk1,hr];simp only[hc];rw[if_pos hm]
 refine⟨h.reach.next ho hs,o1,⟨?_,fun x hx=>?_,fun x hx=>?_,h.cnt.tag⟩,rS h.paths (by unfold OkS;omega) hv hcv,h.chunks,h.tags,h.kin,o4,fun l=>?_,fun q hq=>?_,fun x hx=>?_,?_,h.sc,h.sb,h.map,h.get,h.tagT⟩
 ·have:=h.cnt.n;simp only[length_append,length_singleton];omega
 ·rcases mem_append.1 hx with hx|hx
  ·exact h.cnt.grow.held x hx
  ·obtain rfl:=mem_singleton.1 hx;simp
 ·rcases mem_append.1 hx with hx|hx
  ·exact h.cnt.size x hx
  ·obtain rfl:=mem_singleton.1 hx;exact⟨r1,r2,r3,by show chs.length<=_;omega⟩
 ·rw[qz,filter_append,map_append,<- h.hist l];by_cases hl:l=p
  ·subst hl;rw[if_pos rfl,map_append];simp[bp,cy]
  ·rw[if_neg hl];simp[Ne.symm hl]
 ·rcases fx hq with⟨h1,_⟩|⟨_,_,h3⟩
  ·exact h.nem q h1
  ·rw[h3];simp
 ·rcases mem_append.1 hx with hx|hx
  ·exact h.chsK x hx
  ·obtain rfl:=mem_singleton.1 hx;exact⟨wi hc,hm.symm⟩
 ·show X.used+m=_;rw[h.used];simp
theorem CtOk.has(h:CtOk D X ps pc cs cc ts tc sz szc at_ s)(p:Bs):s.H.any (fun x=>decide (x.p=p))=true↔af ps p≠[]:=by
 have h1:=h.hist p;rw[any_eq_true];refine⟨fun⟨x,hx,e⟩ hn=>?_,fun hn=>?_⟩
 ·rw[hn]at h1;have:=(map_eq_nil_iff.1 h1.symm);exact absurd (mem_filter.2 ⟨hx,e⟩) (by rw[this];simp)
 ·cases hf:s.H.filter (fun x=>decide (x.p=p))with
  | nil=>rw[hf]at h1;exact absurd (map_eq_nil_iff.1 h1) hn
  | cons x r =>
   have:=mem_filter.1 (show x∈s.H.filter (fun x=>decide (x.p=p)) by rw[hf];simp);exact⟨x,this.1,this.2⟩
theorem CtOk.gone(h:CtOk D X ps pc cs cc ts tc sz szc at_ s)(hk1:k≠1)(ho:bM (D.drop at_)=some (k,body,n)){p:Bs}{ns:List Int}(hr:fb k body=some (.gone p ns))(hne:af ps p≠[]){v':Value}(hv:eP v' (dD ns (af ps p))):
  CtOk D (i5 X (X.used-(bX ns (af ps p):Nat))) (ga ps pc p v' ns) pc cs cc ts tc sz szc (at_+n) { s with H:=jt s.H p ns }:=by
 obtain⟨o1,o2,o3,o4⟩:=h.on ho;obtain⟨r1,-⟩:=mS hr
 have hs:fy at_ s k body=some { s with H:=jt s.H p ns }:=by
  unfold fy;rw[if_neg hk1,hr];simp only[(h.has p).2 hne,if_true]
 have hsub:∀x∈jt s.H p ns,x∈s.H:=fun x hx=>(mem_filter.1 hx).1
 refine⟨h.reach.next ho hs,o1,⟨?_,fun x hx=>h.cnt.grow.held x (hsub x hx),fun x hx=>h.cnt.size x (hsub x hx),h.cnt.tag⟩,zZ h.paths (by unfold OkS;omega) hv hne,h.chunks,h.tags,h.kin,o4,fun l=>?_,wq h.nem,fun x hx=>h.chsK x (hsub x hx),?_,h.sc,h.sb,h.map,h.get,h.tagT⟩
 ·have:=h.cnt.n;have:(jt s.H p ns).length<=s.H.length:=length_filter_le _ _;show 9*(s.K.length+(jt s.H p ns).length+s.T.length)<=_;omega
 ·rw[lH,FI];split
  ·rw[GI,h.hist]
  ·exact h.hist l
 ·show X.used-_=(((jt s.H p ns).map (·.size)).sum:Nat);rw[h.used,Gv s.H p ns,yb,h.hist p];omega
theorem CtOk.tag(h:CtOk D X ps pc cs cc ts tc sz szc at_ s)(ho:bM (D.drop at_)=some (k,body,n)){p:Bs}{m d:Int}(hd : -1<=d/\d<=1){ts':List fq}{tc':Nat}{T':List Tg}(hts:TagsOk ts' tc')(hT:ts'.map ex=T')(hl:T'.length<=s.T.length+1)(hmem:∀t∈T',t.1.length<=255/\t.2.1.length<=255/\0<=t.2.2/\t.2.2<4294967296)(hs:fy at_ s k body=some { s with H:=fw s.H p m d,T:=T' }):
  CtOk D X (cP ps p m d) pc cs cc ts' tc' sz szc (at_+n) { s with H:=fw s.H p m d,T:=T' }:=by
 obtain⟨o1,o2,o3,o4⟩:=h.on ho;refine⟨h.reach.next ho hs,o1,⟨?_,fun x hx=>?_,fun x hx=>?_,hmem⟩,Al h.paths p m d,h.chunks,hts,h.kin,o4,fun l=>?_,wG h.nem,fun x hx=>?_,?_,h.sc,h.sb,h.map,h.get,hT⟩
 ·have:=h.cnt.n;have e:(fw s.H p m d).length=s.H.length:=by unfold fw;rw[length_map]
  show 9*(s.K.length+(fw s.H p m d).length+T'.length)<=_;omega
 ·obtain⟨x0,h0,-,-,-,-,e⟩:=qH hx;have:=h.cnt.held x0 h0;rcases e with e|e<;>rw[e]<;>omega
 ·obtain⟨x0,h0,e1,e2,e3,e4,-⟩:=qH hx;rw[e1,e2,e3,e4];exact h.cnt.size x0 h0
 ·rw[gT,FJ];split
  ·rw[map_map,<- h.hist p,map_map];exact map_congr_left fun V _=>GH m d V
  ·exact h.hist l
 ·obtain⟨x0,h0,-,-,e3,e4,-⟩:=qH hx;rw[e3,e4];exact h.chsK x0 h0
 ·rw[h.used];congr 2;unfold fw;rw[map_map];refine map_congr_left fun x _=>?_
  show x.size=(if _ then _ else x).size;split<;>rfl
theorem CtOk.bounds(h:CtOk D X ps pc cs cc ts tc sz szc at_ s)(hat:at_<=810000):
  (0<=X.used/\X.used<=65535*90000)/\(0<=X.sc/\X.sc<=90000)/\(0<=X.sb/\X.sb<=65535*90000)/\(∀k,(aY cs k).length<=90000)/\(∀l,(af ps l).length<=90000)/\(∀a m,kj s.K a=some m->m<=65535)/\∀l,∀V∈af ps l,V.held.natAbs<=90000/\V.size<=65535:=by
 have h0:=h.cnt.n;have hle:=h.le;have h3:=mX (l:=s.H) (f:=(·.size)) (fun x hx=>(h.cnt.size x hx).2.2.1);have h4:=mX (l:=s.K) (f:=(·.1.length)) (m:=65535) (fun e he=>(h.kat e he).2.1);refine⟨by rw[h.used];omega,by rw[h.sc];omega,by rw[h.sb];omega,fun k=>?_,fun l=>?_,fun a m hm=>?_,fun l V hV=>?_⟩
 ·have:=(h.kin k).length_eq;rw[length_map]at this;have:=length_filter_le (fun e=>decide (ed e.1=k)) s.K;omega
 ·have:=congrArg length (h.hist l);rw[length_map,length_map]at this;have:=length_filter_le (fun h=>decide (h.p=l)) s.H;omega
 ·obtain⟨e,he,h5⟩:=Bw hm;have h6:=h.kat e he;rw[h5]at h6;simp only at h6;omega
 ·have h1:bp V∈(af ps l).map bp:=mem_map.2 ⟨V,hV,rfl⟩;rw[h.hist]at h1;obtain⟨x,hx,e⟩:=mem_map.1 h1;have hx:=(mem_filter.1 hx).1;have h5:=h.cnt.held x hx;have h6:=h.cnt.size x hx;unfold cy bp at e;simp only[Prod.mk.injEq]at e;rw[<- e.2.2.2,<- e.2.1];omega
end
end
section
open Go.RowKit Go.Maps
open Go.ChangeMaps (setBlock)
def jp(a:Nat)(O:Obj)(pm tm:Nat)(ps:List aW)(pc:Nat)(ts:List fq)(tc:Nat):HF:=(a,Is O)::(aF pm ps pc++b8 tm ts tc)
def jE(a:Nat)(X:ArchL)(ps:List aW)(pc:Nat)(ts:List fq)(tc:Nat):HF:=(a,Is (aH X))::(aF X.pm ps pc++b8 X.tm ts tc)
structure PinPreG (a:Nat) (O:Obj) (pm tm:Nat) (ps:List aW) (pc:Nat) (ts:List fq) (tc:Nat) (m p:Bs) (w:World):Prop where
 sat:Sat w (jp a O pm tm ps pc ts tc)
 c0:BO O 0 (.map (some pm))
 c1:BO O 1 (.map (some tm))
 ok:PathsOk ps pc
 tags:TagsOk ts tc
 okm:OkS m
 okp:OkS p
 len:(af ps p).length<=1099511627776
 held:∀V∈af ps p,V.held.natAbs<=1099511627776
structure PinPre (a:Nat) (X:ArchL) (ps:List aW) (pc:Nat) (ts:List fq) (tc:Nat) (m p:Bs) (w:World):Prop where
 sat:Sat w (jE a X ps pc ts tc)
 ok:PathsOk ps pc
 tags:TagsOk ts tc
 okm:OkS m
 okp:OkS p
 len:(af ps p).length<=1099511627776
 held:∀V∈af ps p,V.held.natAbs<=1099511627776
theorem PinPreG.hold{a:Nat}{O:Obj}{pm tm:Nat}{ps:List aW}{pc:Nat}{ts ts':List fq}{tc tc':Nat}{m p:Bs}{w W:World}(h:PinPreG a O pm tm ps pc ts tc m p w)(n d:Int)(hd : -1<=d/\d<=1)(hT:Turns (jp a O pm tm ps pc ts tc) (jp a O pm tm ps pc ts' tc') w W):
  Calls Tryz.prog 145 #[.pointer (some ⟨a,0,none⟩),qU m p n,.int .i64 d] W (fun e w'=>e=.returned (.tuple #[])/\Turns (jp a O pm tm ps pc ts tc) (jp a O pm tm (cP ps p n d) pc ts' tc') w w'):=by
 refine(Iy a O pm h.c0 ps pc m p n d W (hT.sat.sub (fun x=>by unfold jp;simp only[ao,ah];omega)) h.ok h.okp h.len hd h.held).mono ?_;rintro e w' ⟨rfl,hT2⟩;refine⟨rfl,(hT.step (F:=(a,Is O)::aF pm ps pc) (R:=b8 tm ts' tc') ?_ hT2).to ?_⟩
 ·unfold jp;exact ae
 ·unfold jp;exact ae
theorem Ez(a:Nat)(O:Obj)(pm tm:Nat)(ps:List aW)(pc:Nat)(ts:List fq)(tc:Nat)(m p:Bs)(n:Int)(w:World)(h:PinPreG a O pm tm ps pc ts tc m p w):
  Calls Tryz.prog 114 #[.pointer (some ⟨a,0,none⟩),qU m p n] w (fun e w'=>e=.returned (.tuple #[])/\Turns (jp a O pm tm ps pc ts tc) (jp a O pm tm (cP ps p n 1) pc (ef ts tc m (mx m (p,n)) (p,n)) (cw (ts.map aO) tc m)) w w'):=by
 have HO:=qqH (fun W=>h.hold (W:=W) (ts':=ef ts tc m (mx m (p,n)) (p,n)) (tc':=cw (ts.map aO) tc m) n 1 (by omega));have HH:=qqH h;clear h;unfold qU at HO ⊢;go_enter Tryz.func114,Tryz.ntmps114;go_upto_region 1 with(fail);obtain⟨W,hW⟩:∃W,W=w.alloc (.cells #[str m,str p,.int .i64 n] 230):=⟨_,rfl⟩;rw[<- hW]
 have hT1:Turns (jp a O pm tm ps pc ts tc) ((w.heap.size,Is (.cells #[str m,str p,.int .i64 n] 230 (0,0)))::jp a O pm tm ps pc ts tc) w W:=by
  rw[hW];exact(Turns.refl HH.out.sat).Q8 (.cells #[str m,str p,.int .i64 n] 230)
 have hbo:=hT1.sat.Q5;have b0:W.cell? ⟨w.heap.size,0,none⟩=some (str m):=aa hbo 0 rfl;have b1:W.cell? ⟨w.heap.size,1,none⟩=some (str p):=aa hbo 1 rfl;have b2:W.cell? ⟨w.heap.size,2,none⟩=some (.int .i64 n):=aa hbo 2 rfl;have a1:W.cell? ⟨a,1,none⟩=some (.map (some tm)):=HH.out.c1 _ _ (hT1.sat.Q7 (b:=a) (o:=O) (by simp[jp]));have H1:=qqH hT1;clear hW hT1 hbo;refine wp_region_still_tail 7 HM.out (by kernel_rfl) ?_;simp only[QE,take_zero,QD,drop_zero];repeat still_step
 refine wpStill_nil ?_;change wpList _ _ _ _ _ W.drew
 go_wp2_with (first
  | (refine ai rfl (lw eb (.tmp 7) (.tmp 9) (.tmp 10) rfl Tryz.underlying120 tm (ts.map aO) tc (H1.out.drew.to (H:=(tm,Is (aQ str (ts.map aO) tc))::((a,Is O)::(aF pm ps pc++[(w.heap.size,Is (.cells #[str m,str p,.int .i64 n] 230 (0,0)))]))) (by unfold jp b8;exact ae)) HH.out.tags.map m (.agg #[str m,str p,.int .i64 n]) rfl rfl rfl HH.out.okm ?_);intro w4 hT4;have hb4:=hT4.sat.Q7 (b:=w.heap.size) (o:=.cells #[str m,str p,.int .i64 n] 230 (0,0)) (by simp);have d0:w4.cell? ⟨w.heap.size,0,none⟩=some (str m):=aa hb4 0 rfl;have d1:w4.cell? ⟨w.heap.size,1,none⟩=some (str p):=aa hb4 1 rfl;have d2:w4.cell? ⟨w.heap.size,2,none⟩=some (.int .i64 n):=aa hb4 2 rfl;have H4:=qqH hT4;clear hT4 hb4;simp only[Act.put])
  | fail)
 refine(HO.out _ ?_).mono ?_
 ·refine H4.out.drop (fun x=>?_);unfold jp b8;rw[iE];simp only[ao,ah,fd];simp only[mx];omega
 rintro e w5 ⟨rfl,hT5⟩;have H5:=qqH hT5;clear hT5;go_wp2_with fail;exact bodyPost_end (results_none rfl _ _ _) rfl ⟨rfl,H5.out⟩
theorem GA(a:Nat)(O:Obj)(pm tm:Nat)(ps:List aW)(pc:Nat)(ts:List fq)(tc:Nat)(m p:Bs)(n:Int)(w:World)(h:PinPreG a O pm tm ps pc ts tc m p w):
  Calls Tryz.prog 115 #[.pointer (some ⟨a,0,none⟩),qU m p n] w (fun e w'=>e=.returned (.tuple #[])/\Turns (jp a O pm tm ps pc ts tc) (jp a O pm tm (cP ps p n (-1)) pc (bH ts m) tc) w w'):=by
 have HO:=qqH (fun W=>h.hold (W:=W) (ts':=bH ts m) (tc':=tc) n (-1) (by omega));have HH:=qqH h;clear h;unfold qU at HO ⊢;go_enter Tryz.func115,Tryz.ntmps115;go_upto_region 1 with(fail);obtain⟨W,hW⟩:∃W,W=w.alloc (.cells #[str m,str p,.int .i64 n] 230):=⟨_,rfl⟩;rw[<- hW]
 have hT1:Turns (jp a O pm tm ps pc ts tc) ((w.heap.size,Is (.cells #[str m,str p,.int .i64 n] 230 (0,0)))::jp a O pm tm ps pc ts tc) w W:=by
  rw[hW];exact(Turns.refl HH.out.sat).Q8 (.cells #[str m,str p,.int .i64 n] 230)
 have hbo:=hT1.sat.Q5;have b0:W.cell? ⟨w.heap.size,0,none⟩=some (str m):=aa hbo 0 rfl;have b1:W.cell? ⟨w.heap.size,1,none⟩=some (str p):=aa hbo 1 rfl;have b2:W.cell? ⟨w.heap.size,2,none⟩=some (.int .i64 n):=aa hbo 2 rfl;have a1:W.cell? ⟨a,1,none⟩=some (.map (some tm)):=HH.out.c1 _ _ (hT1.sat.Q7 (b:=a) (o:=O) (by simp[jp]));have H1:=qqH hT1;clear hW hT1 hbo;refine wp_region_still_tail 6 HM.out (by kernel_rfl) ?_;simp only[QE,take_zero,QD,drop_zero];repeat still_step
 refine wpStill_nil ?_;change wpList _ _ _ _ _ W.drew;have hT2:=H1.out.drew.to (H:=(tm,Is (aQ str (ts.map aO) tc))::((a,Is O)::(aF pm ps pc++[(w.heap.size,Is (.cells #[str m,str p,.int .i64 n] 230 (0,0)))]))) (by unfold jp b8;exact ae)
 have hdel:∀ty,(Builtin.delete_ #[120,9] ty #[.map (some tm),str m]).run Tryz.prog W.drew=.ok (.tuple #[]) (setBlock W.drew tm (aQ str (xS (ts.map aO) m) tc)):=fun ty =>
  EG eb Tryz.underlying120 hT2.sat.Q5 HH.out.tags.map HH.out.okm
 have hT4:=hT2.Qa (de W.drew tm (aQ str (xS (ts.map aO) m) tc)) (ew hT2.sat.Q5);have hb4:=hT4.sat.Q7 (b:=w.heap.size) (o:=.cells #[str m,str p,.int .i64 n] 230 (0,0)) (by simp);have d0:=aa hb4 0 (v:=str m) rfl;have d1:=aa hb4 1 (v:=str p) rfl;have d2:=aa hb4 2 (v:=.int .i64 n) rfl;have H4:=qqH hT4;clear hT2 hT4 hb4 b0 b1 b2 a1;go_wp2_with fail;refine(HO.out _ ?_).mono ?_
 ·refine H4.out.drop (fun x=>?_);unfold jp b8;rw[mG];simp only[ao,ah,fd];omega
 rintro e w5 ⟨rfl,hT5⟩;have H5:=qqH hT5;clear hT5;go_wp2_with fail;exact bodyPost_end (results_none rfl _ _ _) rfl ⟨rfl,H5.out⟩
theorem PinPre.gen{a:Nat}{X:ArchL}{ps:List aW}{pc:Nat}{ts:List fq}{tc:Nat}{m p:Bs}{w:World}(h:PinPre a X ps pc ts tc m p w):PinPreG a (aH X) X.pm X.tm ps pc ts tc m p w :=
 ⟨h.sat,fun _ _ h=>aa h 0 rfl,fun _ _ h=>aa h 1 rfl,h.ok,h.tags,h.okm,h.okp,h.len,h.held⟩
theorem wS(a:Nat)(X:ArchL)(ps:List aW)(pc:Nat)(ts:List fq)(tc:Nat)(m p:Bs)(n:Int)(w:World)(h:PinPre a X ps pc ts tc m p w):
  Calls Tryz.prog 114 #[.pointer (some ⟨a,0,none⟩),qU m p n] w (fun e w'=>e=.returned (.tuple #[])/\Turns (jE a X ps pc ts tc) (jE a X (cP ps p n 1) pc (ef ts tc m (mx m (p,n)) (p,n)) (cw (ts.map aO) tc m)) w w'):=Ez a (aH X) X.pm X.tm ps pc ts tc m p n w h.gen
theorem rZ(a:Nat)(X:ArchL)(ps:List aW)(pc:Nat)(ts:List fq)(tc:Nat)(m p:Bs)(n:Int)(w:World)(h:PinPre a X ps pc ts tc m p w):
  Calls Tryz.prog 115 #[.pointer (some ⟨a,0,none⟩),qU m p n] w (fun e w'=>e=.returned (.tuple #[])/\Turns (jE a X ps pc ts tc) (jE a X (cP ps p n (-1)) pc (bH ts m) tc) w w'):=GA a (aH X) X.pm X.tm ps pc ts tc m p n w h.gen
end
section
open Go.RowKit
theorem Gi{rb:Nat}{s:Bs×Bool}{w w':World}{e:Ending}(h:vP rb s.1 s.2 w e w'):e=.returned (str (gn s.1 s.2))/\Rd w' rb (rT s).1 (rT s).2/\Mods (fun k=>k=rb) w w':=⟨h.1,h.2.1,h.2.2⟩
theorem EC(body:Bs):fb 3 body=if(rT (body,false)).2=false/\(rT (body,false)).1.length%4=0 then some (.gone (gn body false) (iB (rT (body,false)).1))else none:=by
 unfold fb;rw[if_neg (by decide),if_pos rfl]
theorem I3{k:UInt8}(hk:k=4\/k=5)(body:Bs):fb k body=if(rN (rT (rT (body,false))) 4).2=false/\(rN (rT (rT (body,false))) 4).1=[]then some (.pin k (gn body false) (gn (rT (body,false)).1 (rT (body,false)).2) (db (rT (rT (body,false))).1 (rT (rT (body,false))).2 4))else none:=by
 unfold fb;rw[if_neg (by rcases hk with rfl|rfl<;>decide),if_neg (by rcases hk with rfl|rfl<;>decide),if_pos hk]
theorem A8{k:UInt8}(h2:k≠2)(h3:k≠3)(h4:k≠4)(h5:k≠5)(body:Bs):fb k body=none:=by
 unfold fb;simp only[if_neg h2,if_neg h3,if_neg (show ¬(k=4\/k=5)from fun h=>h.elim h4 h5)]
theorem xt{k:UInt8}{n:Nat}(_:n<256)(h:k≠UInt8.ofNat n):¬((k.toNat:Int)=(n:Int)):=fun e=>h (by
 have:k.toNat=n:=by omega
 rw[<- this,UInt8.ofNat_toNat])
theorem vD(k:UInt8)(a:Option Addr)(cap:Nat)(body:Bs)(w:World)(h:al w a (body.map am))(hcap:body.length<=cap)(ha:∀x,a=some x->x.block<w.heap.size)(hl:body.length<=70000):
  Calls Tryz.prog 101 #[.int .u8 k.toNat,.slice a body.length cap] w (cM k body w):=by
 by_cases hk2:k=2
 ·subst hk2;exact ze a cap body w h hcap ha hl
 obtain⟨rb,hrb⟩:∃rb,rb=w.heap.size:=⟨_,rfl⟩
 have hR0:RdT w [] rb (body,false) (w.alloc (.cells #[.slice a body.length cap,.bool false] 282)):=by
  refine⟨?_,a,cap,?_,hcap,h.keep ((Mods.refl (fun _=>False) w).alloc _) (fun _ _ _=>id),fun x hx=>hrb ▸ ha x hx⟩
  ·rw[hrb];exact(Turns.refl (Sat.nil w)).Qd (φ:=fun _=>True) trivial
  ·unfold sV;rw[hrb];exact aK w _
 have HT:=qqH (mV rb body false _ hR0.2 (by omega));have H0:=Hq2 hR0 hrb;rw[hrb]at HT;have hk2n:¬((k.toNat:Int)=2):=xt (by decide) hk2;clear h ha hcap hR0;go_enter Tryz.func101,Tryz.ntmps101;go_wp2_with fail;refine HT.out.mono ?_;rintro e w2 ⟨rfl,hR2,hm2⟩;rw[<- hrb]at hR2 hm2 ⊢;have hR3:RdT w [] rb (rT (body,false)) w2:=H0.a.call hm2 hR2;obtain⟨p,hp⟩:∃p,p=gn body false:=⟨_,rfl⟩;obtain⟨s1,hs1⟩:∃s1,s1=rT (body,false):=⟨_,rfl⟩;have hl1:s1.1.length<=70000:=by rw[hs1];exact Nat.le_trans (iG _ _) hl
 rw[<- hs1]at hR3;rw[<- hp];have hR4:=hR3.alloc H0.z (j0 k p);obtain⟨hb,hhb⟩:∃hb,hb=w2.heap.size:=⟨_,rfl⟩;rw[<- hhb]at hR4;have H2:=Hq3 hR4 hp hs1;clear hR2 hm2 hR3 hp hs1 hrb hR4;by_cases hk3:k=3
 ·subst hk3;go_upto_region 10 with(fail);rw[<- hhb];clear hhb;refine cL [([0,1],2,[0])] [3,4,5] HM.out (by kernel_rfl) fun W tW=>?_
  simp only[Mix,map_cons,map_nil,nth,QG,QF];have q0:=H2.a.at H0.z tW;clear tW;refine fS (k:=3) (p:=p) q0 (by simp) rfl rfl rfl ?_;simp only[Act.put,QA,QB,QC];repeat still_step
  refine wpStill_nil (bw (by kernel_rfl) (n9 rb s1.1 s1.2 W q0.2 hl1) ?_);rintro e w3 ⟨v,ns,l',b',rfl,hio,hT4,hR4,hres⟩;obtain⟨a1,c1,rfl,-⟩:=aP (aR hT4.sat.left hio);have hT3:=RdT.nums (s':=(l',b')) q0 hT4 hR4;refine⟨_,rfl,fS (k:=3) (p:=p) hT3 (by simp) rfl rfl rfl rfl,?_⟩;simp only[Act.put,QA,QB,QC];repeat still_step
  refine wpStill_nil ?_;clear q0 hT4 hR4;obtain⟨ra,rc,hrd,-⟩:=id hT3.2;have hrd:w3.heap[rb]?=some (.cells #[.slice ra l'.length rc,.bool b'] 282 (0,0)):=hrd;have hrl:=ac hrd;have k0:w3.cell? ⟨rb,0,none⟩=some (.slice ra l'.length rc):=aa hrd 0 rfl;have k1:w3.cell? ⟨rb,1,none⟩=some (.bool b'):=aa hrd 1 rfl;have H3:=Hq2 hio hT3;clear hrd hio hT3;rcases hres with⟨rfl,hs2,hl4,rfl,hns⟩|⟨rfl,hbad,-⟩
  ·have HX:=Hq3 hs2 hl4 hns;clear hs2 hl4 hns;go_wp2_with fail;go_ret;unfold cM;rw[EC,<- H2.y,<- H2.b,if_pos ⟨HX.a,HX.b⟩];refine⟨_,rfl,?_,?_⟩
   ·show iOk _ (iB s1.1);rw[<- HX.y];exact H3.a
   ·show Turns [] (cA _ (iB s1.1)) _ _;rw[<- HX.y];exact H3.b.left.left
  ·have HX:=qqH hbad;clear hbad;go_wp2_with fail;go_ret;unfold cM;rw[EC,<- H2.y,if_neg]
   ·exact⟨rfl,H3.b.news⟩
   ·rintro⟨h1,h2⟩;rcases HX.out with h|h
    ·rw[h1]at h;cases h
    ·exact h h2
 have hk3n:¬((k.toNat:Int)=3):=xt (by decide) hk3;by_cases hk45:k=4\/k=5
 ·have HK:=qqH hk45;obtain⟨m,hm⟩:∃m,m=gn s1.1 s1.2:=⟨_,rfl⟩;obtain⟨n,hn⟩:∃n,n=db (rT s1).1 (rT s1).2 4:=⟨_,rfl⟩;have HN:=Hq2 hm hn;clear hm hn
  have hfin:∀(w3:World) (l':Bs) (b':Bool),(l',b')=rN (rT s1) 4->RdT w [(hb,Is (j0 k p))] rb (l',b') w3->∀v,(b'=false/\l'=[]->v=uz (.pin k p m n) (.slice none 0 0))->(¬(b'=false/\l'=[])->v=.nilIface)->cM k body w (.returned v) w3:=fun w3 l' b' hs3 hT3 v hv1 hv2=>by
   unfold cM;rw[I3 HK.out,<- H2.y,<- H2.b,<- HN.a,<- HN.z,<- hs3];by_cases hc:b'=false/\l'=[]
   ·rw[if_pos hc];exact⟨.slice none 0 0,by rw[hv1 hc],⟨rfl,fun _=>⟨rfl,rfl⟩⟩,⟨hT3.1.mods,Sat.nil _,fun b hb=>by cases hb⟩⟩
   ·rw[if_neg hc];exact⟨by rw[hv2 hc],hT3.1.news⟩
  have HG:=qqH hfin;clear hk2 hk3 hk2n hk3n hfin;rcases hk45 with rfl|rfl
  all_goals
   go_upto_region 13 with(fail);rw[<- hhb];clear hhb;refine cL [([0,1,3],2,[0,3]),([],4,[0])] [5,6,7] HM.out (by kernel_rfl) fun W tW=>?_
   simp only[Mix,map_cons,map_nil,nth,QG,QF];have q0:=H2.a.at H0.z tW;clear tW;refine fS q0 (.head _) rfl rfl rfl ?_;simp only[Act.put,QA,QB,QC];repeat still_step
   refine wpStill_nil (bw (by kernel_rfl) (mV rb s1.1 s1.2 W q0.2 (by omega)) ?_);intro e W1 hp1;obtain⟨rfl,hR,hM⟩:=Gi hp1;have q1:=q0.call hM hR;have hl2:(rT s1).1.length<=70000:=Nat.le_trans (iG _ _) hl1;refine⟨_,rfl,fS q1 (.head _) rfl rfl rfl (by(simp only[Act.put,QA,QB,QC];(repeat still_step);exact rfl)),wpStill_nil (bw (by kernel_rfl) (dd rb (rT s1).1 (rT s1).2 4 W1 q1.2 (by omega) (by omega)) ?_)⟩;intro e w3 hp2;obtain⟨rfl,hR2,hM2⟩:=j7 hp2;have hT3:=q1.call hM2 hR2;refine⟨_,rfl,fS hT3 (.head _) rfl rfl rfl rfl,?_⟩;simp only[Act.put,QA,QB,QC];repeat still_step
   refine wpStill_nil ?_;rw[<- HN.a,<- HN.z];clear q0 hp1 hR hM q1 hp2 hR2 hM2 hl2;obtain⟨s3,hs3⟩:∃s3,s3=rN (rT s1) 4:=⟨_,rfl⟩;rw[<- hs3]at hT3;obtain⟨l',b'⟩:=s3;obtain⟨ra,rc,hrd,-⟩:=id hT3.2;have hrd:w3.heap[rb]?=some (.cells #[.slice ra l'.length rc,.bool b'] 282 (0,0)):=hrd;have hrl:=ac hrd;have k0:w3.cell? ⟨rb,0,none⟩=some (.slice ra l'.length rc):=aa hrd 0 rfl;have k1:w3.cell? ⟨rb,1,none⟩=some (.bool b'):=aa hrd 1 rfl;have HF:=qqH (HG.out w3 l' b' hs3 hT3);clear hrd hs3 hT3
   cases b' with
   | true =>
    go_wp2_with fail;go_ret;exact HF.out _ (fun h=>by cases h.1) (fun _=>rfl)
   | false =>
    by_cases hl0:l'.length=0
    ·have hl1:(l'.length:Int)=0:=by omega
     go_wp2_with fail;go_ret;exact HF.out _ (fun _=>rfl) (fun h=>absurd ⟨by first|rfl|trivial,length_eq_zero_iff.1 hl0⟩ h)
    ·have hl1:(0:Int)<(l'.length:Int):=by omega
     go_wp2_with fail;go_ret;exact HF.out _ (fun h=>absurd (by rw[h.2];rfl) hl0) (fun _=>rfl)
 ·have hk4n:¬((k.toNat:Int)=4):=xt (by decide) (fun h=>hk45 (.inl h));have hk5n:¬((k.toNat:Int)=5):=xt (by decide) (fun h=>hk45 (.inr h))
  have hfin:∀W,aX w W->cM k body w (.returned .nilIface) W:=fun W hs=>by
   unfold cM;rw[A8 hk2 hk3 (fun h=>hk45 (.inl h)) (fun h=>hk45 (.inr h))];exact⟨rfl,hs⟩
  have HF:=qqH hfin;clear hfin hk45;go_upto_region 14 with(fail);obtain⟨W,hW⟩:∃W,W=w2.alloc (.cells #[.int .u8 k.toNat,str p] 170):=⟨_,rfl⟩;rw[<- hW];have h4:RdT w [(hb,Is (j0 k p))] rb s1 W:=by rw[hW];exact H2.a
  obtain⟨l',b'⟩:=s1;obtain⟨ra,rc,hrd,-⟩:=id h4.2;have hrd:W.heap[rb]?=some (.cells #[.slice ra l'.length rc,.bool b'] 282 (0,0)):=hrd;have hrl:=ac hrd;have k0:W.cell? ⟨rb,0,none⟩=some (.slice ra l'.length rc):=aa hrd 0 rfl;have k1:W.cell? ⟨rb,1,none⟩=some (.bool b'):=aa hrd 1 rfl;have H4:=qqH h4.1.news;clear hW h4 hrd
  cases b' with
  | true =>
   go_wp2_with fail;go_ret;exact HF.out _ H4.out
  | false =>
   by_cases hl0:l'.length=0
   ·have hl1:(l'.length:Int)=0:=by omega
    go_wp2_with fail;go_ret;exact HF.out _ H4.out
   ·have hl1:(0:Int)<(l'.length:Int):=by omega
    go_wp2_with fail;go_ret;exact HF.out _ H4.out
end
section
open Go.RowKit Go.Maps
open Go.ChangeMaps (setBlock)
theorem Lb(c:Array Value)(w:World):(Instr.typeAssert (.iface 286 (.agg c)) 215 173 true).run Tryz.prog w=.ok (.tuple #[.agg #[.int .u8 0,.string ⟨#[]⟩,.int .i64 0,.int .i64 0,.slice none 0 0],.bool false]) w:=by kernel_rfl
theorem La(c:Array Value)(w:World):(Instr.typeAssert (.iface 286 (.agg c)) 215 286 true).run Tryz.prog w=.ok (.tuple #[.agg c,.bool true]) w:=by kernel_rfl
theorem Le(c:Array Value)(w:World):(Instr.typeAssert (.iface 233 (.agg c)) 215 173 true).run Tryz.prog w=.ok (.tuple #[.agg #[.int .u8 0,.string ⟨#[]⟩,.int .i64 0,.int .i64 0,.slice none 0 0],.bool false]) w:=by kernel_rfl
theorem Lc(c:Array Value)(w:World):(Instr.typeAssert (.iface 233 (.agg c)) 215 286 true).run Tryz.prog w=.ok (.tuple #[.agg #[.int .u8 0,.string ⟨#[]⟩,.slice none 0 0],.bool false]) w:=by kernel_rfl
theorem Ld(c:Array Value)(w:World):(Instr.typeAssert (.iface 233 (.agg c)) 215 233 true).run Tryz.prog w=.ok (.tuple #[.agg c,.bool true]) w:=by kernel_rfl
theorem IK(k:UInt8)(p:Bs)(w:World):Calls Tryz.prog 141 #[.agg #[.int .u8 k.toNat,str p]] w (fun e w'=>e=.returned (.int .u8 k.toNat)/\aX w w'):=by
 go_enter Tryz.func141,Tryz.ntmps141;go_wp2_with fail;go_ret;exact⟨rfl,(Mods.refl _ w).alloc _⟩
theorem Iv{ps:List aW}(hnem:∀q∈ps,q.g≠[])(p:Bs):ix (ps.map aO) p=true↔af ps p≠[]:=by
 rw[pZ];unfold gJ;rw[any_eq_true];refine⟨fun⟨q,hq,hk⟩ hn=>?_,fun h=>?_⟩
 ·unfold af gOf at hn
  cases hf:ps.find? (fun q=>decide (q.key=p))with
  | none=>exact find?_eq_none.1 hf q hq hk
  | some x=>rw[hf]at hn;exact hnem x (mem_of_find?_eq_some hf) hn
 ·obtain⟨q,hq,hk,-⟩:=jJ h;exact⟨q,hq,by simpa using hk⟩
def gW(a:Nat)(X:ArchL)(ps:List aW)(pc:Nat)(v:Value)(ns:List Int):HF:=(a,Is (aH X))::(aF X.pm ps pc++cA v ns)
def E2(a:Nat)(X:ArchL)(ps:List aW)(pc:Nat)(p:Bs)(v:Value)(ns:List Int)(w:World)(e:Ending)(w':World):Prop :=
 (af ps p=[]/\e=.returned (.bool false)/\Turns (gW a X ps pc v ns) (gW a X ps pc v ns) w w') \/
 (af ps p≠[]/\e=.returned (.bool true)/\∃v',eP v' (dD ns (af ps p))/\Turns (gW a X ps pc v ns) (gW a (i5 X (X.used-(bX ns (af ps p):Nat))) (ga ps pc p v' ns) pc v ns) w w')
theorem A9(a sm:Nat)(X:ArchL)(ps:List aW)(pc:Nat)(p:Bs)(v:Value)(ns:List Int)(w:World)(h:Sat w (gW a X ps pc v ns))(hio:iOk v ns)(hok:PathsOk ps pc)(hnem:∀q∈ps,q.g≠[])(hl:OkS p)(hu:rt X.used (af ps p))(hnl:ns.length<=1099511627776):
  Calls Tryz.prog 100 #[.pointer (some ⟨a,0,none⟩),uz (.gone p ns) v,.map (some sm)] w (E2 a X ps pc p v ns w):=by
 obtain⟨F1,hF1⟩:∃F1,F1=gW a X ps pc v ns:=⟨_,rfl⟩;obtain⟨av,cap,hv,-⟩:=aP (aR (h.sub (G:=cA v ns) (fun x=>by unfold gW;simp only[ao,ah];omega)) hio);obtain⟨hb,hhb⟩:∃hb,hb=ix (ps.map aO) p:=⟨_,rfl⟩;have hhv:=Iv hnem p;rw[<- hhb]at hhv;have HH:=Hq8 h hio hok hl hu hF1 hhb hhv;have hta:=Lb #[.int .u8 3,str p,v] w;have htb:=La #[.int .u8 3,str p,v] w;have hal:=ac h.Q5;clear h hio hok hnem hl hu hF1 hhb hhv;subst hv;unfold uz;go_enter Tryz.func100,Tryz.ntmps100;go_upto_region 21 with(fail);obtain⟨W,hW⟩:∃W,W=w.alloc (.cells #[.int .u8 3,str p,.slice av ns.length cap] 286):=⟨_,rfl⟩;rw[<- hW]
 have hT1:Turns F1 ((w.heap.size,Is (.cells #[.int .u8 3,str p,.slice av ns.length cap] 286 (0,0)))::F1) w W:=by
  rw[hW,HH.f];exact(Turns.refl HH.a).Q8 (.cells #[.int .u8 3,str p,.slice av ns.length cap] 286)
 have hbo:=hT1.sat.Q5;have b1:W.cell? ⟨w.heap.size,1,none⟩=some (str p):=aa hbo 1 rfl;have hao:=hT1.sat.Q7 (b:=a) (o:=aH X) (by rw[HH.f];simp[gW]);have a0:W.cell? ⟨a,0,none⟩=some (.map (some X.pm)):=aa hao 0 rfl;obtain⟨u0,hu0⟩:∃u0,u0=(dB (ps.map aO) p).getD (.slice none 0 0):=⟨_,rfl⟩
 have hlk:∀k,(Instr.lookup 119 (.map (some X.pm)) (str p) true).run Tryz.prog (W.drewN k)=.ok (.tuple #[u0,.bool hb]) (W.drewN k):=fun k=>by
  rw[HH.g,hu0];exact uI eb Tryz.underlying119 (w:=W.drewN k) (hT1.sat.Q7 (b:=X.pm) (by rw[HH.f];simp[gW,aF])) HH.c.map (gz _) HH.d
 have hal2:=ac hao;have hbl:=ac hbo;have H1:=qqH hT1;clear hW hT1 hbo hao hu0 hta htb;go_quiet (fail);obtain⟨W2,hW2⟩:∃W2,W2=W.drewN nq:=⟨_,rfl⟩;rw[<- hW2];have hT2:=hW2 ▸ H1.out.drewN nq;have hbo:=hT2.sat.Q5;have b1:W2.cell? ⟨w.heap.size,1,none⟩=some (str p):=aa hbo 1 rfl;have b2:W2.cell? ⟨w.heap.size,2,none⟩=some (.slice av ns.length cap):=aa hbo 2 rfl;have H2:=qqH hT2;clear hW2 hT2 hbo hlk
 cases hb with
 | false =>
  go_wp2_with fail;go_ret;refine (.inl ⟨?_,rfl,?_⟩)
  ·have h2:=HH.t;simpa using h2
  ·rw[<- HH.f];exact H2.out.drop (fun x=>by simp only[ao];omega)
 | true =>
  have hne:af ps p≠[]:=(HH.t).1 rfl;have HN:=qqH hne;clear hne;go_wp2_with fail;refine wp_region_still_tail 8 HM.out (by kernel_rfl) ?_;simp only[QE,take_zero,QD,drop_zero];repeat still_step
  refine wpStill_nil ?_;change wpList _ _ _ _ _ W2.drew;have hT3:=H2.out.drew;rw[HH.f]at hT3;have HD:=qqH (tL a X ps pc p (.slice av ns.length cap) ns W2.drew (hT3.sat.sub (fun x=>by unfold gW;simp only[ao,ah];omega)) HH.b HH.c HH.d HN.out HH.e hnl);have H3:=qqH hT3;clear hT3;go_wp2_with fail;refine HD.out.mono ?_;rintro e w4 ⟨v',rfl,hv',hT4⟩;have H4:=Hq2 hv' (H3.out.step (F:=gW a X ps pc (.slice av ns.length cap) ns) (R:=[(w.heap.size,Is (.cells #[.int .u8 3,str p,.slice av ns.length cap] 286 (0,0)))]) ae hT4);clear hv' hT4;go_wp2_with fail;go_ret;refine (.inr ⟨HN.out,rfl,v',H4.a,?_⟩);exact H4.z.left
def E4(a:Nat)(X:ArchL)(ps:List aW)(pc:Nat)(ts:List fq)(tc:Nat)(k:UInt8)(m p:Bs)(n:Int)(w:World)(e:Ending)(w':World):Prop :=
 e=.returned (.bool true)/\Turns (jE a X ps pc ts tc) (if k=4 then jE a X (cP ps p n 1) pc (ef ts tc m (mx m (p,n)) (p,n)) (cw (ts.map aO) tc m)else jE a X (cP ps p n (-1)) pc (bH ts m) tc) w w'
theorem Ba(a sm:Nat)(X:ArchL)(ps:List aW)(pc:Nat)(ts:List fq)(tc:Nat)(k:UInt8)(hk:k=4\/k=5)(m p:Bs)(n:Nat)(v:Value)(w:World)(h:PinPre a X ps pc ts tc m p w):
  Calls Tryz.prog 100 #[.pointer (some ⟨a,0,none⟩),uz (.pin k p m n) v,.map (some sm)] w (E4 a X ps pc ts tc k m p n w):=by
 have hal:=ac h.sat.Q5;have HH:=qqH h;clear h;unfold uz;have hta:=fun c=>Le c w
 have htb:=fun c=>Lc c w
 have htc:=fun c=>Ld c w
 go_enter Tryz.func100,Tryz.ntmps100;go_upto_region 29 with(fail);generalize hW:(w.alloc _).alloc _=W
 have hT1:Turns (jE a X ps pc ts tc) ((w.heap.size+1,Is (.cells #[str m,str p,.int .i64 n] 230 (0,0)))::(w.heap.size,Is (.cells #[(.int .u8 k.toNat),str p,str m,.int .i64 n] 233 (0,0)))::jE a X ps pc ts tc) w W:=by
  rw[<- hW];have:=((Turns.refl HH.out.sat).Q8 (.cells #[(.int .u8 k.toNat),str p,str m,.int .i64 n] 233)).Q8 (.cells #[str m,str p,.int .i64 n] 230);rw[World.size_alloc]at this;exact this
 have h0o:=hT1.sat.tail.Q5;have b0:W.cell? ⟨w.heap.size,0,none⟩=some (.int .u8 k.toNat):=aa h0o 0 rfl;have b1:W.cell? ⟨w.heap.size,1,none⟩=some (str p):=aa h0o 1 rfl;have H1:=qqH hT1;clear hW hT1 h0o hta htb htc;go_wp2_with fail;refine(IK k p _).mono ?_;rintro e W2 ⟨rfl,hs⟩;rcases hk with rfl|rfl
 all_goals
  have hT2:=H1.out.Q9 hs;have h1o:=hT2.sat.Q5;have c0:W2.cell? ⟨w.heap.size+1,0,none⟩=some (str m):=aa h1o 0 rfl;have c1:W2.cell? ⟨w.heap.size+1,1,none⟩=some (str p):=aa h1o 1 rfl;have c2:W2.cell? ⟨w.heap.size+1,2,none⟩=some (.int .i64 n):=aa h1o 2 rfl;have hal2:a<W2.heap.size:=ac (hT2.sat.Q7 (b:=a) (o:=aH X) (by simp[jE]));have H2:=qqH hT2;clear hT2 h1o hs b0 b1;go_wp2_with fail;refine wp_region_still_tail 4 HM.out (by kernel_rfl) ?_;simp only[QE,take_zero,QD,drop_zero];repeat still_step
  refine wpStill_nil ?_;change wpList _ _ _ _ _ W2.drew;have hT3:=H2.out.drew;have hP:PinPre a X ps pc ts tc m p W2.drew:={ HH.out with sat:=hT3.sat.tail.tail };have HP1:=qqH (wS a X ps pc ts tc m p n W2.drew hP);have HP2:=qqH (rZ a X ps pc ts tc m p n W2.drew hP);have H3:=qqH hT3;clear hT3 hP;go_wp2_with fail;first|refine HP1.out.mono ?_|refine HP2.out.mono ?_
  rintro e w4 ⟨rfl,hT4⟩;have H4:=qqH ((H3.out.drop (H:=jE a X ps pc ts tc) (fun x=>by simp only[ao];omega)).trans hT4);clear hT4;go_wp2_with fail;go_ret;refine ⟨rfl,?_⟩;first|rw[if_pos rfl]|rw[if_neg (by decide)]
  exact H4.out
end
section
open Go.RowKit Go.Maps
theorem Fp{W W':World}{a:Option Addr}{xs:List Value}(h:al W a xs)(he:∀x,a=some x->W'.heap[x.block]?=W.heap[x.block]?):al W' a xs:=fun hp=>by
 obtain⟨g,off,ha,hc⟩:=h hp
 refine⟨g,off,ha,fun j hj=>?_⟩
 rw[<- hc j hj]
 exact World.cell?_of_block (he ⟨g,off,none⟩ ha)
theorem Cq(w:World):(Instr.typeAssert .nilIface 215 173 true).run Tryz.prog w=.ok (.tuple #[.agg #[.int .u8 0,.string ⟨#[]⟩,.int .i64 0,.int .i64 0,.slice none 0 0],.bool false]) w:=by kernel_rfl
theorem Co(w:World):(Instr.typeAssert .nilIface 215 286 true).run Tryz.prog w=.ok (.tuple #[.agg #[.int .u8 0,.string ⟨#[]⟩,.slice none 0 0],.bool false]) w:=by kernel_rfl
theorem Cp(w:World):(Instr.typeAssert .nilIface 215 233 true).run Tryz.prog w=.ok (.tuple #[.agg #[.int .u8 0,.string ⟨#[]⟩,.string ⟨#[]⟩,.int .i64 0],.bool false]) w:=by kernel_rfl
theorem vF(a sm:Nat)(w:World):Calls Tryz.prog 100 #[.pointer (some ⟨a,0,none⟩),.nilIface,.map (some sm)] w (fun e w'=>e=.returned (.bool false)/\aX w w'):=by
 have h1:=Cq w;have h2:=Co w;have h3:=Cp w;go_enter Tryz.func100,Tryz.ntmps100;go_wp2_with fail;go_ret;exact ⟨rfl,Mods.refl _ _⟩
def lp(X:ArchL)(u s b:Int):ArchL:={ X with used:=u,sc:=s,sb:=b }
theorem F6{X:ArchL}(h:X.used=0/\X.sc=0/\X.sb=0):lp X 0 0 0=X:=by
 cases X
 obtain⟨h1,h2,h3⟩:=h;simp only at h1 h2 h3;subst h1;subst h2;subst h3;rfl
def ctF(a:Nat)(X:ArchL)(ps:List aW)(pc:Nat)(cs:List kg)(cc:Nat)(ts:List fq)(tc:Nat):HF:=(a,Is (aH X))::(aF X.pm ps pc++(aM X.cm cs cc++b8 X.tm ts tc))
def He(a sm:Nat)(D:Bs)(X:ArchL)(ps:List aW)(pc:Nat)(cs:List kg)(cc:Nat)(ts:List fq)(tc:Nat)(sz:List (Ent Int))(szc at_:Nat)(s:PSt)(k:UInt8)(body:Bs)(n:Nat)(J:HF)(w:World)(e:Ending)(w':World):Prop :=
 (fy at_ s k body=none/\e=.returned (.bool false)/\Turns (ctF a X ps pc cs cc ts tc++((sm,Is (aQ dQ sz szc))::J)) (ctF a X ps pc cs cc ts tc++((sm,Is (aQ dQ sz szc))::J)) w w') \/
 (∃s' u ps' pc' ts' tc',e=.returned (.bool true)/\CtOk D (i5 X u) ps' pc' cs cc ts' tc' sz szc (at_+n) s'/\Turns (ctF a X ps pc cs cc ts tc++((sm,Is (aQ dQ sz szc))::J)) (ctF a (i5 X u) ps' pc' cs cc ts' tc'++((sm,Is (aQ dQ sz szc))::J)) w w')
theorem vE{a sm:Nat}{D:Bs}{X:ArchL}{ps:List aW}{pc:Nat}{cs:List kg}{cc:Nat}{ts:List fq}{tc:Nat}{sz:List (Ent Int)}{szc at_:Nat}{s:PSt}{k:UInt8}{body:Bs}{n:Nat}{w:World}(hct:CtOk D X ps pc cs cc ts tc sz szc at_ s)(hk1:k≠1)(ho:bM (D.drop at_)=some (k,body,n))(hat:at_<=810000){r:RecR}(hr:fb k body=some r){v:Value}(hio:iOk v (mr r))(h:Sat w (ctF a X ps pc cs cc ts tc++((sm,Is (aQ dQ sz szc))::cA v (mr r)))):
  Calls Tryz.prog 100 #[.pointer (some ⟨a,0,none⟩),uz r v,.map (some sm)] w (He a sm D X ps pc cs cc ts tc sz szc at_ s k body n (cA v (mr r)) w):=by
 obtain⟨hb1,-,-,-,hb5,hb6,hb7⟩:=hct.bounds hat;obtain⟨-,-,hbl,-⟩:=hct.on ho;have hrg:=mS hr;have hT0:=Turns.refl h
 have hsz:∀p,((af ps p).map (·.size)).sum<=65535*90000:=fun p=>by
  have h1:=mX (l:=af ps p) (f:=(·.size)) (m:=65535) (fun V hV=>(hb7 p V hV).2);have h2:=hb5 p;have:65535*(af ps p).length<=65535*90000:=Nat.mul_le_mul (Nat.le_refl _) h2;omega
 cases r with
 | ver p num m ats =>
  obtain⟨r1,r2,r3,r4,r5⟩:=hrg;have hT4:Turns _ (iQ a X ps pc sm sz szc v ats++(aM X.cm cs cc++b8 X.tm ts tc)) w w:=hT0.to (by unfold ctF iQ mr;exact ae);refine(Bb a X ps pc sm sz szc v (kj s.K) p num m ats w hT4.sat.left hio hct.map hct.get hb6 r4 (by omega) hct.paths (by unfold OkS;omega) (by have:=hb5 p;omega) (by omega) (by omega)).mono ?_;rintro e w5 (⟨hno,rfl,hT5⟩|⟨chs,b,cv,v',hch,hsm,rfl,hcv,hv',hT5⟩)
  ·refine .inl ⟨?_,rfl,(hT4.step (Perm.refl _) hT5).to (by unfold ctF iQ mr;exact ae)⟩;unfold fy;rw[if_neg hk1,hr];dsimp only
   cases hc:dt (kj s.K) ats with
   | none=>rfl
   | some chs=>dsimp only;rw[if_neg (hno chs hc)]
  ·have h9:=hT4.step (Perm.refl _) hT5;refine .inr ⟨_,X.used+m,_,_,ts,tc,rfl,hct.ver hk1 ho hr hch hsm hcv hv',h9.to ?_⟩;show Perm (iQ a (i5 X (X.used+m)) _ _ sm sz szc v ats++(aM X.cm cs cc++b8 X.tm ts tc)) (ctF a (i5 X (X.used+m)) _ _ cs cc ts tc++((sm,Is (aQ dQ sz szc))::cA v ats));unfold ctF iQ i5;exact ae
 | gone p ns =>
  obtain⟨r1,r2⟩:=hrg;have hT4:Turns _ (gW a X ps pc v ns++((sm,Is (aQ dQ sz szc))::(aM X.cm cs cc++b8 X.tm ts tc))) w w:=hT0.to (by unfold ctF gW mr;exact ae);refine(A9 a sm X ps pc p v ns w hT4.sat.left hio hct.paths hct.nem (by unfold OkS;omega) ⟨by omega,by omega,by have:=hsz p;omega,by have:=hb5 p;omega⟩ (by omega)).mono ?_;rintro e w5 (⟨hno,rfl,hT5⟩|⟨hne,rfl,v',hv',hT5⟩)
  ·refine .inl ⟨?_,rfl,(hT4.step (Perm.refl _) hT5).to (by unfold ctF gW mr;exact ae)⟩;unfold fy;rw[if_neg hk1,hr];dsimp only;rw[if_neg (fun h=>(hct.has p).1 h hno)]
  ·have h9:=hT4.step (Perm.refl _) hT5;refine .inr ⟨_,X.used-(bX ns (af ps p):Nat),_,pc,ts,tc,rfl,hct.gone hk1 ho hr hne hv',h9.to ?_⟩;show Perm _ (ctF a (i5 X (X.used-(bX ns (af ps p):Nat))) _ _ cs cc ts tc++((sm,Is (aQ dQ sz szc))::cA v ns));unfold ctF gW i5;exact ae
 | pin q p m num =>
  obtain⟨rfl,r2,r3,r4,r5⟩:=hrg;have hT4:Turns _ (jE a X ps pc ts tc++((sm,Is (aQ dQ sz szc))::(aM X.cm cs cc++cA v []))) w w:=hT0.to (by unfold ctF jE mr;exact ae);refine(Ba a sm X ps pc ts tc q r2 m p num v w ⟨hT4.sat.left,hct.paths,hct.tags,by unfold OkS;omega,by unfold OkS;omega,by have:=hb5 p;omega,fun V hV=>by have:=(hb7 p V hV).1;omega⟩).mono ?_;rintro e w5 ⟨rfl,hT5⟩;have h9:=hT4.step (Perm.refl _) hT5;have hux:i5 X X.used=X:=rfl;by_cases hq:q=4
  ·rw[if_pos hq]at h9;refine .inr ⟨{ s with H:=fw s.H p num 1,T:=lS s.T (m,p,num) },X.used,cP ps p num 1,pc,ef ts tc m (mx m (p,(num:Int))) (p,(num:Int)),cw (ts.map aO) tc m,rfl,?_,h9.to ?_⟩
   ·rw[hux];refine hct.tag ho (by omega) (uQ hct.tags (by unfold OkS;omega) (p,(num:Int))) (by rw[BD,hct.tagT]) (AY _ _) (fun t ht=>?_) ?_
    ·rcases AZ ht with rfl|ht
     ·exact⟨r4,r3,by show(0:Int)<=num;omega,by show(num:Int)<_;omega⟩
     ·exact hct.cnt.tag t ht
    ·unfold fy;rw[if_neg hk1,hr];dsimp only;rw[if_pos hq]
   ·rw[hux];show Perm _ (ctF a X _ _ cs cc _ _++((sm,Is (aQ dQ sz szc))::cA v []));unfold ctF jE;exact ae
  ·rw[if_neg hq]at h9;refine .inr ⟨{ s with H:=fw s.H p num (-1),T:=zT s.T m },X.used,cP ps p num (-1),pc,bH ts m,tc,rfl,?_,h9.to ?_⟩
   ·rw[hux];refine hct.tag ho (by omega) (DK hct.tags m) (by rw[Ji,hct.tagT]) ?_ (fun t ht=>hct.cnt.tag t (mem_filter.1 ht).1) ?_
    ·have:(zT s.T m).length<=s.T.length:=length_filter_le _ _;omega
    ·unfold fy;rw[if_neg hk1,hr];dsimp only;rw[if_neg hq]
   ·rw[hux];show Perm _ (ctF a X _ _ cs cc _ _++((sm,Is (aQ dQ sz szc))::cA v []));unfold ctF jE;exact ae
def D7(a:Nat)(X:ArchL)(D:Bs)(g:Nat)(o:Obj)(w:World)(e:Ending)(w':World):Prop :=
 ∃at_ s u sc sb ps pc cs cc ts tc sz szc,e=.returned (.int .i64 (at_:Nat))/\CtOk D (lp X u sc sb) ps pc cs cc ts tc sz szc at_ s/\km D at_ s /\
  Turns (ctF a X [] 0 [] 0 [] 0++[(g,Is o)]) (ctF a (lp X u sc sb) ps pc cs cc ts tc++[(g,Is o)]) w w'
def K5(a:Nat)(X:ArchL)(D:Bs)(g:Nat)(o:Obj)(sm:Nat)(w:World)(t:Value)(W:World):Prop :=
 ∃at_ s u sc sb ps pc cs cc ts tc sz szc J,t=.int .i64 (at_:Nat)/\CtOk D (lp X u sc sb) ps pc cs cc ts tc sz szc at_ s /\
  Turns (ctF a X [] 0 [] 0 [] 0++[(g,Is o)]) (ctF a (lp X u sc sb) ps pc cs cc ts tc++((sm,Is (aQ dQ sz szc))::(g,Is o)::J)) w W
theorem yy(a:Nat)(X:ArchL)(D:Bs)(g off cap:Nat)(o:Obj)(w:World)(h:Sat w (ctF a X [] 0 [] 0 [] 0++[(g,Is o)]))(hX:X.used=0/\X.sc=0/\X.sb=0)(hD:∀W:World,W.heap[g]?=some o->al W (some ⟨g,off,none⟩) (D.map am))(hcap:D.length<=cap)(hl:D.length<=1073741824)(hR:∀at_ s,Reach D at_ s->at_<=810000):
  Calls Tryz.prog 55 #[.pointer (some ⟨a,0,none⟩),.slice (some ⟨g,off,none⟩) D.length cap] w (D7 a X D g o w):=by
 obtain⟨F1,hF1⟩:∃F1,F1=ctF a X [] 0 [] 0 [] 0++[(g,Is o)]:=⟨_,rfl⟩;have HH:=Hq5 h hX hD hR hF1;have hT0:Turns F1 F1 w w:=by rw[hF1];exact Turns.refl h
 have H0:=qqH hT0;clear h hX hD hR hF1 hT0;go_enter Tryz.func55,Tryz.ntmps55;go_wp2_with ((refine ai rfl (uT 212 rfl H0.out ?_);intro sm w1 hT1;have H1:=qqH hT1;clear hT1;simp only[Act.put]));go_loopw [5] (fun t wr=>K5 a X D g o sm w t wr) (fun t _=>D.length-(intOf t).toNat)
 case atStart =>
  refine⟨0,⟨[],[],[]⟩,0,0,0,[],0,[],0,[],0,[],0,[],rfl,⟨.zero,Nat.zero_le _,⟨Nat.le_refl _,(fun h hh=>by cases hh),(fun h hh=>by cases hh),(fun h hh=>by cases hh)⟩,⟨⟨nodup_nil,nodup_nil,(fun e he=>by cases he),(fun e he=>by cases he)⟩,(fun p hp=>by cases hp)⟩,⟨⟨nodup_nil,nodup_nil,(fun e he=>by cases he),(fun e he=>by cases he)⟩,(fun p hp=>by cases hp)⟩,⟨⟨nodup_nil,nodup_nil,(fun e he=>by cases he),(fun e he=>by cases he)⟩,(fun p hp=>by cases hp)⟩,fun k=>Perm.refl _,(fun e he=>by cases he),fun l=>rfl,(fun p hp=>by cases hp),(fun e he=>by cases he),rfl,rfl,rfl,⟨nodup_nil,nodup_nil,(fun e he=>by cases he),(fun e he=>by cases he)⟩,fun k=>rfl,rfl⟩,?_⟩;have hx:lp X 0 0 0=X:=F6 HH.b;rw[hx,<- HH.w];exact H1.out.to (by rw[HH.w];show Perm _ (ctF a X [] 0 [] 0 [] 0++((sm,Is (.map #[] 0))::(g,Is o)::[]));exact ae)
 case round =>
  obtain⟨at_,s,us,sc,sb,ps,pc,cs,cc,ts,tc,sz,szc,J,rfl,hct,hT⟩:=hrel;rw[<- HH.w]at hT;have hle:=hct.le;have hgo:=hT.sat.Q7 (b:=g) (o:=o) (by simp);have hgl:=ac hgo
  obtain⟨a1,ha1,hc1⟩:∃a1:Option Addr,a1=(if cap=at_ then some ⟨g,off,none⟩else some ⟨g,off+at_,none⟩)/\al wr a1 ((D.drop at_).map am):=by
   refine⟨_,rfl,?_⟩;by_cases he:cap=at_
   ·rw[if_pos he,drop_eq_nil_of_le (by omega)];exact fX _ _
   ·rw[if_neg he];exact gR (HH.c wr hgo) at_ hle
  have ha1b:∀x,a1=some x->x.block=g:=fun x hx=>by
   rw[ha1]at hx;split at hx<;>(simp only[Option.some.injEq]at hx;subst hx;rfl)
  have HO:=je a1 (cap-at_) (D.drop at_) wr hc1 (by rw[length_drop];omega) (by rw[length_drop];omega);rw[length_drop]at HO;obtain⟨rd,hrd⟩:∃rd,rd=D.length-at_:=⟨_,rfl⟩;have hat:=HH.d _ _ hct.reach;have hbnd:=hct.bounds hat;unfold dS at HO;have HHO:=qqH HO;have HR:=Hq5 hct hT ha1b hgo hbnd;clear hct hT hgo hc1 ha1b HO hbnd
  cases hop:bM (D.drop at_)with
  | none =>
   have HO2:=HHO.out;rw[hop]at HO2
   have hfin:∀w':World,aX wr w'->D7 a X D g o w (.returned (.int .i64 at_)) w':=fun w' hs =>
    ⟨at_,s,us,sc,sb,ps,pc,cs,cc,ts,tc,sz,szc,rfl,HR.a,(fun k b n h=>by rw[hop]at h;cases h),by rw[<- HH.w];exact(HR.b.Q9 hs).drop (fun x=>by simp only[ao,ah,fd];omega)⟩
   have HFin:=qqH hfin;clear hfin HHO hop;by_cases he:cap=at_
   ·rw[if_pos he]at ha1;subst ha1;rw[he,Nat.sub_self,show D.length-at_=0 by omega]at HO2;have HO:=qqH HO2;clear HO2 hrd;subst he;go_wp2_with fail;refine HO.out.mono ?_;rintro e w2 ⟨rfl,hs⟩;have HS:=qqH hs;clear hs;go_wp2_with fail;go_ret;exact (by exact HFin.out _ HS.out)
   ·rw[if_neg he]at ha1;have he2:¬at_=cap:=fun h=>he h.symm
    subst ha1;have HO:=qqH HO2;clear HO2 hrd;go_wp2_with fail;refine HO.out.mono ?_;rintro e w2 ⟨rfl,hs⟩;have HS:=qqH hs;clear hs;go_wp2_with fail;go_ret;exact (by exact HFin.out _ HS.out)
  | some r =>
   obtain⟨k,body,n⟩:=r;have HO2:=HHO.out;rw[hop]at HO2;have HO:=qqH HO2;clear HO2 HHO;obtain⟨hk0,hn,hnl,-,hbl⟩:=dx hop;rw[length_drop]at hnl;have he:¬cap=at_:=by omega
   have he2:¬at_=cap:=by omega
   rw[if_neg he]at ha1;subst ha1;go_wp2_with fail;refine HO.out.mono ?_;rintro e w2 ⟨a2,rfl,hb2,ha2,hs2⟩
   have hg2:∀x,a2=some x->x.block=g:=fun x hx=>by
    obtain⟨y,hy,hxy⟩:=ha2 x hx;rw[hxy];exact HR.c y hy
   have hT2:=HR.b.Q9 hs2;have HX:=Hq5 hb2 hg2 hT2 hop hbl;have hk0n:¬((k.toNat:Int)=0):=xt (by decide) hk0;clear hb2 ha2 hs2 hg2 hT2 hop hk0;have hsum:IntKind.i64.wrap ((at_:Int)+n)=((at_+n:Nat):Int):=by rw[IntWalk.i64_in _ (by omega)];omega
   have hg2l:g<w2.heap.size:=ac (HX.c.sat.Q7 (b:=g) (o:=o) (by simp));by_cases hk:k=1
   ·subst hk;have hk1:(((1:UInt8).toNat:Nat):Int)=1:=rfl;rw[hk1];go_wp2_with ((refine ai rfl (lw C5 (.tmp 24) (.tmp 25) (.tmp 27) rfl Tryz.underlying212 sm sz szc (HX.c.to (H:=(sm,Is (aQ dQ sz szc))::(ctF a (lp X us sc sb) ps pc cs cc ts tc++((g,Is o)::J))) ae) HR.a.map (at_:Int) (.int .i64 body.length) rfl rfl rfl ⟨by omega,by omega⟩ ?_);intro w3 hT3;have HT3:=qqH hT3;clear hT3;simp only[Act.put]))
    have hb3:al w3 a2 (body.map am):=Fp HX.a (fun x hx=>by
     rw[HX.b x hx,HT3.out.sat.Q7 (b:=g) (o:=o) (by simp),HX.c.sat.Q7 (b:=g) (o:=o) (by simp)])
    have hTk:Turns F1 (((a,Is (.cells (bb (lp X us sc sb)) 128 (0,0)))::aM X.cm cs cc)++((sm,Is (aQ dQ (gA sz szc (at_:Int) (.int .i64 body.length)) (cw sz szc (at_:Int))))::(aF X.pm ps pc++(b8 X.tm ts tc++((g,Is o)::J))))) w w3:=HT3.out.to (by unfold ctF aH lp;exact ae);obtain⟨hb1,hb2',hb3',hb4,-,-,-⟩:=HR.w;have HK:=qqH (oX a X.pm X.tm X.cm cc sc sb us cs body a2 body.length (at_,body.length) (bb (lp X us sc sb)) 128 w3 hTk.sat.left ⟨rfl,rfl,rfl,rfl,rfl,rfl⟩ HR.a.chunks hb3 (by have:=hb4 (be (cF 1 body) 4);omega) (by omega) (by have h:0<=sc/\sc<=90000:=hb2';omega) (by have h:0<=sb/\sb<=65535*90000:=hb3';omega));have HTk:=qqH hTk;clear hb3 hTk hb1 hb2' hb3' hb4;refine HK.out.mono ?_;rintro e w4 ⟨v4,rfl,hv4,hT4⟩;have hT5:=HTk.out.step (Perm.refl _) hT4;have HT5:=Hq2 hv4 hT5;clear hv4 hT4 hT5;go_wp2_with fail;go_roundw
    case rel =>
     refine⟨at_+n,{ s with K:=s.K++[(body,at_,body.length)] },us,sc+1,sb+body.length,ps,pc,ef cs cc (ed body) v4 (aY cs (ed body)++[(at_,body.length)]),cw (cs.map aO) cc (ed body),ts,tc,gA sz szc (at_:Int) (.int .i64 body.length),cw sz szc (at_:Int),J,by go_num,CtOk.chunk HR.a HX.d (by omega) HT5.a,?_⟩;rw[<- HH.w];have h9:=HT5.z;change Turns F1 (((a,Is (aH (lp X us (sc+1) (sb+body.length))))::aM X.cm (ef cs cc (ed body) v4 (aY cs (ed body)++[(at_,body.length)])) (cw (cs.map aO) cc (ed body)))++_) w w4 at h9;exact h9.to (by unfold ctF lp;exact ae)
    case measure=>simp[intOf];omega
   ·have hk1:¬((k.toNat:Int)=1):=xt (by decide) hk;have HRd:=qqH (vD k a2 body.length body w2 HX.a (Nat.le_refl _) (fun x hx=>by rw[HX.b x hx];exact hg2l) (by omega));go_wp2_with fail;refine HRd.out.mono ?_;intro e w3 hp;unfold cM at hp
    cases hr:fb k body with
    | none =>
     rw[hr]at hp;obtain⟨rfl,hs3⟩:=hp;have HS3:=Hq2 hs3 hr;clear hs3 hr;go_wp2_with fail;refine(vF a sm w3).mono ?_;rintro e w4 ⟨rfl,hs4⟩;have HS4:=qqH hs4;clear hs4;go_wp2_with fail;go_ret;refine⟨at_,s,us,sc,sb,ps,pc,cs,cc,ts,tc,sz,szc,rfl,HR.a,fun k' b' n' h=>?_,by rw[<- HH.w];exact((HX.c.Q9 HS3.a).Q9 HS4.out).drop (fun x=>by simp only[ao,ah,fd];omega)⟩;rw[HX.d]at h;simp only[Option.some.injEq,Prod.mk.injEq]at h;obtain⟨rfl,rfl,rfl⟩:=h;unfold fy;rw[if_neg hk,HS3.z]
    | some r =>
     rw[hr]at hp;obtain⟨v,rfl,hio,hT3⟩:=hp;have hT4:Turns F1 ((ctF a (lp X us sc sb) ps pc cs cc ts tc++((sm,Is (aQ dQ sz szc))::cA v (mr r)))++((g,Is o)::J)) w w3:=(HX.c.Qb hT3).to ae;have HRv:=qqH (vE HR.a hk HX.d hat hr hio hT4.sat.left);have H4:=qqH hT4;clear hio hT3 hT4 hr;obtain⟨R2,hR2⟩:∃R2,R2=cA v (mr r):=⟨_,rfl⟩;rw[<- hR2]at HRv H4;clear hR2
     cases r
     all_goals
      unfold uz at HRv;unfold uz;go_wp2_with fail;refine HRv.out.mono ?_;rintro e w5 (⟨hno,rfl,hT5⟩|⟨s',u,ps',pc',ts',tc',rfl,hct',hT5⟩)
      ·have H5:=Hq2 hno (H4.out.step (Perm.refl _) hT5);clear hno hT5;go_wp2_with fail;go_ret;refine⟨at_,s,us,sc,sb,ps,pc,cs,cc,ts,tc,sz,szc,rfl,HR.a,fun k' b' n' h=>?_,by rw[<- HH.w];exact H5.z.drop (fun x=>by simp only[ao,ah,fd];omega)⟩;rw[HX.d]at h;simp only[Option.some.injEq,Prod.mk.injEq]at h;obtain⟨rfl,rfl,rfl⟩:=h;exact H5.a
      ·have H5:=Hq2 hct' (H4.out.step (Perm.refl _) hT5);clear hct' hT5;go_wp2_with fail;go_roundw
       case rel =>
        refine⟨at_+n,s',u,sc,sb,ps',pc',cs,cc,ts',tc',sz,szc,R2++J,by go_num,(by exact H5.a),?_⟩;rw[<- HH.w];have h9:=H5.z;change Turns F1 ((ctF a (lp X u sc sb) ps' pc' cs cc ts' tc'++((sm,Is (aQ dQ sz szc))::R2))++((g,Is o)::J)) w w5 at h9;refine h9.to ?_;exact ae
       case measure=>simp[intOf];omega
end
section
open Go.RowKit
theorem Gb{l s x:Bs}{a:Nat}(h:a<=l.length):aV (aV l a s) (a+s.length) x=aV l a (s++x):=by
 have h1:(l.take a++s).length=a+s.length:=by rw[length_append,length_take];omega
 have e0:aV l a s=(l.take a++s)++l.drop (a+s.length):=rfl;have e1:(aV l a s).take (a+s.length)=l.take a++s:=by rw[e0];exact take_left' h1
 have e2:(aV l a s).drop (a+s.length+x.length)=l.drop (a+(s.length+x.length)):=by
  have h2:(aV l a s).drop (a+s.length)=l.drop (a+s.length):=by rw[e0];exact drop_left' h1
  rw[<- drop_drop,h2,drop_drop,Nat.add_assoc]
 show(aV l a s).take (a+s.length)++x++(aV l a s).drop (a+s.length+x.length)=l.take a++(s++x)++l.drop (a+(s++x).length);rw[e1,e2,length_append,append_assoc (l.take a)]
def jY(t:Bs):Nat->Bs
 | 0=>[]
 | m+1=>jY t m++(if m=0 then t else ak 128)
theorem kN{t:Bs}(ht:t.length=128):∀m,(jY t m).length=128*m
 | 0=>rfl
 | m+1=>by
  rw[jY,length_append,kN ht m]
  split
  ·omega
  ·simp[ak];omega
theorem wl{t:Bs}(ht:t.length=128):∀m,jY t (m+1)=t++ak (128*m)
 | 0=>by simp[jY,ak]
 | m+1=>by
  rw[jY,wl ht m,if_neg (by omega),append_assoc,mj]
  congr 2
theorem tG{l t:Bs}{first q:Nat}(ht:t.length=128)(h:128*(first+q)<=l.length):∀m,fZ l first q t m=aV l (128*(first+q)) (jY t m)
 | 0=>by simp[fZ,jY,aV]
 | m+1=>by
  rw[fZ,tG ht h m,jY]
  have:=Gb (l:=l) (s:=jY t m) (x:=if m=0 then t else ak 128) h
  rw[kN ht,<- Nat.mul_add]at this
  exact this
theorem tH{l ws:Bs}{first count end_:Nat}(hl:128*(first+count)<=l.length)(hw:(au l first count).take end_=ws.take end_)(hwl:ws.length=128*count)(he:end_<=128*count):
  eB (fZ l first (end_ / 128) ((ws.take end_).drop (128*(end_ / 128))++ak (128-end_%128)) (count-end_ / 128)) first count (ws.take end_) /\
  ∀f2 c2,(f2+c2<=first\/first+count<=f2)->au (fZ l first (end_ / 128) ((ws.take end_).drop (128*(end_ / 128))++ak (128-end_%128)) (count-end_ / 128)) f2 c2=au l f2 c2:=by
 have hdl:(ws.take end_).length=end_:=by rw[length_take];omega
 obtain⟨t,ht⟩:∃t,t=(ws.take end_).drop (128*(end_ / 128))++ak (128-end_%128):=⟨_,rfl⟩;have htl:t.length=128:=by rw[ht,length_append,length_drop,hdl,an];omega
 rw[<- ht,tG htl (by omega)];have hrl:=kN htl (count-end_ / 128);have hhl:(au l first count).length=128*count:=by unfold au;rw[length_take,length_drop];omega
 refine⟨⟨?_,by rw[hdl];exact he⟩,fun f2 c2 hd=>jZ (by omega) (by omega) hd⟩;rw[pY (by omega) (by omega),hdl];rcases Nat.lt_or_ge (end_ / 128) count with hlt|hge
 ·obtain⟨m,hm⟩:∃m,count-end_ / 128=m+1:=⟨count-end_ / 128-1,by omega⟩;rw[hm,wl htl];unfold aV
  have e1:(au l first count).take (128*(end_ / 128))=(ws.take end_).take (128*(end_ / 128)):=by
   rw[<- hw,take_take,Nat.min_eq_left (by omega)]
  rw[e1,ht,append_assoc ((ws.take end_).drop _),mj,<- append_assoc,take_append_drop,drop_of_length_le (by rw[hhl];simp only[length_append,length_drop,hdl,an];omega),append_nil];congr 2;omega
 ·have h0:count-end_ / 128=0:=by omega
  have he2:end_=128*count:=by omega
  rw[h0];simp only[jY,aV,append_nil,length_nil,Nat.add_zero,take_append_drop];rw[<- hw,take_of_length_le (by omega),he2];simp[ak]
end
section
open Go.RowKit Go.Maps
theorem Km{F G:HF}{A W:World}{v:Value}{D:Bs}(h:Turns F (aI v D++G) A W)(hok:bOk v D)(hne:D≠[]):∃g cap o,v=.slice (some ⟨g,0,none⟩) D.length cap/\D.length<=cap/\cap<=9223372036854775807/\Turns F ((g,Is o)::G) A W/\(∀W':World,W'.heap[g]?=some o->al W' (some ⟨g,0,none⟩) (D.map am)):=by
 have hown:=dr h.sat.left hok;rcases hown.2 with⟨-,h0⟩|⟨g,cap,cur,rfl,-,hg,h1,h2,h3,h4⟩
 ·exact absurd (eq_nil_of_length_eq_zero h0) hne
 ·refine⟨g,cap,.cells cur 5 (0,0),rfl,h1,by unfold maxLen at h2;omega,?_,fun W' hW hp=>⟨g,0,rfl,fun j hj=>?_⟩⟩
  ·have e:aI (.slice (some ⟨g,0,none⟩) D.length cap) D++G=(g,_)::G:=rfl;rw[e]at h;exact h.put (Mods.refl _ _) hg Is.rfl
  ·rw[Nat.zero_add];refine aa hW j ?_;rw[<- Array.getElem?_toList];have hj2:j<D.length:=by simpa using hj
   have e1:(cur.toList.take (D.length*1))[j]?=cur.toList[j]?:=by rw[getElem?_take,if_pos (by omega)]
   rw[<- e1,h4];exact getElem?_eq_getElem hj
def lq(pm tm cm d ab e:Nat)(q:Int):ArchL:=⟨pm,tm,cm,0,0,0,d,ab,e,c9 q,false,.nilIface⟩
def mq(L:DevL)(e ch:Nat):AreaL:=⟨2+e%2*ap L.n,ap L.n,0,ak 128,ch,[]⟩
structure OpenIs (d:Nat) (L:DevL) (q:Int) (e:Nat) (D:Bs) (S:AS):Prop where
 ct:∃at_ s sz szc,CtOk D S.X S.ps S.pc S.cs S.cc S.ts S.tc sz szc at_ s/\km D at_ s/\S.data=D.take at_/\s.K=S.K
 X:∃us sc sb,S.X=lp (lq S.X.pm S.X.tm S.X.cm d S.X.ab e q) us sc sb
 A:S.A.first=2+e%2*ap L.n/\S.A.count=ap L.n/\S.A.end_=S.data.length/\S.A.tail=bL S.data/\S.A.spare=[]
 dev:DevOk S.L/\S.L.n=L.n/\S.L.safe=S.L.now/\S.L.chs=[]
 dat:eB S.L.now S.A.first S.A.count S.data
 other:∀f2 c2,(f2+c2<=S.A.first\/S.A.first+S.A.count<=f2)->au S.L.now f2 c2=au L.now f2 c2
def EY(d:Nat)(L:DevL)(q:Int)(e:Nat)(w:World)(ev:Ending)(w':World):Prop :=
 ∃S,ev=.returned (.tuple #[.pointer (some ⟨S.a,0,none⟩),.nilIface])/\OpenIs d L q e (au L.now (2+e%2*ap L.n) (ap L.n)) S/\Turns (az d L) (arF S) w w'
def Cb(L:DevL)(u:Nat×Nat):Prop:=∃at_ s,Reach (au L.now (2+u.1%2*ap L.n) (ap L.n)) at_ s/\km (au L.now (2+u.1%2*ap L.n) (ap L.n)) at_ s/\at_<u.2
def nj(d:Nat)(L:DevL)(q:Int)(l:List (Nat×Nat))(w:World)(ev:Ending)(w':World):Prop :=
 (∃pre e wh rest S,l=pre++(e,wh)::rest/\(∀u∈pre,Cb L u)/\wh<=S.data.length/\ev=.returned (.tuple #[.pointer (some ⟨S.a,0,none⟩),.nilIface])/\OpenIs d L q e (au L.now (2+e%2*ap L.n) (ap L.n)) S/\Turns (az d L) (arF S) w w') \/
 ((∀u∈l,Cb L u)/\ev=.returned (.tuple #[.pointer none,cO 10])/\Turns (az d L) (az d L) w w')
theorem GC(us:Nat->Option (Nat×Nat)):(ey (fB us 2)).length<=2:=by
 have h:=pp us 2;match h2:fB us 2,h with
 | [],_=>simp[ey]
 | [u],_=>simp[ey]
 | [u,v],_=>unfold ey;simp only;split<;>simp
def LD(d:Nat)(L:DevL)(l:List (Nat×Nat))(U:HF)(w:World)(i:Value)(W:World):Prop :=
 ∃j:Nat,j<=l.length/\i=.int .i64 j/\(∀u∈l.take j,Cb L u)/\Turns (az d L) (U++az d L) w W
theorem y9(d:Nat)(L:DevL)(us:Nat->Option (Nat×Nat))(l:List (Nat×Nat))(q:Int)(w:World)(h:Sat w (az d L))(hL:DevOk L)(hn:16<=L.n)(hn2:L.n<=8388608)(hch:L.chs.length<=137438953472)(hU:∀k,k<2->eO L.now us k)(hus:ey (fB us 2)=l)(hz:cf L.now 2=false)(hlb:∀u∈l,u.1<4294967296/\u.2<4294967296)(hR:∀pre u rest,l=pre++u::rest->(∀x∈pre,Cb L x)->∀at_ s,Reach (au L.now (2+u.1%2*ap L.n) (ap L.n)) at_ s->at_<=810000):
  Calls Tryz.prog 22 #[.pointer (some ⟨d,0,none⟩),.int .i64 q] w (nj d L q l w):=by
 have HSc:=qqH (kI d L w h);have HUs:=qqH (fun W (hW:aX w W)=>DP d L us W (h.same hW) hL hn hU);have HH:=Hq7 h hL hch hR hlb hus hz;clear h hL hch hU hus hR hlb hz;go_enter Tryz.func22,Tryz.ntmps22;go_wp2_with fail;refine HSc.out.mono ?_;rintro ev w1 ⟨rfl,rfl⟩;go_wp2_with fail;refine(HUs.out _ (Mods.refl _ _)).mono ?_;rintro ev w2 ⟨v2,rfl,hu2,hT2⟩;rw[HH.u];rw[HH.f]at hu2 hT2
 have hlen:l.length<=2:=by
  rw[<- HH.f];exact GC _
 obtain⟨sl,cap,rfl,hcap,hcap2,-,-⟩:=bC hT2.sat hu2 (by decide);obtain⟨m,hm⟩:∃m,m=l.length:=⟨_,rfl⟩;obtain⟨U,hU⟩:∃U,U=fN (.slice sl l.length cap) l:=⟨_,rfl⟩;have hTd:Turns (az d L) (U++az d L) w w2:=by rw[hU];exact Turns.Qb (Turns.refl HH.a) hT2
 have H2:=Hq4 hTd hu2 hm hU;rw[<- hm]at hcap hlen ⊢;clear hu2 hT2 hTd hm hU;go_wp2_with fail;go_loopw [37] (fun i wr=>LD d L l U w i wr) (fun i _=>2-(intOf i).toNat)
 case atStart=>exact⟨0,by omega,rfl,fun u hu=>by simp at hu,H2.a⟩
 case round =>
  obtain⟨j,hj,rfl,hpre,hTj⟩:=hrel;by_cases hjm:j<m
  ·obtain⟨e,wh,rest,hle⟩:∃e wh rest,l=l.take j++(e,wh)::rest:=by
    refine⟨(l[j]'(by rw[<- H2.c];exact hjm)).1,(l[j]'(by rw[<- H2.c];exact hjm)).2,l.drop (j+1),?_⟩;rw[<- drop_eq_getElem_cons,take_append_drop]
   have heb:=HH.e (e,wh) (by rw[hle];simp);have he:e<4294967296:=heb.1;have hwl:wh<4294967296:=heb.2;obtain⟨sl',cap',hsl,-,-,hcells,-⟩:=bC (show Sat wr (fN (.slice sl l.length cap) l) by rw[<- H2.x];exact hTj.sat.left) H2.b (by decide);simp only[Value.slice.injEq,true_and]at hsl;obtain⟨rfl,rfl⟩:=hsl;obtain⟨gu,offu,hgu,hcu⟩:=hcells (by rw[m0,<- H2.c];omega);subst hgu
   have hfl:l.flatMap nS=(l.take j).flatMap nS++(.int .u32 e :: .int .u32 wh::rest.flatMap nS):=by
    conv=>lhs;rw[hle]
    rw[flatMap_append,flatMap_cons];rfl
   have hfj:((l.take j).flatMap nS).length=j*2:=by rw[m0,length_take];omega
   have c0:wr.cell? ⟨gu,offu+j*2,none⟩=some (.int .u32 e):=by
    have:=hcu (j*2) (by rw[m0,<- H2.c];omega);rw[this];simp[hfl,hfj]
   have c1:wr.cell? ⟨gu,offu+j*2+1,none⟩=some (.int .u32 wh):=by
    have:=hcu (j*2+1) (by rw[m0,<- H2.c];omega);rw[Nat.add_assoc,this];simp[hfl,hfj]
   obtain⟨D,hD⟩:∃D,D=au L.now (2+e%2*ap L.n) (ap L.n):=⟨_,rfl⟩
   have hfit:2+e%2*ap L.n+ap L.n<=L.n:=by
    unfold ap;rcases Nat.mod_two_eq_zero_or_one e with h|h<;>rw[h]<;>omega
   have hDl:D.length=128*ap L.n:=by rw[hD];exact fG HH.b.nowL hfit
   have hh7:7<=ap L.n/\ap L.n<=L.n:=by unfold ap;omega
   have HRD:=qqH (HH.d (l.take j) (e,wh) rest hle hpre);have HD:=Hq4 hD hDl hfit hh7;have HJ:=Hq3 hle hpre hTj;clear hD hDl hfit hh7 hle hpre hcells hcu hfl hfj heb hTj hj;go_upto_region 11 with(fail);obtain⟨u,hu⟩:∃u,u=wr.heap.size:=⟨_,rfl⟩;rw[<- hu];have hT0:Turns (az d L) ((u,Is (im e wh))::(U++az d L)) w (wr.alloc (.cells #[.int .u32 e,.int .u32 wh] 118)):=by rw[hu];exact HJ.y.Q8 (im e wh)
   have HK:=qqH hT0;clear hT0 hu;refine cL [([1,2,3,4,6,7,8,9],0,[1,2,3,4,6,7,8,9]),([],5,[1,6,7,8,9]),([10],11,[])] [12] HM.out (by kernel_rfl) fun W tW=>?_
   simp only[Mix,map_cons,map_nil,nth,QG,QF];have hT0:=tW HK.out;clear tW;have u0:∀{W:World} {F:HF},Sat W F->(u,Is (im e wh))∈F->W.cell? ⟨u,0,none⟩=some (.int .u32 e):=fun hs hm=>aa (hs.Q7 hm) 0 rfl
   have k0:=u0 hT0.sat (by simp);iterate 7 still_step
   refine cD rfl (v:=.int .i64 (c9 q)) (by kernel_rfl) ?_;simp only[Act.put,QA,QB,QC];refine wpStill_nil (bw (by kernel_rfl) (iY W) ?_);rintro ev W1 ⟨pm,tm,cm,rfl,hT1⟩;have hT1:=Turns.Qb hT0 hT1;refine⟨_,rfl,by(have c1:=u0 hT1.sat (by simp);(iterate 7 still_step);exact cD rfl (v:=.int .i64 (c9 q)) (by kernel_rfl) rfl),wpStill_nil (bw (by kernel_rfl) (oW d L e W1 (hT1.sat.sub bS) (by omega) (by omega) he) ?_)⟩;rintro ev W2 ⟨ab,ch,rfl,hT2⟩;have hT2:=Turns.Qb hT1 hT2;refine⟨_,rfl,by(have c1:=u0 hT2.sat (by simp);(iterate 4 still_step);exact cD rfl (v:=.int .i64 (c9 q)) (by kernel_rfl) rfl),?_⟩;simp only[Act.put,QA,QB,QC];refine cD rfl (v:=.agg (bb (lq pm tm cm d ab e q))) (by kernel_rfl) ?_;simp only[Act.put,QA,QB,QC];refine wpStill_nil (i6 (aH (lq pm tm cm d ab e q)) (fun g=>.pointer (some ⟨g,0,none⟩)) (by kernel_rfl) hT2 fun g w3 hT3=>⟨rfl,?_⟩);simp only[Act.put,QA,QB,QC];repeat still_step
   refine wpStill_nil ?_;have hT3:Turns (az d L) ((g,Is (aH (lq pm tm cm d ab e q)))::(aq ab d (mq L e ch)++([(cm,Is (.map #[] 0)),(tm,Is (.map #[] 0)),(pm,Is (.map #[] 0))]++((u,Is (im e wh))::(U++az d L))))) w w3:=hT3;clear hT0 hT1 hT2 u0 k0 HK;have g7:w3.cell? ⟨g,7,none⟩=some (.pointer (some ⟨ab,0,none⟩)):=aa hT3.sat.Q5 7 rfl;have hgl:=ac hT3.sat.Q5;have HAll:=qqH (qw ab d (mq L e ch) L w3 (hT3.sat.sub (fun _=>by simp only[ao,ah,fd]<;>omega)) HH.b HD.c (by omega));have H3:=qqH hT3;clear hT3;go_wp2_with fail;refine HAll.out.mono ?_;rintro ev w4 ⟨v,rfl,hok,hT4⟩;change bOk v (au L.now (2+e%2*ap L.n) (ap L.n))at hok;change Turns [] (aI v (au L.now (2+e%2*ap L.n) (ap L.n))) w3 w4 at hT4;rw[<- HD.a]at hok hT4;obtain⟨gD,capD,o,rfl,hcD,hcD2,hT5,hcell⟩:=Km (Turns.Qb H3.out hT4) hok (fun h=>by have:=HD.b;rw[h]at this;simp at this;have:=HD.x;omega)
   have hTp:Turns (az d L) ((ctF g (lq pm tm cm d ab e q) [] 0 [] 0 [] 0++[(gD,Is o)])++(aq ab d (mq L e ch)++((u,Is (im e wh))::(U++az d L)))) w w4:=hT5.to (by
    show Perm _ ((((g,Is (aH (lq pm tm cm d ab e q)))::([(pm,Is (.map #[] 0))]++([(cm,Is (.map #[] 0))]++[(tm,Is (.map #[] 0))])))++[(gD,Is o)])++(aq ab d (mq L e ch)++((u,Is (im e wh))::(U++az d L))));exact ae)
   have HRp:=qqH (yy g (lq pm tm cm d ab e q) D gD 0 capD o w4 hTp.sat.left ⟨rfl,rfl,rfl⟩ hcell hcD (by have:=HD.b;have:=HD.x;omega) (by rw[HD.a];exact HRD.out));have h4g:w4.cell? ⟨g,7,none⟩=some (.pointer (some ⟨ab,0,none⟩)):=aa (hTp.sat.Q7 (b:=g) (o:=aH (lq pm tm cm d ab e q)) (by simp[ctF])) 7 rfl;have H5:=Hq4 hTp hcell hcD hcD2;clear hok hT4 hT5 hcell hTp g7;go_wp2_with fail;refine HRp.out.mono ?_;rintro ev w5 ⟨at_,s,us',sc,sb,ps,pc,cs,cc,ts,tc,sz,szc,rfl,hct,href,hTr⟩;have hT6:=H5.a.step (Perm.refl _) hTr;have hle:=hct.le;have hu6:=hT6.sat.Q7 (b:=u) (o:=im e wh) (by simp);have u1:w5.cell? ⟨u,1,none⟩=some (.int .u32 wh):=aa hu6 1 rfl;have hul:=ac hu6;have g5:w5.cell? ⟨g,7,none⟩=some (.pointer (some ⟨ab,0,none⟩)):=aa (hT6.sat.Q7 (b:=g) (o:=aH (lp (lq pm tm cm d ab e q) us' sc sb)) (by simp[ctF])) 7 rfl;have hgl5:g<w5.heap.size:=hT6.sat.lt (by simp[ctF]);have hDl:=HD.b
   have hcut:=qx ab d (mq L e ch) L at_ (some ⟨gD,0,none⟩) capD D w5 (hT6.sat.sub (fun _=>by simp only[ao,ah,fd]<;>omega)) HH.b HD.c (by omega) ⟨an _,by simp[mq],fun _ h=>by simp[mq]at h⟩ (H5.b w5 (hT6.sat.Q7 (b:=gD) (o:=o) (by simp)))
    (fun x hx hin=>by
     simp only[Option.some.injEq]at hx;subst hx;have h1:Sat w5 ((gD,Is o)::(aq ab d (mq L e ch)++az d L)):=hT6.sat.sub (fun _=>by simp only[ao,ah,fd]<;>omega);exact h1.notMem hin) hDl H5.c H5.x (by show 0<ap L.n;have:=HD.x;omega) (by show at_<=128*ap L.n;omega) HH.c
    (fun m hm hx=>by
     rw[HD.a]at hx;rw[lW (by exact hm)]at hx;rw[HD.a];exact hx)
   have HC:=qqH hcut;have H6:=Hq3 hct href hT6;clear hct href hTr hT6 hcut hu6 hDl;by_cases hlt:(at_:Int)<(wh:Int)
   ·go_wp2_with fail;go_roundw
    case rel =>
     refine⟨j+1,by rw[<- H2.c];omega,by go_num,fun x hx=>?_,H6.y.drop (fun x=>by simp only[ao,ah,fd];omega)⟩
     have hx2:x∈l.take j\/x=(e,wh):=by
      have hjl:j<l.length:=by rw[<- H2.c];omega
      rw[QH hjl]at hx
      have e1:l[j]=(e,wh):=by
       have h1:l[j]?=some (e,wh):=by rw[HJ.a,getElem?_append_right (by rw[length_take];omega)];simp[length_take,Nat.min_eq_left (Nat.le_of_lt hjl)]
       rw[getElem?_eq_getElem hjl]at h1;exact Option.some.inj h1
      rw[e1]at hx;simpa using hx
     rcases hx2 with hx2|rfl
     ·exact HJ.b x hx2
     ·exact⟨at_,s,by rw[<- HD.a];exact H6.a.reach,by rw[<- HD.a];exact H6.b,by omega⟩
    case measure=>simp[intOf];omega
   ·go_wp2_with fail;refine HC.out.mono ?_;rintro ev w6 ⟨rfl,L',hT7,hL',hn',hnow',hsafe',hch'⟩;have hT8:=H6.y.step (F:=aq ab d (mq L e ch)++az d L) (R:=ctF g (lp (lq pm tm cm d ab e q) us' sc sb) ps pc cs cc ts tc++((gD,Is o)::((u,Is (im e wh))::U))) ae hT7;have H8:=Hq6 hT8 hL' hn' hnow' hsafe' hch';clear hT7 hT8 hL' hn' hnow' hsafe' hch';go_wp2_with fail;have hDl:=HD.b;have hdl:(D.take at_).length=at_:=by rw[length_take];omega
    have htl:(D.take at_).drop (128*(at_ / 128))++ak (128-at_%128)=bL (D.take at_):=by unfold bL dj;rw[hdl]
    obtain⟨S,hS⟩:∃S:AS,S={ a:=g,X:=lp (lq pm tm cm d ab e q) us' sc sb,A:={ mq L e ch with end_:=at_,tail:=(D.take at_).drop (128*(at_ / 128))++ak (128-at_%128) },L:=L',ps:=ps,pc:=pc,cs:=cs,cc:=cc,ts:=ts,tc:=tc,data:=D.take at_,K:=s.K }:=⟨_,rfl⟩;have hcd:=tH (l:=L.now) (ws:=D) (first:=2+e%2*ap L.n) (count:=ap L.n) (end_:=at_) (by rw[HH.b.nowL];have:=HD.c;omega) (by rw[<- HD.a]) hDl (by omega)
    have hfin:nj d L q l w (.returned (.tuple #[.pointer (some ⟨g,0,none⟩),.nilIface])) w6:=by
     refine .inl ⟨l.take j,e,wh,rest,S,HJ.a,HJ.b,by rw[hS];show wh<=(D.take at_).length;omega,by rw[hS],?_,?_⟩
     ·rw[<- HD.a];refine⟨⟨at_,s,sz,szc,by rw[hS];exact H6.a,H6.b,by rw[hS],by rw[hS]⟩,⟨us',sc,sb,by rw[hS];rfl⟩,?_,by rw[hS];exact⟨H8.b,H8.c,H8.e,H8.v⟩,?_,fun f2 c2 hf=>?_⟩
      ·rw[hS];exact⟨rfl,rfl,hdl.symm,htl,rfl⟩
      ·rw[hS];show eB L'.now (2+e%2*ap L.n) (ap L.n) (D.take at_);rw[H8.d];exact hcd.1
      ·rw[hS]at hf ⊢;show au L'.now f2 c2=_;rw[H8.d];exact hcd.2 f2 c2 hf
     ·rw[hS];refine H8.a.drop (fun x=>?_);show cnt x ((g,Is (aH (lp (lq pm tm cm d ab e q) us' sc sb)))::(aq ab d { mq L e ch with end_:=at_,tail:=(D.take at_).drop (128*(at_ / 128))++ak (128-at_%128) }++(az d L'++(aF pm ps pc++(b8 tm ts tc++aM cm cs cc)))))<=_;unfold ctF;show _<=cnt x ((aq ab d { mq L e ch with end_:=at_,tail:=(D.take at_).drop (128*(at_ / 128))++ak (128-at_%128) }++az d L')++(((g,Is (aH (lp (lq pm tm cm d ab e q) us' sc sb)))::(aF pm ps pc++(aM cm cs cc++b8 tm ts tc)))++((gD,Is o)::((u,Is (im e wh))::U))));simp only[ao,ah];omega
    go_ret2;exact (by exact hfin)
  ·obtain rfl:j=m:=by have:=H2.c;omega
   have HF0:nj d L q l w (.returned (.tuple #[.pointer none,cO 10])) wr:=.inr ⟨fun x hx=>hpre x (by rw[H2.c,take_length];exact hx),rfl,hTj.drop (fun x=>by simp only[ah];omega)⟩;have HEnd:=qqH HF0;clear HF0 hpre hTj;go_wp2_with fail;go_ret2;exact (by exact HEnd.out)
theorem DM{now:Bs}{us:Nat->Option (Nat×Nat)}(hU:∀k,k<2->eO now us k):∀u∈ey (fB us 2),u.1<4294967296/\u.2<4294967296:=by
 have h1:∀u∈fB us 2,u.1<4294967296/\u.2<4294967296:=fun u hu=>by
  unfold fB at hu;obtain⟨k,hk,e⟩:=mem_filterMap.1 hu;rcases hU k (mem_range.1 hk)with⟨h,-⟩|⟨e2,wh2,h,-,-,h4,h5⟩
  ·rw[h]at e;cases e
  ·rw[h]at e;cases e;exact⟨h4,h5⟩
 intro u hu;refine h1 u ?_;unfold ey at hu;split at hu
 ·rename_i a b he;rw[he];split at hu<;>(simp at hu ⊢;rcases hu with h|h<;>simp[h])
 ·exact hu
theorem G5(d:Nat)(L:DevL)(us:Nat->Option (Nat×Nat))(e wh:Nat)(q:Int)(w:World)(h:Sat w (az d L))(hL:DevOk L)(hn:16<=L.n)(hn2:L.n<=8388608)(hch:L.chs.length<=137438953472)(hU:∀k,k<2->eO L.now us k){rest:List (Nat×Nat)}(hus:ey (fB us 2)=(e,wh)::rest)(hz:cf L.now 2=false)(hR:∀at_ s,Reach (au L.now (2+e%2*ap L.n) (ap L.n)) at_ s->at_<=810000)(hwh:∀at_ s,Reach (au L.now (2+e%2*ap L.n) (ap L.n)) at_ s->km (au L.now (2+e%2*ap L.n) (ap L.n)) at_ s->wh<=at_):
  Calls Tryz.prog 22 #[.pointer (some ⟨d,0,none⟩),.int .i64 q] w (EY d L q e w):=by
 have hno:¬Cb L (e,wh):=fun⟨at_,s,h1,h2,h3⟩=>by
  have:=hwh at_ s h1 h2;simp only at h3;omega
 have hfirst:∀{pre u rest'},(e,wh)::rest=pre++u::rest'->(∀x∈pre,Cb L x)->pre=[]/\u=(e,wh):=fun {pre u rest'} h1 h2=>by
  cases pre with
  | nil=>simp only[nil_append,List.cons.injEq]at h1;exact⟨rfl,h1.1.symm⟩
  | cons a r =>
   simp only[cons_append,List.cons.injEq]at h1;exact absurd (h2 a (by simp)) (by rw[<- h1.1];exact hno)
 refine(y9 d L us _ q w h hL hn hn2 hch hU hus hz (fun u hu=>DM hU u (by rw[hus];exact hu)) (fun pre u rest' h1 h2 at_ s h3=>?_)).mono ?_
 ·obtain⟨-,rfl⟩:=hfirst h1 h2;exact hR at_ s h3
 ·rintro ev w' (⟨pre,e2,wh2,rest2,S,h1,h2,-,h4,h5,h6⟩|⟨h1,-⟩)
  ·obtain⟨-,h7⟩:=hfirst h1 h2
   cases h7
   exact⟨S,h4,h5,h6⟩
  ·exact absurd (h1 _ (by simp)) hno
end
section
open Go.RowKit
def Hc(s:ByteArray)(w:World)(B:Bool)(v i:Value)(wr:World):Prop :=
 ∃k m x:Nat,k<=s.size/\v=.int .u8 x/\i=.int .i64 k/\(x=47↔m=0)/\ej m (s.data.toList.drop k)=B/\aX w wr
theorem vB(s:ByteArray)(w:World)(h:s.size=0):Calls Tryz.prog 108 #[.string s] w (fU false w):=by
 go_enter Tryz.func108,Tryz.ntmps108;go_wp2_with fail;go_ret;exact ⟨rfl,Mods.refl _ _⟩
theorem yt(s:ByteArray)(w:World)(h:¬s.size=0)(hl:¬(s.size:Int)<=20):Calls Tryz.prog 108 #[.string s] w (fU false w):=by
 have h2:¬((s.size:Int)=0):=by omega
 have h3:(20:Int)<(s.size:Int):=by omega
 go_enter Tryz.func108,Tryz.ntmps108;go_wp2_with fail;go_ret;exact ⟨rfl,Mods.refl _ _⟩
theorem A3(s:ByteArray)(w:World)(h:¬s.size=0)(hl:(s.size:Int)<=20):Calls Tryz.prog 108 #[.string s] w (fU (ej 0 s.data.toList) w):=by
 have h2:¬((s.size:Int)=0):=by omega
 have h3:¬(20:Int)<(s.size:Int):=by omega
 go_enter Tryz.func108,Tryz.ntmps108;go_wp2_with fail;clear h2 h3;go_loopw [3,4] (fun v i wr=>Hc s w (ej 0 s.data.toList) v i wr) (fun _ i _=>s.size-(intOf i).toNat)
 case atStart=>exact⟨0,0,47,Nat.zero_le _,rfl,rfl,by omega,by simp,Mods.refl _ _⟩
 case round =>
  obtain⟨k,m,x,hk,rfl,rfl,hxm,hB,hs⟩:=hrel;have HB:=Hq3 hB hs hxm;clear hB hs hxm h;by_cases hlt:k<s.size
  ·have hsl:s.data.toList.length=s.size:=by simp
   have hdr:s.data.toList.drop k=s[k]::s.data.toList.drop (k+1):=by
    rw[drop_eq_getElem_cons (by omega)];rfl
   have HD:=qqH hdr;clear hdr hsl;go_upto_region 8 with(fail);obtain⟨c,hc⟩:∃c,c=s[k].toNat:=⟨_,rfl⟩;have hcl:c<256:=by rw[hc];exact UInt8.toNat_lt _
   have hB2:(if c=47/\0<m then ej 0 (s.data.toList.drop (k+1))else if kS c then ej (m+1) (s.data.toList.drop (k+1))else false)=ej 0 s.data.toList:=by
    have:=HB.a;rw[HD.out,ej,<- hc,uu,<- hc]at this;exact this
   have HB2:=qqH hB2;simp only[<- hc];clear hB2 hc;by_cases c1:c=47
   ·subst c1;by_cases hx:x=47
    ·have hm:m=0:=(HB.y).1 hx;subst hx;go_wp2_with fail;go_ret;refine ⟨?_,HB.b⟩;have:=HB2.out;rw[if_neg (by omega),if_neg (by decide)]at this;rw[<- this];rfl
    ·have hm:0<m:=by have:=HB.y;omega
     have hx2:¬((x:Int)=47):=by omega
     go_wp2_with fail;go_roundw
     case rel=>exact⟨k+1,0,47,by omega,rfl,by go_num,by omega,by have:=HB2.out;rwa [if_pos ⟨rfl,hm⟩]at this,HB.b⟩
     case measure=>simp[intOf];omega
   ·by_cases c2:kS c=true
    ·have HC2:=qqH c2;have hne:¬(c:Int)=47:=by omega
     have hp:(97<=c/\c<=122)\/(48<=c/\c<=57)\/c=46\/c=45\/c=95:=by
      unfold kS at c2;simp only[Bool.or_eq_true,Bool.and_eq_true,decide_eq_true_eq,beq_iff_eq]at c2;omega
     clear c2;rcases hp with hp|hp|hp|hp|hp
     all_goals first|subst hp|(obtain⟨hp1,hp2⟩:=hp;have hp3:(c:Int)<=122:=by omega)
     all_goals go_wp2_with fail
     all_goals
      go_roundw
      case rel=>exact⟨k+1,m+1,_,by omega,rfl,by go_num,(by omega),(by have:=HB2.out;rw[if_neg (by first|omega|decide),if_pos HC2.out]at this;exact this),HB.b⟩
      case measure=>first|(simp[intOf];done)|(simp[intOf];omega)
    ·have HC2:=qqH c2
     have hp:¬(97<=c/\c<=122)/\¬(48<=c/\c<=57)/\¬c=46/\¬c=45/\¬c=95:=by
      unfold kS at c2;simp only[Bool.or_eq_true,Bool.and_eq_true,decide_eq_true_eq,beq_iff_eq]at c2;omega
     obtain⟨hp1,hp2,hp3,hp4,hp5⟩:=hp;have hne:¬(c:Int)=47:=by omega
     clear c2
     have hE:Ending.returned (Value.bool false)=.returned (.bool (ej 0 s.data.toList)):=by
      have:=HB2.out;rw[if_neg (by omega),if_neg HC2.out]at this;rw[<- this]
     have HE:=qqH hE;clear hE;have q1:((c:Int)==46)=false:=by simp;omega
     have q2:((c:Int)==45)=false:=by simp;omega
     have q3:((c:Int)==95)=false:=by simp;omega
     have q4:((c:Int) != 47)=true:=by simp;omega
     rcases(show c<48\/(57<c/\c<97)\/122<c by omega)with hq|⟨hq,hq'⟩|hq
     ·have r1:¬(97:Int)<=c:=by omega
      have r2:¬(48:Int)<=c:=by omega
      go_wp2_with fail;go_ret;exact (by exact⟨HE.out,HB.b⟩)
     ·have r1:¬(97:Int)<=c:=by omega
      have r2:(48:Int)<=c:=by omega
      have r3:decide ((c:Int)<=57)=false:=by simp;omega
      go_wp2_with fail;go_ret;exact (by exact⟨HE.out,HB.b⟩)
     ·have r1:(97:Int)<=c:=by omega
      have r2:(48:Int)<=c:=by omega
      have r3:decide ((c:Int)<=57)=false:=by simp;omega
      have r4:decide ((c:Int)<=122)=false:=by simp;omega
      go_wp2_with fail;go_ret;exact (by exact⟨HE.out,HB.b⟩)
  ·obtain rfl:k=s.size:=by omega
   go_wp2_with fail;go_ret;refine ⟨?_,HB.b⟩;have h1:=HB.a;have h2:=HB.y;rw[drop_of_length_le (by simp),ej]at h1;show Ending.returned (Value.bool ((x:Int) != 47))=_;rw[<- h1];by_cases hx:x=47
   ·have hm:=h2.1 hx;subst hx;subst hm;rfl
   ·have hm:0<m:=by omega
    have:((x:Int) != 47)=true:=by simp;omega
    rw[this,decide_eq_true hm]
theorem jd(l:Bs)(w:World):Calls Tryz.prog 108 #[str l] w (fU (aw l) w):=by
 have hs:(⟨l.toArray⟩:ByteArray).size=l.length:=by simp[ByteArray.size]
 have hd:(⟨l.toArray⟩:ByteArray).data.toList=l:=by simp
 unfold aw;by_cases h0:l=[]
 ·rw[decide_eq_false (by simpa using h0)];exact vB _ w (by rw[hs,h0];rfl)
 ·have hne:¬(⟨l.toArray⟩:ByteArray).size=0:=by rw[hs];exact fun h=>h0 (eq_nil_of_length_eq_zero h)
  rw[decide_eq_true (by simpa using h0)];by_cases h1:l.length<=20
  ·rw[decide_eq_true h1];have:=A3 ⟨l.toArray⟩ w hne (by rw[hs];omega);rw[hd]at this;simpa using this
  ·rw[decide_eq_false h1];simpa using yt ⟨l.toArray⟩ w hne (by rw[hs];omega)
end
section
open Go.RowKit Go.Maps
theorem xi:∀(l:List RVer) (i:Nat) (h:i<l.length) (j:Nat) (_:j<4),(bA l)[i*4+j]?=(ls l[i])[j]?
 | [],i,h,_,_=>by simp at h
 | a::r,0,_,j,hj=>by
  simp only[bA,flatMap_cons,Nat.zero_mul,Nat.zero_add,getElem_cons_zero]
  rw[getElem?_append_left (by simpa[ls]using hj)]
 | a::r,i+1,h,j,hj=>by
  simp only[bA,flatMap_cons,getElem_cons_succ]
  rw[getElem?_append_right (by simp[ls];omega),show(i+1)*4+j-(ls a).length=i*4+j by simp[ls];omega]
  exact xi r i (by simpa using h) j hj
theorem yC{w:World}{g off:Nat}{l:List RVer}(h:∀j (h:j<(bA l).length),w.cell? ⟨g,off+j,none⟩=some ((bA l)[j]'h)){i:Nat}(hi:i<l.length):
  w.cell? ⟨g,off+i*4,none⟩=some (str l[i].path)/\w.cell? ⟨g,off+i*4+1,none⟩=some (.int .i64 l[i].num)/\w.cell? ⟨g,off+i*4+2,none⟩=some l[i].cv/\w.cell? ⟨g,off+i*4+3,none⟩=some (.int .i64 l[i].held):=by
 have key:∀j (hj:j<4) (v:Value),(ls l[i])[j]?=some v->w.cell? ⟨g,off+i*4+j,none⟩=some v:=fun j hj v hv=>by
  have h1:=xi l i hi j hj;rw[hv]at h1;obtain⟨p,e⟩:=List.getElem?_eq_some_iff.1 h1;have h2:=h (i*4+j) p;rw[<- Nat.add_assoc]at h2;rw[h2,e]
 exact⟨key 0 (by omega) _ rfl,key 1 (by omega) _ rfl,key 2 (by omega) _ rfl,key 3 (by omega) _ rfl⟩
structure RefAt (R:RefL) (P:dE) (w:World):Prop where
 ref:Sat w (aN R)
 ok:RefOk R
 pool:Sat w (bh P)
 pok:gO P
 inp:gY P R
 len:R.vs.length<=100000
 clen:∀v∈R.vs,v.cont.length<=100000
theorem RefAt.same{R:RefL}{P:dE}{w w':World}(h:RefAt R P w)(hs:aX w w'):RefAt R P w':=⟨h.ref.same hs,h.ok,h.pool.same hs,h.pok,h.inp,h.len,h.clen⟩
theorem RefAt.row{R:RefL}{P:dE}{w:World}(h:RefAt R P w):∃sl cap,R.vv=.slice sl R.vs.length cap/\R.vs.length<=cap/\cap<=9223372036854775807/\w.heap[R.blk]?=some (jH R)/\(0<R.vs.length->∃g off,sl=some ⟨g,off,none⟩/\∀i (hi:i<R.vs.length),w.cell? ⟨g,off+i*4,none⟩=some (str R.vs[i].path)/\w.cell? ⟨g,off+i*4+1,none⟩=some (.int .i64 R.vs[i].num)/\w.cell? ⟨g,off+i*4+2,none⟩=some R.vs[i].cv/\w.cell? ⟨g,off+i*4+3,none⟩=some (.int .i64 R.vs[i].held)):=by
 obtain⟨sl,cap,e1,e2,e3,hc,-⟩:=bC h.ref.tail.left h.ok.vs (by decide);refine⟨sl,cap,e1,e2,e3,h.ref.Q5,fun hp=>?_⟩;obtain⟨g,off,hg,hcc⟩:=hc (by rw[bq];omega);exact⟨g,off,hg,fun i hi=>yC hcc hi⟩
theorem RefAt.cont{R:RefL}{P:dE}{w:World}(h:RefAt R P w){v:RVer}(hv:v∈R.vs):∃sl cap,v.cv=.slice sl v.cont.length cap/\v.cont.length<=cap/\al w sl (v.cont.map am)/\(∀x,sl=some x->x.block∈dom (bh P)):=Dl h.pok h.pool (h.inp v hv)
def eT(l:List RVer):Nat:=(l.map (·.cont.length)).sum
theorem BK{l:List RVer}(h:∀v∈l,v.cont.length<=100000):eT l<=100000*l.length:=by
 unfold eT;induction l with
 | nil=>simp
 | cons a r ih =>
  have h1:=h a (by simp);have h2:=ih (fun v hv=>h v (by simp[hv]));simp only[map_cons,sum_cons,length_cons];omega
theorem A5(R:RefL)(P:dE)(w:World)(h:RefAt R P w):Calls Tryz.prog 43 #[.pointer (some ⟨R.blk,0,none⟩)] w (fun e w'=>e=.returned (.int .i64 (eT R.vs:Nat))/\aX w w'):=by
 obtain⟨sl,cap,e1,e2,e3,hb,hcell⟩:=h.row;have HC:=qqH (fun v hv=>h.cont (v:=v) hv);have hlen:=h.len;have HL:=qqH h.clen;have c0:w.cell? ⟨R.blk,0,none⟩=some (.slice sl R.vs.length cap):=by rw[<- e1];exact aa hb 0 rfl
 have hbl:=ac hb;have HH:=qqH hcell;clear h e1 hb hcell;go_enter Tryz.func43,Tryz.ntmps43;go_wp2_with fail;go_loopw [3,4] (fun n i wr=>∃k:Nat,k<=R.vs.length/\i=.int .i64 k/\n=.int .i64 (eT (R.vs.take k):Nat)/\wr=w) (fun _ i _=>R.vs.length-(intOf i).toNat)
 case atStart=>exact⟨0,Nat.zero_le _,rfl,rfl,rfl⟩
 case round =>
  obtain⟨k,hk,rfl,rfl,rfl⟩:=hrel;by_cases hlt:k<R.vs.length
  ·obtain⟨g,off,hg,hcc⟩:=HH.out (by omega);subst hg;obtain⟨-,-,hc,-⟩:=hcc k hlt;obtain⟨csl,ccap,hcv,-,-,-⟩:=HC.out R.vs[k] (getElem_mem hlt);rw[hcv]at hc
   have htk:eT (R.vs.take (k+1))=eT (R.vs.take k)+R.vs[k].cont.length:=by
    unfold eT;rw[QH hlt,map_append,sum_append];simp
   have hub:=BK (l:=R.vs.take k) (fun v hv=>HL.out v (mem_of_mem_take hv));have hcl:=HL.out R.vs[k] (getElem_mem hlt);rw[length_take]at hub;obtain⟨q,hq⟩:∃q,q=eT (R.vs.take k):=⟨_,rfl⟩;obtain⟨cl,hcl2⟩:∃cl,cl=R.vs[k].cont.length:=⟨_,rfl⟩;rw[<- hq]at htk hub;rw[<- hcl2]at htk hcl hc;rw[<- hq];have HT:=qqH htk;have hub2:q<=100000*100000:=by have:=Nat.mul_le_mul_left 100000 (show min k R.vs.length<=100000 by omega);omega
   clear htk hcc hcv hq hcl2 hub;go_wp2_with fail;go_roundw
   case rel=>exact⟨k+1,by omega,by go_num,by rw[HT.out];go_num,by first|rfl|trivial⟩
   case measure=>simp[intOf];omega
  ·obtain rfl:k=R.vs.length:=by omega
   go_wp2_with fail;go_ret;refine ⟨?_,Mods.refl _ _⟩;rw[take_length];rfl
def ic(p:Bs)(n:Int)(v:RVer):Bool:=decide (v.path=p)&&(decide (v.num=n) || decide (n=0))
def bW(vs:List RVer)(p:Bs)(n:Int):Nat->Int
 | 0=>-1
 | k+1=>if(vs[k]?).elim false (ic p n)then k else bW vs p n k
theorem pD(vs:List RVer)(p:Bs)(n:Int):∀k,-1<=bW vs p n k/\bW vs p n k<k
 | 0=>by simp[bW]
 | k+1=>by
  have:=pD vs p n k
  unfold bW
  split<;>omega
theorem rz{vs:List RVer}{p:Bs}{n:Int}{k:Nat}(h:k<vs.length):bW vs p n (k+1)=if ic p n vs[k]then(k:Int)else bW vs p n k:=by
 rw[bW,getElem?_eq_getElem h];rfl
theorem kB(R:RefL)(P:dE)(p:Bs)(n:Int)(w:World)(h:RefAt R P w):Calls Tryz.prog 111 #[.pointer (some ⟨R.blk,0,none⟩),str p,.int .i64 n] w (fun e w'=>e=.returned (.int .i64 (bW R.vs p n R.vs.length))/\aX w w'):=by
 have hlen:=h.len;have HH:=qqH h;have hbl:=ac h.ref.Q5;clear h;go_enter Tryz.func111,Tryz.ntmps111;go_wp2_with fail;go_loopw [7,8] (fun b i wr=>∃k:Nat,k<=R.vs.length/\i=.int .i64 k/\b=.int .i64 (bW R.vs p n k)/\aX w wr) (fun _ i _=>R.vs.length-(intOf i).toNat)
 case atStart=>exact⟨0,Nat.zero_le _,rfl,rfl,Mods.refl _ _⟩
 case round =>
  obtain⟨k,hk,rfl,rfl,hs⟩:=hrel;have hA:=HH.out.same hs;obtain⟨sl,cap,e1,e2,e3,hb,hcell⟩:=hA.row;have c0:wr.cell? ⟨R.blk,0,none⟩=some (.slice sl R.vs.length cap):=by rw[<- e1];exact aa hb 0 rfl
  have hbl':=ac hb;have HS:=Hq2 hs hA;clear hs e1 hb;by_cases hlt:k<R.vs.length
  ·obtain⟨g,off,hg,hcc⟩:=hcell (by omega);subst hg;obtain⟨h0,h1,h2,h3⟩:=hcc k hlt;obtain⟨csl,ccap,hcv,-,-,-⟩:=hA.cont (getElem_mem hlt);rw[hcv]at h2;have hnx:=rz (p:=p) (n:=n) hlt;unfold ic at hnx;obtain⟨pk,hpk⟩:∃pk,pk=R.vs[k].path:=⟨_,rfl⟩;obtain⟨nk,hnk⟩:∃nk,nk=R.vs[k].num:=⟨_,rfl⟩;rw[<- hpk]at h0 hnx;rw[<- hnk]at h1 hnx;have hgl:=World.block_lt_of_cell? wr _ h0;have HX:=qqH hnx;clear hcc hcell hA hcv hnx hpk hnk;by_cases hp:pk=p
   ·have hp':=hp.symm;clear hp;subst hp';by_cases hn:nk=n
    ·subst hn;have hfin:bW R.vs p nk (k+1)=(k:Int):=by rw[HX.out];simp
     have HF:=qqH hfin;clear hfin;go_wp2_with fail;go_roundw
     case rel=>exact⟨k+1,by omega,by go_num,by rw[HF.out],by first|exact HS.a|exact HS.a.alloc _⟩
     case measure=>simp[intOf];omega
    ·by_cases hz:n=0
     ·subst hz;have hfin:bW R.vs p 0 (k+1)=(k:Int):=by rw[HX.out];simp
      have HF:=qqH hfin;clear hfin;go_wp2_with fail;go_roundw
      case rel=>exact⟨k+1,by omega,by go_num,by rw[HF.out],by first|exact HS.a|exact HS.a.alloc _⟩
      case measure=>simp[intOf];omega
     ·have q1:(nk==n)=false:=by simp[hn]
      have q2:(n==0)=false:=by simp[hz]
      have hfin:bW R.vs p n (k+1)=bW R.vs p n k:=by rw[HX.out,decide_eq_false hn,decide_eq_false hz];simp
      have HF:=qqH hfin;clear hfin;go_wp2_with fail;go_roundw
      case rel=>exact⟨k+1,by omega,by go_num,by rw[HF.out],by first|exact HS.a|exact HS.a.alloc _⟩
      case measure=>simp[intOf];omega
   ·have hfin:bW R.vs p n (k+1)=bW R.vs p n k:=by rw[HX.out,decide_eq_false hp];simp
    have HF:=qqH hfin;clear hfin;go_wp2_with fail;go_roundw
    case rel=>exact⟨k+1,by omega,by go_num,by rw[HF.out],by first|exact HS.a|exact HS.a.alloc _⟩
    case measure=>simp[intOf];omega
  ·obtain rfl:k=R.vs.length:=by omega
   clear hcell;go_wp2_with fail;go_ret;exact (by exact⟨rfl,HS.a⟩)
def oh(R:RefL)(p:Bs)(n:Int):Option RVer:=if 0<=bW R.vs p n R.vs.length then R.vs[(bW R.vs p n R.vs.length).toNat]? else none
def cz(R:RefL)(p:Bs)(n:Int):Except Int RVer :=
 if R.closed then .error 9 else if aw p then(match oh R p n with|some v=>.ok v|none=>.error 3)else .error 1
def lf(R:RefL)(p:Bs)(n:Int)(w:World)(e:Ending)(w':World):Prop :=
 aX w w'/\match cz R p n with|.ok v=>e=.returned (.tuple #[v.cv,.int .i64 0])/\v∈R.vs|.error k=>e=.returned (.tuple #[.slice none 0 0,.int .i64 k])
theorem ph(R:RefL)(P:dE)(p:Bs)(n:Int)(w:World)(h:RefAt R P w):Calls Tryz.prog 102 #[.pointer (some ⟨R.blk,0,none⟩),str p,.int .i64 n] w (lf R p n w):=by
 have HI:=qqH (jd p w);have hbl:=ac h.ref.Q5;have HH:=qqH h;clear h;go_enter Tryz.func102,Tryz.ntmps102;go_wp2_with fail;refine HI.out.mono ?_;rintro e w1 ⟨rfl,hs1⟩;have hA1:=HH.out.same hs1;have hb1:=hA1.ref.Q5;have c3:w1.cell? ⟨R.blk,3,none⟩=some (.bool R.closed):=aa hb1 3 rfl;have hbl1:=ac hb1;have H1:=Hq2 hs1 hA1;clear hs1 hA1 hb1
 cases hc:R.closed with
 | true =>
  rw[hc]at c3;have hr:cz R p n=.error 9:=by unfold cz;rw[hc,if_pos rfl]
  have HR:=qqH hr;clear hr hc;go_wp2_with fail;go_ret2;refine (by unfold lf;rw[HR.out];exact⟨H1.a,rfl⟩)
 | false =>
  rw[hc]at c3
  cases hp:aw p with
  | false =>
   have hr:cz R p n=.error 1:=by unfold cz;rw[hc,hp];rfl
   have HR:=qqH hr;clear hr hc;go_wp2_with fail;go_ret2;refine (by unfold lf;rw[HR.out];exact⟨H1.a,rfl⟩)
  | true =>
   have HF:=qqH (kB R P p n w1 H1.z);have HC:=qqH hc;have HP:=qqH hp;clear hc;go_wp2_with fail;refine HF.out.mono ?_;rintro e w2 ⟨rfl,hs2⟩;have hA2:=H1.z.same hs2;obtain⟨sl,cap,e1,e2,e3,hb,hcell⟩:=hA2.row;have c0:w2.cell? ⟨R.blk,0,none⟩=some (.slice sl R.vs.length cap):=by rw[<- e1];exact aa hb 0 rfl
   have hbl2:=ac hb;have hrange:=pD R.vs p n R.vs.length;have hrf:oh R p n=if 0<=bW R.vs p n R.vs.length then R.vs[(bW R.vs p n R.vs.length).toNat]? else none:=rfl
   obtain⟨b,hb'⟩:∃b,b=bW R.vs p n R.vs.length:=⟨_,rfl⟩;rw[<- hb']at hrange hrf ⊢;have H2:=Hq2 (H1.a.trans hs2) hA2;clear hs2 hA2 hb e1 hb';by_cases hneg:b<0
   ·have hr:cz R p n=.error 3:=by unfold cz;rw[HC.out,if_neg (by simp),HP.out,if_pos rfl,hrf,if_neg (by omega)]
    have HR:=qqH hr;clear hr hrf hcell;go_wp2_with fail;go_ret2;refine (by unfold lf;rw[HR.out];exact⟨H2.a,rfl⟩)
   ·obtain⟨b,rfl⟩:∃b':Nat,b=b':=⟨b.toNat,by omega⟩;have hlt:b<R.vs.length:=by omega
    obtain⟨g,off,hg,hcc⟩:=hcell (by omega);subst hg;obtain⟨-,-,h2,-⟩:=hcc b hlt;obtain⟨csl,ccap,hcv,-,-,-⟩:=H2.z.cont (getElem_mem hlt);have hr:cz R p n=.ok R.vs[b]:=by unfold cz;rw[HC.out,if_neg (by simp),HP.out,if_pos rfl,hrf,if_pos (by omega),Int.toNat_natCast,getElem?_eq_getElem hlt]
    rw[hcv]at h2;have HR:=Hq3 hr hcv (getElem_mem hlt);clear hr hrf hcc hcell hcv;go_wp2_with fail;go_ret2;refine (by unfold lf;rw[HR.a];exact⟨H2.a,by rw[HR.b];rfl,HR.y⟩)
end
section
open Go.Shelf
def Gp:Go.Shelf.Ren:=⟨fun|6=>133|15=>156|14=>155|28=>172|29=>173|20=>164|21=>165|22=>166|23=>167|24=>168|25=>169|26=>170|27=>171|46=>186|47=>187|48=>188|49=>189|50=>190|57=>195|n=>n,fun|22=>181|24=>262|25=>265|3=>3|39=>37|0=>0|53=>116|55=>82|4=>4|46=>309|45=>308|50=>284|5=>5|9=>9|66=>323|70=>327|76=>331|77=>133|n=>n,fun|n=>n⟩
theorem KR:Go.Proofs.SlLaysF0.n6 Tryz.prog Gp:={
 mixed:=by kernel_rfl,
 f6:=⟨Tryz.f133.name,by decide,Tryz.func133.trans (congrArg some (by kernel_rfl))⟩,
 f14:=⟨Tryz.f155.name,by decide,Tryz.func155.trans (congrArg some (by kernel_rfl))⟩,
 f15:=Tryz.func156.trans (congrArg some (by kernel_rfl)),
 f20:=⟨Tryz.f164.name,by decide,Tryz.func164.trans (congrArg some (by kernel_rfl))⟩,
 f21:=⟨Tryz.f165.name,by decide,Tryz.func165.trans (congrArg some (by kernel_rfl))⟩,
 f22:=⟨Tryz.f166.name,by decide,Tryz.func166.trans (congrArg some (by kernel_rfl))⟩,
 f23:=⟨Tryz.f167.name,by decide,Tryz.func167.trans (congrArg some (by kernel_rfl))⟩,
 f24:=⟨Tryz.f168.name,by decide,Tryz.func168.trans (congrArg some (by kernel_rfl))⟩,
 f25:=⟨Tryz.f169.name,by decide,Tryz.func169.trans (congrArg some (by kernel_rfl))⟩,
 f26:=⟨Tryz.f170.name,by decide,Tryz.func170.trans (congrArg some (by kernel_rfl))⟩,
 f27:=⟨Tryz.f171.name,by decide,Tryz.func171.trans (congrArg some (by kernel_rfl))⟩,
 f28:=Tryz.func172.trans (congrArg some (by kernel_rfl)),
 f29:=Tryz.func173.trans (congrArg some (by kernel_rfl)),
 f46:=⟨Tryz.f186.name,by decide,Tryz.func186.trans (congrArg some (by kernel_rfl))⟩,
 f47:=Tryz.func187.trans (congrArg some (by kernel_rfl)),
 f48:=Tryz.func188.trans (congrArg some (by kernel_rfl)),
 f49:=⟨Tryz.f189.name,by decide,Tryz.func189.trans (congrArg some (by kernel_rfl))⟩,
 f50:=⟨Tryz.f190.name,by decide,Tryz.func190.trans (congrArg some (by kernel_rfl))⟩,
 f57:=⟨Tryz.f195.name,by decide,Tryz.func195.trans (congrArg some (by kernel_rfl))⟩,
 t0:=Tryz.underlying0,
 a0:=Tryz.isAgg0,
 z0:=Tryz.sizeOf0,
 v0:=Tryz.zeroValue0,
 t3:=Tryz.underlying3,
 a3:=Tryz.isAgg3,
 z3:=Tryz.sizeOf3,
 v3:=Tryz.zeroValue3,
 t4:=Tryz.underlying4,
 a4:=Tryz.isAgg4,
 z4:=Tryz.sizeOf4,
 v4:=Tryz.zeroValue4,
 t5:=Tryz.underlying5,
 a5:=Tryz.isAgg5,
 z5:=Tryz.sizeOf5,
 v5:=Tryz.zeroValue5,
 t9:=Tryz.underlying9,
 a9:=Tryz.isAgg9,
 z9:=Tryz.sizeOf9,
 v9:=Tryz.zeroValue9,
 t22:=Tryz.underlying181,
 a22:=Tryz.isAgg181,
 z22:=Tryz.sizeOf181,
 v22:=Tryz.zeroValue181,
 t25:=Tryz.underlying265,
 a25:=Tryz.isAgg265,
 z25:=Tryz.sizeOf265,
 v25:=Tryz.zeroValue265,
 t39:=Tryz.underlying37,
 a39:=Tryz.isAgg37,
 z39:=Tryz.sizeOf37,
 v39:=Tryz.zeroValue37,
 t45:=Tryz.underlying308,
 a45:=Tryz.isAgg308,
 z45:=Tryz.sizeOf308,
 v45:=Tryz.zeroValue308,
 t46:=Tryz.underlying309,
 a46:=Tryz.isAgg309,
 z46:=Tryz.sizeOf309,
 v46:=Tryz.zeroValue309,
 t50:=Tryz.underlying284,
 a50:=Tryz.isAgg284,
 z50:=Tryz.sizeOf284,
 v50:=Tryz.zeroValue284,
 t53:=Tryz.underlying116,
 a53:=Tryz.isAgg116,
 z53:=Tryz.sizeOf116,
 v53:=Tryz.zeroValue116,
 t55:=Tryz.underlying82,
 a55:=Tryz.isAgg82,
 z55:=Tryz.sizeOf82,
 v55:=Tryz.zeroValue82,
 t66:=Tryz.underlying323,
 a66:=Tryz.isAgg323,
 z66:=Tryz.sizeOf323,
 v66:=Tryz.zeroValue323,
 t70:=Tryz.underlying327,
 a70:=Tryz.isAgg327,
 z70:=Tryz.sizeOf327,
 v70:=Tryz.zeroValue327,
 t76:=Tryz.underlying331,
 a76:=Tryz.isAgg331,
 z76:=Tryz.sizeOf331,
 v76:=Tryz.zeroValue331,
 t77:=Tryz.underlying133,
 a77:=Tryz.isAgg133,
 z77:=Tryz.sizeOf133,
 v77:=Tryz.zeroValue133 }
end
section
open Go.RowKit Go.Sort
theorem qI(s p:ByteArray)(w:World):Calls Tryz.prog 154 #[.string s,.string p] w fun e w'=>e=.returned (.bool (Lib.hasPrefix s.data.toList p.data.toList))/\w'=w:=by
 rw[<- Lib.hasPrefix_of_take,<- Lib.size_eq,<- Lib.size_eq];go_enter Tryz.func154,Tryz.ntmps154;go_wp2
 ·rename_i h;go_ret;refine⟨?_,rfl⟩;show Ending.returned (Value.bool ((s.extract 0 p.size).toList==p.toList))=_;rw[Lib.extract_toList,Lib.toList_data];simp[h]
 ·rename_i h;go_ret;refine⟨?_,rfl⟩;show Ending.returned (Value.bool false)=_;simp[h]
theorem sh(l p:Bs)(w:World):Calls Tryz.prog 132 #[str l,str p] w fun e w'=>e=.returned (.bool (p.isPrefixOf l))/\w'=w:=by
 have h:=qI ⟨l.toArray⟩ ⟨p.toArray⟩ w;unfold Lib.hasPrefix at h;simp only at h;have HP:=qqH h;clear h;unfold str;go_enter Tryz.func132,Tryz.ntmps132;go_wp2_with fail;refine HP.out.mono ?_;rintro e w' ⟨rfl,rfl⟩;go_wp2_with fail;go_ret;exact⟨rfl,rfl⟩
theorem nO(a b:Bs)(w:World):Calls Tryz.prog 157 #[str a,str b] w fun e w'=>e=.returned (.int .i64 (Lib.compareBytes a b))/\w'=w:=by
 unfold str;go_enter Tryz.func157,Tryz.ntmps157;go_wp2;rw[run_callFunc_extern Tryz.func174 (by kernel_rfl) (by kernel_rfl) (by kernel_rfl) (e:=Extern.BytealgCompare.compare) (by kernel_rfl),Lib.run_compareString];simp only[Result.andThen];rw[Oper.upon_value];go_wp2;go_ret;exact⟨rfl,rfl⟩
theorem vf(a b:Bs)(w:World):Calls Tryz.prog 135 #[str a,str b] w fun e w'=>e=.returned (.int .i64 (Lib.compareBytes a b))/\w'=w:=by
 have HP:=qqH (nO a b w);go_enter Tryz.func135,Tryz.ntmps135;go_wp2_with fail;refine HP.out.mono ?_;rintro e w' ⟨rfl,rfl⟩;go_wp2_with fail;go_ret;exact⟨rfl,rfl⟩
def bJ:Bs->Bs->Bool
 | [],[]=>false
 | [],_::_=>true
 | _::_,[]=>false
 | a::ax,b::bs=>if a<b then true else if b<a then false else bJ ax bs
theorem Ic:∀a b:Bs,(Lib.compareBytes a b<0)↔bJ a b=true
 | [],[]=>by simp[Lib.compareBytes,bJ]
 | [],_::_=>by simp[Lib.compareBytes,bJ]
 | _::_,[]=>by simp[Lib.compareBytes,bJ]
 | a::ax,b::bs=>by
  simp only[Lib.compareBytes,bJ]
  split
  ·simp
  ·split
   ·simp
   ·exact Ic ax bs
theorem b5:∀a:Bs,bJ a a=false
 | []=>rfl
 | a::ax=>by simp only[bJ,b5 ax];simp
theorem gQ:∀{a b c:Bs},bJ a b=true->bJ b c=true->bJ a c=true
 | [],[],_,h,_=>by simp[bJ]at h
 | [],_::_,[],_,h=>by simp[bJ]at h
 | [],_::_,_::_,_,_=>rfl
 | _::_,[],_,h,_=>by simp[bJ]at h
 | _::_,_::_,[],_,h=>by simp[bJ]at h
 | a::ax,b::bs,c::cs,h1,h2=>by
  simp only[bJ]at h1 h2 ⊢
  by_cases hab:a<b
  ·by_cases hbc:b<c
   ·rw[if_pos (UInt8.lt_trans hab hbc)]
   ·rw[if_neg hbc]at h2
    by_cases hcb:c<b
    ·rw[if_pos hcb]at h2;cases h2
    ·have:b=c:=UInt8.le_antisymm (UInt8.not_lt.1 hcb) (UInt8.not_lt.1 hbc)
     subst this
     rw[if_pos hab]
  ·rw[if_neg hab]at h1
   by_cases hba:b<a
   ·rw[if_pos hba]at h1;cases h1
   ·rw[if_neg hba]at h1
    have:a=b:=UInt8.le_antisymm (UInt8.not_lt.1 hba) (UInt8.not_lt.1 hab)
    subst this
    by_cases hac:a<c
    ·rw[if_pos hac]
    ·rw[if_neg hac]at h2 ⊢
     by_cases hca:c<a
     ·rw[if_pos hca]at h2;cases h2
     ·rw[if_neg hca]at h2 ⊢
      exact gQ h1 h2
theorem jX:∀a b:Bs,bJ a b=false->bJ b a=false->a=b
 | [],[],_,_=>rfl
 | [],_::_,h,_=>by simp[bJ]at h
 | _::_,[],_,h=>by simp[bJ]at h
 | a::ax,b::bs,h1,h2=>by
  simp only[bJ]at h1 h2
  by_cases hab:a<b
  ·rw[if_pos hab]at h1;cases h1
  ·rw[if_neg hab]at h1 h2
   by_cases hba:b<a
   ·rw[if_pos hba]at h2;cases h2
   ·rw[if_neg hba]at h1 h2
    have:a=b:=UInt8.le_antisymm (UInt8.not_lt.1 hba) (UInt8.not_lt.1 hab)
    subst this
    rw[jX ax bs h1 h2]
structure EntL where
 p:Bs
 latest:Int
 size:Int
 n:Int
 deriving Inhabited
def cr(x:EntL):List Value:=[str x.p,.int .i64 x.latest,.int .i64 x.size,.int .i64 x.n]
def oL(x y:EntL):Int:=Lib.compareBytes x.p y.p
theorem Eh(x y:EntL):ltOf oL x y=bJ x.p y.p:=by
 unfold ltOf oL;rw[Bool.eq_iff_iff,decide_eq_true_eq];exact Ic _ _
theorem Li:SWO (ltOf oL) where
 irrefl x:=by rw[Eh];exact b5 _
 trans x y z h1 h2:=by rw[Eh]at *;exact gQ h1 h2
 ntrans x y z h1 h2:=by
  rw[Eh]at *
  cases h:bJ x.p z.p with
  | false=>rfl
  | true =>
   cases h3:bJ y.p x.p with
   | true=>rw[gQ h3 h]at h2;cases h2
   | false=>rw[<- jX _ _ h1 h3,h]at h2;cases h2
theorem vy(x y:EntL)(W:World):Calls Tryz.prog 134 #[.agg (cr x).toArray,.agg (cr y).toArray] W fun e w'=>e=.returned (.int .i64 (oL x y))/\∃q os',w'=grow (W.drewN q) os':=by
 have hcon:=fun W'=>vf x.p y.p W'
 unfold oL;generalize Lib.compareBytes x.p y.p=r at hcon ⊢;unfold cr;go_enter Tryz.func134,Tryz.ntmps134;go_wp2_with (go_at_call 135;refine(hcon _).mono ?_;rintro e w' ⟨rfl,rfl⟩);go_ret;exact⟨rfl,0,_,by rw[alloc_eq_grow,alloc_eq_grow,grow_grow];rfl⟩
theorem JV(blk off size:Nat)(w:World):CmpLays Tryz.prog 134 #[] cr 4 oL blk off size w:=fun _ _ _ _ x y=>vy x y _
end
section
open Go.RowKit Go.Maps
def fR(l:List RVer)(p:Bs):List Int:=(l.filter (fun v=>decide (v.path=p))).map (·.num)
def jx(R:RefL)(p:Bs)(w:World)(e:Ending)(w':World):Prop :=
 match cz R p 0 with
 | .error k=>aX w w'/\e=.returned (.tuple #[.slice none 0 0,.int .i64 k])
 | .ok _=>∃v,e=.returned (.tuple #[v,.int .i64 0])/\iOk v (fR R.vs p)/\Turns [] (cA v (fR R.vs p)) w w'
theorem jP{R:RefL}{p:Bs}{n k:Int}(hr:cz R p n=.error k):¬k=0:=by
 unfold cz at hr;split at hr
 ·simp at hr;omega
 ·split at hr
  ·split at hr<;>simp at hr;omega
  ·simp at hr;omega
theorem Db{vs:List RVer}{p:Bs}{k:Nat}(h:k<vs.length):fR (vs.take (k+1)) p=fR (vs.take k) p++(if vs[k].path=p then[vs[k].num]else[]):=by
 unfold fR;rw[QH h,filter_append,map_append];congr 1;by_cases hp:vs[k].path=p<;>simp[hp]
theorem wO(l:List RVer)(p:Bs):(fR l p).length<=l.length:=by
 unfold fR;rw[length_map];exact length_filter_le _ _
theorem ux(R:RefL)(P:dE)(p:Bs)(w:World)(h:RefAt R P w):Calls Tryz.prog 106 #[.pointer (some ⟨R.blk,0,none⟩),str p] w (jx R p w):=by
 have HG:=qqH (ph R P p 0 w h);have hlen:=h.len;have HH:=qqH h;clear h;go_enter Tryz.func106,Tryz.ntmps106;go_wp2_with fail;refine HG.out.mono ?_;intro e w1 hp;unfold lf at hp;obtain⟨hs,hp⟩:=hp
 cases hr:cz R p 0 with
 | error k =>
  rw[hr]at hp;subst hp;have hk:=jP hr;have HR:=Hq2 hr hs;clear hr hs;go_wp2_with fail;go_ret2;refine (by unfold jx;rw[HR.a];exact⟨HR.z,rfl⟩)
 | ok v =>
  rw[hr]at hp;obtain⟨rfl,hv⟩:=hp;have hbl:=ac (HH.out.same hs).ref.Q5;obtain⟨csl,ccap,hcv,-,-,-⟩:=(HH.out.same hs).cont hv;have HR:=Hq2 hr hs;clear hr hs hv;rw[hcv];go_wp2_with fail;go_loopw [8,9] (fun l i wr=>∃(k:Nat) (J:HF),k<=R.vs.length/\i=.int .i64 k/\iOk l (fR (R.vs.take k) p)/\Turns [] (cA l (fR (R.vs.take k) p)++J) w wr) (fun _ i _=>R.vs.length-(intOf i).toNat)
  case atStart=>exact⟨0,[],Nat.zero_le _,rfl,sA,(show Turns [] [] w w1 from Turns.same (Sat.nil w) HR.z)⟩
  case round =>
   obtain⟨k,J,hk,rfl,hio,hT⟩:=hrel;have hA:=HH.out.same hT.news;obtain⟨sl,cap,e1,e2,e3,hb,hcell⟩:=hA.row;have c0:wr.cell? ⟨R.blk,0,none⟩=some (.slice sl R.vs.length cap):=by rw[<- e1];exact aa hb 0 rfl
   have hbl':=ac hb;have HS:=Hq2 hio hT;clear hio hT e1 hb hA;by_cases hlt:k<R.vs.length
   ·obtain⟨g,off,hg,hcc⟩:=hcell (by omega);subst hg;obtain⟨h0,h1,-,-⟩:=hcc k hlt;have hnx:=Db (p:=p) hlt;obtain⟨pk,hpk⟩:∃pk,pk=R.vs[k].path:=⟨_,rfl⟩;obtain⟨nk,hnk⟩:∃nk,nk=R.vs[k].num:=⟨_,rfl⟩;rw[<- hpk]at h0 hnx;rw[<- hnk]at h1 hnx;have hnl:=wO (R.vs.take k) p;rw[length_take]at hnl;obtain⟨ns,hns⟩:∃ns,ns=fR (R.vs.take k) p:=⟨_,rfl⟩;rw[<- hns]at hnx hnl HS;have hnl2:ns.length<=100000:=by omega
    have HX:=qqH hnx;clear hcc hcell hnx hpk hnk hns hnl;by_cases hpp:pk=p
    ·have hp':=hpp.symm;clear hpp;subst hp';have hfin:fR (R.vs.take (k+1)) p=ns++[nk]:=by rw[HX.out,if_pos rfl]
     have HF:=qqH hfin;clear hfin;go_wp2_with ((at_builtin;refine ai rfl ?_;refine mh (.tmp 38) (.tmp 47) rfl _ ns rfl (HS.z.alloc _) HS.a _ 1 1 rfl [nk] rfl (fun _=>⟨_,rfl,fun j u hu=>iU _ _ _ j u hu⟩) (by simp;omega) ?_;intro av cv w5 hok5 hT5;have H5:=Hq2 hok5 hT5;clear hok5 hT5));go_roundw
     case rel =>
      refine⟨k+1,J,by omega,by go_num,?_,?_⟩
      ·rw[HF.out];have:=H5.a;rw[length_append]at this;exact this
      ·rw[HF.out];have:=H5.z;rw[length_append]at this;exact this
     case measure=>simp[intOf];omega
    ·have hpq:(pk==p)=false:=by simp[hpp]
     have hfin:fR (R.vs.take (k+1)) p=ns:=by rw[HX.out,if_neg hpp];simp
     have HF:=qqH hfin;clear hfin;go_wp2_with fail;go_roundw
     case rel=>exact⟨k+1,J,by omega,by go_num,by rw[HF.out];exact HS.a,by rw[HF.out];exact HS.z⟩
     case measure=>simp[intOf];omega
   ·obtain rfl:k=R.vs.length:=by omega
    rw[take_length]at HS;clear hcell;go_wp2_with fail;go_ret2;refine (by unfold jx;rw[HR.a];exact⟨u8,rfl,HS.a,HS.z.drop (fun x=>by simp only[ah];omega)⟩)
def ir(vs:List RVer)(p:Bs):Nat->Nat
 | 0=>0
 | k+1=>if(vs[k]?).elim false (fun v => !bJ p v.path)then k+1 else ir vs p k
def gU(vs:List RVer)(p:Bs):Nat->Int
 | 0=>1
 | k+1=>if(vs[k]?).elim false (fun v=>decide (v.path=p))then((vs[k]?).elim 0 (·.num))+1 else gU vs p k
theorem vY{vs:List RVer}{p:Bs}{k:Nat}(h:k<vs.length):ir vs p (k+1)=if bJ p vs[k].path then ir vs p k else k+1:=by
 rw[ir,getElem?_eq_getElem h];by_cases h2:bJ p vs[k].path=true<;>simp[h2]
theorem wM{vs:List RVer}{p:Bs}{k:Nat}(h:k<vs.length):gU vs p (k+1)=if vs[k].path=p then vs[k].num+1 else gU vs p k:=by
 rw[gU,getElem?_eq_getElem h];simp only[Option.elim_some,decide_eq_true_eq]
theorem xI(vs:List RVer)(p:Bs):∀k,ir vs p k<=k
 | 0=>Nat.le_refl _
 | k+1=>by
  have:=xI vs p k
  unfold ir
  split<;>omega
def cN(vs:List RVer)(p:Bs)(x:RVer):List RVer:=vs.take (ir vs p vs.length)++[x]++vs.drop (ir vs p vs.length)
def zd(R:RefL)(p c:Bs)(w:World)(e:Ending)(w':World):Prop :=
 (∃k:Int,e=.returned (.tuple #[.int .i64 0,.int .i64 k])/\aX w w'/\((R.closed=true/\k=9)\/(R.closed=false/\aw p=false/\k=1)\/(R.closed=false/\aw p=true/\4000<c.length/\k=2) \/
  (R.closed=false/\aw p=true/\c.length<=4000/\R.quota<eT R.vs+c.length/\k=7))) \/
 (R.closed=false/\aw p=true/\c.length<=4000/\(eT R.vs:Int)+c.length<=R.quota /\
  ∃vv' cv,e=.returned (.tuple #[.int .i64 (gU R.vs p R.vs.length),.int .i64 0])/\bOk cv c/\RefOk { R with vv:=vv',vs:=cN R.vs p ⟨p,gU R.vs p R.vs.length,c,cv,0⟩ } /\
   Turns (aN R) (aN { R with vv:=vv',vs:=cN R.vs p ⟨p,gU R.vs p R.vs.length,c,cv,0⟩ }++aI cv c) w w')
theorem iT:∀a b:Bs,Op.bytesLess a b=bJ a b
 | [],[]=>rfl
 | [],_::_=>rfl
 | _::_,[]=>rfl
 | a::ax,b::bs=>by
  simp only[Op.bytesLess,bJ,iT ax bs]
  by_cases h1:a<b
  ·simp[h1]
  ·by_cases h2:b<a
   ·have:¬a=b:=fun h=>by subst h;exact h1 h2
    simp[h1,h2,this]
   ·have:a=b:=UInt8.le_antisymm (UInt8.not_lt.1 h2) (UInt8.not_lt.1 h1)
    subst this
    simp
theorem lE{a b:Bs}(h:bJ a b=true):bJ b a=false:=by
 cases h2:bJ b a with
 | false=>rfl
 | true=>have:=gQ h h2;rw[b5]at this;cases this
theorem RefAt.one{R:RefL}{P:dE}{w:World}(h:RefAt R P w):∀v∈R.vs,v.cv.oneCell'=true:=fun v hv=>by
 obtain⟨sl,cap,e,-,-,-⟩:=h.cont hv
 rw[e];rfl
theorem wJ{w:World}{xs:List Value}{t:TypeId}:al (w.alloc (.cells xs.toArray t (0,0))) (some ⟨w.heap.size,0,none⟩) xs:=fun _ =>
 ⟨_,0,rfl,fun j hj=>by rw[Nat.zero_add];exact aa (aK _ _) j (by simp[getElem?_eq_getElem hj])⟩
theorem xa{w:World}{v:Value}{l:List RVer}(hs:Sat w (eu v l))(h:lV v l):∃sl cap,v=.slice sl l.length cap/\l.length<=cap/\cap<=9223372036854775807/\(∀k,al w sl (bA (l.take k)))/\(∀k,k<=l.length->al w (if cap=k then sl else sl.map (·.add (k*4))) (bA (l.drop k))):=by
 obtain⟨sl,cap,e,h1,h2,h3,-⟩:=bC hs h (by decide);refine⟨sl,cap,e,h1,h2,fun k hp=>?_,fun k hk hp=>?_⟩
 ·rw[bq,length_take]at hp;obtain⟨g,off,he,hc⟩:=h3 (by rw[bq];omega);refine⟨g,off,he,fun j hj=>?_⟩;rw[bq,length_take]at hj;rw[hc j (by rw[bq];omega)];have:bA l=bA (l.take k)++bA (l.drop k):=by rw[<- jh,take_append_drop]
  congr 1;rw[getElem_of_eq this,getElem_append_left]
 ·rw[bq,length_drop]at hp;obtain⟨g,off,he,hc⟩:=h3 (by rw[bq];omega);rw[if_neg (by omega),he];refine⟨g,off+k*4,by simp[Addr.add],fun j hj=>?_⟩;rw[bq,length_drop]at hj;rw[Nat.add_assoc,hc (k*4+j) (by rw[bq];omega)];have:bA l=bA (l.take k)++bA (l.drop k):=by rw[<- jh,take_append_drop]
  congr 1;rw[getElem_of_eq this,getElem_append_right (by rw[bq,length_take];omega)];congr 1;rw[bq,length_take];omega
theorem Dw(R:RefL)(P:dE)(p c:Bs)(csl:Option Addr)(ccap:Nat)(w:World)(h:RefAt R P w)(hnum:∀v∈R.vs,0<=v.num/\v.num<=1099511627776)(hc:al w csl (c.map am))(hcl:c.length<=1000000):
  Calls Tryz.prog 60 #[.pointer (some ⟨R.blk,0,none⟩),str p,.slice csl c.length ccap] w (zd R p c w):=by
 have HI:=qqH (jd p w);have hbl:=ac h.ref.Q5;have hlen:=h.len;have HH:=Hq3 h hnum hc;clear h hnum hc;go_enter Tryz.func60,Tryz.ntmps60;go_wp2_with fail;refine HI.out.mono ?_;rintro e w1 ⟨rfl,hs1⟩;have hA1:=HH.a.same hs1;have hb1:=hA1.ref.Q5;have c3:w1.cell? ⟨R.blk,3,none⟩=some (.bool R.closed):=aa hb1 3 rfl;have hbl1:=ac hb1;have H1:=Hq2 hs1 hA1;clear hs1 hA1 hb1
 cases hc:R.closed with
 | true =>
  rw[hc]at c3;have HC:=qqH hc;clear hc;go_wp2_with fail;exact bodyPost_ret (results_tmp2 rfl _ _ _) rfl (.inl ⟨9,rfl,H1.a,.inl ⟨HC.out,rfl⟩⟩)
 | false =>
  rw[hc]at c3;have HC:=qqH hc;clear hc
  cases hp:aw p with
  | false =>
   have HP:=qqH hp;go_wp2_with fail;exact bodyPost_ret (results_tmp2 rfl _ _ _) rfl (.inl ⟨1,rfl,H1.a,.inr (.inl ⟨HC.out,HP.out,rfl⟩)⟩)
  | true =>
   have HP:=qqH hp;by_cases hsz:4000<c.length
   ·go_wp2_with fail;exact bodyPost_ret (results_tmp2 rfl _ _ _) rfl (.inl ⟨2,rfl,H1.a,.inr (.inr (.inl ⟨HC.out,HP.out,hsz,rfl⟩))⟩)
   ·have HU:=qqH (A5 R P w1 H1.z);go_wp2_with fail;refine HU.out.mono ?_;rintro e w2 ⟨rfl,hs2⟩;have hA2:=H1.z.same hs2;have hb2:=hA2.ref.Q5;have c2:w2.cell? ⟨R.blk,2,none⟩=some (.int .i64 R.quota):=aa hb2 2 rfl;have hbl2:=ac hb2;have hul:=BK hA2.clen;obtain⟨us,hus⟩:∃us,us=eT R.vs:=⟨_,rfl⟩;rw[<- hus]at hul ⊢;have hul2:us<=10000000000:=by omega
    have H2:=Hq3 (H1.a.trans hs2) hA2 hus;clear hs2 hA2 hb2 hus hul;by_cases hq:R.quota<(us:Int)+c.length
    ·go_wp2_with fail;exact bodyPost_ret (results_tmp2 rfl _ _ _) rfl (.inl ⟨7,rfl,H2.a,.inr (.inr (.inr ⟨HC.out,HP.out,by omega,by rw[<- H2.y];exact hq,rfl⟩))⟩)
    ·have HQ:=qqH hq;have hq':¬(us:Int)+c.length>R.quota:=by omega
     go_wp2_with fail;go_loopw [10,11,12] (fun n a i wr=>∃k:Nat,k<=R.vs.length/\i=.int .i64 k/\n=.int .i64 (gU R.vs p k)/\a=.int .i64 (ir R.vs p k)/\aX w wr) (fun _ _ i _=>R.vs.length-(intOf i).toNat)
     case atStart=>exact⟨0,Nat.zero_le _,rfl,rfl,rfl,H2.a⟩
     case round =>
      obtain⟨k,hk,rfl,rfl,rfl,hs⟩:=hrel;have hA:=HH.a.same hs;obtain⟨sl,cap,e1,e2,e3,hb,hcell⟩:=hA.row;have c0:wr.cell? ⟨R.blk,0,none⟩=some (.slice sl R.vs.length cap):=by rw[<- e1];exact aa hb 0 rfl
      have hbl':=ac hb;have HS:=Hq2 hs hA;clear hs hb;by_cases hlt:k<R.vs.length
      ·clear e1;obtain⟨g,off,hg,hcc⟩:=hcell (by omega);subst hg;obtain⟨h0,h1,h2,h3⟩:=hcc k hlt;have hnx:=vY (p:=p) hlt;have hnn:=wM (p:=p) hlt;have hnr:=HH.b _ (getElem_mem hlt);obtain⟨pk,hpk⟩:∃pk,pk=R.vs[k].path:=⟨_,rfl⟩;obtain⟨nk,hnk⟩:∃nk,nk=R.vs[k].num:=⟨_,rfl⟩;rw[<- hpk]at h0 hnx hnn;rw[<- hnk]at h1 hnn hnr;have hgl:=World.block_lt_of_cell? wr _ h0;have HX:=Hq2 hnx hnn;clear hcc hcell hA hnx hpk hnk hnn h2 h3;by_cases hp:pk=p
       ·have hp':=hp.symm;clear hp;subst hp';have hbs:Op.bytesLess p p=false:=by rw[iT,b5]
        have hf1:ir R.vs p (k+1)=k+1:=by rw[HX.a,b5];rfl
        have hf2:gU R.vs p (k+1)=nk+1:=by rw[HX.z,if_pos rfl]
        have HF:=Hq2 hf1 hf2;clear hf1 hf2;go_wp2_with fail;go_roundw
        case rel=>exact⟨k+1,by omega,by go_num,by rw[HF.z],by rw[HF.a];go_num,by first|exact HS.a|exact HS.a.alloc _⟩
        case measure=>simp[intOf];omega
       ·have hpq:(pk==p)=false:=by simp[hp]
        have hf2:gU R.vs p (k+1)=gU R.vs p k:=by rw[HX.z,if_neg hp]
        cases hbl:bJ pk p with
        | true =>
         have hbs:Op.bytesLess pk p=true:=by rw[iT,hbl]
         have hf1:ir R.vs p (k+1)=k+1:=by rw[HX.a,lE hbl];rfl
         have HF:=Hq2 hf1 hf2;clear hf1 hf2;go_wp2_with fail;go_roundw
         case rel=>exact⟨k+1,by omega,by go_num,by rw[HF.z],by rw[HF.a];go_num,by first|exact HS.a|exact HS.a.alloc _⟩
         case measure=>simp[intOf];omega
        | false =>
         have hbs:Op.bytesLess pk p=false:=by rw[iT,hbl]
         have hf1:ir R.vs p (k+1)=ir R.vs p k:=by
          rw[HX.a]
          cases h2:bJ p pk with
          | true=>rfl
          | false=>exact absurd (jX _ _ hbl h2) hp
         have HF:=Hq2 hf1 hf2;clear hf1 hf2;go_wp2_with fail;go_roundw
         case rel=>exact⟨k+1,by omega,by go_num,by rw[HF.z],by rw[HF.a],by first|exact HS.a|exact HS.a.alloc _⟩
         case measure=>simp[intOf];omega
      ·obtain rfl:k=R.vs.length:=by omega
       clear hcell;obtain⟨at_,hat⟩:∃at_,at_=ir R.vs p R.vs.length:=⟨_,rfl⟩;obtain⟨nr,hnr⟩:∃nr,nr=gU R.vs p R.vs.length:=⟨_,rfl⟩;have hatl:at_<=R.vs.length:=by rw[hat];exact xI _ _ _
       have hone:=HS.z.one;rw[<- hat,<- hnr];have HN:=Hq4 hat hnr hatl hone;clear hat hnr;have hT0:Turns (aN R) (aI (.slice none 0 0) []++aN R) w wr:=Turns.same HH.a.ref HS.a;have HT0:=qqH hT0;have hcw:al wr csl (c.map am):=HH.y.keep HS.a (fun _ _ _=>id);have HCW:=qqH hcw;clear hT0 hcw
       have hRF:∀(W:World) (G:HF),Turns (aN R) (G++aN R) w W->W.cell? ⟨R.blk,0,none⟩=some (.slice sl R.vs.length cap)/\R.blk<W.heap.size/\(∀k,al W sl (bA (R.vs.take k)))/\(∀k,k<=R.vs.length->al W (if cap=k then sl else sl.map (·.add (k*4))) (bA (R.vs.drop k))):=by
        intro W G hT;have hs:=hT.sat.right;obtain⟨sl',cap',e1',-,-,e4',e5'⟩:=xa (Sat.left (Sat.tail hs)) HS.z.ok.vs;rw[e1]at e1';simp only[Value.slice.injEq,true_and]at e1';obtain⟨rfl,rfl⟩:=e1';exact⟨by rw[<- e1];exact aa hs.Q5 0 rfl,ac hs.Q5,e4',e5'⟩
       have HRF:=qqH hRF;clear hRF e1
       have hno:∀(v:Value) (l:List RVer) (G:HF) (W:World),lV v l->Sat W (eu v l++G)->v.oneCell'=true/\v.cells=#[v]:=fun v l G W hok hs=>by
        obtain⟨h1,h2,-⟩:=dl hs.left hok;exact⟨h1,h2⟩
       have HNO:=qqH hno
       have hfin:∀(av:Option Addr) (cv:Nat) (v9:Value) (W:World),bOk (.slice av c.length cv) c->lV v9 (R.vs.take at_++[⟨p,nr,c,.slice av c.length cv,0⟩]++R.vs.drop at_) ->
         Turns (aN R) ((R.blk,Is (.cells ((dk R).setIfInBounds 0 v9) 60 (0,0)))::(eu v9 (R.vs.take at_++[⟨p,nr,c,.slice av c.length cv,0⟩]++R.vs.drop at_)++(eu R.vv R.vs++(fc R.tv R.ts++aI (.slice av c.length cv) c)))) w W ->
         zd R p c w (.returned (.tuple #[.int .i64 nr,.int .i64 0])) W:=by
        intro av cv v9 W hb hr hT;refine .inr ⟨HC.out,HP.out,by omega,by rw[<- H2.y];omega,v9,.slice av c.length cv,by rw[<- HN.b],hb,?_,?_⟩
        ·rw[<- HN.b];unfold cN;rw[<- HN.a];exact⟨hr,HS.z.ok.ts⟩
        ·rw[<- HN.b];unfold cN;rw[<- HN.a];refine hT.drop (fun x=>?_);unfold aN;rw[show jH { R with vv:=v9,vs:=R.vs.take at_++[⟨p,nr,c,.slice av c.length cv,0⟩]++R.vs.drop at_ }=.cells ((dk R).setIfInBounds 0 v9) 60 (0,0)from rfl];simp only[ao,ah];omega
       have HFIN:=qqH hfin;clear hfin hno;go_upto_region 21 with(fail)
       go_wp2_with (first
        | (at_builtin;refine ai rfl ?_;refine go (.tmp 77) (.tmp 78) rfl (.slice none 0 0) [] rfl HT0.out jy csl c.length ccap rfl c rfl HCW.out (by simp;omega) ?_;intro av cv w5 hok5 hT5 hn5;simp only[nil_append]at hok5 hT5 ⊢;obtain⟨d0,d1,d2,d3⟩:=HRF.out _ _ hT5;have H5:=Hq4 hok5 hT5 d2 d3;clear hok5 hT5 hn5 d2 d3)
        | (at_builtin;refine ai rfl ?_;refine ik (.tmp 80) (.tmp 86) rfl (.slice none 0 0) [] rfl (G:=aN R++aI (.slice av c.length cv) c) (H5.b.to (by rw[show eu (.slice none 0 0) []=[]from rfl];exact ae)) ⟨rfl,fun _=>⟨rfl,rfl⟩⟩ _ _ _ rfl (R.vs.take at_) (by rw[length_take,Nat.min_eq_left HN.c]) (H5.c at_) (fun v hv=>HN.x v (mem_of_mem_take hv)) (by rw[length_take,Nat.min_eq_left HN.c];simp;omega) ?_;intro v7 w7 hok7 hT7;simp only[nil_append]at hok7 hT7;obtain⟨d0,d1,-,-⟩:=HRF.out _ (eu v7 (R.vs.take at_)++aI (.slice av c.length cv) c) (hT7.to ae);have H7:=Hq2 hok7 hT7;clear hok7 hT7)
        | (at_builtin;refine ai rfl ?_;(refine ik (.tmp 88) (.tmp 93) rfl v7 (R.vs.take at_) rfl (H7.z.alloc _) H7.a _ 1 1 rfl [⟨p,nr,c,.slice av c.length cv,0⟩] rfl (wJ (xs:=ls ⟨p,nr,c,.slice av c.length cv,0⟩)) (fun v hv=>by obtain rfl:=mem_singleton.1 hv;rfl) (by rw[length_take,Nat.min_eq_left HN.c];simp;omega) ?_;intro v8 w8 hok8 hT8;obtain⟨d0,d1,-,d3⟩:=HRF.out _ (eu v8 (R.vs.take at_++[⟨p,nr,c,.slice av c.length cv,0⟩])++aI (.slice av c.length cv) c) (hT8.to ae);have H8:=Hq3 hok8 hT8 d3;clear hok8 hT8 d3))
        | (at_builtin;refine ai rfl ?_;(refine ik (.tmp 95) (.tmp 101) rfl v8 (R.vs.take at_++[⟨p,nr,c,.slice av c.length cv,0⟩]) rfl H8.b H8.a _ _ _ rfl (R.vs.drop at_) (by rw[length_drop]) (H8.y at_ HN.c) (fun v hv=>HN.x v (mem_of_mem_drop hv)) (by simp;omega) ?_;intro v9 w9 hok9 hT9;obtain⟨d0,d1,-,-⟩:=HRF.out _ (eu v9 (R.vs.take at_++[⟨p,nr,c,.slice av c.length cv,0⟩]++R.vs.drop at_)++aI (.slice av c.length cv) c) (hT9.to ae);have H9:=Hq2 hok9 hT9;clear hok9 hT9))
        | (refine ai rfl (bu 57 (.tmp 106) (.tmp 104) rfl R.blk 0 (dk R) 60 v9 (H9.z.to (H:=(R.blk,Is (jH R))::(eu v9 (R.vs.take at_++[⟨p,nr,c,.slice av c.length cv,0⟩]++R.vs.drop at_)++(eu R.vv R.vs++(fc R.tv R.ts++aI (.slice av c.length cv) c)))) (by unfold aN;exact ae)) rfl rfl (by simp[dk]) (by kernel_rfl) (HNO.out _ _ _ _ H9.a H9.z.sat).1 (HNO.out _ _ _ _ H9.a H9.z.sat).2 ?_);intro w10 hT10;have H10:=qqH hT10;clear hT10;simp only[Act.put]))
       all_goals (refine bodyPost_ret (results_tmp2 rfl _ _ _) rfl ?_;exact HFIN.out _ _ _ _ H5.a H9.a H10.out)
end
section
open Go.RowKit Go.Sort
def fg(v:Value)(l:List EntL):HF:=bN 262 4 v l.length (l.flatMap cr)
def rG(v:Value)(l:List EntL):Prop:=eE 4 v l.length (l.flatMap cr)
theorem gG(l:List EntL):(l.flatMap cr).length=l.length*4:=by
 induction l with
 | nil=>rfl
 | cons a r ih=>rw[flatMap_cons,length_append,ih];simp[cr];omega
theorem pR:∀(es:List EntL) (t:Nat) (_:t<es.length*4),(es.flatMap cr)[t]?=some ((cr es.toArray[t / 4]!)[t%4]!)
 | [],t,h=>by simp at h
 | x::r,t,h=>by
  rw[flatMap_cons]
  by_cases h4:t<4
  ·rw[getElem?_append_left (by simpa[cr]using h4)]
   have e1:t / 4=0:=by omega
   have e2:t%4=t:=by omega
   rw[e1,e2]
   have:(x::r).toArray[0]! = x := by simp
   rw[this]
   rcases(show t=0\/t=1\/t=2\/t=3 by omega)with rfl|rfl|rfl|rfl<;>rfl
  ·rw[getElem?_append_right (by simp[cr];omega)]
   have hl:(cr x).length=4:=rfl
   rw[hl,pR r (t-4) (by simp at h;omega)]
   have e1:t / 4=(t-4) / 4+1:=by omega
   have e2:t%4=(t-4)%4:=by omega
   rw[e1,e2]
   have hi:(t-4) / 4<r.length:=by simp at h;omega
   have:(x::r).toArray[(t-4) / 4+1]! = r.toArray[(t-4) / 4]! := by
    rw[getElem!_pos _ _ (by simp;omega),getElem!_pos _ _ (by simpa using hi)];simp
   rw[this]
theorem tQ(es:List EntL):flatK cr 4 es.toArray=(es.flatMap cr).toArray:=by
 apply Array.ext_getElem?;intro t;by_cases h:t<es.length*4
 ·have h1:=pR es t h;have h2:(es.flatMap cr).toArray[t]?=some ((cr es.toArray[t / 4]!)[t%4]!):=by simpa using h1
  rw[h2];have hs:t<(flatK cr 4 es.toArray).size:=by simpa using h
  rw[Array.getElem?_eq_getElem hs,<- getElem!_pos (flatK cr 4 es.toArray) t hs,get_flatK _ _ _ _ (by simpa using h)]
 ·rw[Array.getElem?_eq_none (by simp;omega),Array.getElem?_eq_none (by rw[size_toArray,gG];omega)]
theorem Ei(l:List EntL):∀u∈l.flatMap cr,u.oneCell'=true:=fun u hu=>by
 obtain⟨x,-,hx⟩:=mem_flatMap.1 hu
 simp only[cr,mem_cons,not_mem_nil,or_false]at hx
 rcases hx with rfl|rfl|rfl|rfl<;>rfl
def Cd(es es':List EntL):Prop:=es'.Perm es/\∀i j,i<j->∀(hj:j<es'.length) (hi:i<es'.length),bJ es'[j].p es'[i].p=false
theorem DH{F G:HF}{A W:World}{v:Value}{es:List EntL}(h:Turns F (fg v es++G) A W)(hok:rG v es)(hne:es≠[])(hl:es.length<1000000):
  ∃g cap,v=.slice (some ⟨g,0,none⟩) es.length cap/\Calls Tryz.prog 133 #[.slice (some ⟨g,0,none⟩) es.length cap,.func (.func 134) #[] #[]] W (fun e w'=>e=.returned (.tuple #[])/\∃es',Cd es es'/\rG v es'/\Turns F (fg v es'++G) A w'):=by
 have hown:=aR h.sat.left hok;rcases hown.2 with⟨-,h0⟩|⟨g,cap,cur,rfl,-,hg,h1,h2,h3,h4⟩
 ·exact absurd (eq_nil_of_length_eq_zero h0) hne
 ·refine⟨g,cap,rfl,?_⟩;have eg:∀args w,(callFunc 134 args).run Tryz.prog w=.ok (.enter 134 args) w:=enters_of Tryz.func134 (by kernel_rfl) rfl
  have hH:HoldsK cr 4 W g 0 es.toArray:=by
   unfold HoldsK;rw[tQ];intro j hj;have hj':j<(es.flatMap cr).length:=by simpa using hj
   refine⟨?_,bf hg _⟩;rw[Nat.zero_add];refine aa hg j ?_;rw[<- Array.getElem?_toList];have e1:(cur.toList.take (es.length*4))[j]?=cur.toList[j]?:=by rw[getElem?_take,if_pos (by rw[gG]at hj';omega)]
   rw[<- e1,h4,getElem?_eq_getElem hj'];congr 1;rw[getElem!_pos _ _ (by simpa using hj)];simp
  have hcon:=AnyQ.slices_SortFunc KR 4 Tryz.isAgg262 Tryz.sizeOf262 cr (fun _=>rfl) (fun x v hv=>by simp[cr]at hv;rcases hv with rfl|rfl|rfl|rfl<;>rfl) oL Li 134 #[] g 0 cap es.toArray W eg (JV g 0 es.toArray.size W) hH (ac hg) (by simp;omega);have hsz:es.toArray.size=es.length:=by simp
  rw[hsz]at hcon;change Calls Tryz.prog 133 _ _ _ at hcon;refine hcon.mono ?_;rintro e w' ⟨rfl,d',n,os,hp,hs,rfl⟩;have hd':d'.size=es.length:=by rw[hp.1];simp
  have hperm:d'.toList.Perm es:=by
   have:=hp.2.2;rw[Array.extract_eq_self_of_le (by omega)]at this;rw[Array.extract_eq_self_of_le (by simp)]at this;simpa using this
  refine⟨rfl,d'.toList,⟨hperm,fun i j hij hj hi=>?_⟩,?_,?_⟩
  ·have:=hs i j (Nat.zero_le _) hij (by rw[<- hd'];simpa using hj);rw[Eh]at this;rw[getElem!_pos d' j (by simpa using hj),getElem!_pos d' i (by simpa using hi)]at this;simpa using this
  ·exact⟨by rw[gG],fun hn=>by simp[Value.ownBlock]at hn⟩
  ·have hfl:flatK cr 4 d'=(d'.toList.flatMap cr).toArray:=by
    have:=tQ d'.toList;simpa using this
   have hdl:d'.toList.length=es.length:=by simpa using hd'
   have hgl:=ac hg
   have hW:(sortWorldK cr 4 W g 0 n d' os).heap[g]?=some (.cells (putCells id 0 (flatK cr 4 d') cur) 262 (0,0)):=by
    unfold sortWorldK;rw[heap_grow_old _ _ (by unfold putRowK;rw[size_putRow];exact hgl)];unfold putRowK putRow mapBlock;show((W.heap.modify g (onCells (putCells id 0 (flatK cr 4 d')))))[g]?=_;rw[Array.getElem?_modify,if_pos rfl,hg];rfl
   have hM:Mods (fun k=>k=g) W (sortWorldK cr 4 W g 0 n d' os):=by
    refine⟨rfl,rfl,rfl,?_,fun k hk hne=>?_⟩
    ·unfold sortWorldK;rw[Go.Sort.size_grow];unfold putRowK;rw[size_putRow];simp
    ·unfold sortWorldK;rw[heap_grow_old _ _ (by unfold putRowK;rw[size_putRow];exact hk)];unfold putRowK putRow mapBlock;show((W.heap.modify g (onCells (putCells id 0 (flatK cr 4 d')))))[k]?=_;rw[Array.getElem?_modify,if_neg (fun e=>hne e.symm)]
   have hpc:(putCells id 0 (flatK cr 4 d') cur).toList.take (es.length*4)=d'.toList.flatMap cr:=by
    apply ext_getElem?;intro t;rw[getElem?_take];split
    ·rename_i ht;rw[Array.getElem?_toList];unfold putCells;rw[Array.getElem?_mapIdx];have htc:t<cur.size:=by rw[h3];omega
     rw[Array.getElem?_eq_getElem htc,Option.map_some,if_pos ⟨Nat.zero_le _,by rw[size_flatK];omega⟩,Nat.sub_zero];have ht2:t<(d'.toList.flatMap cr).length:=by rw[gG,hdl];exact ht
     rw[getElem?_eq_getElem ht2,hfl,getElem!_pos _ _ (by simpa using ht2)];simp
    ·rename_i ht;rw[getElem?_eq_none (by rw[gG,hdl];omega)]
   have hrow:fg (.slice (some ⟨g,0,none⟩) es.length cap) es++G=(g,_)::G:=rfl;rw[hrow]at h;have hrow2:fg (.slice (some ⟨g,0,none⟩) es.length cap) d'.toList++G=(g,fun o=>∃cap2 cur2,Value.slice (some ⟨g,0,none⟩) es.length cap=.slice (some ⟨g,0,none⟩) d'.toList.length cap2/\o=.cells cur2 262 (0,0)/\d'.toList.length<=cap2/\cap2<=maxLen/\cur2.size=cap2*4/\cur2.toList.take (d'.toList.length*4)=d'.toList.flatMap cr)::G:=rfl;rw[hrow2];exact h.put hM hW ⟨cap,_,by rw[hdl],rfl,by rw[hdl];exact h1,h2,by unfold putCells;rw[Array.size_mapIdx];exact h3,by rw[hdl];exact hpc⟩
end
section
open Go.RowKit Go.Maps
theorem Turns.pin{F G:HF}{a0 w:World}{g:Nat}{φ:Obj->Prop}(h:Turns F ((g,φ)::G) a0 w):∃o,φ o/\Turns F ((g,Is o)::G) a0 w:=by
 obtain⟨o,ho,hφ⟩:=h.sat.head
 exact⟨o,hφ,h.mods,⟨h.sat.nodup,fun p hp=>by
  rcases mem_cons.1 hp with rfl|hp
  ·exact⟨o,ho,rfl⟩
  ·exact h.sat.sat p (mem_cons_of_mem _ hp)⟩,h.fresh⟩
theorem Turns.unpin{F G:HF}{a0 w:World}{g:Nat}{φ:Obj->Prop}{o:Obj}(h:Turns F ((g,Is o)::G) a0 w)(ho:φ o):Turns F ((g,φ)::G) a0 w :=
 ⟨h.mods,⟨h.sat.nodup,fun p hp=>by
  rcases mem_cons.1 hp with rfl|hp
  ·exact⟨o,h.sat.Q5,ho⟩
  ·exact h.sat.sat p (mem_cons_of_mem _ hp)⟩,h.fresh⟩
theorem pq{P:Program}{w a0:World}{o:Oper}{a:Act}{K:Act->World->Prop}{Q:Exit->Act->World->Prop}{F G:HF}(ty:TypeId)(x y:Operand)(ho:o.op=.store ty x y)(e:TypeId)(size n g cap:Nat)(xs:List Value)(hT:Turns F (bN e size (.slice (some ⟨g,0,none⟩) n cap) n xs++G) a0 w)(hok:eE size (.slice (some ⟨g,0,none⟩) n cap) n xs)(i:Nat)(hi:i<n*size)(u:Value)(hx:a.eval x=.pointer (some ⟨g,i,none⟩))(hy:a.eval y=u)(hsz:(P.info? ty).map (·.size)=some 1)(h1:u.oneCell'=true)(hvc:u.cells=#[u])(hk:∀w',eE size (.slice (some ⟨g,0,none⟩) n cap) n (xs.set i u)->Turns F (bN e size (.slice (some ⟨g,0,none⟩) n cap) n (xs.set i u)++G) a0 w'->K (a.put o.dst undef) w'):o.wp P a w K Q:=by
 have hT':Turns F ((g,fun o=>∃cap' cur,(.slice (some ⟨g,0,none⟩) n cap:Value)=.slice (some ⟨g,0,none⟩) n cap'/\o=.cells cur e (0,0)/\n<=cap'/\cap'<=maxLen/\cur.size=cap'*size/\cur.toList.take (n*size)=xs)::G) a0 w:=hT;obtain⟨o',⟨cap',cur,hv,rfl,h3,h4,h5,h6⟩,hp⟩:=hT'.pin;have hcs:n*size<=cur.size:=by rw[h5];exact Nat.mul_le_mul_right _ h3
 refine bu ty x y ho g i cur e u hp hx hy (by omega) hsz h1 hvc (fun w' hT2=>hk w' ⟨by rw[length_set];exact hok.1,hok.2⟩ ?_);exact hT2.unpin ⟨cap',_,hv,rfl,h3,h4,by simpa using h5,by rw[Array.toList_setIfInBounds,take_set,h6]⟩
def eS(v:Value)(l:List EntL):HF:=bN 266 4 v l.length (l.flatMap cr)
def pi(v:Value)(l:List EntL):Prop:=eE 4 v l.length (l.flatMap cr)
theorem IB:(Tryz.prog.info? 266).map (fun i=>(i.zero,i.size,i.bytes))=some (some (.agg #[str [],.int .i64 0,.int .i64 0,.int .i64 0]),4,40):=by kernel_rfl
theorem r9{o:Oper}{a:Act}{w a0:World}{K:Act->World->Prop}{Q:Exit->Act->World->Prop}{F G:HF}(s x:Operand)(hop:o.op=.call { callee:=.builtin .append,args:=#[s,x],argTypes:=#[184,184] })(v:Value)(l:List EntL)(hs:a.eval s=v)(hT:Turns F (eS v l++G) a0 w)(hok:pi v l)(nb:Nat)(hx:a.eval x=.slice (some ⟨nb,0,none⟩) 1 1)(r:EntL)(hc:w.heap[nb]?=some (.cells (cr r).toArray 266 (0,0)))(hb:l.length<=1000000)(hk:∀v' w',pi v' (l++[r])->Turns F (eS v' (l++[r])++G) a0 w'->K (a.put o.dst v') w'):o.wp Tryz.prog a w K Q:=by
 obtain⟨i0,hi0,hz1,hz2,hz3⟩:=info_parts IB;refine cI s x 184 266 i0 (.agg #[str [],.int .i64 0,.int .i64 0,.int .i64 0]) 4 40 hop Tryz.underlying184 hi0 hz1 hz2 hz3 rfl (by decide) v l.length (l.flatMap cr) hs hT hok (some ⟨nb,0,none⟩) 1 1 hx (cr r) rfl (fun _=>⟨_,rfl,fun j u hu=>?_⟩) (fun u hu=>Ei [r] u (by simpa using hu)) (by unfold maxLen;omega) (by omega) (fun v' w' h1 h2 h3=>?_)
 ·rw[Addr.add_lit];rw[show(0+j)=j by omega];exact aa hc j (by rw[getElem?_toArray];exact hu)
 ·have e1:(l++[r]).flatMap cr=l.flatMap cr++cr r:=by simp
  exact hk v' w' (by unfold pi;rw[length_append,e1];exact h1) (by unfold eS;rw[length_append,e1];exact h2)
def eL(es:List EntL)(p:Bs):List EntL:=if es.getLast?.map (·.p)=some p then es else es++[⟨p,0,0,0⟩]
def mK(es:List EntL)(num size:Int):List EntL:=match es.getLast? with
 | none=>[]
 | some e=>es.dropLast++[⟨e.p,num,size,e.n+1⟩]
def gN(pre:Bs)(es:List EntL)(v:RVer):List EntL:=if pre.isPrefixOf v.path then mK (eL es v.path) v.num v.cont.length else es
def eW(pre:Bs)(vs:List RVer):List EntL:=vs.foldl (gN pre) []
theorem tP{pre:Bs}{vs:List RVer}{k:Nat}(h:k<vs.length):eW pre (vs.take (k+1))=gN pre (eW pre (vs.take k)) vs[k]:=by
 unfold eW;rw[QH h,foldl_append];rfl
theorem kr(es:List EntL)(e:EntL)(num size:Int):mK (es++[e]) num size=es++[⟨e.p,num,size,e.n+1⟩]:=by simp[mK]
theorem z6(es:List EntL)(p:Bs):(eL es p).length<=es.length+1:=by unfold eL;split<;>simp
theorem CN(es:List EntL)(n s:Int):(mK es n s).length=es.length:=by
 unfold mK
 cases h:es.getLast? with
 | none=>rw[getLast?_eq_none_iff.1 h]
 | some e =>
  have hne:es≠[]:=fun he=>by rw[he]at h;cases h
  have:=length_pos_iff.2 hne;simp only[length_append,length_dropLast,length_singleton];omega
theorem ww(pre:Bs):∀(vs:List RVer),(eW pre vs).length<=vs.length:=fun vs=>by
 suffices h:∀(vs:List RVer) (es:List EntL),(vs.foldl (gN pre) es).length<=es.length+vs.length from by unfold eW;simpa using h vs []
 intro vs
 induction vs with
 | nil=>intro es;simp
 | cons v r ih =>
  intro es
  have h1:=ih (gN pre es v)
  have h2:(gN pre es v).length<=es.length+1:=by
   unfold gN;split
   ·rw[CN];exact z6 _ _
   ·omega
  simp only[foldl_cons,length_cons];omega
theorem JW{pre:Bs}:∀(vs:List RVer),∀e∈eW pre vs,0<=e.n/\e.n<=vs.length:=fun vs=>by
 suffices h:∀(vs:List RVer) (es:List EntL) (b:Nat),(∀e∈es,0<=e.n/\e.n<=b)->∀e∈vs.foldl (gN pre) es,0<=e.n/\e.n<=(b+vs.length:Nat)from by
  have:=h vs [] 0 (fun e he=>by cases he);unfold eW;simpa using this
 intro vs;induction vs with
 | nil=>intro es b h e he;have:=h e he;simpa using this
 | cons v r ih =>
  intro es b h e he
  have h2:∀e∈gN pre es v,0<=e.n/\e.n<=(b+1:Nat):=by
   intro e he;unfold gN at he;split at he
   ·have h3:∀e∈eL es v.path,0<=e.n/\e.n<=b:=by
     intro e he;unfold eL at he;split at he
     ·exact h e he
     ·rcases mem_append.1 he with he|he
      ·exact h e he
      ·obtain rfl:=mem_singleton.1 he;simp
    unfold mK at he
    cases hl:(eL es v.path).getLast? with
    | none=>rw[hl]at he;cases he
    | some x =>
     rw[hl]at he;rcases mem_append.1 he with he|he
     ·have:=h3 e ((dropLast_sublist _).mem he);omega
     ·obtain rfl:=mem_singleton.1 he;have:=h3 x (mem_of_getLast? hl);simp only;omega
   ·have:=h e he;omega
  have:=ih _ (b+1) h2 e he;simp only[length_cons];omega
theorem z7(pk:Bs)(n:Nat):((ByteArray.mk pk.toArray).extract 0 n).toList=pk.take n:=by
 rw[Lib.toList_data];simp[ByteArray.extract,ByteArray.copySlice]
def E0(R:RefL)(pre:Bs)(w:World)(e:Ending)(w':World):Prop :=
 (R.closed=true/\e=.returned (.tuple #[.slice none 0 0,.int .i64 9])/\aX w w') \/
 (R.closed=false/\∃v,e=.returned (.tuple #[v,.int .i64 0])/\pi v (eW pre R.vs)/\Turns [] (eS v (eW pre R.vs)) w w')
theorem AU{pre l:Bs}(_:pre.length<=l.length):pre.isPrefixOf l=decide (l.take pre.length=pre):=by
 rw[Bool.eq_iff_iff,decide_eq_true_eq,isPrefixOf_iff_prefix,prefix_iff_eq_take];exact eq_comm
theorem Ga{pre l:Bs}(h:l.length<pre.length):pre.isPrefixOf l=false:=by
 rw[Bool.eq_false_iff];intro h2;have:=(isPrefixOf_iff_prefix.1 h2).length_le;omega
theorem qf{w:World}{v:Value}{es:List EntL}(hs:Sat w (eS v es))(h:pi v es):∃sl cap,v=.slice sl es.length cap/\es.length<=cap/\cap<=9223372036854775807/\(es≠[]->∃g,sl=some ⟨g,0,none⟩/\g<w.heap.size/\∀i (hi:i<es.length),w.cell? ⟨g,i*4,none⟩=some (str es[i].p)/\w.cell? ⟨g,i*4+1,none⟩=some (.int .i64 es[i].latest)/\w.cell? ⟨g,i*4+2,none⟩=some (.int .i64 es[i].size)/\w.cell? ⟨g,i*4+3,none⟩=some (.int .i64 es[i].n)):=by
 obtain⟨hl,hc⟩:=aR hs h;rcases hc with⟨rfl,hn⟩|⟨g,cap,cur,rfl,_,hg,h1,h2,h3,h4⟩
 ·have:es=[]:=length_eq_zero_iff.1 hn;subst this;exact⟨none,0,rfl,Nat.le_refl _,by omega,fun h=>absurd rfl h⟩
 ·refine⟨_,cap,rfl,h1,by unfold maxLen at h2;omega,fun hne=>⟨g,rfl,ac hg,fun i hi=>?_⟩⟩
  have hcell:∀j,j<4->w.cell? ⟨g,i*4+j,none⟩=(es.flatMap cr)[i*4+j]?:=by
   intro j hj
   have e1:(es.flatMap cr)[i*4+j]?=cur[i*4+j]?:=by
    rw[<- h4,getElem?_take,if_pos (by omega),Array.getElem?_toList]
   have e2:i*4+j<cur.size:=by rw[h3];omega
   rw[e1,Array.getElem?_eq_getElem e2];exact aa hg _ (Array.getElem?_eq_getElem e2)
  have hv:∀j,j<4->(es.flatMap cr)[i*4+j]?=some ((cr es[i])[j]!):=by
   intro j hj;rw[pR es (i*4+j) (by omega)];rw[show(i*4+j) / 4=i by omega,show(i*4+j)%4=j by omega];simp[hi]
  refine⟨?_,?_,?_,?_⟩
  ·have:=hcell 0 (by omega);rw[hv 0 (by omega)]at this;exact this
  ·have:=hcell 1 (by omega);rw[hv 1 (by omega)]at this;exact this
  ·have:=hcell 2 (by omega);rw[hv 2 (by omega)]at this;exact this
  ·have:=hcell 3 (by omega);rw[hv 3 (by omega)]at this;exact this
theorem Bl(es:List EntL)(e:EntL)(j:Nat)(u:Value):((es++[e]).flatMap cr).set (es.length*4+j) u=es.flatMap cr++(cr e).set j u:=by
 rw[flatMap_append,set_append,if_neg (by rw[gG];omega),gG];simp
theorem i7{w a0:World}{o:Oper}{a:Act}{K:Act->World->Prop}{Q:Exit->Act->World->Prop}{F G:HF}(ty:TypeId)(x y:Operand)(ho:o.op=.store ty x y)(z g cap:Nat)(es0:List EntL)(e e':EntL)(hz:es0.length=z)(hT:Turns F (eS (.slice (some ⟨g,0,none⟩) (z+1) cap) (es0++[e])++G) a0 w)(hok:pi (.slice (some ⟨g,0,none⟩) (z+1) cap) (es0++[e]))(j:Nat)(hj:j<4)(u:Value)(hx:a.eval x=.pointer (some ⟨g,z*4+j,none⟩))(hy:a.eval y=u)(hsz:(Tryz.prog.info? ty).map (·.size)=some 1)(h1:u.oneCell'=true)(hvc:u.cells=#[u])(he:cr e'=(cr e).set j u)(hk:∀w',pi (.slice (some ⟨g,0,none⟩) (z+1) cap) (es0++[e'])->Turns F (eS (.slice (some ⟨g,0,none⟩) (z+1) cap) (es0++[e'])++G) a0 w'->K (a.put o.dst undef) w'):o.wp Tryz.prog a w K Q:=by
 have e1:((es0++[e]).flatMap cr).set (z*4+j) u=(es0++[e']).flatMap cr:=by rw[<- hz,Bl,<- he];simp
 have e2:(es0++[e]).length=z+1:=by simp[hz]
 have e3:(es0++[e']).length=z+1:=by simp[hz]
 unfold eS pi at *
 rw[e2]at hT hok;rw[e3]at hk;refine pq ty x y ho 266 4 (z+1) g cap _ hT hok (z*4+j) (by omega) u hx hy hsz h1 hvc (fun w' k1 k2=>hk w' ?_ ?_)
 ·rw[<- e1];exact k1
 ·rw[<- e1];exact k2
theorem I1{w a0:World}{F G:HF}(z g cap:Nat)(es0:List EntL)(e e':EntL)(hz:es0.length=z)(hT:Turns F (eS (.slice (some ⟨g,0,none⟩) (z+1) cap) (es0++[e])++G) a0 w)(hok:pi (.slice (some ⟨g,0,none⟩) (z+1) cap) (es0++[e]))(j:Nat)(_:j<4)(u:Value)(he:cr e'=(cr e).set j u):
  pi (.slice (some ⟨g,0,none⟩) (z+1) cap) (es0++[e'])/\Turns F (eS (.slice (some ⟨g,0,none⟩) (z+1) cap) (es0++[e'])++G) a0 (w.setCell ⟨g,z*4+j,none⟩ u):=by
 have e1:((es0++[e]).flatMap cr).set (z*4+j) u=(es0++[e']).flatMap cr:=by rw[<- hz,Bl,<- he];simp
 have e2:(es0++[e]).length=z+1:=by simp[hz]
 have e3:(es0++[e']).length=z+1:=by simp[hz]
 unfold eS pi at *
 rw[e2]at hT hok;rw[e3,<- e1];refine⟨⟨by rw[length_set];exact hok.1,hok.2⟩,?_⟩;have hT':Turns F ((g,fun o=>∃cap' cur,(.slice (some ⟨g,0,none⟩) (z+1) cap:Value)=.slice (some ⟨g,0,none⟩) (z+1) cap'/\o=.cells cur 266 (0,0)/\(z+1)<=cap'/\cap'<=maxLen/\cur.size=cap'*4/\cur.toList.take ((z+1)*4)=(es0++[e]).flatMap cr)::G) a0 w:=hT;obtain⟨o',⟨cap',cur,hv,rfl,h3,h4,h5,h6⟩,hp⟩:=hT'.pin;have hT2:=hp.Qa ((Mods.refl (fun k=>k=g) w).set1 u) (bB hp.sat.Q5 (z*4+j) u);exact hT2.unpin ⟨cap',_,hv,rfl,h3,h4,by simpa using h5,by rw[Array.toList_setIfInBounds,take_set,h6]⟩
def vcO(pk:Bs)(nk:Int)(cv hv:Value):Obj:=.cells #[.string ⟨pk.toArray⟩,.int .i64 nk,cv,hv] 193 (0,0)
theorem jG{w W:World}{vb g z cap:Nat}{pk:Bs}{nk:Int}{cv hv:Value}{es0:List EntL}{e:EntL}{J:HF}(hT:Turns [] ((vb,Is (vcO pk nk cv hv))::(eS (.slice (some ⟨g,0,none⟩) (z+1) cap) (es0++[e])++J)) w W)(hok:pi (.slice (some ⟨g,0,none⟩) (z+1) cap) (es0++[e]))(hz:es0.length=z):
  W.cell? ⟨vb,0,none⟩=some (.string ⟨pk.toArray⟩)/\W.cell? ⟨vb,1,none⟩=some (.int .i64 nk)/\W.cell? ⟨vb,2,none⟩=some cv/\vb<W.heap.size/\g<W.heap.size/\W.cell? ⟨g,z*4,none⟩=some (str e.p)/\W.cell? ⟨g,z*4+3,none⟩=some (.int .i64 e.n)/\z+1<=cap/\cap<=9223372036854775807/\W.frozen? ⟨g,z*4+3,none⟩=false:=by
 have hv:=hT.sat.Q5;obtain⟨sl,cap',e1,e2,e3,e4⟩:=qf hT.sat.tail.left hok;simp only[Value.slice.injEq]at e1;obtain⟨rfl,h5,rfl⟩:=e1;obtain⟨g',hg,hgl,hc⟩:=e4 (by simp);simp only[Option.some.injEq,Addr.mk.injEq,and_true]at hg;subst hg;obtain⟨c0,c1,c2,c3⟩:=hc z (by simp;omega);have hze:(es0++[e])[z]'(by simp;omega)=e:=by subst hz;simp
 rw[hze]at c0 c3;obtain⟨o,ho,cap2,cur,-,rfl,-⟩:=Sat.head (show Sat W ((g,fun o=>∃cap' cur,(.slice (some ⟨g,0,none⟩) (z+1) cap:Value)=.slice (some ⟨g,0,none⟩) (es0++[e]).length cap'/\o=.cells cur 266 (0,0)/\(es0++[e]).length<=cap'/\cap'<=maxLen/\cur.size=cap'*4/\cur.toList.take ((es0++[e]).length*4)=(es0++[e]).flatMap cr)::[])from hT.sat.tail.left);exact⟨aa hv 0 rfl,aa hv 1 rfl,aa hv 2 rfl,ac hv,hgl,c0,c3,by rw[h5];exact e2,e3,bf ho _⟩
theorem A4(R:RefL)(P:dE)(pre:Bs)(w:World)(h:RefAt R P w):
  Calls Tryz.prog 89 #[.pointer (some ⟨R.blk,0,none⟩),str pre] w (E0 R pre w):=by
 have hbl:=ac h.ref.Q5;have hlen:=h.len;have c3:w.cell? ⟨R.blk,3,none⟩=some (.bool R.closed):=aa h.ref.Q5 3 rfl;have HH:=qqH h;clear h;go_enter Tryz.func89,Tryz.ntmps89
 cases hc:R.closed with
 | true =>
  rw[hc]at c3;have HC:=qqH hc;clear hc;go_wp2_with fail;exact bodyPost_ret (results_tmp2 rfl _ _ _) rfl (.inl ⟨HC.out,rfl,Mods.refl _ _⟩)
 | false =>
  rw[hc]at c3;have HC:=qqH hc;clear hc;go_wp2_with fail;go_loopw [6,7] (fun l i wr=>∃(k:Nat) (J:HF),k<=R.vs.length/\i=.int .i64 k/\pi l (eW pre (R.vs.take k))/\Turns [] (eS l (eW pre (R.vs.take k))++J) w wr) (fun _ i _=>R.vs.length-(intOf i).toNat)
  case atStart=>exact⟨0,[],Nat.zero_le _,rfl,⟨rfl,fun _=>⟨rfl,rfl⟩⟩,Turns.refl (Sat.nil w)⟩
  case round =>
   obtain⟨k,J,hk,rfl,hro,hT⟩:=hrel;have hA:=HH.out.same hT.news;obtain⟨sl,cap,e1,e2,e3,hb,hcell⟩:=hA.row;have c0:wr.cell? ⟨R.blk,0,none⟩=some (.slice sl R.vs.length cap):=by rw[<- e1];exact aa hb 0 rfl
   have hbl':=ac hb;by_cases hlt:k<R.vs.length
   ·obtain⟨g,off,hg,hcc⟩:=hcell (by omega);subst hg;obtain⟨h0,h1,h2,h3⟩:=hcc k hlt;obtain⟨csl,ccap,hcv,-,-,-⟩:=hA.cont (getElem_mem hlt);rw[hcv]at h2;have hnx:=tP (pre:=pre) hlt;have hel:=ww pre (R.vs.take k);have hen:=JW (pre:=pre) (R.vs.take k);rw[length_take,Nat.min_eq_left hk]at hel hen;obtain⟨es,hes⟩:∃es,es=eW pre (R.vs.take k):=⟨_,rfl⟩;rw[<- hes]at hnx hel hen hro hT;obtain⟨rsl,rcap,hrv,hr2,hr3,hrc⟩:=qf hT.sat.left hro;obtain⟨pk,hpk⟩:∃pk,pk=R.vs[k].path:=⟨_,rfl⟩;obtain⟨nk,hnk⟩:∃nk,nk=R.vs[k].num:=⟨_,rfl⟩;obtain⟨cl,hcl⟩:∃cl,cl=R.vs[k].cont.length:=⟨_,rfl⟩;unfold gN at hnx;rw[<- hpk]at h0 hnx;rw[<- hnk]at h1 hnx;rw[<- hcl]at h2 hnx;have hgl:=World.block_lt_of_cell? wr _ h0;subst hrv;have HX:=Hq5 hnx hro hT hen hrc;clear hcc hcell hA hcv hnx hpk hnk hcl hes hro hT hen hb e1;by_cases hsh:pk.length<pre.length
    ·have hfin:eW pre (R.vs.take (k+1))=es:=by rw[HX.a,Ga hsh];rfl
     have HF:=qqH hfin;clear hfin hrc;go_wp2_with fail;go_roundw
     case rel=>exact⟨k+1,J,by omega,by go_num,by rw[HF.out];exact HX.b,by rw[HF.out];exact HX.c.alloc _⟩
     case measure=>simp[intOf];omega
    ·by_cases hpx:pk.take pre.length=pre
     ·have hpx2:pre.isPrefixOf pk=true:=by rw[AU (by omega)];simp[hpx]
      have hpq:(((ByteArray.mk pk.toArray).extract 0 pre.length).toList==pre)=true:=by rw[z7];simp[hpx]
      obtain⟨cv,hcv⟩:∃cv:Value,cv=.slice csl cl ccap:=⟨_,rfl⟩;obtain⟨hv,hhv⟩:∃hv:Value,hv=.int .i64 R.vs[k].held:=⟨_,rfl⟩;have HV:=Hq2 hcv hhv;go_upto_region 9 with(fail);obtain⟨vb,hvb⟩:∃vb,vb=wr.heap.size:=⟨_,rfl⟩;obtain⟨m,hm⟩:∃m,m=es.length:=⟨_,rfl⟩
      have hT1:Turns [] ((vb,Is (vcO pk nk cv hv))::(eS (.slice rsl m rcap) es++J)) w (wr.alloc (.cells #[.string ⟨pk.toArray⟩,.int .i64 nk,.slice csl cl ccap,.int .i64 R.vs[k].held] 193)):=by
       rw[hvb,hm,hcv,hhv];exact HX.c.Q8 _
      have hro1:pi (.slice rsl m rcap) es:=by rw[hm];exact HX.b
      rw[<- hvb,<- hm];rw[<- hm]at hel hr2;clear h0 h1 h2 h3 c0 hrc hgl hvb hbl' hcv hhv;generalize wr.alloc (.cells #[.string ⟨pk.toArray⟩,.int .i64 nk,.slice csl cl ccap,.int .i64 R.vs[k].held] 193)=w1 at hT1 ⊢;obtain⟨rsl',rcap',e1,-,-,hrc⟩:=qf hT1.sat.tail.left hro1;simp only[Value.slice.injEq]at e1;obtain⟨rfl,-,rfl⟩:=e1;have v0:w1.cell? ⟨vb,0,none⟩=some (.string ⟨pk.toArray⟩):=aa hT1.sat.Q5 0 rfl;have hvl:=ac hT1.sat.Q5;have hnx:eW pre (R.vs.take (k+1))=mK (eL es pk) nk cl:=by rw[HX.a,hpx2];rfl
      have hnn:∀e∈es,0<=e.n/\e.n<=k:=HX.d;have hk100:k<=100000:=by omega
      have H1:=Hq5 hT1 hro1 hnx hnn hm;clear hT1 hro1 hnx hnn hpx2 hpx hpq
      have happ:∀(v':Value) (W:World),pi v' (es++[⟨pk,0,0,0⟩])->Turns [] (eS v' (es++[⟨pk,0,0,0⟩])++((vb,Is (vcO pk nk cv hv))::J)) w W->∃g2 cap2,v'=.slice (some ⟨g2,0,none⟩) (m+1) cap2/\Turns [] ((vb,Is (vcO pk nk cv hv))::(eS (.slice (some ⟨g2,0,none⟩) (m+1) cap2) (es++[⟨pk,0,0,0⟩])++J)) w W:=by
       intro v' W h1 h2;obtain⟨sl2,cap2,e1,e2,e3,e4⟩:=qf h2.sat.left h1;obtain⟨g2,hg2,-⟩:=e4 (by simp);have e5:(es++[(⟨pk,0,0,0⟩:EntL)]).length=m+1:=by simp[H1.w]
       rw[e5,hg2]at e1;subst e1;exact⟨g2,cap2,rfl,h2.to ae⟩
      have HAPP:=qqH happ;clear happ hm;rcases eq_nil_or_concat es with rfl|⟨es0,e,hes⟩
      ·have hm0:m=0:=H1.w;subst hm0;have hfin:eW pre (R.vs.take (k+1))=[]++[⟨pk,nk,cl,0+1⟩]:=by rw[H1.c];rfl
       have HF:=qqH hfin;clear hfin hrc;go_upto_region 10 with(fail);go_quiet (fail);have hT2:=H1.a.drewN nq;have v0:(w1.drewN nq).cell? ⟨vb,0,none⟩=some (.string ⟨pk.toArray⟩):=aa hT2.sat.Q5 0 rfl;have hvl:=ac hT2.sat.Q5;generalize w1.drewN nq=w2 at hT2 v0 hvl ⊢;have H2:=qqH hT2;clear hT2;go_upto_region 12 with((at_builtin;refine ai rfl ?_;refine r9 (.tmp 60) (.tmp 64) rfl _ [] rfl ((H2.out.to (H:=eS (.slice rsl 0 rcap) []++((vb,Is (vcO pk nk cv hv))::J)) ae).alloc _) H1.b _ rfl ⟨pk,0,0,0⟩ (aK _ _) (by simp) ?_;intro v2 w3 hok3 hT3;have H3:=Hq2 hok3 (HAPP.out v2 w3 hok3 hT3);clear hok3 hT3));obtain⟨hok3,g3,cap3,rfl,hT3⟩:=H3.out;have HS:=Hq4 hT3 hok3 (show([]:List EntL).length=0 from rfl) (show((0:Int)+1<=9223372036854775807/\(0:Int)<=0) by omega);clear hok3 hT3 v0 H3;go_upto_region 13 with(fail);obtain⟨k0,k1,k2,k3,k4,k5,k6,k7,k8,-⟩:=jG HS.a HS.b HS.c;have hne:=HS.x;have hwn:wrap64 (0+1)=0+1:=by rw[IntWalk.wrap64_in _ (by omega)]
       clear k0 k5 hne
       go_wp2_with (first
        | (refine ai rfl (i7 (G:=(vb,Is (vcO pk nk cv hv))::J) 3 (.tmp 74) (.tmp 72) rfl (0) g3 cap3 [] _ ⟨pk,nk,0,0⟩ HS.c (HS.a.to ae) HS.b 1 (by omega) (.int .i64 nk) rfl rfl (by kernel_rfl) rfl rfl rfl ?_);intro w13 hok13 hT13;have hT13':=hT13.to (H:=(vb,Is (vcO pk nk cv hv))::(eS (.slice (some ⟨g3,0,none⟩) (0+1) cap3) ([]++[⟨pk,nk,0,0⟩])++J)) ae;obtain⟨-,-,m2,m3,m4,-,m6,-,-,-⟩:=jG hT13' hok13 HS.c;rw[HV.a]at m2;have H13:=Hq2 hT13' hok13;clear hok13 hT13 hT13';simp only[Act.put])
        | (refine ai rfl (i7 (G:=(vb,Is (vcO pk nk cv hv))::J) 3 (.tmp 82) (.tmp 80) rfl (0) g3 cap3 [] _ ⟨pk,nk,cl,0⟩ HS.c (H13.a.to ae) H13.z 2 (by omega) (.int .i64 cl) rfl rfl (by kernel_rfl) rfl rfl rfl ?_);intro w14 hok14 hT14;have hT14':=hT14.to (H:=(vb,Is (vcO pk nk cv hv))::(eS (.slice (some ⟨g3,0,none⟩) (0+1) cap3) ([]++[⟨pk,nk,cl,0⟩])++J)) ae;obtain⟨-,-,p2,p3,p4,-,p6,-,-,p7⟩:=jG hT14' hok14 HS.c;have H14:=Hq2 hT14' hok14;clear hok14 hT14 hT14' p2;simp only[Act.put])
        | (refine ai rfl (i7 (G:=(vb,Is (vcO pk nk cv hv))::J) 3 (.tmp 91) (.tmp 89) rfl (0) g3 cap3 [] _ ⟨pk,nk,cl,0+1⟩ HS.c (H14.a.to ae) H14.z 3 (by omega) (.int .i64 (0+1)) rfl rfl (by kernel_rfl) rfl rfl rfl ?_);intro w15 hok15 hT15;have H15:=Hq2 (hT15.to (H:=eS (.slice (some ⟨g3,0,none⟩) (0+1) cap3) ([]++[⟨pk,nk,cl,0+1⟩])++((vb,Is (vcO pk nk cv hv))::J)) ae) hok15;clear hok15 hT15;simp only[Act.put]))
       go_roundw
       case rel=>exact⟨k+1,_,by omega,by go_num,by rw[HF.out];exact H15.z,by rw[HF.out];exact H15.a⟩
       case measure=>simp[intOf];omega
      ·obtain⟨z,hz⟩:∃z,z=es0.length:=⟨_,rfl⟩;rw[concat_eq_append]at hes;subst hes;have hmz:m=z+1:=by rw[H1.w,hz];simp
       obtain⟨g2,hg2,hgl2,hc⟩:=hrc (by simp);subst hg2;obtain⟨r0,r1,r2,r3⟩:=hc z (by simp;omega);have hze:(es0++[e])[z]'(by simp;omega)=e:=by subst hz;simp
       rw[hze]at r0 r3;have hne:0<=e.n/\e.n<=k:=H1.d e (by simp);obtain⟨ep,el,es_,en⟩:=e;have HZ:=Hq2 hz.symm hne;clear hc r1 r2 r3 hze hz hne;have hgl:=hgl2;by_cases hep:ep=pk
       ·subst hep;subst hmz
        have hfin:eW pre (R.vs.take (k+1))=es0++[⟨ep,nk,cl,en+1⟩]:=by
         rw[H1.c];have:eL (es0++[(⟨ep,el,es_,en⟩:EntL)]) ep=es0++[⟨ep,el,es_,en⟩]:=by unfold eL;rw[if_pos (by simp)]
         rw[this,kr]
        have HF:=qqH hfin;have hw1:wrap64 ((z:Int)+1-1)=(z:Int):=by rw[IntWalk.wrap64_in _ (by omega)];omega
        have hz0:((z:Int)+1==0)=false:=by simp;omega
        clear hfin;go_upto_region 10 with(fail);go_quiet (fail);have hT2:=H1.a.drewN nq;have v0:(w1.drewN nq).cell? ⟨vb,0,none⟩=some (.string ⟨ep.toArray⟩):=aa hT2.sat.Q5 0 rfl;have hvl:=ac hT2.sat.Q5;generalize w1.drewN nq=w2 at hT2 v0 hvl ⊢;have H2:=qqH hT2;clear hT2;have hT2':=H2.out;have HS:=Hq4 hT2' H1.b HZ.a (show(en+1<=9223372036854775807/\(0:Int)<=en) by have h9:0<=en/\en<=(k:Int):=HZ.z;omega);clear hT2' r0 v0 hz0;go_upto_region 13 with(fail);obtain⟨k0,k1,k2,k3,k4,k5,k6,k7,k8,-⟩:=jG HS.a HS.b HS.c;have hne:=HS.x;have hwn:wrap64 (en+1)=en+1:=by rw[IntWalk.wrap64_in _ (by omega)]
        clear k0 k5 hne
        go_wp2_with (first
         | (refine ai rfl (i7 (G:=(vb,Is (vcO ep nk cv hv))::J) 3 (.tmp 74) (.tmp 72) rfl (z) g2 rcap es0 _ ⟨ep,nk,es_,en⟩ HS.c (HS.a.to ae) HS.b 1 (by omega) (.int .i64 nk) rfl rfl (by kernel_rfl) rfl rfl rfl ?_);intro w13 hok13 hT13;have hT13':=hT13.to (H:=(vb,Is (vcO ep nk cv hv))::(eS (.slice (some ⟨g2,0,none⟩) (z+1) rcap) (es0++[⟨ep,nk,es_,en⟩])++J)) ae;obtain⟨-,-,m2,m3,m4,-,m6,-,-,-⟩:=jG hT13' hok13 HS.c;rw[HV.a]at m2;have H13:=Hq2 hT13' hok13;clear hok13 hT13 hT13';simp only[Act.put])
         | (refine ai rfl (i7 (G:=(vb,Is (vcO ep nk cv hv))::J) 3 (.tmp 82) (.tmp 80) rfl (z) g2 rcap es0 _ ⟨ep,nk,cl,en⟩ HS.c (H13.a.to ae) H13.z 2 (by omega) (.int .i64 cl) rfl rfl (by kernel_rfl) rfl rfl rfl ?_);intro w14 hok14 hT14;have hT14':=hT14.to (H:=(vb,Is (vcO ep nk cv hv))::(eS (.slice (some ⟨g2,0,none⟩) (z+1) rcap) (es0++[⟨ep,nk,cl,en⟩])++J)) ae;obtain⟨-,-,p2,p3,p4,-,p6,-,-,p7⟩:=jG hT14' hok14 HS.c;have H14:=Hq2 hT14' hok14;clear hok14 hT14 hT14' p2;simp only[Act.put]))
        go_roundw
        case rel=>have HR:=I1 (G:=(vb,Is (vcO ep nk cv hv))::J) (z) g2 rcap es0 ⟨ep,nk,cl,en⟩ ⟨ep,nk,cl,en+1⟩ HS.c (H14.a.to ae) H14.z 3 (by omega) (.int .i64 (en+1)) rfl;exact⟨k+1,_,by omega,by go_num,by rw[HF.out];exact HR.1,by rw[HF.out];exact HR.2⟩
        case measure=>simp[intOf];omega
       ·have hfin:eW pre (R.vs.take (k+1))=es0++[⟨ep,el,es_,en⟩]++[⟨pk,nk,cl,0+1⟩]:=by
         rw[H1.c];have:eL (es0++[(⟨ep,el,es_,en⟩:EntL)]) pk=es0++[⟨ep,el,es_,en⟩]++[⟨pk,0,0,0⟩]:=by unfold eL;rw[if_neg (by simp[hep])]
         rw[this,kr]
        have HF:=qqH hfin;subst hmz;have hw0:wrap64 ((z:Int)+1-1)=(z:Int):=by rw[IntWalk.wrap64_in _ (by omega)];omega
        have hz0:((z:Int)+1==0)=false:=by simp;omega
        have hepq:(ep==pk)=false:=by simp[hep]
        have hel2:(es0++[(⟨ep,el,es_,en⟩:EntL)]).length<=1000000:=by simp;have:=HZ.a;omega
        have HE2:=qqH hel2;obtain⟨esx,hesx⟩:∃esx,esx=es0++[(⟨ep,el,es_,en⟩:EntL)]:=⟨_,rfl⟩;rw[<- hesx]at H1 HAPP HF HE2;clear hfin hel2 hesx;go_upto_region 10 with(fail);go_quiet (fail);have hT2:=H1.a.drewN nq;have v0:(w1.drewN nq).cell? ⟨vb,0,none⟩=some (.string ⟨pk.toArray⟩):=aa hT2.sat.Q5 0 rfl;have hvl:=ac hT2.sat.Q5;generalize w1.drewN nq=w2 at hT2 v0 hvl ⊢;have H2:=qqH hT2;clear hT2;obtain⟨m,hm⟩:∃m,m=z+1:=⟨_,rfl⟩;have e1:(z:Int)+1=(m:Int):=by omega
        rw[<- hm]at H1 HAPP H2 hel hr2;rw[<- hm];simp only[e1];have hw1:wrap64 ((m:Int)+1-1)=(m:Int):=by rw[IntWalk.wrap64_in _ (by omega)];omega
        clear e1 hm hw0 hz0 hepq r0;go_upto_region 12 with((at_builtin;refine ai rfl ?_;refine r9 (.tmp 60) (.tmp 64) rfl _ esx rfl ((H2.out.to (H:=eS (.slice (some ⟨g2,0,none⟩) m rcap) esx++((vb,Is (vcO pk nk cv hv))::J)) ae).alloc _) H1.b _ rfl ⟨pk,0,0,0⟩ (aK _ _) (HE2.out) ?_;intro v2 w3 hok3 hT3;have H3:=Hq2 hok3 (HAPP.out v2 w3 hok3 hT3);clear hok3 hT3));obtain⟨hok3,g3,cap3,rfl,hT3⟩:=H3.out;have HS:=Hq4 hT3 hok3 H1.w.symm (show((0:Int)+1<=9223372036854775807/\(0:Int)<=0) by omega);clear hok3 hT3 v0 H3;go_upto_region 13 with(fail);obtain⟨k0,k1,k2,k3,k4,k5,k6,k7,k8,-⟩:=jG HS.a HS.b HS.c;have hne:=HS.x;have hwn:wrap64 (0+1)=0+1:=by rw[IntWalk.wrap64_in _ (by omega)]
        clear k0 k5 hne
        go_wp2_with (first
         | (refine ai rfl (i7 (G:=(vb,Is (vcO pk nk cv hv))::J) 3 (.tmp 74) (.tmp 72) rfl (m) g3 cap3 esx _ ⟨pk,nk,0,0⟩ HS.c (HS.a.to ae) HS.b 1 (by omega) (.int .i64 nk) rfl rfl (by kernel_rfl) rfl rfl rfl ?_);intro w13 hok13 hT13;have hT13':=hT13.to (H:=(vb,Is (vcO pk nk cv hv))::(eS (.slice (some ⟨g3,0,none⟩) (m+1) cap3) (esx++[⟨pk,nk,0,0⟩])++J)) ae;obtain⟨-,-,m2,m3,m4,-,m6,-,-,-⟩:=jG hT13' hok13 HS.c;rw[HV.a]at m2;have H13:=Hq2 hT13' hok13;clear hok13 hT13 hT13';simp only[Act.put])
         | (refine ai rfl (i7 (G:=(vb,Is (vcO pk nk cv hv))::J) 3 (.tmp 82) (.tmp 80) rfl (m) g3 cap3 esx _ ⟨pk,nk,cl,0⟩ HS.c (H13.a.to ae) H13.z 2 (by omega) (.int .i64 cl) rfl rfl (by kernel_rfl) rfl rfl rfl ?_);intro w14 hok14 hT14;have hT14':=hT14.to (H:=(vb,Is (vcO pk nk cv hv))::(eS (.slice (some ⟨g3,0,none⟩) (m+1) cap3) (esx++[⟨pk,nk,cl,0⟩])++J)) ae;obtain⟨-,-,p2,p3,p4,-,p6,-,-,p7⟩:=jG hT14' hok14 HS.c;have H14:=Hq2 hT14' hok14;clear hok14 hT14 hT14' p2;simp only[Act.put]))
        go_roundw
        case rel=>have HR:=I1 (G:=(vb,Is (vcO pk nk cv hv))::J) (m) g3 cap3 esx ⟨pk,nk,cl,0⟩ ⟨pk,nk,cl,0+1⟩ HS.c (H14.a.to ae) H14.z 3 (by omega) (.int .i64 1) rfl;exact⟨k+1,_,by omega,by go_num,by rw[HF.out];exact HR.1,by rw[HF.out];exact HR.2⟩
        case measure=>simp[intOf];omega
     ·have hfin:eW pre (R.vs.take (k+1))=es:=by rw[HX.a,AU (by omega),decide_eq_false hpx];rfl
      have hpq:(((ByteArray.mk pk.toArray).extract 0 pre.length).toList==pre)=false:=by rw[z7];simp[hpx]
      have HF:=qqH hfin;clear hfin hrc;go_wp2_with fail;go_roundw
      case rel=>exact⟨k+1,J,by omega,by go_num,by rw[HF.out];exact HX.b,by rw[HF.out];exact HX.c.alloc _⟩
      case measure=>simp[intOf];omega
   ·obtain rfl:k=R.vs.length:=by omega
    clear hcell;rw[take_length]at hro hT;have HX:=Hq2 hro hT;clear hro hT;go_wp2_with fail;exact bodyPost_ret (results_tmp2 rfl _ _ _) rfl (.inr ⟨HC.out,u6,rfl,HX.a,HX.z.drop (fun x=>by simp only[ah];omega)⟩)
def bm(K:List (Bs×Nat×Nat))(q:Nat×Nat):Bs:=((K.find? (fun e=>decide (e.2=q))).map (·.1)).getD []
def da(S:AS)(V:VerL):Bs:=V.chs.flatMap (bm S.K)
theorem KF{S:AS}(h:ArOk S){c c':Bs}{q:Nat×Nat}(h1:(c,q)∈S.K)(h2:(c',q)∈S.K):c=c' :=
 mD ((h.kat _ h1).2.Qe h.dat) ((h.kat _ h2).2.Qe h.dat) ((h.kat _ h1).1.symm.trans (h.kat _ h2).1)
theorem pF{S:AS}(h:ArOk S){c:Bs}{q:Nat×Nat}(hq:(c,q)∈S.K):bm S.K q=c:=by
 unfold bm
 cases hf:S.K.find? (fun e=>decide (e.2=q))with
 | none=>rw[find?_eq_none]at hf;exact absurd (by simp) (hf _ hq)
 | some e =>
  have h1:=mem_of_find?_eq_some hf;have h2:e.2=q:=by simpa using find?_some hf
  have h3:(e.1,q)∈S.K:=by rw[<- h2];exact h1
  simpa using KF h h3 hq
theorem sH{S:AS}{l:Bs}{n:Int}{V:VerL}(hf:it (af S.ps l) n=some V):∃p∈S.ps,p.key=l/\V∈p.g:=by
 have key:∀(l:List VerL),it l n=some V->V∈l:=by
  intro l;induction l with
  | nil=>intro h;simp[it]at h
  | cons v r ih =>
   intro h;unfold it at h;split at h
   ·simp only[Option.some.injEq]at h;subst h;simp
   ·exact mem_cons_of_mem _ (ih h)
 have hm:=key _ hf;unfold af gOf at hm
 cases hg:S.ps.find? (fun p=>decide (p.key=l))with
 | none=>rw[hg]at hm;simp at hm
 | some p=>rw[hg]at hm;exact⟨p,mem_of_find?_eq_some hg,by simpa using find?_some hg,hm⟩
theorem KJ{S:AS}(h:ArOk S){p:aW}(hp:p∈S.ps){V:VerL}(hV:V∈p.g){q:Nat×Nat}(hq:q∈V.chs):(bm S.K q,q)∈S.K:=by
 obtain⟨e,he,rfl⟩:=(h.vers p hp V hV).1 q hq;have:=pF h (c:=e.1) (q:=e.2) he;rw[this];exact he
theorem lj{S:AS}(h:ArOk S){p:aW}(hp:p∈S.ps){V:VerL}(hV:V∈p.g):(da S V).length=V.size:=by
 rw[(h.vers p hp V hV).2]
 have key:∀l:List (Nat×Nat),(∀q∈l,(bm S.K q,q)∈S.K)->(l.flatMap (bm S.K)).length=(l.map (·.2)).sum:=by
  intro l;induction l with
  | nil=>intro _;rfl
  | cons q r ih =>
   intro hq;rw[flatMap_cons,length_append,ih (fun x hx=>hq x (by simp[hx])),map_cons,sum_cons,(h.kat _ (hq q (by simp))).1]
 exact key _ (fun q hq=>KJ h hp hV hq)
def ip(S:AS)(l:Bs)(n:Int)(k:Int):Prop :=
 (S.X.closed=true/\k=9)\/(S.X.closed=false/\aw l=false/\k=1)\/(S.X.closed=false/\aw l=true/\it (af S.ps l) n=none/\k=3)
def gB(S:AS)(l:Bs)(n:Int)(V:VerL):Prop:=S.X.closed=false/\aw l=true/\it (af S.ps l) n=some V
theorem lK{S:AS}{l:Bs}{n:Int}{w w':World}{e:Ending}(h:yY S.X S.ps l n w e w'):
  aX w w'/\((∃k,ip S l n k/\e=.returned (.tuple #[.pointer none,cO k]))\/(∃V,gB S l n V/\e=.returned (.tuple #[ee V,.nilIface]))):=by
 obtain⟨he,hs⟩:=h;refine⟨hs,?_⟩
 cases hc:S.X.closed with
 | true=>rw[hc,if_pos rfl]at he;exact .inl ⟨9,.inl ⟨hc,rfl⟩,he⟩
 | false =>
  rw[hc,if_neg (by simp)]at he
  cases hp:aw l with
  | false=>rw[hp,if_neg (by simp)]at he;exact .inl ⟨1,.inr (.inl ⟨hc,hp,rfl⟩),he⟩
  | true =>
   rw[hp,if_pos rfl]at he
   cases hf:it (af S.ps l) n with
   | none=>rw[hf]at he;exact .inl ⟨3,.inr (.inr ⟨hc,hp,hf,rfl⟩),he⟩
   | some V=>rw[hf]at he;exact .inr ⟨V,⟨hc,hp,hf⟩,he⟩
def DZ(S:AS)(l:Bs)(n:Int)(w:World)(e:Ending)(w':World):Prop :=
 (∃k,ip S l n k/\e=.returned (.tuple #[.slice none 0 0,cO k])/\Turns (arF S) (arF S) w w') \/
 (∃V v sp,gB S l n V/\e=.returned (.tuple #[v,.nilIface])/\bOk v (da S V)/\AreaOk { S.A with spare:=sp }/\Turns (arF S) (aI v (da S V)++arF { S with A:={ S.A with spare:=sp } }) w w')
theorem GG{S:AS}(hok:ArOk S){p:aW}(hp:p∈S.ps){V:VerL}(hV:V∈p.g){sl:Option Addr}{n cap:Nat}(hcv:V.cv=.slice sl n cap){W:World}(hs:Sat W (aF S.X.pm S.ps S.pc)):W.heap[V.blk]?=some (dq V)/\al W sl (cS V.chs):=by
 have hps:Sat W (er p.val p.g):=Sat.flat (f:=fun p:aW=>er p.val p.g) hs.tail hp;have hvf:Sat W (bT V):=Sat.flat (f:=bT) hps.right hV;obtain⟨sl2,cap2,h1,_,_,h4⟩:=gh hvf.tail ((hok.paths.rows p hp).2 V hV);rw[hcv]at h1;simp only[Value.slice.injEq]at h1;obtain⟨rfl,_,_⟩:=h1;exact⟨hvf.Q5,h4⟩
def KY(S:AS)(V:VerL)(w:World)(out i:Value)(W:World):Prop :=
 ∃(j:Nat) (sp:List (Nat×Nat×Nat)) (J:HF),j<=V.chs.length/\i=.int .i64 j/\bOk out ((V.chs.take j).flatMap (bm S.K))/\AreaOk { S.A with spare:=sp }/\Turns (arF S) (aI out ((V.chs.take j).flatMap (bm S.K))++(arF { S with A:={ S.A with spare:=sp } }++J)) w W
theorem vM(S:AS)(l:Bs)(n:Int)(b:Nat)(w:World)(h:Sat w (arF S))(hok:ArOk S)(hB:ArB S b)(hb:b<=90000)(_:l.length<=9223372036854775807):
  Calls Tryz.prog 27 #[.pointer (some ⟨S.a,0,none⟩),str l,.int .i64 n] w (DZ S l n w):=by
 have HF:=qqH (lJ S.a S.X S.ps S.pc l n w h.Q5 (h.tail.right.right.left) hok.paths);have HH:=Hq4 h hok hB hb;clear h hok hB hb;go_enter Tryz.func27,Tryz.ntmps27;go_wp2_with fail;refine HF.out.mono ?_;intro e w1 hp;obtain⟨hs,⟨k,hk,rfl⟩|⟨V,hV,rfl⟩⟩:=lK hp
 ·have HK:=Hq2 hk hs;clear hp hs hk;unfold cO;go_wp2_with fail;go_ret2;refine (.inl ⟨k,HK.a,rfl,(Turns.same HH.a HK.z)⟩)
 ·obtain⟨p,hpm,hpk,hVp⟩:=sH hV.2.2;have hT1:Turns (arF S) (arF S) w w1:=Turns.same HH.a hs;have hps:Sat w1 (er p.val p.g):=Sat.flat (f:=fun p:aW=>er p.val p.g) (hT1.sat.tail.right.right.left).tail hpm;have hvf:Sat w1 (bT V):=Sat.flat (f:=bT) hps.right hVp;have hpo:cd V.cv V.chs:=(HH.b.paths.rows p hpm).2 V hVp;obtain⟨sl,cap,hcv,e2,e3,hcell⟩:=gh hvf.tail hpo;have v2:w1.cell? ⟨V.blk,2,none⟩=some (.slice sl V.chs.length cap):=by rw[<- hcv];exact aa hvf.Q5 2 rfl
  have hvl:=ac hvf.Q5
  have hcl:V.chs.length<=90000:=by
   have h1:=((HH.c.vers p hpm).2.2 V hVp).2.1;have:=HH.x;omega
  have HV:=Hq7 hV hpm hVp hT1 hcell hpo hcv;clear hp hs hV hpm hpk hVp hT1 hps hvf hpo hcv hcell;unfold ee;go_wp2_with fail;go_loopw [10,30] (fun out i wr=>KY S V w out i wr) (fun _ i _=>V.chs.length-(intOf i).toNat)
  case atStart=>exact⟨0,S.A.spare,[],Nat.zero_le _,rfl,jy,HH.b.area,by rw[append_nil];exact HV.d⟩
  case round =>
   obtain⟨j,sp,J,hj,rfl,hbo,hAo,hT⟩:=hrel;have HR:=Hq3 hbo hAo hT;clear hbo hAo hT;by_cases hlt:j<V.chs.length
   ·obtain⟨hver,hcells⟩:=GG HH.b HV.b HV.c HV.u (W:=wr) (HR.y.sat.sub (fun x=>by simp only[arF,ao,ah]<;>omega));obtain⟨g,off,hg,hcell⟩:=hcells (by rw[gi];omega);subst hg;obtain⟨hc1,hc2⟩:=qb hcell hlt;obtain⟨q,hq⟩:∃q,q=V.chs[j]:=⟨_,rfl⟩;rw[<- hq]at hc1 hc2;have hbK:=KJ HH.b HV.b HV.c (q:=q) (by rw[hq];exact getElem_mem hlt);obtain⟨bo,hbo⟩:∃bo,bo=bm S.K q:=⟨_,rfl⟩;rw[<- hbo]at hbK;have hq2:q.2=bo.length:=(HH.b.kat _ hbK).1;have hbody:=(HH.b.kat _ hbK).2.Qe HH.b.dat
    have htk:(V.chs.take (j+1)).flatMap (bm S.K)=(V.chs.take j).flatMap (bm S.K)++bo:=by
     rw[QH hlt,flatMap_append,hbo,hq];simp
    have hlen:((V.chs.take j).flatMap (bm S.K)).length+bo.length<=137438953472:=by
     have h1:((V.chs.take (j+1)).flatMap (bm S.K)).length<=(da S V).length:=by
      unfold da;conv=>rhs;rw[<- take_append_drop (j+1) V.chs,flatMap_append,length_append]
      omega
     rw[lj HH.b HV.b HV.c,htk,length_append]at h1;have h2:=((HH.c.vers p HV.b).2.2 V HV.c).2.2.1;have:=HH.x;omega
    obtain⟨B8,hB8⟩:∃B8,B8=wr.heap.size:=⟨_,rfl⟩;obtain⟨bs,hbs⟩:∃bs,bs=(V.chs.take j).flatMap (bm S.K):=⟨_,rfl⟩;rw[<- hbs]at htk hlen HR
    have hT8:Turns (arF S) (aq S.X.ab S.X.d { S.A with spare:=sp }++((B8,Is (aG q))::(aI u10 bs++((S.a,Is (aH S.X))::(az S.X.d S.L++(aF S.X.pm S.ps S.pc++(b8 S.X.tm S.ts S.tc++(aM S.X.cm S.cs S.cc++J)))))))) w (wr.alloc (aG q)):=by
     rw[hB8];exact(HR.y.Q8 (aG q)).to (by unfold arF;exact ae)
    have HLd:=qqH (oZ S.a S.X S.X.ab S.X.d rfl { S.A with spare:=sp } S.L q.1 bo _ (wr.alloc (aG q)) hT8.sat (fun x=>by simp only[ao,ah];omega) HH.b.dev HR.b HH.b.fits HH.b.nmax hbody);rw[<- hq2]at HLd;have HQ:=Hq6 hbK hq2 htk hlen hT8 hB8;clear hver hcells hcell hq hbK hbo hq2 hbody htk hlen hT8 hB8 hbs;go_wp2_with fail;refine HLd.out.mono ?_;rintro e w4 ⟨av,cv,sp2,rfl,hok4,hAo4,hT4⟩;have hT5:=HQ.e.trans hT4;obtain⟨av',cv',hev,-,-,hav,-⟩:=aP (dr hT4.sat.left hok4);simp only[Value.slice.injEq,true_and]at hev;obtain⟨rfl,rfl⟩:=hev;rw[<- HQ.v];have hT6:Turns (arF S) (aI u10 bs++(arF { S with A:={ S.A with spare:=sp2 } }++((B8,Is (aG q))::(aI (.slice av bo.length cv) bo++J)))) w w4:=hT5.to (by unfold arF;exact ae);have H4:=Hq3 hAo4 hT6 hav;clear hok4 hAo4 hT4 hT5 hav hT6;go_wp2_with ((refine ai rfl (go (.tmp 43) (.tmp 44) rfl u10 bs rfl H4.b HR.a av bo.length cv rfl bo rfl H4.y HQ.d ?_);intro av2 cv2 w6 hok6 hT6 _));go_roundw
    case rel =>
     refine⟨j+1,sp2,(B8,Is (aG q))::(aI (.slice av bo.length cv) bo++J),by omega,by go_num,?_,H4.a,?_⟩
     ·rw[HQ.c];rw[length_append]at hok6;exact hok6
     ·rw[HQ.c];rw[length_append]at hT6;exact hT6
    case measure=>simp[intOf];omega
   ·obtain rfl:j=V.chs.length:=by omega
    rw[take_length]at HR;go_wp2_with fail;go_ret2;refine (.inr ⟨V,u10,sp,HV.a,rfl,HR.a,HR.b,?_⟩);exact HR.y.drop (fun x=>by unfold da;simp only[ah];omega)
end
end Go.Proofs.YtdhobpbngkainaaGreatDoor
