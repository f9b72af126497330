/- Ours. A part of the proof, made small by a program. -/
import Derived.Test.YtdhobpbngkainaaGreatDoorFl06
set_option maxRecDepth 100000
set_option maxHeartbeats 4000000
namespace Go.Proofs.YtdhobpbngkainaaGreatDoor
open List
section
open Go.RowKit Go.Maps
def nR(vs:List RVer)(k:Nat):List RVer:=vs.take k++vs.drop (k+1)
def Du(R:RefL)(k:Nat)(v':Value):RefL:={ R with vv:=v',vs:=nR R.vs k }
theorem Bd{R:RefL}{P:dE}{w W:World}(h:RefAt R P w){G:HF}(hT:Turns (aN R) (G++aN R) w W){sl:Option Addr}{cap:Nat}(e1:R.vv=.slice sl R.vs.length cap):
  W.cell? ⟨R.blk,0,none⟩=some (.slice sl R.vs.length cap)/\R.blk<W.heap.size/\(∀k,al W sl (bA (R.vs.take k)))/\(∀k,k<=R.vs.length->al W (if cap=k then sl else sl.map (·.add (k*4))) (bA (R.vs.drop k))):=by
 have hs:=hT.sat.right;obtain⟨sl',cap',e1',-,-,e4',e5'⟩:=xa (Sat.left (Sat.tail hs)) h.ok.vs;rw[e1]at e1';simp only[Value.slice.injEq,true_and]at e1';obtain⟨rfl,rfl⟩:=e1';exact⟨by rw[<- e1];exact aa hs.Q5 0 rfl,ac hs.Q5,e4',e5'⟩
def G9(R:RefL)(k:Nat)(w:World)(e:Ending)(w':World):Prop :=
 ∃v',e=.returned (.tuple #[])/\lV v' (nR R.vs k)/\Turns (aN R) (aN (Du R k v')) w w'
theorem vC(R:RefL)(P:dE)(k:Nat)(w:World)(h:RefAt R P w)(hk:k<R.vs.length):
  Calls Tryz.prog 112 #[.pointer (some ⟨R.blk,0,none⟩),.int .i64 k] w (G9 R k w):=by
 obtain⟨sl,cap,e1,e2,e3,hb,-⟩:=h.row;have c0:w.cell? ⟨R.blk,0,none⟩=some (.slice sl R.vs.length cap):=by rw[<- e1];exact aa hb 0 rfl
 have hbl:=ac hb;have hlen:=h.len;have hone:=h.one;have hT0:Turns (aN R) ([]++aN R) w w:=Turns.refl h.ref;obtain⟨-,-,d2,-⟩:=Bd h hT0 e1;obtain⟨k1,hk1⟩:∃k1,k1=k+1:=⟨_,rfl⟩;have hk1z:(k:Int)+1=(k1:Int):=by omega
 have hk1l:k1<=R.vs.length:=by omega
 have hkl:k<=R.vs.length:=by omega
 have hk1c:k1<=cap:=by omega
 have HRF:=qqH (fun(W:World) (G:HF) (hT:Turns (aN R) (G++aN R) w W)=>Bd h hT e1);have HH:=Hq5 h hT0 d2 hone hk1;clear h hT0 d2 hone hk1 e1 hb;go_enter Tryz.func112,Tryz.ntmps112
 go_wp2_with (first
  | (at_builtin;refine ai rfl ?_;refine ik (.tmp 5) (.tmp 11) rfl (.slice none 0 0) [] rfl (G:=aN R) (show Turns (aN R) (eu (.slice none 0 0) []++aN R) w w from HH.b) ⟨rfl,fun _=>⟨rfl,rfl⟩⟩ _ _ _ rfl (R.vs.take k) (by rw[length_take,Nat.min_eq_left hkl]) (HH.c k) (fun v hv=>HH.d v (mem_of_mem_take hv)) (by rw[length_take,Nat.min_eq_left hkl];simp;omega) ?_;intro v7 w7 hok7 hT7;simp only[nil_append]at hok7 hT7;obtain⟨d0,d1,-,d3⟩:=HRF.out _ _ hT7;have H7:=Hq3 hok7 hT7 d3;clear hok7 hT7 d3)
  | (at_builtin;refine ai rfl ?_;refine ik (.tmp 13) (.tmp 20) rfl v7 (R.vs.take k) rfl H7.b H7.a _ _ _ rfl (R.vs.drop k1) (by rw[length_drop]) (H7.y k1 hk1l) (fun v hv=>HH.d v (mem_of_mem_drop hv)) (by simp;omega) ?_;intro v9 w9 hok9 hT9;obtain⟨d0,d1,-,-⟩:=HRF.out _ _ hT9;have hv9:=dl hT9.sat.left hok9;have H9:=Hq3 hok9 hT9 hv9;clear hok9 hT9 hv9)
  | (refine ai rfl (bu 57 (.tmp 25) (.tmp 23) rfl R.blk 0 (dk R) 60 v9 (H9.b.to (H:=(R.blk,Is (jH R))::(eu v9 (R.vs.take k++R.vs.drop k1)++(eu R.vv R.vs++fc R.tv R.ts))) (by unfold aN;exact ae)) rfl rfl (by simp[dk]) (by kernel_rfl) H9.c H9.d ?_);intro w10 hT10;have H10:=qqH hT10;clear hT10;simp only[Act.put]))
 all_goals
  refine bodyPost_end (results_none rfl _ _ _) rfl ?_;have hk1:=HH.w;refine⟨v9,rfl,?_,?_⟩
  ·unfold nR;rw[<- hk1];exact H9.a
  ·refine H10.out.drop (fun x=>?_);unfold aN Du nR;rw[<- hk1,show jH { R with vv:=v9,vs:=R.vs.take k++R.vs.drop k1 }=.cells ((dk R).setIfInBounds 0 v9) 60 (0,0)from rfl];simp only[ao,ah];omega
theorem lT{R:RefL}{p:Bs}{n:Int}{v:RVer}(h:oh R p n=some v):∃k:Nat,bW R.vs p n R.vs.length=k/\∃hk:k<R.vs.length,R.vs[k]=v:=by
 unfold oh at h;split at h
 ·rename_i h0;obtain⟨k,hk⟩:∃k:Nat,bW R.vs p n R.vs.length=k:=⟨_,(Int.toNat_of_nonneg h0).symm⟩;rw[hk,Int.toNat_natCast]at h;obtain⟨hlt,he⟩:=List.getElem?_eq_some_iff.1 h;exact⟨k,hk,hlt,he⟩
 ·cases h
theorem gj{R:RefL}{p:Bs}{n:Int}{v:RVer}(h:cz R p n=.ok v):R.closed=false/\aw p=true/\oh R p n=some v:=by
 unfold cz at h;split at h
 ·cases h
 ·rename_i hc;split at h
  ·rename_i hp;split at h
   ·rename_i v' hv;simp only[Except.ok.injEq]at h;subst h;exact⟨by simpa using hc,hp,hv⟩
   ·cases h
  ·cases h
def Ha(R:RefL)(p:Bs)(n:Int)(w:World)(e:Ending)(w':World):Prop :=
 (∃k,cz R p n=.error k/\e=.returned (.int .i64 k)/\Turns (aN R) (aN R) w w') \/
 (∃v,cz R p n=.ok v/\0<v.held/\e=.returned (.int .i64 5)/\Turns (aN R) (aN R) w w') \/
 (∃k v',∃hk:k<R.vs.length,cz R p n=.ok R.vs[k]/\bW R.vs p n R.vs.length=k/\R.vs[k].held<=0/\e=.returned (.int .i64 0)/\lV v' (nR R.vs k)/\Turns (aN R) (aN (Du R k v')) w w')
theorem og(R:RefL)(P:dE)(p:Bs)(n:Int)(w:World)(h:RefAt R P w):
  Calls Tryz.prog 63 #[.pointer (some ⟨R.blk,0,none⟩),str p,.int .i64 n] w (Ha R p n w):=by
 have HG:=qqH (ph R P p n w h);have HH:=qqH h;clear h;go_enter Tryz.func63,Tryz.ntmps63;go_wp2_with fail;refine HG.out.mono ?_;rintro e w1 ⟨hs,hm⟩
 cases hr:cz R p n with
 | error k =>
  rw[hr]at hm;subst hm;have hk0:=jP hr;have HR:=Hq2 hr hs;clear hr hs;go_wp2_with fail;go_ret;refine (.inl ⟨k,HR.a,rfl,Turns.same HH.out.ref HR.z⟩)
 | ok v =>
  rw[hr]at hm;obtain⟨rfl,-⟩:=hm;obtain⟨-,-,hf⟩:=gj hr;obtain⟨k,hb,hk,hv⟩:=lT hf;have hA1:=HH.out.same hs;have hcv:=hA1.one v (hv ▸ getElem_mem hk);have HFi:=qqH (kB R P p n w1 hA1);have HR:=Hq4 hr hs hb hv;clear hr hs hf hb hA1 hcv;go_wp2_with fail;refine HFi.out.mono ?_;rintro e w2 ⟨rfl,hs2⟩;rw[HR.c];have hA2:=HH.out.same (HR.b.trans hs2);obtain⟨sl,cap,e1,e2,e3,hbo,hcell⟩:=hA2.row;obtain⟨g,off,hg,hcc⟩:=hcell (by omega);subst hg;obtain⟨-,-,-,h3⟩:=hcc k hk;rw[HR.x]at h3;have c0:w2.cell? ⟨R.blk,0,none⟩=some (.slice (some ⟨g,off,none⟩) R.vs.length cap):=by rw[<- e1];exact aa hbo 0 rfl
  have hbl:=ac hbo;have hgl:=World.block_lt_of_cell? w2 _ h3;have HS:=Hq2 (HR.b.trans hs2) hA2;have HRm:=qqH (vC R P k w2 hA2 hk);clear hs2 hA2 e1 hbo hcell hcc;by_cases c1:0<v.held
  ·go_wp2_with fail;go_ret;refine (.inr (.inl ⟨v,HR.a,c1,rfl,Turns.same HH.out.ref HS.a⟩))
  ·go_wp2_with fail;refine HRm.out.mono ?_;rintro e w3 ⟨v',rfl,hv',hT⟩;have HT:=Hq2 hv' hT;clear hv' hT;go_wp2_with fail;go_ret;refine (.inr (.inr ⟨k,v',hk,by rw[HR.x];exact HR.a,HR.c,by rw[HR.x];omega,rfl,HT.a,Turns.Qg HH.out.ref HS.a HT.z⟩))
def mu(vs:List RVer)(p:Bs)(n:Int):Option RVer:=if 0<=bW vs p n vs.length then vs[(bW vs p n vs.length).toNat]? else none
def fQ(p:Bs)(s:List RVer×Nat)(n:Int):List RVer×Nat :=
 match mu s.1 p n with
 | some v=>if v.held<=0 then(nR s.1 (bW s.1 p n s.1.length).toNat,s.2+1)else s
 | none=>s
def kT(L:Nat)(keep:Int):Nat:=if keep<0 then L else((L:Int)-keep).toNat
def ie(R:RefL)(v':Value)(vs':List RVer):RefL:={ R with vv:=v',vs:=vs' }
def sU(R:RefL)(P:dE)(p:Bs)(keep:Int)(w:World)(e:Ending)(w':World):Prop :=
 (∃k,cz R p 0=.error k/\e=.returned (.tuple #[.int .i64 0,.int .i64 k])/\Turns (aN R++bh P) (aN R++bh P) w w') \/
 (∃v,cz R p 0=.ok v/\∃vs' c v',((fR R.vs p).take (kT (fR R.vs p).length keep)).foldl (fQ p) (R.vs,0)=(vs',c)/\e=.returned (.tuple #[.int .i64 (c:Nat),.int .i64 0])/\lV v' vs'/\Turns (aN R++bh P) (aN (ie R v' vs')++bh P) w w')
def B4(R:RefL)(P:dE)(p:Bs)(ns:List Int)(m:Nat)(nv:Value)(w:World)(cv i _f:Value)(W:World):Prop :=
 ∃(j c:Nat) (vs':List RVer) (v':Value),j<=m/\i=.int .i64 j/\cv=.int .i64 c/\(ns.take j).foldl (fQ p) (R.vs,0)=(vs',c)/\lV v' vs'/\(∀v∈vs',v∈R.vs)/\vs'.length<=R.vs.length/\c<=j/\Turns (aN R++bh P) ((aN (ie R v' vs')++bh P)++cA nv ns) w W
theorem zN{vs:List RVer}{k:Nat}:∀v∈nR vs k,v∈vs:=fun v hv=>by
 rcases mem_append.1 hv with h|h
 ·exact mem_of_mem_take h
 ·exact mem_of_mem_drop h
theorem zM{vs:List RVer}{k:Nat}:(nR vs k).length<=vs.length:=by
 unfold nR;rw[length_append,length_take,length_drop];omega
theorem CS{α β:Type}{f:β->α->β}{b:β}{l:List α}{k:Nat}(h:k<l.length):(l.take (k+1)).foldl f b=f ((l.take k).foldl f b) l[k]:=by
 rw[QH h,foldl_append];rfl
theorem yu(R:RefL)(P:dE)(p:Bs)(keep:Int)(w:World)(h:RefAt R P w)(hJ:Sat w (aN R++bh P))(hkr : -9223372036854775808<=keep/\keep<=9223372036854775807):
  Calls Tryz.prog 65 #[.pointer (some ⟨R.blk,0,none⟩),str p,.int .i64 keep] w (sU R P p keep w):=by
 have HN:=qqH (ux R P p w h);have hlenR:=h.len;have HH:=Hq2 h hJ;clear h hJ;go_enter Tryz.func65,Tryz.ntmps65;go_wp2_with fail;refine HN.out.mono ?_;intro e w1 hp;unfold jx at hp
 cases hr:cz R p 0 with
 | error k =>
  rw[hr]at hp;obtain⟨hs,rfl⟩:=hp;have hk0:=jP hr;have HR:=Hq2 hr hs;clear hr hs;go_wp2_with fail;go_ret2;refine (.inl ⟨k,HR.a,rfl,Turns.same HH.z HR.z⟩)
 | ok v0 =>
  rw[hr]at hp;obtain⟨nv,rfl,hio,hT⟩:=hp;obtain⟨ns,hns⟩:∃ns,ns=fR R.vs p:=⟨_,rfl⟩;rw[<- hns]at hio hT;have hnl:ns.length<=100000:=by rw[hns];have:=wO R.vs p;omega
  have hT1:Turns (aN R++bh P) ((aN R++bh P)++cA nv ns) w w1:=((Turns.refl HH.z).Qb hT).to perm_append_comm;obtain⟨na,nc,hnv,-⟩:=aP (aR hT1.sat.right hio);obtain⟨m,hm⟩:∃m,m=kT ns.length keep:=⟨_,rfl⟩;have hml:m<=ns.length:=by rw[hm];unfold kT;split<;>omega
  obtain⟨-,hpath,-⟩:=gj hr;have HR:=Hq6 hr hns hT1 hio hm hpath;have hst:B4 R P p ns m (.slice na ns.length nc) w (.int .i64 0) (.int .i64 0) undef w1:=⟨0,0,R.vs,R.vv,Nat.zero_le _,rfl,rfl,rfl,HH.a.ok.vs,fun v h=>h,Nat.le_refl _,Nat.le_refl _,by rw[<- hnv];exact hT1⟩;have HST:=qqH hst;subst hnv;clear hr hns hT hT1 hio hst hpath;go_wp2_with fail;go_loopw [10,11,12] (fun cv i f wr=>B4 R P p ns m (.slice na ns.length nc) w cv i f wr) (fun _ i _ _=>m-(intOf i).toNat)
  case atStart=>exact HST.out
  case round =>
   obtain⟨j,c,vs',v',hj,rfl,rfl,hf,hv',hsub,hle,hcj,hT⟩:=hrel;have hA:RefAt (ie R v' vs') P wr:=⟨hT.sat.left.left,⟨hv',HH.a.ok.ts⟩,hT.sat.left.right,HH.a.pok,fun v hv=>HH.a.inp v (hsub v hv),by show vs'.length<=_;omega,fun v hv=>HH.a.clen v (hsub v hv)⟩;have HS:=Hq5 hf hv' hsub hT hA;clear hf hv' hsub hT hA;by_cases hlt:j<m
   ·have hjn:j<ns.length:=by omega
    obtain⟨a',c',e1,-,-,hcells,-⟩:=aP (aR HS.d.sat.right HR.d);simp only[Value.slice.injEq]at e1;obtain⟨rfl,-,-⟩:=e1;obtain⟨g,off,hg,hcell⟩:=hcells (by rw[length_map];omega);subst hg;obtain⟨n,hn⟩:∃n,n=ns[j]:=⟨_,rfl⟩;have hck:wr.cell? ⟨g,off+j,none⟩=some (.int .i64 n):=by rw[hcell j (by simpa using hjn)];simp[hn,dQ]
    have hgl:=World.block_lt_of_cell? wr _ hck;have HD:=qqH (og (ie R v' vs') P p n wr HS.w);have hfn:=CS (f:=fQ p) (b:=(R.vs,0)) hjn;rw[HS.a,<- hn]at hfn;have HFN:=qqH hfn;clear hcells hcell hn hfn
    have hgo:∀(W':World) (f:Int) (s':List RVer×Nat) (v2:Value),fQ p (vs',c) n=s'->(s'.2:Int)=(if f=0 then(c:Int)+1 else(c:Int))->lV v2 s'.1->(∀v∈s'.1,v∈R.vs)->s'.1.length<=R.vs.length->Turns (aN R++bh P) ((aN (ie R v2 s'.1)++bh P)++cA (.slice (some ⟨g,off,none⟩) ns.length nc) ns) w W'->∀fv,B4 R P p ns m (.slice (some ⟨g,off,none⟩) ns.length nc) w (.int .i64 (if f=0 then(c:Int)+1 else(c:Int))) (.int .i64 ((j:Int)+1)) fv W':=fun W' f s' v2 h1 h2 h3 h4 h5 h6 fv=>by
     refine⟨j+1,s'.2,s'.1,v2,by omega,by go_num,by rw[h2],by rw[HFN.out,h1],h3,h4,h5,?_,h6⟩;split at h2<;>omega
    have HGO:=qqH hgo;clear hgo;have hc1:(j:Int)<(ns.length:Int):=by omega
    by_cases hkn:keep<0
    ·go_wp2_with fail;refine HD.out.mono ?_;rintro e w2 (⟨k,hk,rfl,hT⟩|⟨v,hv,hpos,rfl,hT⟩|⟨k,v2,hk,hg2,hb,hh,rfl,hv2,hT⟩)
     ·have hk0:=jP hk
      have hnf:mu vs' p n=none:=by
       have:=hk;unfold cz at this;rw[show(ie R v' vs').closed=false from(gj HR.a).1,if_neg (by simp),if_pos HR.v]at this
       cases hf:mu vs' p n with
       | none=>rfl
       | some v=>rw[show oh (ie R v' vs') p n=some v from hf]at this;cases this
      have HX:=qqH (HGO.out w2 k (vs',c) v' (by unfold fQ;simp only[hnf]) (by rw[if_neg hk0]) HS.b HS.c hle ((HS.d.step (F:=aN (ie R v' vs')) (R:=bh P++cA (.slice (some ⟨g,off,none⟩) ns.length nc) ns) ae hT).to ae));rw[if_neg hk0]at HX;clear hT hnf hk;go_wp2_with fail;go_roundw
      case rel=>exact HX.out _
      case measure=>simp[intOf];omega
     ·obtain⟨k,hb,hk,hvk⟩:=lT (gj hv).2.2;have hnf:mu vs' p n=some v:=(gj hv).2.2;have HX:=qqH (HGO.out w2 5 (vs',c) v' (by unfold fQ;simp only[hnf];rw[if_neg (by omega)]) (by rw[if_neg (by omega)]) HS.b HS.c hle ((HS.d.step (F:=aN (ie R v' vs')) (R:=bh P++cA (.slice (some ⟨g,off,none⟩) ns.length nc) ns) ae hT).to ae));rw[if_neg (by omega)]at HX;clear hT hnf hv hb hk hvk;go_wp2_with fail;go_roundw
      case rel=>exact HX.out _
      case measure=>simp[intOf];omega
     ·have hnf:mu vs' p n=some (ie R v' vs').vs[k]:=(gj hg2).2.2;have hb2:bW vs' p n vs'.length=k:=hb;have HX:=qqH (HGO.out w2 0 (nR vs' k,c+1) v2 (by unfold fQ;simp only[hnf];rw[if_pos hh,hb2,Int.toNat_natCast]) (by rw[if_pos rfl];rfl) hv2 (fun v hv=>HS.c v (zN v hv)) (Nat.le_trans zM hle) ((HS.d.step (F:=aN (ie R v' vs')) (R:=bh P++cA (.slice (some ⟨g,off,none⟩) ns.length nc) ns) ae hT).to (by unfold Du ie;exact ae)));rw[if_pos rfl]at HX;clear hT hnf hb2 hb hg2 hh hv2;go_wp2_with fail;go_roundw
      case rel=>exact HX.out _
      case measure=>simp[intOf];omega
    ·have hc2:(j:Int)<(ns.length:Int)-keep:=by rw[show m=_ from HR.e]at hlt;unfold kT at hlt;rw[if_neg hkn]at hlt;omega
     go_wp2_with fail;refine HD.out.mono ?_;rintro e w2 (⟨k,hk,rfl,hT⟩|⟨v,hv,hpos,rfl,hT⟩|⟨k,v2,hk,hg2,hb,hh,rfl,hv2,hT⟩)
     ·have hk0:=jP hk
      have hnf:mu vs' p n=none:=by
       have:=hk;unfold cz at this;rw[show(ie R v' vs').closed=false from(gj HR.a).1,if_neg (by simp),if_pos HR.v]at this
       cases hf:mu vs' p n with
       | none=>rfl
       | some v=>rw[show oh (ie R v' vs') p n=some v from hf]at this;cases this
      have HX:=qqH (HGO.out w2 k (vs',c) v' (by unfold fQ;simp only[hnf]) (by rw[if_neg hk0]) HS.b HS.c hle ((HS.d.step (F:=aN (ie R v' vs')) (R:=bh P++cA (.slice (some ⟨g,off,none⟩) ns.length nc) ns) ae hT).to ae));rw[if_neg hk0]at HX;clear hT hnf hk;go_wp2_with fail;go_roundw
      case rel=>exact HX.out _
      case measure=>simp[intOf];omega
     ·obtain⟨k,hb,hk,hvk⟩:=lT (gj hv).2.2;have hnf:mu vs' p n=some v:=(gj hv).2.2;have HX:=qqH (HGO.out w2 5 (vs',c) v' (by unfold fQ;simp only[hnf];rw[if_neg (by omega)]) (by rw[if_neg (by omega)]) HS.b HS.c hle ((HS.d.step (F:=aN (ie R v' vs')) (R:=bh P++cA (.slice (some ⟨g,off,none⟩) ns.length nc) ns) ae hT).to ae));rw[if_neg (by omega)]at HX;clear hT hnf hv hb hk hvk;go_wp2_with fail;go_roundw
      case rel=>exact HX.out _
      case measure=>simp[intOf];omega
     ·have hnf:mu vs' p n=some (ie R v' vs').vs[k]:=(gj hg2).2.2;have hb2:bW vs' p n vs'.length=k:=hb;have HX:=qqH (HGO.out w2 0 (nR vs' k,c+1) v2 (by unfold fQ;simp only[hnf];rw[if_pos hh,hb2,Int.toNat_natCast]) (by rw[if_pos rfl];rfl) hv2 (fun v hv=>HS.c v (zN v hv)) (Nat.le_trans zM hle) ((HS.d.step (F:=aN (ie R v' vs')) (R:=bh P++cA (.slice (some ⟨g,off,none⟩) ns.length nc) ns) ae hT).to (by unfold Du ie;exact ae)));rw[if_pos rfl]at HX;clear hT hnf hb2 hb hg2 hh hv2;go_wp2_with fail;go_roundw
      case rel=>exact HX.out _
      case measure=>simp[intOf];omega
   ·obtain rfl:j=m:=by omega
    have hfin:sU R P p keep w (.returned (.tuple #[.int .i64 (c:Nat),.int .i64 0])) wr:=.inr ⟨v0,HR.a,vs',c,v',by rw[<- HR.b,<- HR.e];exact HS.a,rfl,HS.b,HS.d.left⟩;have HF:=qqH hfin;clear hfin;have hmv:j=kT ns.length keep:=HR.e;unfold kT at hmv;by_cases hc1:(j:Int)<(ns.length:Int)
    ·have hkn:¬keep<0:=fun h=>by rw[if_pos h]at hmv;omega
     have hc2:¬(j:Int)<(ns.length:Int)-keep:=by rw[if_neg hkn]at hmv;omega
     clear hmv;go_wp2_with fail;go_ret2;exact HF.out
    ·clear hmv;go_wp2_with fail;go_ret2;exact HF.out
def BQ(S:AS)(p:Bs)(n:Int)(w:World)(e:Ending)(w':World):Prop :=
 (∃k,ip S p n k/\e=.returned (cO k)/\Turns (arF S) (arF S) w w') \/
 (∃V,gB S p n V/\((0<V.held/\e=.returned (cO 5)/\Turns (arF S) (arF S) w w')\/(V.held<=0/\jV S p [(V.num:Int)] [] w e w')))
theorem Iz(w:World)(x:Int):Turns [] (cA (.slice (some ⟨w.heap.size,0,none⟩) 1 1) [x]) w (w.alloc (.cells #[.int .i64 x] 3))/\iOk (.slice (some ⟨w.heap.size,0,none⟩) 1 1) [x]:=by
 refine⟨?_,rfl,fun h=>by simp[Value.ownBlock]at h⟩;exact(Turns.refl (Sat.nil w)).Qd (φ:=fun o=>∃cap cur,(Value.slice (some ⟨w.heap.size,0,none⟩) 1 1)=.slice (some ⟨w.heap.size,0,none⟩) 1 cap/\o=.cells cur 3 (0,0)/\1<=cap/\cap<=maxLen/\cur.size=cap*1/\cur.toList.take (1*1)=[dQ x]) ⟨1,#[.int .i64 x],rfl,rfl,by omega,by unfold maxLen;omega,rfl,rfl⟩
theorem jV.less{S:AS}{p:Bs}{ns:List Int}{J F:HF}{a w:World}{e:Ending}{w':World}(h0:Turns F (arF S++J) a w)(h:jV S p ns J w e w'):
  (128*S.A.count<S.data.length+(frame 3 (dZ p ns)).length/\e=.returned (cO 8)/\Turns F (arF S++J) a w') \/
  (S.data.length+(frame 3 (dZ p ns)).length<=128*S.A.count/\e=.returned .nilIface/\∃v' L',RecIs S L' (frame 3 (dZ p ns))/\eP v' (dD ns (af S.ps p))/\Turns F (arF (ib S p ns v' L')++J) a w'):=by
 rcases h with⟨h1,h2,h3⟩|⟨h1,h2,v',L',h3,h4,h5⟩
 ·exact .inl ⟨h1,h2,h0.trans h3⟩
 ·exact .inr ⟨h1,h2,v',L',h3,h4,h0.trans h5⟩
theorem xA(S:AS)(l:Bs)(n:Int)(b:Nat)(w:World)(h:Sat w (arF S))(hok:ArOk S)(hB:ArB S b)(hb:b<=90000):
  Calls Tryz.prog 62 #[.pointer (some ⟨S.a,0,none⟩),str l,.int .i64 n] w (BQ S l n w):=by
 have HF:=qqH (lJ S.a S.X S.ps S.pc l n w h.Q5 (h.tail.right.right.left) hok.paths);have HH:=Hq4 h hok hB hb;clear h hok hB hb;go_enter Tryz.func62,Tryz.ntmps62;go_wp2_with fail;refine HF.out.mono ?_;intro e w1 hp;obtain⟨hs,⟨k,hk,rfl⟩|⟨V,hV,rfl⟩⟩:=lK hp
 ·have HK:=Hq2 hk hs;clear hp hs hk;unfold cO;go_wp2_with fail;exact bodyPost_ret (results_tmp rfl _ _ _) rfl (.inl ⟨k,HK.a,rfl,(Turns.same HH.a HK.z)⟩)
 ·obtain⟨p,hpm,hpk,hVp⟩:=sH hV.2.2;have hT1:Turns (arF S) (arF S) w w1:=Turns.same HH.a hs;have hps:Sat w1 (er p.val p.g):=Sat.flat (f:=fun p:aW=>er p.val p.g) (hT1.sat.tail.right.right.left).tail hpm;have hvo:=(Sat.flat (f:=bT) hps.right hVp:Sat w1 (bT V)).Q5;have v0:w1.cell? ⟨V.blk,0,none⟩=some (.int .i64 V.num):=aa hvo 0 rfl;have v3:w1.cell? ⟨V.blk,3,none⟩=some (.int .i64 V.held):=aa hvo 3 rfl;have hvl:=ac hvo;have hnum:=(((HH.c.vers p hpm).2.2 V hVp).1);have hne:af S.ps l≠[]:=fun e=>by have:=hV.2.2;rw[e]at this;cases this
  have HV:=Hq3 hV hT1 hne;have HB:=qqH HH.x;clear hp hs hV hT1 hps hvo hpm hpk hVp hne;unfold ee;by_cases c1:0<V.held
  ·go_wp2_with fail;go_ret;refine (.inr ⟨V,HV.a,.inl ⟨c1,rfl,HV.b⟩⟩)
  ·have hrow:=Iz w1 V.num;have hT2:Turns (arF S) (arF S++cA (.slice (some ⟨w1.heap.size,0,none⟩) 1 1) [(V.num:Int)]) w (w1.alloc (.cells #[.int .i64 V.num] 3)):=(HV.b.Qb hrow.1).to perm_append_comm;have HR:=qqH (qh S HH.b b HH.c HH.x l (.slice (some ⟨w1.heap.size,0,none⟩) 1 1) [(V.num:Int)] _ hT2.sat hrow.2 (by have:=bP HV.a.2.1;omega) (fun x hx=>by rw[mem_singleton.1 hx];unfold I64;have:=HB.out;omega) (by simp) HV.y);have H2:=qqH hT2;clear hrow hT2;go_wp2_with fail;refine HR.out.mono ?_;intro e w2 hp;rcases hp.less H2.out with⟨h1,rfl,h3⟩|⟨h1,rfl,v',L',h3,h4,h5⟩
   ·have H3:=Hq2 h1 h3;clear hp h1 h3;unfold cO;go_wp2_with fail;go_ret;refine (.inr ⟨V,HV.a,.inr ⟨by omega,.inl ⟨H3.a,rfl,?_⟩⟩⟩);rw[append_nil];exact H3.z.left
   ·have H3:=Hq4 h1 h3 h4 h5;clear hp h1 h3 h4 h5;go_wp2_with fail;go_ret;refine (.inr ⟨V,HV.a,.inr ⟨by omega,.inr ⟨H3.a,rfl,v',L',H3.b,H3.c,?_⟩⟩⟩);rw[append_nil,append_nil];exact H3.x.left
def kt(V:VerL):Bool:=decide (V.held=0)
def cW(vs:List VerL)(keep:Int):List Int:=kR ((vs.take (vs.length-(min (max keep 0) (vs.length:Int)).toNat)).filter kt)
def EZ(S:AS)(p:Bs)(keep:Int)(w:World)(e:Ending)(w':World):Prop :=
 (∃k,ip S p 0 k/\e=.returned (.tuple #[.int .i64 0,cO k])/\Turns (arF S) (arF S) w w') \/
 (∃V,gB S p 0 V/\((128*S.A.count<S.data.length+(frame 3 (dZ p (cW (af S.ps p) keep))).length/\e=.returned (.tuple #[.int .i64 0,cO 8])/\Turns (arF S) (arF S) w w') \/
  (S.data.length+(frame 3 (dZ p (cW (af S.ps p) keep))).length<=128*S.A.count/\e=.returned (.tuple #[.int .i64 (cW (af S.ps p) keep).length,.nilIface]) /\
   ∃v' L',RecIs S L' (frame 3 (dZ p (cW (af S.ps p) keep)))/\eP v' (dD (cW (af S.ps p) keep) (af S.ps p))/\Turns (arF S) (arF (ib S p (cW (af S.ps p) keep) v' L')) w w')))
def G7(S:AS)(vs:List VerL)(m:Nat)(w:World)(out i _v:Value)(W:World):Prop :=
 ∃(j:Nat) (J:HF),j<=m/\i=.int .i64 j/\iOk out (kR ((vs.take j).filter kt))/\Turns (arF S) (cA out (kR ((vs.take j).filter kt))++(arF S++J)) w W
theorem zc(S:AS)(l:Bs)(keep:Int)(b:Nat)(w:World)(h:Sat w (arF S))(hok:ArOk S)(hB:ArB S b)(hb:b<=90000)(hvl5:(af S.ps l).length<=15000):
  Calls Tryz.prog 64 #[.pointer (some ⟨S.a,0,none⟩),str l,.int .i64 keep] w (EZ S l keep w):=by
 have HF:=qqH (lJ S.a S.X S.ps S.pc l 0 w h.Q5 (h.tail.right.right.left) hok.paths);have HH:=Hq5 h hok hB hb hvl5;clear h hok hB hb hvl5;go_enter Tryz.func64,Tryz.ntmps64;go_wp2_with fail;refine HF.out.mono ?_;intro e w1 hp;obtain⟨hs,⟨k,hk,rfl⟩|⟨V,hV,rfl⟩⟩:=lK hp
 ·have HK:=Hq2 hk hs;clear hp hs hk;unfold cO;go_wp2_with fail;exact bodyPost_ret (results_tmp2 rfl _ _ _) rfl (.inl ⟨k,HK.a,rfl,(Turns.same HH.a HK.z)⟩)
 ·have hT1:Turns (arF S) (arF S) w w1:=Turns.same HH.a hs;have ha1:=hT1.sat.Q5;have c0:w1.cell? ⟨S.a,0,none⟩=some (.map (some S.X.pm)):=aa ha1 0 rfl;have hpm:=hT1.sat.Q7 (b:=S.X.pm) (o:=aQ str (S.ps.map aO) S.pc) (by simp[arF,aF]);have hal:=ac ha1;obtain⟨sl,cap,e1,e2,e3,e4,-,-⟩:=gV (hT1.sat.tail.right.right.left) HH.b.paths l;obtain⟨vs,hvs⟩:∃vs,vs=af S.ps l:=⟨_,rfl⟩;rw[<- hvs]at e1 e2 e4;have hvl:vs.length<=15000:=by rw[hvs];exact HH.w
  have hOl:OkS l:=by have:=bP hV.2.1;unfold OkS;omega
  have hne:af S.ps l≠[]:=fun e=>by have:=hV.2.2;rw[e]at this;cases this
  obtain⟨k0,hk0⟩:∃k0:Nat,min (max keep 0) (vs.length:Int)=k0:=⟨(min (max keep 0) (vs.length:Int)).toNat,by omega⟩;have hk0l:k0<=vs.length:=by omega
  obtain⟨m,hm⟩:∃m:Nat,(vs.length:Int)-(k0:Int)=(m:Int):=⟨vs.length-k0,by omega⟩;have hmv:m=vs.length-(min (max keep 0) (vs.length:Int)).toNat:=by omega
  have hml:m<=vs.length:=by omega
  have hmc:m<=cap:=by omega
  have HV:=Hq9 hV hT1 hpm e1 e4 hvs hOl hne hmv;clear hp hs hV hT1 ha1 hpm e1 e4 hvs hOl hne hmv;unfold ee;go_wp2_with ((refine ez eb rfl _ _ rfl Tryz.underlying119 HV.c HH.b.paths.map (gz _) l rfl rfl HV.g ?_;rw[cY,HV.d]));clear hk0 hm;go_loopw [11,42,13] (fun out i v wr=>G7 S vs m w out i v wr) (fun _ i _ _=>m-(intOf i).toNat)
  case atStart=>exact⟨0,[],Nat.zero_le _,rfl,sA,by rw[append_nil];exact HV.b⟩
  case round =>
   obtain⟨j,J,hj,rfl,hio,hT⟩:=hrel;obtain⟨ns,hns⟩:∃ns,ns=kR ((vs.take j).filter kt):=⟨_,rfl⟩;rw[<- hns]at hio hT;have HR:=Hq3 hio hT hns;clear hio hT hns;by_cases hlt:j<m
   ·have hltv:j<vs.length:=by omega
    obtain⟨sl2,cap2,e1',-,-,e4',e5',-⟩:=gV (w:=wr) (HR.b.sat.sub (G:=aF S.X.pm S.ps S.pc) (fun x=>by simp only[arF,ao,ah]<;>omega)) HH.b.paths l;rw[HV.d]at e1';simp only[Value.slice.injEq]at e1';obtain⟨rfl,-,rfl⟩:=e1';rw[<- HV.f]at e4' e5';obtain⟨g,off,hg,hcell⟩:=e4' (by rw[length_map];omega);subst hg;have hc1:=hcell j (by rw[length_map];exact hltv);rw[getElem_map]at hc1;obtain⟨U,hU⟩:∃U,U=vs[j]:=⟨_,rfl⟩;rw[<- hU]at hc1;unfold ee at hc1;have hub:=e5' U (by rw[hU];exact getElem_mem hltv);have hc2:wr.cell? ⟨U.blk,0,none⟩=some (.int .i64 U.num):=aa hub 0 rfl;have hc3:wr.cell? ⟨U.blk,3,none⟩=some (.int .i64 U.held):=aa hub 3 rfl
    have htk:kR ((vs.take (j+1)).filter kt)=ns++(if kt U then[(U.num:Int)]else[]):=by
     rw[QH hltv,<- hU,filter_append,HR.y];unfold kR
     cases h:kt U<;>simp[h]
    have hlen:ns.length<=90000:=by rw[HR.y];unfold kR;rw[length_map];have:=length_filter_le kt (vs.take j);rw[length_take]at this;omega
    have HU:=Hq2 htk hlen;clear e4' e5' hcell hU hub htk hlen;by_cases c1:U.held=0
    ·have hfb:kt U=true:=by unfold kt;exact decide_eq_true c1
     have HC:=qqH hfb;clear hfb;go_wp2_with ((at_builtin;refine ai rfl ?_;refine mh (.tmp 51) (.tmp 56) rfl _ ns rfl (HR.b.alloc _) HR.a _ 1 1 rfl [(U.num:Int)] rfl (fun _=>⟨_,rfl,fun j u hu=>iU _ _ _ j u hu⟩) (by have:=HU.z;simp;omega) ?_;intro av cv w5 hok5 hT5;have H5:=Hq2 hok5 hT5;clear hok5 hT5));go_roundw
     case rel =>
      refine⟨j+1,J,by omega,by go_num,?_,?_⟩
      ·rw[HU.a,if_pos HC.out];have:=H5.a;rw[length_append]at this;exact this
      ·rw[HU.a,if_pos HC.out];have:=H5.z;rw[length_append]at this;exact this
     case measure=>simp[intOf];omega
    ·have hfb:¬kt U=true:=by unfold kt;simp[c1]
     have HC:=qqH hfb;clear hfb;go_wp2_with fail;go_roundw
     case rel =>
      refine⟨j+1,J,by omega,by go_num,?_,?_⟩
      ·rw[HU.a,if_neg HC.out,append_nil];exact HR.a
      ·rw[HU.a,if_neg HC.out,append_nil];exact HR.b
     case measure=>simp[intOf];omega
   ·obtain rfl:j=m:=by omega
    obtain⟨oa,oc,ho,-⟩:=aP (aR HR.b.sat.left HR.a);have hpn:ns=cW vs keep:=by unfold cW;rw[HR.y,<- HV.out.2.2.2.2.2.2.2.2]
    have hT2:=HR.b.to (H:=(arF S++cA (.slice oa ns.length oc) ns)++J) (by rw[ho];exact ae);have hnl:ns.length<=15000:=by rw[HR.y];unfold kR;rw[length_map];have:=length_filter_le kt (vs.take j);rw[length_take]at this;omega
    have hI:∀n∈ns,I64 n:=fun n hn=>by
     rw[HR.y]at hn;obtain⟨U,hU,rfl⟩:=mem_map.1 hn;have hU2:=mem_of_mem_take (mem_filter.1 hU).1;rw[HV.f]at hU2;obtain⟨q,hq,-,hqg⟩:=jJ HV.h;have:=((HH.c.vers q hq).2.2 U (hqg ▸ hU2)).1;have:=HH.d;unfold I64;omega
    have HRm:=qqH (qh S HH.b b HH.c HH.d l (.slice oa ns.length oc) ns _ hT2.sat.left (ho ▸ HR.a) (by have:=bP HV.a.2.1;omega) hI hnl HV.h);have H2:=Hq2 hT2 hpn;subst ho;clear hT2 hpn hI;go_wp2_with fail;refine HRm.out.mono ?_;intro e w2 hp;have hvs:=HV.f;have hpn2:ns=cW (af S.ps l) keep:=by rw[<- hvs];exact H2.z
    rcases hp with⟨h1,rfl,h3⟩|⟨h1,rfl,v',L',h3,h4,h5⟩
    ·have H3:=Hq3 h1 (H2.a.step (Perm.refl _) h3) hpn2;clear h1 h3 hvs hpn2;unfold cO;go_wp2_with fail;go_ret2;refine (.inr ⟨V,HV.a,.inl ⟨by rw[<- H3.y];exact H3.a,rfl,H3.b.left.left⟩⟩)
    ·have H3:=Hq5 h1 (H2.a.step (Perm.refl _) h5) hpn2 h3 h4;clear h1 h3 h4 h5 hvs hpn2;go_wp2_with fail;go_ret2;refine (.inr ⟨V,HV.a,.inr ?_⟩);rw[<- H3.c];exact⟨H3.a,rfl,v',L',H3.d,H3.w,H3.b.left.left⟩
def inR(p:Bs)(ns:List Int)(v:RVer):Bool:=decide (v.path=p)&&ns.contains v.num
def eY(vs:List RVer)(p:Bs)(ns:List Int):List RVer:=vs.filter (fun v => !inR p ns v)
def pz(vs:List RVer):Prop:=vs.Pairwise (fun a b=>a.path=b.path->a.num<b.num)
theorem Kw{vs:List RVer}(h:∀p,((aD vs p).map (·.num)).Pairwise (·<·)):pz vs:=by
 unfold pz;rw[pairwise_iff_getElem];intro i j hi hj hij e;have h1:=h vs[j].path;rw[pairwise_map,aD,pairwise_filter]at h1;exact(pairwise_iff_getElem.1 h1) i j hi hj hij (by simp[e]) (by simp)
theorem pz.one{vs:List RVer}(h:pz vs){i j:Nat}(hi:i<vs.length)(hj:j<vs.length)(hp:vs[i].path=vs[j].path)(hn:vs[i].num=vs[j].num):i=j:=by
 have h1:=pairwise_iff_getElem.1 h;rcases Nat.lt_trichotomy i j with hl|hl|hl
 ·have:=h1 i j hi hj hl hp;omega
 ·exact hl
 ·have:=h1 j i hj hi hl hp.symm;omega
theorem pz.gone{vs:List RVer}(h:pz vs)(p:Bs)(ns:List Int):pz (eY vs p ns):=Pairwise.filter _ h
theorem CP{vs:List RVer}{k:Nat}(hk:k<vs.length){f:RVer->Bool}(hf:f vs[k]=false)(ho:∀i (hi:i<vs.length),i≠k->f vs[i]=true):vs.filter f=nR vs k:=by
 have e:vs=vs.take k++vs[k]::vs.drop (k+1):=by rw[<- drop_eq_getElem_cons hk,take_append_drop]
 have h1:(vs.take k).filter f=vs.take k:=filter_eq_self.2 fun v hv=>by
  obtain⟨i,hi,rfl⟩:=getElem_of_mem hv;rw[length_take]at hi;rw[getElem_take];exact ho i (by omega) (by omega)
 have h2:(vs.drop (k+1)).filter f=vs.drop (k+1):=filter_eq_self.2 fun v hv=>by
  obtain⟨i,hi,rfl⟩:=getElem_of_mem hv;rw[length_drop]at hi;rw[getElem_drop];exact ho _ (by omega) (by omega)
 calc vs.filter f=(vs.take k++vs[k]::vs.drop (k+1)).filter f:=by rw[<- e]
  _=nR vs k:=by rw[filter_append,filter_cons_of_neg (by simp[hf]),h1,h2];rfl
theorem zO{vs:List RVer}(h:pz vs){k:Nat}(hk:k<vs.length){p:Bs}{n:Int}(hp:vs[k].path=p)(hn:vs[k].num=n):nR vs k=eY vs p [n]:=by
 refine(CP hk (by simp[inR,hp,hn]) (fun i hi hne=>?_)).symm
 cases hb:inR p [n] vs[i]with
 | false=>rfl
 | true =>
  unfold inR at hb;simp only[Bool.and_eq_true,decide_eq_true_eq,contains_iff_mem,mem_singleton]at hb;exact absurd (h.one hi hk (by rw[hb.1,hp]) (by rw[hb.2,hn])) hne
theorem FE(vs:List RVer)(p:Bs)(ns ms:List Int):eY (eY vs p ns) p ms=eY vs p (ns++ms):=by
 unfold eY inR;rw[filter_filter];refine filter_congr fun v _=>?_
 simp only[contains_eq_mem,mem_append];by_cases h1:v.path=p<;>by_cases h2:v.num∈ns<;>by_cases h3:v.num∈ms<;>simp[h1,h2,h3]
theorem wD(vs:List RVer)(p:Bs)(ns:List Int)(q:Bs):aD (eY vs p ns) q=if q=p then(aD vs p).filter (fun v => !ns.contains v.num)else aD vs q:=by
 unfold aD eY inR;rw[filter_filter];by_cases h:q=p
 ·subst h;rw[if_pos rfl,filter_filter];refine filter_congr fun v _=>?_
  by_cases h1:v.path=q<;>simp[h1]
 ·rw[if_neg h];refine filter_congr fun v _=>?_
  by_cases h1:v.path=q
  ·simp[h1,h]
  ·simp[h1]
theorem FG{ts:List RTag}{t:RTag}(h:t∈ts):1<=iz ts t.path t.num:=by
 unfold iz;have:0<ts.countP (fun x=>decide (x.path=t.path/\x.num=t.num)):=countP_pos_iff.2 ⟨t,h,by simp⟩;omega
def qm(ns:List Int)(l:List kJ):Nat:=((l.filter (fun t=>ns.contains t.1)).map (·.2.1.length)).sum
theorem uS(vs:List RVer)(p:Bs)(ns:List Int):eT vs=eT (eY vs p ns)+qm ns ((aD vs p).map fA):=by
 have h1:(vs.map (·.cont.length)).sum=(((vs.filter (inR p ns))++(vs.filter (fun v => !inR p ns v))).map (·.cont.length)).sum:=((filter_append_perm (inR p ns) vs).symm.map _).sum_nat;rw[map_append,sum_append]at h1
 have h2:qm ns ((aD vs p).map fA)=((vs.filter (inR p ns)).map (·.cont.length)).sum:=by
  unfold qm aD;rw[filter_map,map_map,filter_filter];congr 2;refine filter_congr fun v _=>?_
  unfold inR;show(ns.contains v.num&&_)=_;rw[Bool.and_comm]
 unfold eT eY;omega
theorem ya{S:AS}(hok:ArOk S)(ns:List Int)(p:Bs):bX ns (af S.ps p)=qm ns ((af S.ps p).map (cQ S)):=by
 unfold bX qm;rw[filter_map,map_map];congr 1;refine map_congr_left fun V hV=>?_
 have hV2:V∈af S.ps p:=(mem_filter.1 hV).1;obtain⟨q,hq,-,hg⟩:=bD (ne_nil_of_mem hV2);exact(lj hok hq (hg ▸ hV2)).symm
theorem Link.gone{S:AS}{R:RefL}(L:Link S R)(hok:ArOk S){p:Bs}{ns:List Int}{v' vv:Value}{L':DevL}(hg:∀v∈R.vs,v.path=p->v.num∈ns->v.held<=0):
  Link (ib S p ns v' L') { R with vv:=vv,vs:=eY R.vs p ns } where
 closed:=L.closed
 quota:=L.quota
 used:=by
  show S.X.used-(bX ns (af S.ps p):Nat)=_
  have h1:=uS R.vs p ns
  rw[L.used,ya hok,L.vers]
  simp only
  omega
 vers:=fun q=>by
  show(af (ga S.ps S.pc p v' ns) q).map (cQ S)=_
  simp only
  rw[lH,wD]
  by_cases h:q=p
  ·rw[if_pos h,if_pos h]
   have h1:=congrArg (filter (fun t:kJ => !ns.contains t.1)) (L.vers p)
   rw[filter_map,filter_map]at h1
   exact h1
  ·rw[if_neg h,if_neg h];exact L.vers q
 sorted:=L.sorted.filter _
 asc:=fun q=>by
  have h1:=L.asc q
  simp only
  rw[wD]
  split
  ·rename_i h;subst h;exact h1.sublist (filter_sublist.map _)
  ·exact h1
 each:=fun v hv=>L.each v (mem_filter.1 hv).1
 tags:=L.tags
 tsort:=L.tsort
 teach:=fun t ht=>by
  obtain⟨h1,v,hv,h2,h3⟩:=L.teach t ht
  refine⟨h1,v,mem_filter.2 ⟨hv,?_⟩,h2,h3⟩
  cases hb:inR p ns v with
  | false=>rfl
  | true =>
   unfold inR at hb
   simp only[Bool.and_eq_true,decide_eq_true_eq,contains_iff_mem]at hb
   have h4:=hg v hv hb.1 hb.2
   have h5:1<=iz R.ts t.path t.num:=FG ht
   rw[L.held v hv,h2,h3]at h4
   omega
 held:=fun v hv=>L.held v (mem_filter.1 hv).1
theorem Link.at{S:AS}{R:RefL}(L:Link S R){p:Bs}{n:Int}{V:VerL}(h:gB S p n V){k:Nat}(hk:k<R.vs.length)(hg:cz R p n=.ok R.vs[k]):R.vs[k].path=p/\R.vs[k].num=V.num/\R.vs[k].held=V.held:=by
 obtain⟨v,h1,h2,-,h3⟩:=L.found h;rw[hg]at h1;simp only[Except.ok.injEq]at h1;rw[h1];unfold fA cQ at h2;simp only[Prod.mk.injEq]at h2;exact⟨h3,h2.1,h2.2.2⟩
theorem Link.uniq{S:AS}{R:RefL}(L:Link S R):pz R.vs:=Kw L.asc
theorem Link.delete{S:AS}{R:RefL}(L:Link S R)(hok:ArOk S){p:Bs}{n:Int}{V:VerL}(h:gB S p n V)(hV:V.held<=0){k:Nat}(hk:k<R.vs.length)(hg:cz R p n=.ok R.vs[k]){v' vv:Value}{L':DevL}:
  nR R.vs k=eY R.vs p [(V.num:Int)]/\Link (ib S p [(V.num:Int)] v' L') { R with vv:=vv,vs:=eY R.vs p [(V.num:Int)] }:=by
 obtain⟨h1,h2,h3⟩:=L.at h hk hg;refine⟨zO L.uniq hk h1 h2,L.gone hok (fun v hv hp hn=>?_)⟩;obtain⟨i,hi,rfl⟩:=getElem_of_mem hv;rw[mem_singleton]at hn;obtain rfl:=L.uniq.one hi hk (by rw[hp,h1]) (by rw[hn,h2]);rw[h3];exact hV
theorem Fg{vs:List RVer}(h:pz vs)(h1:∀v∈vs,1<=v.num){k:Nat}(hk:k<vs.length):bW vs vs[k].path vs[k].num vs.length=k/\mu vs vs[k].path vs[k].num=some vs[k]:=by
 have hf:vs.filter (ic vs[k].path vs[k].num)≠[]:=fun e=>by
  have:vs[k]∈vs.filter (ic vs[k].path vs[k].num):=mem_filter.2 ⟨getElem_mem hk,by simp[ic]⟩;rw[e]at this;cases this
 have h2:=mC vs vs[k].path vs[k].num _ (Nat.le_refl _);rw[take_length]at h2;have h3:mu vs vs[k].path vs[k].num=(vs.filter (ic vs[k].path vs[k].num)).getLast?:=h2
 cases hg:(vs.filter (ic vs[k].path vs[k].num)).getLast? with
 | none=>exact absurd (getLast?_eq_none_iff.1 hg) hf
 | some v =>
  have hm:=mem_filter.1 (mem_of_getLast? hg)
  have hv:v.path=vs[k].path/\v.num=vs[k].num:=by
   have h5:=hm.2;unfold ic at h5;have h6:=h1 vs[k] (getElem_mem hk);simp only[Bool.and_eq_true,decide_eq_true_eq,Bool.or_eq_true]at h5;exact⟨h5.1,h5.2.resolve_right (by omega)⟩
  rw[hg]at h2;by_cases hb:0<=bW vs vs[k].path vs[k].num vs.length
  ·rw[if_pos hb]at h2;obtain⟨hj,e⟩:=List.getElem?_eq_some_iff.1 h2;have hjk:=h.one hj hk (by rw[e];exact hv.1) (by rw[e];exact hv.2);refine⟨by omega,?_⟩;rw[h3,hg,<- e];simp only[hjk]
  ·rw[if_neg hb]at h2;cases h2
theorem lD{vs:List RVer}(h:pz vs)(h1:∀v∈vs,1<=v.num){v:RVer}(hv:v∈vs):∃k:Nat,∃hk:k<vs.length,vs[k]=v/\bW vs v.path v.num vs.length=k/\mu vs v.path v.num=some v:=by
 obtain⟨k,hk,rfl⟩:=getElem_of_mem hv;exact⟨k,hk,rfl,Fg h h1 hk⟩
def mN(v:RVer):Bool:=decide (v.held<=0)
theorem uv{vs:List RVer}(h:pz vs)(h1:∀v∈vs,1<=v.num)(p:Bs):∀j,j<=(aD vs p).length ->
  (((aD vs p).take j).map (·.num)).foldl (fQ p) (vs,0)=(eY vs p ((((aD vs p).take j).filter mN).map (·.num)),(((aD vs p).take j).filter mN).length)
 | 0,_=>by
  simp only[take_zero,map_nil,foldl_nil,filter_nil,length_nil,Prod.mk.injEq,and_true]
  unfold eY inR
  exact(filter_eq_self.2 (fun v _=>by simp)).symm
 | j+1,hj=>by
  obtain⟨v,hv⟩:∃v,v=(aD vs p)[j]:=⟨_,rfl⟩
  have hvm:v∈vs/\v.path=p:=by
   have:=mem_filter.1 (hv ▸ getElem_mem hj:v∈aD vs p);exact⟨this.1,by simpa using this.2⟩
  rw[QH (by omega),<- hv,map_append,foldl_append,uv h h1 p j (by omega),filter_append];simp only[map_cons,map_nil,foldl_cons,foldl_nil];obtain⟨ns,hns⟩:∃ns,ns=(((aD vs p).take j).filter mN).map (·.num):=⟨_,rfl⟩;rw[<- hns]
  have hnot:v.num∉ns:=fun hm=>by
   rw[hns]at hm;obtain⟨u,hu,e⟩:=mem_map.1 hm;have hu2:=(mem_filter.1 hu).1;obtain⟨i,hi,rfl⟩:=getElem_of_mem hu2;rw[length_take]at hi
   have hp2:(aD vs p).Pairwise (fun a b=>a.num<b.num):=by
    have:=Pairwise.filter (fun v=>decide (v.path=p)) h;refine this.imp_of_mem (fun {a b} ha hb hab=>hab ?_);have h3:=(mem_filter.1 ha).2;have h4:=(mem_filter.1 hb).2;simp only[decide_eq_true_eq]at h3 h4;rw[h3,h4]
   have:=pairwise_iff_getElem.1 hp2 i j (by omega) hj (by omega);rw[getElem_take]at e;rw[<- hv]at this;omega
  have hm:v∈eY vs p ns:=mem_filter.2 ⟨hvm.1,by simp[inR,hvm.2,hnot]⟩;obtain⟨k,hk,hk2,hb,hf⟩:=lD (h.gone p ns) (fun x hx=>h1 x (mem_filter.1 hx).1) hm;rw[hvm.2]at hb hf;have hc:=zO (p:=p) (n:=v.num) (h.gone p ns) hk (by rw[hk2];exact hvm.2) (by rw[hk2]);unfold fQ;simp only[hf,hb,Int.toNat_natCast];by_cases hh:v.held<=0
  ·rw[if_pos hh,hc,FE,filter_cons_of_pos (by simp[mN,hh])];simp[hns]
  ·rw[if_neg hh,filter_cons_of_neg (by simp[mN,hh])];simp[hns]
theorem Link.Qo{S:AS}{R:RefL}(L:Link S R)(p:Bs)(j:Nat):kR (((af S.ps p).take j).filter kt)=(((aD R.vs p).take j).filter mN).map (·.num):=by
 have h0:∀v∈aD R.vs p,0<=v.held:=fun v hv=>by
  rw[L.held v (mem_filter.1 hv).1];unfold iz;omega
 have h1:=congrArg (take j) (L.vers p);rw[<- map_take,<- map_take]at h1;have h2:=congrArg (fun l:List kJ=>(l.filter (fun t=>decide (t.2.2=0))).map (·.1)) h1;simp only[filter_map,map_map]at h2;unfold kR;refine h2.trans ?_;congr 1;refine filter_congr fun v hv=>?_
 have:=h0 v (mem_of_mem_take hv);unfold mN;show decide (v.held=0)=_;by_cases hv:v.held=0
 ·simp[hv]
 ·rw[decide_eq_false hv,decide_eq_false (by omega)]
theorem Link.prune{S:AS}{R:RefL}(L:Link S R)(_:ArOk S)(p:Bs)(keep:Int){vs':List RVer}{c:Nat}(hf:((fR R.vs p).take (kT (fR R.vs p).length keep)).foldl (fQ p) (R.vs,0)=(vs',c)):
  vs'=eY R.vs p (cW (af S.ps p) keep)/\c=(cW (af S.ps p) keep).length/\∀v∈R.vs,v.path=p->v.num∈cW (af S.ps p) keep->v.held<=0:=by
 have hlen:(af S.ps p).length=(aD R.vs p).length:=by have:=congrArg length (L.vers p);simpa using this
 have hnl:(fR R.vs p).length=(aD R.vs p).length:=by unfold fR;rw[length_map];rfl
 obtain⟨j,hj⟩:∃j,j=(af S.ps p).length-(min (max keep 0) ((af S.ps p).length:Int)).toNat:=⟨_,rfl⟩;have hjj:kT (fR R.vs p).length keep=j:=by unfold kT;rw[hnl,hj,hlen];split<;>omega
 have hjl:j<=(aD R.vs p).length:=by omega
 have hns:cW (af S.ps p) keep=(((aD R.vs p).take j).filter mN).map (·.num):=by unfold cW;rw[<- hj];exact L.Qo p j
 have h3:=uv L.uniq (fun v hv=>(L.each v hv).1) p j hjl;rw[hjj]at hf;have h4:(fR R.vs p).take j=((aD R.vs p).take j).map (·.num):=by unfold fR;rw[map_take];rfl
 rw[h4,h3]at hf;simp only[Prod.mk.injEq]at hf;rw[hns];refine⟨hf.1.symm,by rw[<- hf.2,length_map],fun v hv hp hn=>?_⟩;obtain⟨u,hu,e⟩:=mem_map.1 hn;obtain⟨hu1,hu2⟩:=mem_filter.1 hu;have hu3:=mem_filter.1 (mem_of_mem_take hu1);obtain⟨i,hi,rfl⟩:=getElem_of_mem hv;obtain⟨i',hi',rfl⟩:=getElem_of_mem hu3.1;obtain rfl:=L.uniq.one hi' hi (by rw[hp];simpa using hu3.2) e;simpa[mN]using hu2
end
section
open Go.Shelf
def rL:Go.Shelf.Ren:=⟨fun|7=>118|10=>149|n=>n,fun|23=>120|26=>9|3=>230|28=>241|0=>0|27=>240|33=>226|4=>4|n=>n,fun|n=>n⟩
theorem Er:Go.Proofs.SlLaysZ.n7 Tryz.prog rL:={
 mixed:=by kernel_rfl,
 f7:=⟨Tryz.f118.name,by decide,Tryz.func118.trans (congrArg some (by kernel_rfl))⟩,
 f10:=⟨Tryz.f149.name,by decide,Tryz.func149.trans (congrArg some (by kernel_rfl))⟩,
 t0:=Tryz.underlying0,
 a0:=Tryz.isAgg0,
 z0:=Tryz.sizeOf0,
 v0:=Tryz.zeroValue0,
 t4:=Tryz.underlying4,
 a4:=Tryz.isAgg4,
 z4:=Tryz.sizeOf4,
 v4:=Tryz.zeroValue4,
 t23:=Tryz.underlying120,
 a23:=Tryz.isAgg120,
 z23:=Tryz.sizeOf120,
 v23:=Tryz.zeroValue120,
 t26:=Tryz.underlying9,
 a26:=Tryz.isAgg9,
 z26:=Tryz.sizeOf9,
 v26:=Tryz.zeroValue9,
 t27:=Tryz.underlying240,
 a27:=Tryz.isAgg240,
 z27:=Tryz.sizeOf240,
 v27:=Tryz.zeroValue240,
 t28:=Tryz.underlying241,
 a28:=Tryz.isAgg241,
 z28:=Tryz.sizeOf241,
 v28:=Tryz.zeroValue241,
 t33:=Tryz.underlying226,
 a33:=Tryz.isAgg226,
 z33:=Tryz.sizeOf226,
 v33:=Tryz.zeroValue226 }
def ou:Go.Shelf.Ren:=⟨fun|6=>116|8=>146|9=>147|11=>162|13=>156|12=>163|23=>172|24=>173|14=>177|15=>178|16=>179|17=>180|18=>181|19=>182|20=>183|21=>184|22=>185|25=>191|26=>187|27=>188|28=>192|29=>193|30=>194|31=>196|n=>n,fun|26=>9|28=>241|24=>68|0=>0|3=>3|37=>37|48=>116|50=>82|4=>4|40=>309|39=>308|45=>284|5=>5|9=>9|51=>323|55=>327|57=>331|58=>133|33=>226|n=>n,fun|n=>n⟩
theorem xk:Go.Proofs.SlLaysZ.n6 Tryz.prog ou:={
 mixed:=by kernel_rfl,
 f6:=⟨Tryz.f116.name,by decide,Tryz.func116.trans (congrArg some (by kernel_rfl))⟩,
 f8:=⟨Tryz.f146.name,by decide,Tryz.func146.trans (congrArg some (by kernel_rfl))⟩,
 f11:=⟨Tryz.f162.name,by decide,Tryz.func162.trans (congrArg some (by kernel_rfl))⟩,
 t0:=Tryz.underlying0,
 a0:=Tryz.isAgg0,
 z0:=Tryz.sizeOf0,
 v0:=Tryz.zeroValue0,
 t24:=Tryz.underlying68,
 a24:=Tryz.isAgg68,
 z24:=Tryz.sizeOf68,
 v24:=Tryz.zeroValue68,
 t26:=Tryz.underlying9,
 a26:=Tryz.isAgg9,
 z26:=Tryz.sizeOf9,
 v26:=Tryz.zeroValue9,
 t28:=Tryz.underlying241,
 a28:=Tryz.isAgg241,
 z28:=Tryz.sizeOf241,
 v28:=Tryz.zeroValue241,
 i26:=by kernel_rfl }
def Bo:Go.Shelf.Ren:=⟨fun|6=>147|8=>156|9=>163|19=>172|20=>173|21=>177|22=>178|23=>179|24=>180|25=>181|26=>182|27=>183|28=>184|29=>185|36=>191|31=>187|32=>188|37=>192|38=>193|39=>194|41=>196|n=>n,fun|27=>68|29=>9|3=>3|32=>37|26=>68|0=>0|44=>116|46=>82|4=>4|36=>309|35=>308|41=>284|5=>5|9=>9|53=>323|57=>327|63=>331|64=>133|n=>n,fun|n=>n⟩
theorem EK:Go.Proofs.SlLaysM.n6 Tryz.prog Bo:={
 mixed:=by kernel_rfl,
 f6:=⟨Tryz.f147.name,by decide,Tryz.func147.trans (congrArg some (by kernel_rfl))⟩,
 f8:=Tryz.func156.trans (congrArg some (by kernel_rfl)),
 f9:=⟨Tryz.f163.name,by decide,Tryz.func163.trans (congrArg some (by kernel_rfl))⟩,
 f19:=Tryz.func172.trans (congrArg some (by kernel_rfl)),
 f20:=Tryz.func173.trans (congrArg some (by kernel_rfl)),
 f21:=⟨Tryz.f177.name,by decide,Tryz.func177.trans (congrArg some (by kernel_rfl))⟩,
 f22:=⟨Tryz.f178.name,by decide,Tryz.func178.trans (congrArg some (by kernel_rfl))⟩,
 f23:=⟨Tryz.f179.name,by decide,Tryz.func179.trans (congrArg some (by kernel_rfl))⟩,
 f24:=⟨Tryz.f180.name,by decide,Tryz.func180.trans (congrArg some (by kernel_rfl))⟩,
 f25:=⟨Tryz.f181.name,by decide,Tryz.func181.trans (congrArg some (by kernel_rfl))⟩,
 f26:=⟨Tryz.f182.name,by decide,Tryz.func182.trans (congrArg some (by kernel_rfl))⟩,
 f27:=⟨Tryz.f183.name,by decide,Tryz.func183.trans (congrArg some (by kernel_rfl))⟩,
 f28:=⟨Tryz.f184.name,by decide,Tryz.func184.trans (congrArg some (by kernel_rfl))⟩,
 f29:=⟨Tryz.f185.name,by decide,Tryz.func185.trans (congrArg some (by kernel_rfl))⟩,
 f31:=Tryz.func187.trans (congrArg some (by kernel_rfl)),
 f32:=Tryz.func188.trans (congrArg some (by kernel_rfl)),
 f36:=⟨Tryz.f191.name,by decide,Tryz.func191.trans (congrArg some (by kernel_rfl))⟩,
 f37:=⟨Tryz.f192.name,by decide,Tryz.func192.trans (congrArg some (by kernel_rfl))⟩,
 f38:=⟨Tryz.f193.name,by decide,Tryz.func193.trans (congrArg some (by kernel_rfl))⟩,
 f39:=⟨Tryz.f194.name,by decide,Tryz.func194.trans (congrArg some (by kernel_rfl))⟩,
 f41:=⟨Tryz.f196.name,by decide,Tryz.func196.trans (congrArg some (by kernel_rfl))⟩,
 t0:=Tryz.underlying0,
 a0:=Tryz.isAgg0,
 z0:=Tryz.sizeOf0,
 v0:=Tryz.zeroValue0,
 t3:=Tryz.underlying3,
 a3:=Tryz.isAgg3,
 z3:=Tryz.sizeOf3,
 v3:=Tryz.zeroValue3,
 t4:=Tryz.underlying4,
 a4:=Tryz.isAgg4,
 z4:=Tryz.sizeOf4,
 v4:=Tryz.zeroValue4,
 t5:=Tryz.underlying5,
 a5:=Tryz.isAgg5,
 z5:=Tryz.sizeOf5,
 v5:=Tryz.zeroValue5,
 t9:=Tryz.underlying9,
 a9:=Tryz.isAgg9,
 z9:=Tryz.sizeOf9,
 v9:=Tryz.zeroValue9,
 t26:=Tryz.underlying68,
 a26:=Tryz.isAgg68,
 z26:=Tryz.sizeOf68,
 v26:=Tryz.zeroValue68,
 t27:=Tryz.underlying68,
 a27:=Tryz.isAgg68,
 z27:=Tryz.sizeOf68,
 v27:=Tryz.zeroValue68,
 t29:=Tryz.underlying9,
 a29:=Tryz.isAgg9,
 z29:=Tryz.sizeOf9,
 v29:=Tryz.zeroValue9,
 t32:=Tryz.underlying37,
 a32:=Tryz.isAgg37,
 z32:=Tryz.sizeOf37,
 v32:=Tryz.zeroValue37,
 t35:=Tryz.underlying308,
 a35:=Tryz.isAgg308,
 z35:=Tryz.sizeOf308,
 v35:=Tryz.zeroValue308,
 t36:=Tryz.underlying309,
 a36:=Tryz.isAgg309,
 z36:=Tryz.sizeOf309,
 v36:=Tryz.zeroValue309,
 t41:=Tryz.underlying284,
 a41:=Tryz.isAgg284,
 z41:=Tryz.sizeOf284,
 v41:=Tryz.zeroValue284,
 t44:=Tryz.underlying116,
 a44:=Tryz.isAgg116,
 z44:=Tryz.sizeOf116,
 v44:=Tryz.zeroValue116,
 t46:=Tryz.underlying82,
 a46:=Tryz.isAgg82,
 z46:=Tryz.sizeOf82,
 v46:=Tryz.zeroValue82,
 t53:=Tryz.underlying323,
 a53:=Tryz.isAgg323,
 z53:=Tryz.sizeOf323,
 v53:=Tryz.zeroValue323,
 t57:=Tryz.underlying327,
 a57:=Tryz.isAgg327,
 z57:=Tryz.sizeOf327,
 v57:=Tryz.zeroValue327,
 t63:=Tryz.underlying331,
 a63:=Tryz.isAgg331,
 z63:=Tryz.sizeOf331,
 v63:=Tryz.zeroValue331,
 t64:=Tryz.underlying133,
 a64:=Tryz.isAgg133,
 z64:=Tryz.sizeOf133,
 v64:=Tryz.zeroValue133 }
end
section
open Go.RowKit Go.Maps Go.Sort Go.Shelf
theorem Av(m:Nat):AnyZ.SortsIn Tryz.prog ou Fence.wide m :=
 ⟨fun blk off cap ss W hH hblk hsz=>callsIn_wide.2 (AnyM.slices_Sort_string EK blk off cap ss W hH hblk hsz),
  fun p cap W=>callsIn_wide.2 (AnyM.slices_Sort_string_none EK p cap W)⟩
theorem uh(mb:Option Nat)(W:World):CallsIn Fence.wide 5 Tryz.prog 118 #[.map mb] W fun e w'=>e=.returned (.func (.func 149) #[] #[.pointer (some ⟨W.heap.size,0,none⟩)])/\w'=W.alloc (.cells #[.map mb] 120) :=
 AnyZ.keys_in Er Fence.wide 5 trivial rfl mb W
theorem ow{H:Type}(b nn:Nat)(D0:DataW H)(R:Value->Option (DataW H×List MemPlace))(w:World)(hown:w.ownsMap Tryz.prog 9 R b nn D0)(hmax:Maps.size D0<=maxLen)(hbytes:Maps.size D0*16<=140737488355328):
  CallsIn Fence.wide 5 Tryz.prog 116 #[.func (.func 149) #[] #[.pointer (some ⟨w.heap.size,0,none⟩)]] (w.alloc (.cells #[.map (some b)] 120)) fun e w'=>∃(v:Value) (ss:List (List UInt8)),e=.returned v/\ss.Perm (strKeys D0) /\
   w'.ownsRow (w.alloc (.cells #[.map (some b)] 120)).heap.size 9 1 v ss.length ((ss.mergeSort (fun x y=>decide (x<=y))).map encStr)/\(v=.slice none 0 0↔ss=[])/\Below (w.alloc (.cells #[.map (some b)] 120)).heap.size (w.alloc (.cells #[.map (some b)] 120)) w':=by
 have hbl:=hown.lt
 have hseq:SeqGives Fence.wide 2 Tryz.prog 149 #[.pointer (some ⟨w.heap.size,0,none⟩)] encStr (fun ss=>ss.Perm (strKeys D0)) (Maps.size D0) (w.alloc (.cells #[.map (some b)] 120)) :=
  AnyZ.keys_gives (ρ:=rL) { Er with } Fence.wide _ trivial rfl (by omega) w.heap.size b nn D0 _ (by simp) (by simp) (by
   obtain⟨es,clock,hb,Ft,hs,hD⟩:=hown;exact⟨es,clock,(Below.heap_alloc _ _ b hbl).trans hb,Ft,hs,hD⟩)
 exact AnyZ.sorted_in xk Fence.wide 5 trivial trivial trivial trivial rfl (by omega) (Av _) (enters_of Tryz.func147 (by kernel_rfl) rfl) 149 #[.pointer (some ⟨w.heap.size,0,none⟩)] trivial (enters_of Tryz.func149 (by kernel_rfl) rfl) _ _ hmax hbytes _ hseq
def Fa:Value->Option (DataW Unit×List MemPlace):=fun _=>some (.lit (.bool true),[])
theorem Ao(x:Lit×DataW Unit):∀l:List (Lit×DataW Unit),(DataW.insert x l).Perm (x::l)
 | []=>Perm.refl _
 | y::r=>by
  unfold DataW.insert
  split
  ·exact Perm.refl _
  ·exact((Ao x r).cons y).trans (Perm.swap x y r)
theorem wz:∀l:List (Lit×DataW Unit),(l.foldr DataW.insert []).Perm l
 | []=>Perm.refl _
 | x::r=>(Ao x _).trans ((wz r).cons x)
theorem Lx(l:Bs)(h:OkS l):Go.keyOf Tryz.prog 9 (str l)=some (.string l):=by
 have h1:(ByteArray.mk l.toArray).size=l.length:=by simp[ByteArray.size]
 have h2:(ByteArray.mk l.toArray).size<=maxLen:=by rw[h1];unfold OkS at h;unfold maxLen;omega
 exact Go.WideMaps.keyOf_string_mk (k:=9) Tryz.underlying9 (s:=⟨l.toArray⟩) h2
theorem pd{w:World}{b c:Nat}{l:List (Ent Bs)}(hb:w.heap[b]?=some (aQ str l c))(hm:MapOk OkS l c)(hl:l.length<=1000000):∃D:DataW Unit,w.ownsMap Tryz.prog 9 Fa b l.length D/\(strKeys D).Perm (l.map (·.key))/\Maps.size D=l.length:=by
 have hrd:∀e∈l,Go.WideElems.rd Tryz.prog 9 Fa (dG str e)=some (.string e.key,.lit (.bool true)):=fun e he=>by
  unfold Go.WideElems.rd;rw[show(dG str e).key=str e.key from rfl,Lx e.key (hm.ok e he)];rfl
 have hrg:(l.map (dG str)).map (Go.WideElems.rg Tryz.prog 9 Fa)=l.map (fun e=>(Lit.string e.key,DataW.lit (.bool true))):=by
  rw[map_map];refine map_congr_left fun e he=>?_
  simp only[Function.comp_apply,Go.WideElems.rg,hrd e he,Option.getD_some]
 have hp:=wz (l.map (fun e=>(Lit.string e.key,(DataW.lit (.bool true):DataW Unit))));refine⟨.map ((l.map (fun e=>(Lit.string e.key,DataW.lit (.bool true)))).foldr DataW.insert []),⟨(l.map (dG str)).toArray,c,hb,⟨?_,⟨?_,?_,?_⟩,?_⟩,by simp,?_⟩,?_,?_⟩
 ·simp[maxLen];omega
 ·intro x hx;obtain⟨e,he,rfl⟩:=mem_map.1 (by simpa using hx);exact hm.lt e he
 ·have:=hm.borns;simp only[map_map];exact this
 ·have:((l.map (·.key)).map str).Nodup:=by
   rw[nodup_iff_pairwise_ne,pairwise_map];exact(nodup_iff_pairwise_ne.1 hm.nodup).imp (fun h e=>h (EL _ _ e))
  rw[map_map]at this;simp only[map_map];exact this
 ·intro x hx;obtain⟨e,he,rfl⟩:=mem_map.1 (by simpa using hx);exact⟨_,hrd e he⟩
 ·simp only[];rw[hrg]
 ·unfold strKeys;refine(hp.map _).trans ?_;rw[map_map];exact Perm.refl _
 ·show(foldr DataW.insert [] _).length=_;rw[hp.length_eq,length_map]
def yr(t:Bs×Bs×Int):List Value:=[str t.1,str t.2.1,.int .i64 t.2.2]
def gM(l:List (Bs×Bs×Int)):List Value:=l.flatMap yr
def qT(v:Value)(l:List (Bs×Bs×Int)):HF:=bN 230 3 v l.length (gM l)
def wR(v:Value)(l:List (Bs×Bs×Int)):Prop:=eE 3 v l.length (gM l)
theorem qa(l m:List (Bs×Bs×Int)):gM (l++m)=gM l++gM m:=by simp[gM]
theorem lR(l:List (Bs×Bs×Int)):(gM l).length=l.length*3:=by
 induction l with
 | nil=>rfl
 | cons a r ih=>simp only[gM,flatMap_cons,length_append,length_cons]at ih ⊢;rw[ih];simp[yr];omega
theorem J4:(Tryz.prog.info? 230).map (fun i=>(i.zero,i.size,i.bytes))=some (some (.agg #[str [],str [],.int .i64 0]),3,40):=by kernel_rfl
theorem IQ(l:List (Bs×Bs×Int)):∀u∈gM l,u.oneCell'=true:=fun u hu=>by
 obtain⟨v,hv,hx⟩:=mem_flatMap.1 hu
 simp only[yr,mem_cons,not_mem_nil,or_false]at hx
 rcases hx with rfl|rfl|rfl<;>rfl
theorem yM{o:Oper}{a:Act}{w a0:World}{K:Act->World->Prop}{Q:Exit->Act->World->Prop}{F G:HF}(s x:Operand)(hop:o.op=.call { callee:=.builtin .append,args:=#[s,x],argTypes:=#[187,187] })(v:Value)(l:List (Bs×Bs×Int))(hs:a.eval s=v)(hT:Turns F (qT v l++G) a0 w)(hok:wR v l)(sa:Option Addr)(m c:Nat)(hx:a.eval x=.slice sa m c)(r:List (Bs×Bs×Int))(hm:m=r.length)(hc:al w sa (gM r))(hb:l.length+r.length<=1000000)(hk:∀v' w',wR v' (l++r)->Turns F (qT v' (l++r)++G) a0 w'->K (a.put o.dst v') w'):o.wp Tryz.prog a w K Q:=by
 obtain⟨i0,hi0,hz1,hz2,hz3⟩:=info_parts J4;refine cI s x 187 230 i0 (.agg #[str [],str [],.int .i64 0]) 3 40 hop Tryz.underlying187 hi0 hz1 hz2 hz3 rfl (by decide) v l.length (gM l) hs hT hok sa m c hx (gM r) (by rw[lR,hm]) (fun hp=>?_) (IQ r) (by unfold maxLen;omega) (by omega) (fun v' w' k1 k2 _=>hk v' w' (by unfold wR;rw[length_append,qa,<- hm];exact k1) (by unfold qT;rw[length_append,qa,<- hm];exact k2));obtain⟨g,off,e,hcc⟩:=hc (by rw[lR];omega);refine⟨_,e,fun j u hu=>?_⟩;obtain⟨hj,rfl⟩:=List.getElem?_eq_some_iff.1 hu;rw[Addr.add_lit];exact hcc j hj
def eZ(ts:List fq):List Bs:=(ts.map (·.key)).mergeSort (fun x y=>decide (x<=y))
def c8(ts:List fq)(ks:List Bs):List (Bs×Bs×Int):=ks.map (fun k=>(k,gOf ([],0) ts k))
def Hk(S:AS)(w:World)(e:Ending)(w':World):Prop :=
 (S.X.closed=true/\e=.returned (.tuple #[.slice none 0 0,cO 9])/\Turns (arF S) (arF S) w w') \/
 (S.X.closed=false/\∃v,e=.returned (.tuple #[v,.nilIface])/\wR v (c8 S.ts (eZ S.ts))/\Turns (arF S) (qT v (c8 S.ts (eZ S.ts))++arF S) w w')
def JC(S:AS)(ks:List Bs)(kv:Value)(w:World)(out i:Value)(W:World):Prop :=
 ∃j:Nat,j<=ks.length/\i=.int .i64 j/\wR out (c8 S.ts (ks.take j))/\Turns (arF S) (qT out (c8 S.ts (ks.take j))++(arF S++bN 9 1 kv ks.length (ks.map str))) w W
theorem xj{a b:List Bs}(h:a.Perm b):a.mergeSort (fun x y=>decide (x<=y))=b.mergeSort (fun x y=>decide (x<=y)):=by
 have ht:∀x y z:Bs,decide (x<=y)=true->decide (y<=z)=true->decide (x<=z)=true:=fun x y z h1 h2=>by
  simp only[decide_eq_true_eq]at h1 h2 ⊢;exact List.le_trans h1 h2
 have htot:∀x y:Bs,(decide (x<=y) || decide (y<=x))=true:=fun x y=>by
  simp only[Bool.or_eq_true,decide_eq_true_eq];exact List.le_total x y
 refine Perm.eq_of_pairwise (le:=fun x y=>decide (x<=y)=true) (fun x y _ _ h1 h2=>?_) (pairwise_mergeSort ht htot a) (pairwise_mergeSort ht htot b) (((mergeSort_perm a _).trans h).trans (mergeSort_perm b _).symm);simp only[decide_eq_true_eq]at h1 h2;exact List.le_antisymm h1 h2
theorem Kf{S:AS}{w wa w':World}{B:Nat}{v:Value}{xs:List Value}(hT:Turns (arF S) (arF S) w wa)(hB:B=wa.heap.size)(ho:w'.ownsRow B 9 1 v xs.length xs)(hb:Below B wa w'):eE 1 v xs.length xs/\Turns (arF S) (bN 9 1 v xs.length xs++arF S) w w':=by
 subst hB;obtain⟨h1,h2⟩:=gl ho;refine⟨h2,hT.Qb ⟨(aX.of_below hb).mods _,h1,fun g hg=>.inr ?_⟩⟩;have hg:=(ff _ _ _ _ _ _).1 hg;rcases ho.2 with⟨rfl,-⟩|⟨g',cap,cur,rfl,hb',-⟩
 ·cases hg
 ·simp only[Value.ownBlock,Option.some.injEq]at hg;subst hg;exact hb'
theorem Bp{S:AS}{ss:List Bs}{D:DataW Unit}(h1:ss.Perm (strKeys D))(h2:(strKeys D).Perm ((S.ts.map aO).map (·.key))):(ss.mergeSort (fun x y=>decide (x<=y))).map encStr=(eZ S.ts).map str/\ss.length=(eZ S.ts).length:=by
 have h3:ss.Perm (S.ts.map (·.key)):=by rw[<- cE];exact h1.trans h2
 refine⟨?_,?_⟩
 ·unfold eZ;rw[xj h3];try rfl
 ·unfold eZ;rw[length_mergeSort];exact h3.length_eq
theorem BA{S:AS}(ht:TagsOk S.ts S.tc){k:Bs}(hk:k∈eZ S.ts):(dB (S.ts.map aO) k).getD KB=.agg #[str k,str (gOf ([],0) S.ts k).1,.int .i64 (gOf ([],0) S.ts k).2]/\OkS k:=by
 have hk2:k∈S.ts.map (·.key):=(mergeSort_perm _ _).mem_iff.1 hk;obtain⟨q,hq,hqk⟩:=mem_map.1 hk2;rw[cY];unfold eH gOf
 cases hf:S.ts.find? (fun p=>decide (p.key=k))with
 | none=>exact absurd hqk (by simpa using find?_eq_none.1 hf q hq)
 | some p =>
  have h1:p.key=k:=by simpa using find?_some hf
  have h2:=mem_of_find?_eq_some hf;refine⟨by have:=ht.val p h2;simp only[];rw[this,h1];rfl,?_⟩;have:=ht.map.ok (aO p) (mem_map.2 ⟨p,h2,rfl⟩);rw[<- h1];exact this
theorem zF(w:World)(xs:List Value)(t:TypeId):al (w.alloc (.cells xs.toArray t)) (some ⟨w.heap.size,0,none⟩) xs:=fun _ =>
 ⟨_,_,rfl,fun j hj=>by rw[Nat.zero_add];exact aa (aK w _) j (by simp)⟩
theorem Cf(S:AS)(b:Nat)(w:World)(h:Sat w (arF S))(hok:ArOk S)(hB:ArB S b)(hb:b<=90000):
  Calls Tryz.prog 90 #[.pointer (some ⟨S.a,0,none⟩)] w (Hk S w):=by
 have ha:=h.Q5;have hal:=ac ha
 cases hc:S.X.closed with
 | true =>
  have a10:w.cell? ⟨S.a,10,none⟩=some (.bool true):=by rw[<- hc];exact aa ha 10 rfl
  have HC:=Hq2 hc h;clear h hok hB hb ha hc;go_enter Tryz.func90,Tryz.ntmps90;go_wp2_with fail;exact bodyPost_ret (results_tmp2 rfl _ _ _) rfl (.inl ⟨HC.a,rfl,Turns.refl HC.z⟩)
 | false =>
  have a10:w.cell? ⟨S.a,10,none⟩=some (.bool false):=by rw[<- hc];exact aa ha 10 rfl
  have a1:w.cell? ⟨S.a,1,none⟩=some (.map (some S.X.tm)):=aa ha 1 rfl;have htm:=h.Q7 (b:=S.X.tm) (o:=aQ str (S.ts.map aO) S.tc) (by simp[arF,b8]);obtain⟨D,hD,hDp,hDs⟩:=pd htm hok.tags.map (by rw[length_map];have:=hB.nt;omega);have hlen:(S.ts.map aO).length<=90000:=by rw[length_map];have:=hB.nt;omega
  have hKs:=ow S.X.tm _ D Fa w hD (by rw[hDs];unfold maxLen;omega) (by rw[hDs];omega);have HK:=qqH (callsIn_wide.1 hKs);have HM:=qqH (callsIn_wide.1 (uh (some S.X.tm) w));have HH:=Hq7 h hok hB hb hc hDp hlen;clear h hok hB hb ha hc htm hD hDp hDs hlen hKs;go_enter Tryz.func90,Tryz.ntmps90;go_wp2_with fail;refine HM.out.mono ?_;rintro e w1 ⟨rfl,rfl⟩;go_wp2_with fail;refine HK.out.mono ?_;rintro e w2 ⟨v,ss,rfl,hss,hown,-,hbel⟩;obtain⟨hs1,hs2⟩:=Bp hss HH.f;rw[hs1,hs2]at hown;obtain⟨ks,hks⟩:∃ks,ks=eZ S.ts:=⟨_,rfl⟩;rw[<- hks]at hown;obtain⟨hro,hT0⟩:=Kf (S:=S) ((Turns.refl HH.a).alloc _) rfl (by rw[length_map];exact hown) hbel;rw[length_map]at hro hT0;obtain⟨sl,cap,rfl,-,hcap,-,-⟩:=bC hT0.sat.left hro (by decide)
  have hkl:ks.length<=90000:=by
   have:=HH.u;rw[hks];unfold eZ;rw[length_mergeSort,length_map];rw[length_map]at this;exact this
  have hal2:=ac (hT0.sat.right.Q5);have HV:=Hq4 hT0 hro hks hkl;clear hss hown hbel hs1 hs2 hks hro hT0;go_wp2_with fail;go_loopw [4,20] (fun out i wr=>JC S ks (.slice sl ks.length cap) w out i wr) (fun _ i _=>ks.length-(intOf i).toNat)
  case atStart=>exact⟨0,Nat.zero_le _,rfl,by unfold wR;exact⟨rfl,fun _=>⟨rfl,rfl⟩⟩,by exact HV.a.drop (fun x=>by show cnt x ([]++(arF S++_))<=_;simp only[ah,fd];omega)⟩
  case round =>
   obtain⟨j,hj,rfl,hio,hT⟩:=hrel;have HR:=Hq2 hio hT;clear hio hT;by_cases hlt:j<ks.length
   ·obtain⟨sl2,cap2,e1',-,-,hcell,-⟩:=bC (w:=wr) (HR.z.sat.right.right) HV.b (by decide);simp only[Value.slice.injEq]at e1';obtain⟨rfl,-,rfl⟩:=e1';obtain⟨g,off,hg,hcc⟩:=hcell (by rw[length_map];omega);subst hg;have hc1:=hcc j (by rw[length_map];exact hlt);rw[getElem_map]at hc1;obtain⟨k,hk⟩:∃k,k=ks[j]:=⟨_,rfl⟩;rw[<- hk]at hc1;have hkm:k∈eZ S.ts:=by rw[<- HV.c,hk];exact getElem_mem hlt
    obtain⟨hlk,hOk⟩:=BA HH.b.tags hkm;have hA:=(HR.z.sat.right.left).Q5;have a1':wr.cell? ⟨S.a,1,none⟩=some (.map (some S.X.tm)):=aa hA 1 rfl;have htm:=HR.z.sat.Q7 (b:=S.X.tm) (o:=aQ str (S.ts.map aO) S.tc) (by simp[arF,b8]);obtain⟨p1,n1,hpn⟩:∃p1 n1,gOf ([],0) S.ts k=(p1,n1):=⟨_,_,rfl⟩;rw[hpn]at hlk
    have htk:c8 S.ts (ks.take (j+1))=c8 S.ts (ks.take j)++[(k,p1,n1)]:=by
     unfold c8;rw[QH hlt,<- hk,map_append];simp[hpn]
    have hlen:(c8 S.ts (ks.take j)).length<=90000:=by have:=HV.x;simp[c8];omega
    have HU:=Hq5 htk hlen hlk hOk htm;obtain⟨ns,hns⟩:∃ns,ns=c8 S.ts (ks.take j):=⟨_,rfl⟩;rw[<- hns]at HR HU;clear hcell hcc htk hlen hlk hOk htm hA hpn hk hkm hns;go_wp2_with ((first|(refine ez eb rfl _ _ rfl Tryz.underlying120 HU.w HH.b.tags.map (kf _) k rfl rfl HU.d ?_;rw[HU.c])|(at_builtin;refine ai rfl ?_;refine yM (.tmp 24) (.tmp 32) rfl _ ns rfl (HR.z.alloc _) HR.a _ 1 1 rfl [(k,p1,n1)] rfl (zF wr (gM [(k,p1,n1)]) _) (by have:=HU.b;show ns.length+1<=1000000;omega) ?_;intro av w5 hok5 hT5;have H5:=Hq2 hok5 hT5;clear hok5 hT5)));go_roundw
    case rel =>
     refine⟨j+1,by omega,by go_num,?_,?_⟩
     ·rw[HU.a];exact H5.a
     ·rw[HU.a];exact H5.z
    case measure=>simp[intOf];omega
   ·obtain rfl:j=ks.length:=by omega
    rw[take_length]at HR;go_wp2_with fail;go_ret2;refine (.inr ⟨HH.e,u4,rfl,?_,?_⟩)
    ·rw[<- HV.c];exact HR.a
    ·rw[<- HV.c];exact HR.z.drop (fun x=>by simp only[ah];omega)
end
section
open Go.RowKit Go.Maps
theorem xc:∀(l:List RTag) (i:Nat) (h:i<l.length) (j:Nat) (_:j<3),(cK l)[i*3+j]?=(om l[i])[j]?
 | [],i,h,_,_=>by simp at h
 | a::r,0,_,j,hj=>by
  simp only[cK,flatMap_cons,Nat.zero_mul,Nat.zero_add,getElem_cons_zero]
  rw[getElem?_append_left (by simpa[om]using hj)]
 | a::r,i+1,h,j,hj=>by
  simp only[cK,flatMap_cons,getElem_cons_succ]
  rw[getElem?_append_right (by simp[om];omega),show(i+1)*3+j-(om a).length=i*3+j by simp[om];omega]
  exact xc r i (by simpa using h) j hj
theorem Ko{w:World}{g off:Nat}{l:List RTag}(h:∀j (h:j<(cK l).length),w.cell? ⟨g,off+j,none⟩=some ((cK l)[j]'h)){i:Nat}(hi:i<l.length):
  w.cell? ⟨g,off+i*3,none⟩=some (str l[i].name)/\w.cell? ⟨g,off+i*3+1,none⟩=some (str l[i].path)/\w.cell? ⟨g,off+i*3+2,none⟩=some (.int .i64 l[i].num):=by
 have key:∀j (hj:j<3) (v:Value),(om l[i])[j]?=some v->w.cell? ⟨g,off+i*3+j,none⟩=some v:=fun j hj v hv=>by
  have h1:=xc l i hi j hj;rw[hv]at h1;obtain⟨p,e⟩:=List.getElem?_eq_some_iff.1 h1;have h2:=h (i*3+j) p;rw[<- Nat.add_assoc]at h2;rw[h2,e]
 exact⟨key 0 (by omega) _ rfl,key 1 (by omega) _ rfl,key 2 (by omega) _ rfl⟩
theorem xq{w:World}{v:Value}{l:List RTag}(hs:Sat w (fc v l))(h:DC v l):∃sl cap,v=.slice sl l.length cap/\l.length<=cap/\cap<=9223372036854775807/\(∀k,al w sl (cK (l.take k)))/\(∀k,k<=l.length->al w (if cap=k then sl else sl.map (·.add (k*3))) (cK (l.drop k))):=by
 obtain⟨sl,cap,e,h1,h2,h3,-⟩:=bC hs h (by decide);refine⟨sl,cap,e,h1,h2,fun k hp=>?_,fun k hk hp=>?_⟩
 ·rw[cq,length_take]at hp;obtain⟨g,off,he,hc⟩:=h3 (by rw[cq];omega);refine⟨g,off,he,fun j hj=>?_⟩;rw[cq,length_take]at hj;rw[hc j (by rw[cq];omega)];have:cK l=cK (l.take k)++cK (l.drop k):=by rw[<- jf,take_append_drop]
  congr 1;rw[getElem_of_eq this,getElem_append_left]
 ·rw[cq,length_drop]at hp;obtain⟨g,off,he,hc⟩:=h3 (by rw[cq];omega);rw[if_neg (by omega),he];refine⟨g,off+k*3,by simp[Addr.add],fun j hj=>?_⟩;rw[cq,length_drop]at hj;rw[Nat.add_assoc,hc (k*3+j) (by rw[cq];omega)];have:cK l=cK (l.take k)++cK (l.drop k):=by rw[<- jf,take_append_drop]
  congr 1;rw[getElem_of_eq this,getElem_append_right (by rw[cq,length_take];omega)];congr 1;rw[cq,length_take];omega
theorem RefAt.tags{R:RefL}{P:dE}{w:World}(h:RefAt R P w):∃sl cap,R.tv=.slice sl R.ts.length cap/\R.ts.length<=cap/\cap<=9223372036854775807/\w.heap[R.blk]?=some (jH R)/\(0<R.ts.length->∃g off,sl=some ⟨g,off,none⟩/\∀i (hi:i<R.ts.length),w.cell? ⟨g,off+i*3,none⟩=some (str R.ts[i].name)/\w.cell? ⟨g,off+i*3+1,none⟩=some (str R.ts[i].path)/\w.cell? ⟨g,off+i*3+2,none⟩=some (.int .i64 R.ts[i].num)):=by
 obtain⟨sl,cap,e1,e2,e3,hc,-⟩:=bC h.ref.tail.right h.ok.ts (by decide);refine⟨sl,cap,e1,e2,e3,h.ref.Q5,fun hp=>?_⟩;obtain⟨g,off,hg,hcc⟩:=hc (by rw[cq];omega);exact⟨g,off,hg,fun i hi=>Ko hcc hi⟩
def tAt(ts:List RTag)(m:Bs):Nat->Nat
 | 0=>0
 | k+1=>if(ts[k]?).elim false (fun t=>bJ t.name m)then k+1 else tAt ts m k
theorem Bx{ts:List RTag}{m:Bs}{k:Nat}(h:k<ts.length):tAt ts m (k+1)=if bJ ts[k].name m then k+1 else tAt ts m k:=by
 rw[tAt,getElem?_eq_getElem h];rfl
theorem Jh(ts:List RTag)(m:Bs):∀k,tAt ts m k<=k
 | 0=>Nat.le_refl _
 | k+1=>by
  have:=Jh ts m k
  unfold tAt
  split<;>omega
def po(ts:List RTag)(m:Bs)(x:RTag):List RTag:=ts.take (tAt ts m ts.length)++[x]++ts.drop (tAt ts m ts.length)
def iw(vs:List RVer)(k:Nat)(d:Int):List RVer:=match vs[k]? with|some v=>vs.set k { v with held:=v.held+d }|none=>vs
def ec(R:RefL)(vs':List RVer)(tv':Value)(ts':List RTag):RefL:={ R with vs:=vs',tv:=tv',ts:=ts' }
theorem pW(vs:List RVer)(k:Nat)(d:Int):(iw vs k d).length=vs.length:=by
 unfold iw;split<;>simp
theorem wE{vs:List RVer}{k:Nat}(hk:k<vs.length)(d:Int):(bA vs).set (k*4+3) (.int .i64 (vs[k].held+d))=bA (iw vs k d):=by
 unfold iw;rw[getElem?_eq_getElem hk];dsimp only
 have key:∀(l:List RVer) (k:Nat) (hk:k<l.length),(bA l).set (k*4+3) (.int .i64 (l[k].held+d))=bA (l.set k { l[k]with held:=l[k].held+d }):=by
  intro l;induction l with
  | nil=>intro k hk;cases hk
  | cons a r ih =>
   intro k hk
   cases k with
   | zero=>simp[bA,ls]
   | succ k =>
    simp only[bA,flatMap_cons,getElem_cons_succ,QC];rw[set_append_right _ _ (by simp[ls];omega)];have:=ih k (by simpa using hk);unfold bA at this;rw[<- this];congr 2;simp[ls];omega
 exact key vs k hk
theorem JZ{vs:List RVer}{k:Nat}{d:Int}:∀v∈iw vs k d,∃v0∈vs,v.cv=v0.cv/\v.cont=v0.cont/\v.path=v0.path/\v.num=v0.num:=fun v hv=>by
 unfold iw at hv
 split at hv
 ·rename_i v0 h0
  rcases mem_or_eq_of_mem_set hv with h|rfl
  ·exact⟨v,h,rfl,rfl,rfl,rfl⟩
  ·exact⟨v0,mem_of_getElem? h0,rfl,rfl,rfl,rfl⟩
 ·exact⟨v,hv,rfl,rfl,rfl,rfl⟩
theorem Bc{R:RefL}{P:dE}{w:World}(h:RefAt R P w){k:Nat}(hk:k<R.vs.length):∃g cap,R.vv=.slice (some ⟨g,0,none⟩) R.vs.length cap/\R.vs.length<=cap/\cap<=9223372036854775807/\w.cell? ⟨R.blk,0,none⟩=some (.slice (some ⟨g,0,none⟩) R.vs.length cap)/\R.blk<w.heap.size/\g<w.heap.size /\
  w.cell? ⟨g,k*4+3,none⟩=some (.int .i64 R.vs[k].held)/\w.cell? ⟨g,k*4+1,none⟩=some (.int .i64 R.vs[k].num):=by
 obtain⟨sl,cap,e1,e2,e3,hb,hc⟩:=h.row;rcases(aR h.ref.tail.left h.ok.vs).2 with⟨h0,h1⟩|⟨g,cap',cur,hv,-⟩
 ·omega
 ·rw[e1]at hv;simp only[Value.slice.injEq]at hv;obtain⟨rfl,-,rfl⟩:=hv;obtain⟨g',off,he,hcc⟩:=hc (by omega);simp only[Option.some.injEq,Addr.mk.injEq,and_true]at he;obtain⟨rfl,rfl⟩:=he;obtain⟨-,h1,-,h3⟩:=hcc k hk;rw[Nat.zero_add]at h1 h3;exact⟨g,cap,e1,e2,e3,by rw[<- e1];exact aa hb 0 rfl,ac hb,World.block_lt_of_cell? w _ h3,h3,h1⟩
def Hd(R:RefL)(P:dE)(m p:Bs)(n:Int)(w:World)(e:Ending)(w':World):Prop :=
 (∃k:Int,e=.returned (.int .i64 k)/\Turns (aN R) (aN R) w w'/\((R.closed=true/\k=9)\/(R.closed=false/\aw m=false/\k=1)\/(R.closed=false/\aw m=true/\cz R p n=.error k) \/
  (R.closed=false/\aw m=true/\(∃v,cz R p n=.ok v)/\(∃t∈R.ts,t.name=m)/\k=6))) \/
 (R.closed=false/\aw m=true/\(∀t∈R.ts,t.name≠m)/\∃k tv',∃hk:k<R.vs.length,cz R p n=.ok R.vs[k]/\bW R.vs p n R.vs.length=k/\e=.returned (.int .i64 0)/\RefOk (ec R (iw R.vs k 1) tv' (po R.ts m ⟨m,p,R.vs[k].num⟩)) /\
  Turns (aN R++bh P) (aN (ec R (iw R.vs k 1) tv' (po R.ts m ⟨m,p,R.vs[k].num⟩))++bh P) w w')
theorem Dx(R:RefL)(P:dE)(m p:Bs)(n:Int)(w:World)(h:RefAt R P w)(hJ:Sat w (aN R++bh P))(htl:R.ts.length<=100000)(hhl:∀v∈R.vs,v.held.natAbs<=1099511627776):
  Calls Tryz.prog 67 #[.pointer (some ⟨R.blk,0,none⟩),str m,str p,.int .i64 n] w (Hd R P m p n w):=by
 have HI:=qqH (jd m w);have hbl:=ac h.ref.Q5;have HH:=Hq3 h hJ hhl;clear h hJ hhl;go_enter Tryz.func67,Tryz.ntmps67;go_wp2_with fail;refine HI.out.mono ?_;rintro e w1 ⟨rfl,hs1⟩;have hA1:=HH.a.same hs1;have hb1:=hA1.ref.Q5;have c3:w1.cell? ⟨R.blk,3,none⟩=some (.bool R.closed):=aa hb1 3 rfl;have hbl1:=ac hb1;have HG:=qqH (ph R P p n w1 hA1);have H1:=Hq2 hs1 hA1;clear hs1 hA1 hb1
 cases hc:R.closed with
 | true =>
  rw[hc]at c3;have HC:=qqH hc;clear hc;go_wp2_with fail;go_ret;refine (.inl ⟨9,rfl,Turns.same HH.a.ref H1.a,.inl ⟨HC.out,rfl⟩⟩)
 | false =>
  rw[hc]at c3;have HC:=qqH hc;clear hc
  cases hp:aw m with
  | false =>
   have HP:=qqH hp;go_wp2_with fail;go_ret;refine (.inl ⟨1,rfl,Turns.same HH.a.ref H1.a,.inr (.inl ⟨HC.out,HP.out,rfl⟩)⟩)
  | true =>
   have HP:=qqH hp;clear hp;go_wp2_with fail;refine HG.out.mono ?_;rintro e w2 ⟨hs,hm⟩
   cases hr:cz R p n with
   | error k =>
    rw[hr]at hm;subst hm;have hk0:=jP hr;have HR:=Hq2 hr (H1.a.trans hs);clear hr hs;go_wp2_with fail;go_ret;refine (.inl ⟨k,rfl,Turns.same HH.a.ref HR.z,.inr (.inr (.inl ⟨HC.out,HP.out,HR.a⟩))⟩)
   | ok v =>
    rw[hr]at hm;obtain⟨rfl,-⟩:=hm;obtain⟨-,-,hf⟩:=gj hr;obtain⟨k,hb,hk,hv⟩:=lT hf;have hs2:aX w w2:=H1.a.trans hs;have hA2:=HH.a.same hs2;have hcv:=hA2.one v (hv ▸ getElem_mem hk);have HR:=Hq5 hr hs2 hb hv hA2;clear hr hs hf hb hA2 hcv hs2;go_wp2_with fail;go_loopw [12,13] (fun a i wr=>∃j:Nat,j<=R.ts.length/\i=.int .i64 j/\a=.int .i64 (tAt R.ts m j)/\aX w wr/\∀t∈R.ts.take j,t.name≠m) (fun _ i _=>R.ts.length-(intOf i).toNat)
    case atStart=>exact⟨0,Nat.zero_le _,rfl,rfl,HR.b,by simp⟩
    case round =>
     obtain⟨j,hj,rfl,rfl,hs,hnn⟩:=hrel;have hA:=HH.a.same hs;obtain⟨sl,cap,e1,e2,e3,hbo,hcell⟩:=hA.tags;have c1:wr.cell? ⟨R.blk,1,none⟩=some (.slice sl R.ts.length cap):=by rw[<- e1];exact aa hbo 1 rfl
     have hbl':=ac hbo;have HS:=Hq4 hs hA hnn e1;clear hs hbo hnn e1;by_cases hlt:j<R.ts.length
     ·obtain⟨g,off,hg,hcc⟩:=hcell (by omega);subst hg;obtain⟨h0,-,-⟩:=hcc j hlt;have hnx:=Bx (m:=m) hlt;obtain⟨tn,htn⟩:∃tn,tn=R.ts[j].name:=⟨_,rfl⟩;rw[<- htn]at h0 hnx;have hgl:=World.block_lt_of_cell? wr _ h0;have HX:=Hq2 hnx htn;clear hcc hcell hA hnx htn;by_cases hp:tn=m
      ·have hp':=hp.symm;clear hp;subst hp';go_wp2_with fail;go_ret;refine (.inl ⟨6,rfl,Turns.same HH.a.ref HS.a,.inr (.inr (.inr ⟨HC.out,HP.out,⟨v,HR.a⟩,⟨R.ts[j],getElem_mem hlt,HX.z.symm⟩,rfl⟩))⟩)
      ·have hpq:(tn==m)=false:=by simp[hp]
       have hstep:∀t∈R.ts.take (j+1),t.name≠m:=fun t ht=>by
        rw[QH hlt]at ht;rcases mem_append.1 ht with ht|ht
        ·exact HS.c t ht
        ·rw[mem_singleton.1 ht,<- HX.z];exact hp
       have HT:=qqH hstep;clear hstep
       cases hbl:bJ tn m with
       | true =>
        have hbs:Op.bytesLess tn m=true:=by rw[iT,hbl]
        have hf1:tAt R.ts m (j+1)=j+1:=by rw[HX.a,if_pos hbl]
        have HF:=qqH hf1;clear hf1;go_wp2_with fail;go_roundw
        case rel=>exact⟨j+1,by omega,by go_num,by rw[HF.out];go_num,HS.a,HT.out⟩
        case measure=>simp[intOf];omega
       | false =>
        have hbs:Op.bytesLess tn m=false:=by rw[iT,hbl]
        have hf1:tAt R.ts m (j+1)=tAt R.ts m j:=by rw[HX.a,if_neg (by rw[hbl];simp)]
        have HF:=qqH hf1;clear hf1;go_wp2_with fail;go_roundw
        case rel=>exact⟨j+1,by omega,by go_num,by rw[HF.out],HS.a,HT.out⟩
        case measure=>simp[intOf];omega
     ·obtain rfl:j=R.ts.length:=by omega
      clear hcell hA;have HFi:=qqH (kB R P p n wr HS.b);obtain⟨at_,hat⟩:∃at_,at_=tAt R.ts m R.ts.length:=⟨_,rfl⟩;have hatl:at_<=R.ts.length:=by rw[hat];exact Jh _ _ _
      rw[<- hat];have HA:=qqH hat;clear hat;go_wp2_with fail;refine HFi.out.mono ?_;rintro e w3 ⟨rfl,hs3⟩;rw[HR.c];have hs4:aX w w3:=HS.a.trans hs3;have hA4:=HH.a.same hs4;obtain⟨g,vcap,ev,ev2,ev3,c0,hblk3,hg3,hh3,hn3⟩:=Bc hA4 hk;obtain⟨hd,hhd⟩:∃hd,hd=R.vs[k].held:=⟨_,rfl⟩;obtain⟨nk,hnk⟩:∃nk,nk=R.vs[k].num:=⟨_,rfl⟩;rw[<- hhd]at hh3;rw[<- hnk]at hn3;have hhb:=HH.y _ (getElem_mem hk);rw[<- hhd]at hhb;have hw:IntKind.i64.wrap (hd+1)=hd+1:=IntWalk.i64_in _ (by omega);have hT4:Turns (aN R++bh P) (eu (.slice (some ⟨g,0,none⟩) R.vs.length vcap) R.vs++((R.blk,Is (jH R))::(fc R.tv R.ts++bh P))) w w3:=(Turns.same HH.b hs4).to (by unfold aN;rw[ev];exact ae);have hrvo:lV (.slice (some ⟨g,0,none⟩) R.vs.length vcap) R.vs:=by rw[<- ev];exact HH.a.ok.vs
      have HV:=Hq5 hT4 hrvo ev hhd hnk;have hkl:(k:Int)<(R.vs.length:Int):=by omega
      clear hs3 hs4 hA4 hT4 hrvo ev hhd hnk;obtain⟨F2,hF2⟩:∃F2,F2=aN R++bh P:=⟨_,rfl⟩;obtain⟨vs1,hvs1⟩:∃vs1,vs1=iw R.vs k 1:=⟨_,rfl⟩;have hv1l:vs1.length=R.vs.length:=by rw[hvs1,pW]
      have hrow1:(bA R.vs).set (k*4+3) (.int .i64 (hd+1))=bA vs1:=by rw[HV.d,hvs1];exact wE hk 1
      have hn1:∀(h:k<vs1.length),vs1[k].num=nk:=fun h=>by
       have:vs1[k]?=some { R.vs[k]with held:=R.vs[k].held+1 }:=by rw[hvs1];unfold iw;rw[getElem?_eq_getElem hk];simp[hk]
       rw[getElem?_eq_getElem h]at this;rw[Option.some.inj this,HV.w]
      obtain⟨BF,hBF⟩:∃BF,BF=bN 193 4 (.slice (some ⟨g,0,none⟩) R.vs.length vcap) R.vs.length (bA vs1)++((R.blk,Is (jH R))::(fc R.tv R.ts++bh P)):=⟨_,rfl⟩
      have hRF:∀(W:World) (G:HF),Turns F2 (G++BF) w W->W.cell? ⟨R.blk,0,none⟩=some (.slice (some ⟨g,0,none⟩) R.vs.length vcap)/\W.cell? ⟨R.blk,1,none⟩=some (.slice sl R.ts.length cap)/\R.blk<W.heap.size/\W.cell? ⟨g,k*4+1,none⟩=some (.int .i64 nk)/\g<W.heap.size /\
        (∀k,al W sl (cK (R.ts.take k)))/\(∀k,k<=R.ts.length->al W (if cap=k then sl else sl.map (·.add (k*3))) (cK (R.ts.drop k))):=fun W G hT=>by
       have hs:=hT.sat.right;rw[hBF]at hs;obtain⟨sl',cap',e1',-,-,e4',e5'⟩:=xq (hs.right.tail.left) HH.a.ok.ts;rw[HS.x]at e1';simp only[Value.slice.injEq,true_and]at e1';obtain⟨rfl,rfl⟩:=e1';have hbo:=hs.right.Q5;have hrk:eE 4 (.slice (some ⟨g,0,none⟩) R.vs.length vcap) R.vs.length (bA vs1):=⟨by rw[bq,hv1l],fun h=>by cases h⟩;obtain⟨a',c',ea,-,-,hcc,-⟩:=bC hs.left hrk (by decide);simp only[Value.slice.injEq,true_and]at ea;obtain⟨rfl,-⟩:=ea;obtain⟨g',off',eg,hcc⟩:=hcc (by rw[bq];omega);simp only[Option.some.injEq,Addr.mk.injEq,and_true]at eg;obtain⟨rfl,rfl⟩:=eg;obtain⟨-,h1,-,-⟩:=yC hcc (show k<vs1.length by omega);rw[hn1,Nat.zero_add]at h1;exact⟨by rw[<- HV.c];exact aa hbo 0 rfl,by rw[<- HS.x];exact aa hbo 1 rfl,ac hbo,h1,World.block_lt_of_cell? W _ h1,e4',e5'⟩
      have HRF:=qqH hRF;have HX:=Hq5 hrow1 hF2 hvs1 hv1l hBF;have HV1:=qqH (show Turns F2 _ w w3 by rw[hF2];exact HV.a);clear hRF hrow1 hn1 hF2 hvs1 hv1l hBF
      go_wp2_with (first
       | (refine ai rfl (pq 3 (.tmp 79) (.tmp 77) rfl 193 4 R.vs.length g vcap (bA R.vs) HV1.out HV.b (k*4+3) (by omega) (.int .i64 (hd+1)) rfl rfl (by kernel_rfl) (by simp[Value.oneCell']) rfl ?_);intro w5 hok5 hT5;rw[HX.a,<- HX.w]at hT5;obtain⟨d0,d1,d2,d3,d4,d5,d6⟩:=HRF.out _ [] hT5;have H5:=Hq3 hT5 d5 d6;clear hok5 hT5 d5 d6 c0 hh3 hn3;simp only[Act.put])
       | (at_builtin;refine ai rfl ?_;refine ij (.tmp 80) (.tmp 86) rfl (.slice none 0 0) [] rfl (G:=BF) (show Turns F2 (fc (.slice none 0 0) []++BF) w w5 from H5.a) ⟨rfl,fun _=>⟨rfl,rfl⟩⟩ _ _ _ rfl (R.ts.take at_) (by rw[length_take,Nat.min_eq_left hatl]) (H5.b at_) (by rw[length_take,Nat.min_eq_left hatl];simp;omega) ?_;intro v7 w7 hok7 hT7;simp only[nil_append]at hok7 hT7;obtain⟨d0,d1,d2,d3,d4,-,-⟩:=HRF.out _ _ hT7;have H7:=Hq2 hok7 hT7;clear hok7 hT7)
       | (at_builtin;refine ai rfl ?_;refine ij (.tmp 88) (.tmp 100) rfl v7 (R.ts.take at_) rfl (H7.z.alloc _) H7.a _ 1 1 rfl [⟨m,p,nk⟩] rfl (wJ (xs:=om ⟨m,p,nk⟩)) (by rw[length_take,Nat.min_eq_left hatl];simp;omega) ?_;intro v8 w8 hok8 hT8;obtain⟨d0,d1,d2,d3,d4,-,d6⟩:=HRF.out _ _ hT8;have H8:=Hq3 hok8 hT8 d6;clear hok8 hT8 d6)
       | (at_builtin;refine ai rfl ?_;refine ij (.tmp 102) (.tmp 108) rfl v8 (R.ts.take at_++[⟨m,p,nk⟩]) rfl H8.b H8.a _ _ _ rfl (R.ts.drop at_) (by rw[length_drop]) (H8.y at_ hatl) (by simp;omega) ?_;intro v9 w9 hok9 hT9;obtain⟨d0,d1,d2,d3,d4,-,-⟩:=HRF.out _ _ hT9;have hv9:=dl hT9.sat.left hok9;have H9:=Hq3 hok9 hT9 hv9;clear hok9 hT9 hv9)
       | (refine ai rfl (bu 58 (.tmp 113) (.tmp 111) rfl R.blk 1 (dk R) 60 v9 (H9.b.to (H:=(R.blk,Is (jH R))::(fc v9 (R.ts.take at_++[⟨m,p,nk⟩]++R.ts.drop at_)++(bN 193 4 (.slice (some ⟨g,0,none⟩) R.vs.length vcap) R.vs.length (bA vs1)++(fc R.tv R.ts++bh P)))) (by rw[HX.w];exact ae)) rfl rfl (by simp[dk]) (by kernel_rfl) H9.c H9.d ?_);intro w10 hT10;have H10:=qqH hT10;clear hT10;simp only[Act.put]))
      all_goals
       go_ret;refine (.inr ⟨HC.out,HP.out,fun t ht=>HS.c t (by rw[take_length];exact ht),k,v9,hk,by rw[HR.d];exact HR.a,HR.c,rfl,⟨?_,?_⟩,?_⟩)
       ·show lV R.vv (iw R.vs k 1);rw[<- HX.c,HV.c];exact⟨by rw[bq],fun h=>by cases h⟩
       ·show DC v9 (po R.ts m ⟨m,p,R.vs[k].num⟩);unfold po;rw[<- HA.out,<- HV.w];exact H9.a
       ·rw[<- HX.b];refine H10.out.drop (fun x=>?_)
        have e1:aN (ec R (iw R.vs k 1) v9 (po R.ts m ⟨m,p,R.vs[k].num⟩))=(R.blk,Is (.cells ((dk R).setIfInBounds 1 v9) 60 (0,0)))::(bN 193 4 (.slice (some ⟨g,0,none⟩) R.vs.length vcap) R.vs.length (bA vs1)++fc v9 (R.ts.take at_++[⟨m,p,nk⟩]++R.ts.drop at_)):=by
         unfold aN ec eu po;dsimp only;rw[pW,<- HA.out,<- HV.w,<- HX.c,<- HV.c];rfl
        rw[e1];simp only[ao,ah];omega
def tagT(t:RTag):Bs×Bs×Int:=(t.name,t.path,t.num)
theorem Be(rs:List RTag):cK rs=gM (rs.map tagT):=by
 induction rs with
 | nil=>rfl
 | cons a r ih=>simp only[cK,gM,map_cons,flatMap_cons]at ih ⊢;rw[ih];rfl
theorem AQ:∀(l:List (Bs×Bs×Int)) (i:Nat) (h:i<l.length) (j:Nat) (_:j<3),(gM l)[i*3+j]?=(yr l[i])[j]?
 | [],i,h,_,_=>by simp at h
 | a::r,0,_,j,hj=>by
  simp only[gM,flatMap_cons,Nat.zero_mul,Nat.zero_add,getElem_cons_zero]
  rw[getElem?_append_left (by simpa[yr]using hj)]
 | a::r,i+1,h,j,hj=>by
  simp only[gM,flatMap_cons,getElem_cons_succ]
  rw[getElem?_append_right (by simp[yr];omega),show(i+1)*3+j-(yr a).length=i*3+j by simp[yr];omega]
  exact AQ r i (by simpa using h) j hj
theorem IR{w:World}{sl:Option Addr}{l:List (Bs×Bs×Int)}(h:al w sl (gM l)){i:Nat}(hi:i<l.length):∃g off,sl=some ⟨g,off,none⟩ /\
  w.cell? ⟨g,off+i*3,none⟩=some (str l[i].1)/\w.cell? ⟨g,off+i*3+1,none⟩=some (str l[i].2.1)/\w.cell? ⟨g,off+i*3+2,none⟩=some (.int .i64 l[i].2.2):=by
 obtain⟨g,off,e,hc⟩:=h (by rw[lR];omega)
 have key:∀j (hj:j<3) (v:Value),(yr l[i])[j]?=some v->w.cell? ⟨g,off+i*3+j,none⟩=some v:=fun j hj v hv=>by
  have h1:=AQ l i hi j hj;rw[hv]at h1;obtain⟨p,e⟩:=List.getElem?_eq_some_iff.1 h1;have h2:=hc (i*3+j) p;rw[<- Nat.add_assoc]at h2;rw[h2,e]
 exact⟨g,off,e,key 0 (by omega) _ rfl,key 1 (by omega) _ rfl,key 2 (by omega) _ rfl⟩
def rr(es rs:List (Bs×Bs×Int))(w:World)(e:Ending)(w':World):Prop:=∃b,e=.returned (.bool b)/\(es=rs->b=true)/\aX w w'
theorem uJ(es rs:List (Bs×Bs×Int))(a1 a2:Option Addr)(c1 c2:Nat)(w:World)(h1:al w a1 (gM es))(h2:al w a2 (gM rs))(hx:es.length<=1000000)(hy:rs.length<=1000000):
  Calls Tryz.prog 92 #[.slice a1 es.length c1,.slice a2 rs.length c2] w (rr es rs w):=by
 have HH:=Hq2 h1 h2;clear h1 h2;go_enter Tryz.func92,Tryz.ntmps92;by_cases hl:es.length=rs.length
 ·have hlI:((es.length:Int) != (rs.length:Int))=false:=by simp[hl]
  have HL:=qqH hl;clear hl;go_wp2_with fail;go_loopw [5] (fun i wr=>∃k:Nat,k<=es.length/\i=.int .i64 k/\aX w wr) (fun i _=>es.length-(intOf i).toNat)
  case atStart=>exact⟨0,Nat.zero_le _,rfl,Mods.refl _ _⟩
  case round =>
   obtain⟨k,hk,rfl,hs⟩:=hrel;by_cases hlt:k<es.length
   ·obtain⟨g,off,hg,p0,p1,p2⟩:=IR (HH.a.keep hs (fun _ _ _=>id)) hlt;obtain⟨g',off',hg',q0,q1,q2⟩:=IR (HH.z.keep hs (fun _ _ _=>id)) (i:=k) (by rw[<- HL.out];exact hlt);have hkr:k<rs.length:=by rw[<- HL.out];exact hlt
    subst hg;subst hg';obtain⟨x,hxd⟩:∃x,x=es[k]:=⟨_,rfl⟩;obtain⟨y,hyd⟩:∃y,y=rs[k]:=⟨_,rfl⟩;rw[<- hxd]at p0 p1 p2;rw[<- hyd]at q0 q1 q2;obtain⟨xp,xl,xs⟩:=x;obtain⟨yp,yl,ys⟩:=y;simp only at p0 p1 p2 q0 q1 q2;have HX:=Hq3 hxd hyd hs;clear hxd hyd hs
    have hno:∀(h:¬(xp,xl,xs)=(yp,yl,ys)) (W:World),aX w W->rr es rs w (.returned (.bool false)) W:=fun h W hW=>⟨false,rfl,fun he=>by
     exfalso;apply h;have e1:=HX.a;have e2:=HX.b;subst he;rw[e1,e2],hW⟩
    have HNO:=qqH hno;clear hno;by_cases c1:xp=yp
    ·have c1':=c1.symm;clear c1;subst c1';by_cases c2:xl=yl
     ·have c2':=c2.symm;clear c2;subst c2';by_cases c3:xs=ys
      ·subst c3;go_upto_region 6 with(fail);go_quiet (fail);go_wp2_with fail;go_roundw
       case rel=>exact⟨k+1,by omega,by go_num,HX.y.drewN _⟩
       case measure=>simp[intOf];omega
      ·have d3:(xs != ys)=true:=by simp[c3]
       go_upto_region 6 with(fail);go_quiet (fail);go_wp2_with fail;go_ret;exact HNO.out (by simp[c3]) _ (HX.y.drewN _)
     ·have d2:(xl==yl)=false:=by simp[c2]
      go_upto_region 6 with(fail);go_quiet (fail);go_wp2_with fail;go_ret;exact HNO.out (by simp[c2]) _ (HX.y.drewN _)
    ·have d1:(xp==yp)=false:=by simp[c1]
     go_upto_region 6 with(fail);go_quiet (fail);go_wp2_with fail;go_ret;exact HNO.out (by simp[c1]) _ (HX.y.drewN _)
   ·obtain rfl:k=es.length:=by omega
    go_wp2_with fail;go_ret;exact ⟨true,rfl,fun _=>rfl,hs⟩
 ·have hlI:((es.length:Int) != (rs.length:Int))=true:=by simp;omega
  go_wp2_with fail;go_ret;exact ⟨false,rfl,fun he=>by subst he;exact absurd rfl hl,Mods.refl _ _⟩
def nQ(ts:List RTag)(i:Nat):List RTag:=ts.take i++ts.drop (i+1)
def Ca(R:RefL)(P:dE)(m:Bs)(w:World)(e:Ending)(w':World):Prop :=
 (∃k:Int,e=.returned (.int .i64 k)/\Turns (aN R) (aN R) w w'/\((R.closed=true/\k=9)\/(R.closed=false/\aw m=false/\k=1)\/(R.closed=false/\aw m=true/\(∀t∈R.ts,t.name≠m)/\k=3))) \/
 (R.closed=false/\aw m=true/\∃i k tv',∃hi:i<R.ts.length,R.ts[i].name=m/\k<R.vs.length/\bW R.vs R.ts[i].path R.ts[i].num R.vs.length=k/\e=.returned (.int .i64 0)/\RefOk (ec R (iw R.vs k (-1)) tv' (nQ R.ts i)) /\
  Turns (aN R++bh P) (aN (ec R (iw R.vs k (-1)) tv' (nQ R.ts i))++bh P) w w')
theorem yv(R:RefL)(P:dE)(m:Bs)(w:World)(h:RefAt R P w)(hJ:Sat w (aN R++bh P))(htl:R.ts.length<=100000)(hhl:∀v∈R.vs,v.held.natAbs<=1099511627776)(hte:∀t∈R.ts,∃k:Nat,k<R.vs.length/\bW R.vs t.path t.num R.vs.length=k):
  Calls Tryz.prog 69 #[.pointer (some ⟨R.blk,0,none⟩),str m] w (Ca R P m w):=by
 have HI:=qqH (jd m w);have hbl:=ac h.ref.Q5;have HH:=Hq4 h hJ hhl hte;clear h hJ hhl hte;go_enter Tryz.func69,Tryz.ntmps69;go_wp2_with fail;refine HI.out.mono ?_;rintro e w1 ⟨rfl,hs1⟩;have hA1:=HH.a.same hs1;have hb1:=hA1.ref.Q5;have c3:w1.cell? ⟨R.blk,3,none⟩=some (.bool R.closed):=aa hb1 3 rfl;have hbl1:=ac hb1;have H1:=Hq2 hs1 hA1;clear hs1 hA1 hb1
 cases hc:R.closed with
 | true =>
  rw[hc]at c3;have HC:=qqH hc;clear hc;go_wp2_with fail;go_ret;refine (.inl ⟨9,rfl,Turns.same HH.a.ref H1.a,.inl ⟨HC.out,rfl⟩⟩)
 | false =>
  rw[hc]at c3;have HC:=qqH hc;clear hc
  cases hp:aw m with
  | false =>
   have HP:=qqH hp;go_wp2_with fail;go_ret;refine (.inl ⟨1,rfl,Turns.same HH.a.ref H1.a,.inr (.inl ⟨HC.out,HP.out,rfl⟩)⟩)
  | true =>
   have HP:=qqH hp;clear hp;go_wp2_with fail;go_loopw [6] (fun i wr=>∃j:Nat,j<=R.ts.length/\i=.int .i64 j/\aX w wr/\∀t∈R.ts.take j,t.name≠m) (fun i _=>R.ts.length-(intOf i).toNat)
   case atStart=>exact⟨0,Nat.zero_le _,rfl,H1.a,by simp⟩
   case round =>
    obtain⟨j,hj,rfl,hs,hnn⟩:=hrel;have hA:=HH.a.same hs;obtain⟨sl,cap,e1,e2,e3,hbo,hcell⟩:=hA.tags;have c1:wr.cell? ⟨R.blk,1,none⟩=some (.slice sl R.ts.length cap):=by rw[<- e1];exact aa hbo 1 rfl
    have hbl':=ac hbo;have HS:=Hq4 hs hA hnn e1;clear hs hbo hnn e1;by_cases hlt:j<R.ts.length
    ·obtain⟨g0,off,hg,hcc⟩:=hcell (by omega);subst hg;obtain⟨h0,h1,h2⟩:=hcc j hlt;obtain⟨tn,htn⟩:∃tn,tn=R.ts[j].name:=⟨_,rfl⟩;obtain⟨tp,htp⟩:∃tp,tp=R.ts[j].path:=⟨_,rfl⟩;obtain⟨tk,htk⟩:∃tk,tk=R.ts[j].num:=⟨_,rfl⟩;rw[<- htn]at h0;rw[<- htp]at h1;rw[<- htk]at h2;have hgl:=World.block_lt_of_cell? wr _ h0;have HX0:=Hq3 htn htp htk;clear hcc hcell hA htn htp htk;by_cases hp:tn=m
     ·obtain⟨k,hk,hbt⟩:=HH.x _ (getElem_mem hlt);rw[<- HX0.b,<- HX0.y]at hbt;have HB:=Hq2 hbt hp;clear hbt;go_upto_region 10 with(fail);refine wp_region_still_tail 17 HM.out (by kernel_rfl) ?_;simp only[QE,take_zero,QD,drop_zero];repeat still_step
      refine wpStill_nil ?_;change wpList _ _ _ _ _ wr.drew;have HFi:=qqH (kB R P tp tk wr.drew (HH.a.same HS.a.drew));go_wp2_with fail;refine HFi.out.mono ?_;rintro e w3 ⟨rfl,hs3⟩;rw[HB.a];have hs4:aX w w3:=HS.a.drew.trans hs3;have hA4:=HH.a.same hs4;obtain⟨g,vcap,ev,ev2,ev3,c0,hblk3,hg3,hh3,hn3⟩:=Bc hA4 hk;obtain⟨hd,hhd⟩:∃hd,hd=R.vs[k].held:=⟨_,rfl⟩;obtain⟨nk,hnk⟩:∃nk,nk=R.vs[k].num:=⟨_,rfl⟩;rw[<- hhd]at hh3;rw[<- hnk]at hn3;have hhb:=HH.c _ (getElem_mem hk);rw[<- hhd]at hhb;have hw:IntKind.i64.wrap (hd-1)=hd-1:=IntWalk.i64_in _ (by omega);have hT4:Turns (aN R++bh P) (eu (.slice (some ⟨g,0,none⟩) R.vs.length vcap) R.vs++((R.blk,Is (jH R))::(fc R.tv R.ts++bh P))) w w3:=(Turns.same HH.b hs4).to (by unfold aN;rw[ev];exact ae);have hrvo:lV (.slice (some ⟨g,0,none⟩) R.vs.length vcap) R.vs:=by rw[<- ev];exact HH.a.ok.vs
      have HV:=Hq5 hT4 hrvo ev hhd hnk;have hkl:(k:Int)<(R.vs.length:Int):=by omega
      clear hs3 hs4 hA4 hT4 hrvo ev hhd hnk;obtain⟨F2,hF2⟩:∃F2,F2=aN R++bh P:=⟨_,rfl⟩;obtain⟨vs1,hvs1⟩:∃vs1,vs1=iw R.vs k (-1):=⟨_,rfl⟩;have hv1l:vs1.length=R.vs.length:=by rw[hvs1,pW]
      have hrow1:(bA R.vs).set (k*4+3) (.int .i64 (hd-1))=bA vs1:=by rw[HV.d,hvs1,Int.sub_eq_add_neg];exact wE hk (-1)
      have hn1:∀(h:k<vs1.length),vs1[k].num=nk:=fun h=>by
       have:vs1[k]?=some { R.vs[k]with held:=R.vs[k].held+-1 }:=by rw[hvs1];unfold iw;rw[getElem?_eq_getElem hk];simp[hk]
       rw[getElem?_eq_getElem h]at this;rw[Option.some.inj this,HV.w]
      obtain⟨BF,hBF⟩:∃BF,BF=bN 193 4 (.slice (some ⟨g,0,none⟩) R.vs.length vcap) R.vs.length (bA vs1)++((R.blk,Is (jH R))::(fc R.tv R.ts++bh P)):=⟨_,rfl⟩
      have hRF:∀(W:World) (G:HF),Turns F2 (G++BF) w W->W.cell? ⟨R.blk,0,none⟩=some (.slice (some ⟨g,0,none⟩) R.vs.length vcap)/\W.cell? ⟨R.blk,1,none⟩=some (.slice (some ⟨g0,off,none⟩) R.ts.length cap)/\R.blk<W.heap.size/\W.cell? ⟨g,k*4+1,none⟩=some (.int .i64 nk)/\g<W.heap.size /\
        (∀k,al W (some ⟨g0,off,none⟩) (cK (R.ts.take k)))/\(∀k,k<=R.ts.length->al W (if cap=k then some ⟨g0,off,none⟩else some ⟨g0,off+k*3,none⟩) (cK (R.ts.drop k))):=fun W G hT=>by
       have hs:=hT.sat.right;rw[hBF]at hs;obtain⟨sl',cap',e1',-,-,e4',e5'⟩:=xq (hs.right.tail.left) HH.a.ok.ts;rw[HS.x]at e1';simp only[Value.slice.injEq,true_and]at e1';obtain⟨rfl,rfl⟩:=e1';have hbo:=hs.right.Q5;have hrk:eE 4 (.slice (some ⟨g,0,none⟩) R.vs.length vcap) R.vs.length (bA vs1):=⟨by rw[bq,hv1l],fun h=>by cases h⟩;obtain⟨a',c',ea,-,-,hcc,-⟩:=bC hs.left hrk (by decide);simp only[Value.slice.injEq,true_and]at ea;obtain⟨rfl,-⟩:=ea;obtain⟨g',off',eg,hcc⟩:=hcc (by rw[bq];omega);simp only[Option.some.injEq,Addr.mk.injEq,and_true]at eg;obtain⟨rfl,rfl⟩:=eg;obtain⟨-,h1,-,-⟩:=yC hcc (show k<vs1.length by omega);rw[hn1,Nat.zero_add]at h1
       exact⟨by rw[<- HV.c];exact aa hbo 0 rfl,by rw[<- HS.x];exact aa hbo 1 rfl,ac hbo,h1,World.block_lt_of_cell? W _ h1,e4',fun k hk=>by
        have h:=e5' k hk;have e:(some (⟨g0,off,none⟩:Addr)).map (·.add (k*3))=some ⟨g0,off+k*3,none⟩:=by by_cases h0:k=0<;>simp[Addr.add,h0];omega
        rwa [e]at h⟩
      have HRF:=qqH hRF;have HX:=Hq5 hrow1 hF2 hvs1 hv1l hBF;have HV1:=qqH (show Turns F2 _ w w3 by rw[hF2];exact HV.a);clear hRF hrow1 hn1 hF2 hvs1 hv1l hBF;obtain⟨j1,hj1⟩:∃j1,j1=j+1:=⟨_,rfl⟩;have hj1z:(j:Int)+1=(j1:Int):=by omega
      have hj1l:j1<=R.ts.length:=by omega
      have hj1c:j1<=cap:=by omega
      have hjl:j<=R.ts.length:=by omega
      have HJ:=qqH hj1;clear hj1
      go_wp2_with (first
       | (refine ai rfl (pq 3 (.tmp 64) (.tmp 62) rfl 193 4 R.vs.length g vcap (bA R.vs) HV1.out HV.b (k*4+3) (by omega) (.int .i64 (hd-1)) rfl rfl (by kernel_rfl) (by simp[Value.oneCell']) rfl ?_);intro w5 hok5 hT5;rw[HX.a,<- HX.w]at hT5;obtain⟨d0,d1,d2,d3,d4,d5,d6⟩:=HRF.out _ [] hT5;have H5:=Hq3 hT5 d5 d6;clear hok5 hT5 d5 d6 c0 hh3 hn3;simp only[Act.put])
       | (at_builtin;refine ai rfl ?_;refine ij (.tmp 65) (.tmp 71) rfl (.slice none 0 0) [] rfl (G:=BF) (show Turns F2 (fc (.slice none 0 0) []++BF) w w5 from H5.a) ⟨rfl,fun _=>⟨rfl,rfl⟩⟩ _ _ _ rfl (R.ts.take j) (by rw[length_take,Nat.min_eq_left hjl]) (H5.b j) (by rw[length_take,Nat.min_eq_left hjl];simp;omega) ?_;intro v7 w7 hok7 hT7;simp only[nil_append]at hok7 hT7;obtain⟨d0,d1,d2,d3,d4,-,d6⟩:=HRF.out _ _ hT7;have H7:=Hq3 hok7 hT7 d6;clear hok7 hT7 d6)
       | (at_builtin;refine ai rfl ?_;refine ij (.tmp 73) (.tmp 80) rfl v7 (R.ts.take j) rfl H7.b H7.a _ _ _ rfl (R.ts.drop j1) (by rw[length_drop]) (H7.y j1 hj1l) (by simp;omega) ?_;intro v9 w9 hok9 hT9;obtain⟨d0,d1,d2,d3,d4,-,-⟩:=HRF.out _ _ hT9;have hv9:=dl hT9.sat.left hok9;have H9:=Hq3 hok9 hT9 hv9;clear hok9 hT9 hv9)
       | (refine ai rfl (bu 58 (.tmp 85) (.tmp 83) rfl R.blk 1 (dk R) 60 v9 (H9.b.to (H:=(R.blk,Is (jH R))::(fc v9 (R.ts.take j++R.ts.drop j1)++(bN 193 4 (.slice (some ⟨g,0,none⟩) R.vs.length vcap) R.vs.length (bA vs1)++(fc R.tv R.ts++bh P)))) (by rw[HX.w];exact ae)) rfl rfl (by simp[dk]) (by kernel_rfl) H9.c H9.d ?_);intro w10 hT10;have H10:=qqH hT10;clear hT10;simp only[Act.put]))
      all_goals
       go_ret;refine (.inr ⟨HC.out,HP.out,j,k,v9,hlt,by rw[<- HX0.a];exact HB.z,hk,by rw[<- HX0.b,<- HX0.y];exact HB.a,rfl,⟨?_,?_⟩,?_⟩)
       ·show lV R.vv (iw R.vs k (-1));rw[<- HX.c,HV.c];exact⟨by rw[bq],fun h=>by cases h⟩
       ·show DC v9 (nQ R.ts j);unfold nQ;rw[<- HJ.out];exact H9.a
       ·rw[<- HX.b];refine H10.out.drop (fun x=>?_)
        have e1:aN (ec R (iw R.vs k (-1)) v9 (nQ R.ts j))=(R.blk,Is (.cells ((dk R).setIfInBounds 1 v9) 60 (0,0)))::(bN 193 4 (.slice (some ⟨g,0,none⟩) R.vs.length vcap) R.vs.length (bA vs1)++fc v9 (R.ts.take j++R.ts.drop j1)):=by
         unfold aN ec eu nQ;dsimp only;rw[pW,<- HJ.out,<- HX.c,<- HV.c];rfl
        rw[e1];simp only[ao,ah];omega
     ·have hpq:(tn==m)=false:=by simp[hp]
      have hstep:∀t∈R.ts.take (j+1),t.name≠m:=fun t ht=>by
       rw[QH hlt]at ht;rcases mem_append.1 ht with ht|ht
       ·exact HS.c t ht
       ·rw[mem_singleton.1 ht,<- HX0.a];exact hp
      have HT:=qqH hstep;clear hstep;go_wp2_with fail;go_roundw
      case rel=>exact⟨j+1,by omega,by go_num,HS.a,HT.out⟩
      case measure=>simp[intOf];omega
    ·obtain rfl:j=R.ts.length:=by omega
     clear hcell hA;go_wp2_with fail;go_ret;refine (.inl ⟨3,rfl,Turns.same HH.a.ref HS.a,.inr (.inr ⟨HC.out,HP.out,fun t ht=>HS.c t (by rw[take_length];exact ht),rfl⟩)⟩)
def zk(S:AS)(m:Bs)(k:Int):Prop :=
 (S.X.closed=true/\k=9)\/(S.X.closed=false/\aw m=false/\k=1)\/(S.X.closed=false/\aw m=true/\gJ S.ts m=false/\k=3) \/
 (∃q∈S.ts,q.key=m/\S.X.closed=false/\aw m=true/\128*S.A.count<S.data.length+(frame 5 (dR q.g.1 m q.g.2)).length/\k=8)
def E7(S:AS)(m:Bs)(w:World)(e:Ending)(w':World):Prop :=
 (∃k,zk S m k/\e=.returned (cO k)/\Turns (arF S) (arF S) w w') \/
 (∃q∈S.ts,∃L',q.key=m/\S.X.closed=false/\aw m=true/\S.data.length+(frame 5 (dR q.g.1 m q.g.2)).length<=128*S.A.count/\e=.returned .nilIface/\RecIs S L' (frame 5 (dR q.g.1 m q.g.2))/\Turns (arF S) (arF (mZ S m q.g.1 q.g.2 L')) w w')
theorem Jk{S:AS}{b:Nat}(hB:ArB S b)(hb:b<=90000)(l:Bs):(af S.ps l).length<=1099511627776:=by have:=EN hB l;omega
theorem zl(S:AS)(m:Bs)(b:Nat)(w:World)(h:Sat w (arF S))(hok:ArOk S)(hB:ArB S b)(hb:b<=90000):
  Calls Tryz.prog 68 #[.pointer (some ⟨S.a,0,none⟩),str m] w (E7 S m w):=by
 have HBg:=qqH (fun W (hW:aX w W) (h0:W.cell? ⟨w.heap.size,0,none⟩=some (str m))=>ko S.a S.X (some ⟨w.heap.size,0,none⟩) 1 [m] W (hW.at h.Q5 id) (fun _=>⟨_,_,rfl,fun j hj=>by
  obtain rfl:j=0:=by simp at hj;omega
  exact h0⟩) (by simp))
 have hal:=ac h.Q5;have HH:=Hq4 h hok hB hb;clear h hok hB hb;go_enter Tryz.func68,Tryz.ntmps68;go_wp2_with fail;have hal0:=aK w (.cells #[str m] 9);refine(HBg.out _ ((Mods.refl _ w).alloc _) (aa hal0 0 rfl)).mono ?_;rintro e w2 ⟨rfl,hs1⟩;have hs2:aX w w2:=((Mods.refl _ w).alloc _).trans hs1;obtain⟨cl,hcl⟩:∃cl,cl=S.X.closed:=⟨_,rfl⟩;obtain⟨pb,hpb⟩:∃pb,pb=aw m:=⟨_,rfl⟩;have e1:([m].all aw)=pb:=by simp[hpb]
 rw[e1,<- hcl];have hT1:Turns (arF S) (arF S) w w2:=Turns.same HH.a hs2;have HD:=Hq3 hcl.symm hpb.symm hT1;clear hcl hpb hs2 hs1 e1 hal0
 cases cl with
 | true =>
  simp only[if_true];unfold cO;go_wp2_with fail;go_ret;refine (.inl ⟨9,.inl ⟨HD.a,rfl⟩,rfl,HD.y⟩)
 | false =>
  cases pb with
  | false =>
   simp only[Bool.false_eq_true,if_false];unfold cO;go_wp2_with fail;go_ret;refine (.inl ⟨1,.inr (.inl ⟨HD.a,HD.b,rfl⟩),rfl,HD.y⟩)
  | true =>
   simp only[Bool.false_eq_true,if_false,if_true];have a1:w2.cell? ⟨S.a,1,none⟩=some (.map (some S.X.tm)):=aa hT1.sat.Q5 1 rfl;have hal2:=ac hT1.sat.Q5;have htm:=hT1.sat.Q7 (b:=S.X.tm) (o:=aQ str (S.ts.map aO) S.tc) (by simp[arF,b8]);have hOm:OkS m:=by have:=bP HD.b;unfold OkS;omega
   have HV:=Hq2 htm hOm;clear htm hOm hT1
   cases hg:dB (S.ts.map aO) m with
   | none =>
    have hhb:ix (S.ts.map aO) m=false:=by rw[gI,hg];rfl
    have HG:=Hq2 hg hhb;clear hg hhb;go_wp2_with (at_lookup;refine ai rfl (iI eb (.tmp 21) (.tmp 22) rfl Tryz.underlying120 HV.a HH.b.tags.map (kf _) m rfl rfl HV.z ?_);rw[HG.a,HG.z];simp only[Option.getD_none];unfold KB);go_ret;refine (.inl ⟨3,.inr (.inr (.inl ⟨HD.a,HD.b,by rw[<- pZ];exact HG.z,rfl⟩)),rfl,HD.y.alloc _⟩)
   | some u =>
    obtain⟨e,he,hek,hev⟩:=lk hg;obtain⟨q,hq,rfl⟩:=mem_map.1 he;have hqk:q.key=m:=hek;have hqv:=HH.b.tags.val q hq;have hu:u=.agg #[str m,str q.g.1,.int .i64 q.g.2]:=by rw[<- hqk,<- hev];exact hqv
    have hhb:ix (S.ts.map aO) m=true:=by rw[gI,hg];rfl
    rw[hu]at hg;have hqb:=HH.c.tags q hq;have HG:=Hq5 hg hhb hq hqk hqb;clear hg hhb hu hqv hek hev he hq hqb;obtain⟨l,n,hgq⟩:∃l n,q.g=(l,n):=⟨_,_,rfl⟩;rw[hgq]at HG;dsimp only at HG;go_upto_region 7 with(at_lookup;refine ai rfl (iI eb (.tmp 21) (.tmp 22) rfl Tryz.underlying120 HV.a HH.b.tags.map (kf _) m rfl rfl HV.z ?_);rw[HG.a,HG.b];simp only[Option.getD_some]);generalize hW:World.alloc w2 _=W
    have hT2:Turns (arF S) ((w2.heap.size,Is (.cells #[str m,str l,.int .i64 n] 230 (0,0)))::arF S) w W:=by
     rw[<- hW];exact HD.y.Q8 (.cells #[str m,str l,.int .i64 n] 230)
    have hbo:=hT2.sat.Q5;have d0:W.cell? ⟨w2.heap.size,0,none⟩=some (str m):=aa hbo 0 rfl;have d1:W.cell? ⟨w2.heap.size,1,none⟩=some (str l):=aa hbo 1 rfl;have d2:W.cell? ⟨w2.heap.size,2,none⟩=some (.int .i64 n):=aa hbo 2 rfl;obtain⟨pb,hpb⟩:∃pb,pb=w2.heap.size:=⟨_,rfl⟩;rw[<- hpb]at hT2 d0 d1 d2 ⊢;have H2:=qqH hT2;clear hW hT2 hbo hpb;go_wp2_with fail;refine(lQ 5 m l n _).mono ?_;rintro e w3 ⟨rfl,hs3⟩;obtain⟨rec,hrec⟩:∃rec,rec=frame 5 (dR l m n):=⟨_,rfl⟩
    have hrl:rec.length<=70000:=by
     have:=bP HD.b;have:=HG.f;rw[hrec];simp only[aJ,dR,length_append,bI,bV];omega
    have hWr:=kd 5 l m n w3 HG.f (by have:=bP HD.b;omega) (by unfold I64;have:=HH.x;have:=HG.u;omega);rw[<- hrec]at hWr;have HW:=qqH hWr;have H3:=Hq3 (H2.out.Q9 hs3) hrec hrl;clear hs3 hrec hrl hWr d0 d1 d2;go_wp2_with fail;refine HW.out.mono ?_;rintro e w4 ⟨rv,rfl,hbo,hT4⟩;obtain⟨ra,rc,hrv,-⟩:=aP (dr hT4.sat hbo);subst hrv;have hT5:=((H3.a.Qb hT4).Q8 (.cells #[.slice ra rec.length rc] 38)).to (H:=(arF S++mw w4.heap.size (.slice ra rec.length rc) rec)++[(pb,Is (.cells #[str m,str l,.int .i64 n] 230 (0,0)))]) (by unfold mw;exact ae);have HC:=qqH (kK S HH.b b HH.c HH.x (.slice ra rec.length rc) rec w4.heap.size _ hT5.sat.left hbo H3.y);have hal4:=ac (hT5.sat.Q7 (b:=S.a) (o:=aH S.X) (by simp[arF]));have H5:=qqH hT5;clear hT4 hT5 hbo;go_wp2_with fail;refine HC.out.mono ?_;rintro e w5 (⟨hful,rfl,hs⟩|⟨hfit,rfl,L',hR,hT6⟩)
    ·have H6:=Hq2 hful (H5.out.Q9 hs);clear hful hs;unfold cO;go_wp2_with fail;go_ret;refine (.inl ⟨8,.inr (.inr (.inr ⟨q,HG.c,HG.d,HD.a,HD.b,by rw[hgq,<- H3.b];exact H6.a,rfl⟩)),rfl,?_⟩);exact H6.z.drop (fun x=>by simp only[ah];omega)
    ·have hT7:=H5.out.step (Perm.refl _) hT6;have hT8:=hT7.to (H:=jE S.a S.X S.ps S.pc S.ts S.tc++((aq S.X.ab S.X.d (mT S L' rec).A++(az S.X.d L'++aM S.X.cm S.cs S.cc))++(mw w4.heap.size (.slice ra rec.length rc) rec++[(pb,Is (.cells #[str m,str l,.int .i64 n] 230 (0,0)))]))) (by unfold arF mT jE;exact ae);have hbo8:=hT8.sat.Q7 (b:=pb) (o:=.cells #[str m,str l,.int .i64 n] 230 (0,0)) (by simp);have d0:w5.cell? ⟨pb,0,none⟩=some (str m):=aa hbo8 0 rfl;have d1:w5.cell? ⟨pb,1,none⟩=some (str l):=aa hbo8 1 rfl;have d2:w5.cell? ⟨pb,2,none⟩=some (.int .i64 n):=aa hbo8 2 rfl;have hal5:S.a<w5.heap.size:=ac (hT8.sat.Q7 (b:=S.a) (o:=aH S.X) (by simp[jE]));have H8:=Hq3 hT8 hfit hR;clear hT6 hT7 hT8 hbo8 hfit hR;go_wp2_with fail;refine wp_region_still_tail 4 HM.out (by kernel_rfl) ?_;simp only[QE,take_zero,QD,drop_zero];repeat still_step
     refine wpStill_nil ?_;change wpList _ _ _ _ _ w5.drew;have hT9:=H8.a.drew;have HPn:=qqH (rZ S.a S.X S.ps S.pc S.ts S.tc m l n w5.drew ⟨hT9.sat.left,HH.b.paths,HH.b.tags,HV.z,by unfold OkS;have:=HG.f;omega,Jk HH.c HH.x l,Em HH.c HH.x l⟩);have H9:=qqH hT9;clear hT9 d0 d1 d2;go_wp2_with fail;refine HPn.out.mono ?_;rintro e w6 ⟨rfl,hT10⟩;have H10:=qqH (H9.out.step (Perm.refl _) hT10);clear hT10;go_wp2_with fail;go_ret;refine (.inr ⟨q,HG.c,L',HG.d,HD.a,HD.b,by rw[hgq,<- H3.b];exact H8.b,rfl,by rw[hgq,<- H3.b];exact H8.y,?_⟩);rw[hgq];refine H10.out.drop (fun x=>?_);unfold mZ arF mT jE;rw[<- H3.b];simp only[ao,ah];omega
def eh(p:Bs)(n d:Int)(v:RVer):RVer:=if v.path=p/\v.num=n then { v with held:=v.held+d } else v
theorem gE(p:Bs)(n d:Int)(v:RVer):(eh p n d v).path=v.path/\(eh p n d v).num=v.num/\(eh p n d v).cont=v.cont/\(eh p n d v).cv=v.cv:=by
 unfold eh;split<;>exact⟨rfl,rfl,rfl,rfl⟩
theorem lM{vs:List RVer}(h:pz vs){k:Nat}(hk:k<vs.length)(d:Int):iw vs k d=vs.map (eh vs[k].path vs[k].num d):=by
 unfold iw;rw[getElem?_eq_getElem hk];dsimp only;refine ext_getElem (by simp) fun i h1 h2=>?_
 rw[getElem_set,getElem_map];rw[length_set]at h1;by_cases hi:k=i
 ·subst hi;rw[if_pos rfl];unfold eh;rw[if_pos ⟨rfl,rfl⟩]
 ·rw[if_neg hi];unfold eh;rw[if_neg (fun e=>hi (h.one hk h1 e.1.symm e.2.symm))]
theorem tu(vs:List RVer)(p:Bs)(n d:Int)(q:Bs):aD (vs.map (eh p n d)) q=(aD vs q).map (eh p n d):=by
 unfold aD;rw[filter_map];congr 1;refine filter_congr fun v _=>?_
 show decide ((eh p n d v).path=q)=_;rw[(gE p n d v).1]
def tb(n d:Int)(t:kJ):kJ:=if t.1=n then(t.1,t.2.1,t.2.2+d)else t
theorem Link.hold{S S':AS}{R:RefL}(L:Link S R){p:Bs}{n d:Int}(hps:S'.ps=cP S.ps p n d)(hK:S'.K=S.K)(q:Bs):(af S'.ps q).map (cQ S')=(aD (R.vs.map (eh p n d)) q).map fA:=by
 rw[hps,gT,tu]
 have e1:∀V:VerL,cQ S' (di n d V)=tb n d (cQ S V):=fun V=>by
  have hc:∀U:VerL,U.chs=V.chs->da S' U=da S V:=fun U hU=>by unfold da;rw[hK,hU]
  unfold cQ tb di;by_cases h:(V.num:Int)=n
  ·rw[if_pos h,if_pos h];exact congrArg (fun c=>((V.num:Int),c,V.held+d)) (hc _ rfl)
  ·rw[if_neg h,if_neg h,hc _ rfl]
 have e2:∀V:VerL,cQ S' V=cQ S V:=fun V=>by unfold cQ da;rw[hK]
 by_cases h:q=p
 ·subst h;rw[if_pos rfl,map_map,map_map];have h1:=congrArg (List.map (tb n d)) (L.vers q);rw[map_map,map_map]at h1;have h2:(af S.ps q).map (cQ S' ∘ di n d)=(af S.ps q).map (tb n d ∘ cQ S):=map_congr_left fun V _=>e1 V
  rw[h2,h1];refine map_congr_left fun v hv=>?_
  have hv2:v.path=q:=by simpa using(mem_filter.1 hv).2
  show tb n d (fA v)=fA (eh q n d v);unfold tb fA eh;by_cases h3:v.num=n
  ·rw[if_pos h3,if_pos ⟨hv2,h3⟩]
  ·rw[if_neg h3,if_neg (fun e=>h3 e.2)]
 ·rw[if_neg h,map_map];have h2:(af S.ps q).map (cQ S')=(af S.ps q).map (cQ S):=map_congr_left fun V _=>e2 V
  rw[h2,L.vers];refine map_congr_left fun v hv=>?_
  have hv2:v.path=q:=by simpa using(mem_filter.1 hv).2
  show fA v=fA (eh p n d v);unfold eh;rw[if_neg (fun e=>h (hv2.symm.trans e.1))]
theorem Cy(vs:List RVer)(p:Bs)(n d:Int):eT (vs.map (eh p n d))=eT vs:=by
 unfold eT;rw[map_map];congr 1;exact map_congr_left fun v _=>by show(eh p n d v).cont.length=_;rw[(gE p n d v).2.2.1]
theorem Link.held'{S S':AS}{R:RefL}(L:Link S R){p:Bs}{n d:Int}{tv:Value}{ts':List RTag}(hX:S'.X=S.X)(hps:S'.ps=cP S.ps p n d)(hK:S'.K=S.K)(h1:(S'.ts.map jI).Perm (ts'.map ql))(h2:ts'.Pairwise (fun a b=>bJ a.name b.name=true))(h3:∀t∈ts',aw t.name=true/\∃v∈R.vs,v.path=t.path/\v.num=t.num)(h4:∀v∈R.vs,(eh p n d v).held=iz ts' v.path v.num):Link S' (ec R (R.vs.map (eh p n d)) tv ts') where
 closed:=by rw[hX];exact L.closed
 quota:=by rw[hX];exact L.quota
 used:=by rw[hX,L.used];show _=((eT (R.vs.map (eh p n d)):Nat):Int);rw[Cy]
 vers:=fun q=>L.hold hps hK q
 sorted:=by
  show(R.vs.map (eh p n d)).Pairwise _
  rw[pairwise_map]
  exact L.sorted.imp fun h=>by rw[(gE p n d _).1,(gE p n d _).1];exact h
 asc:=fun q=>by
  show((aD (R.vs.map (eh p n d)) q).map (·.num)).Pairwise _
  rw[tu,map_map]
  have:(aD R.vs q).map ((·.num) ∘ eh p n d)=(aD R.vs q).map (·.num):=map_congr_left fun v _=>(gE p n d v).2.1
  rw[this];exact L.asc q
 each:=fun v hv=>by
  obtain⟨u,hu,rfl⟩:=mem_map.1 (show v∈R.vs.map (eh p n d)from hv)
  obtain⟨e1,e2,e3,-⟩:=gE p n d u
  rw[e1,e2,e3];exact L.each u hu
 tags:=h1
 tsort:=h2
 teach:=fun t ht=>by
  obtain⟨a,v,hv,b,c⟩:=h3 t ht
  refine⟨a,eh p n d v,mem_map.2 ⟨v,hv,rfl⟩,?_,?_⟩
  ·rw[(gE p n d v).1];exact b
  ·rw[(gE p n d v).2.1];exact c
 held:=fun v hv=>by
  obtain⟨u,hu,rfl⟩:=mem_map.1 (show v∈R.vs.map (eh p n d)from hv)
  obtain⟨e1,e2,-,-⟩:=gE p n d u
  rw[e1,e2];exact h4 u hu
theorem xm{ts:List RTag}(hs:ts.Pairwise (fun a b=>bJ a.name b.name=true)){m:Bs}(hm:∀t∈ts,t.name≠m):∀k,k<=ts.length->(∀i (h:i<ts.length),i<tAt ts m k->bJ ts[i].name m=true)/\(∀i (h:i<ts.length),tAt ts m k<=i->i<k->bJ m ts[i].name=true)
 | 0,_=>⟨fun i _ h=>by simp[tAt]at h,fun i _ _ h=>by omega⟩
 | k+1,hk=>by
  obtain⟨h1,h2⟩:=xm hs hm k (by omega)
  have h5:=pairwise_iff_getElem.1 hs
  rw[Bx (by omega)]
  cases hb:bJ ts[k].name m with
  | true =>
   rw[if_pos rfl]
   refine⟨fun i hi h3=>?_,fun i hi h3 h4=>by omega⟩
   by_cases hik:i=k
   ·subst hik;exact hb
   ·exact gQ (h5 i k hi (by omega) (by omega)) hb
  | false =>
   rw[if_neg (by simp)]
   refine⟨h1,fun i hi h3 h4=>?_⟩
   by_cases hik:i=k
   ·subst hik
    cases hc:bJ m ts[i].name with
    | true=>rfl
    | false=>exact absurd (jX _ _ hb hc) (hm _ (getElem_mem hi))
   ·exact h2 i hi h3 (by omega)
theorem xo(ts:List RTag)(m:Bs)(x:RTag):(po ts m x).Perm (x::ts):=by
 unfold po;refine(Perm.append_right _ perm_append_comm).trans ?_;rw[append_assoc,take_append_drop];exact Perm.refl _
theorem Bz{ts:List RTag}(hs:ts.Pairwise (fun a b=>bJ a.name b.name=true)){m:Bs}(hm:∀t∈ts,t.name≠m){x:RTag}(hx:x.name=m):(po ts m x).Pairwise (fun a b=>bJ a.name b.name=true):=by
 obtain⟨h1,h2⟩:=xm hs hm ts.length (Nat.le_refl _);have h3:(ts.take (tAt ts m ts.length)++ts.drop (tAt ts m ts.length)).Pairwise (fun a b=>bJ a.name b.name=true):=by rw[take_append_drop];exact hs
 rw[pairwise_append]at h3
 have ha:∀t∈ts.take (tAt ts m ts.length),bJ t.name m=true:=fun t ht=>by
  obtain⟨i,hi,rfl⟩:=getElem_of_mem ht;rw[length_take]at hi;rw[getElem_take];exact h1 i (by omega) (by omega)
 have hb:∀t∈ts.drop (tAt ts m ts.length),bJ m t.name=true:=fun t ht=>by
  obtain⟨i,hi,rfl⟩:=getElem_of_mem ht;rw[length_drop]at hi;rw[getElem_drop];exact h2 _ (by omega) (by omega) (by omega)
 unfold po;rw[pairwise_append,pairwise_append];refine⟨⟨h3.1,pairwise_singleton _ _,fun a h b hb'=>?_⟩,h3.2.1,fun a h b h'=>?_⟩
 ·obtain rfl:=mem_singleton.1 hb';rw[hx];exact ha a h
 ·rcases mem_append.1 h with h|h
  ·exact gQ (ha a h) (hb b h')
  ·obtain rfl:=mem_singleton.1 h;rw[hx];exact hb b h'
theorem t7{a b:List RTag}(h:a.Perm b)(p:Bs)(n:Int):iz a p n=iz b p n:=by unfold iz;rw[h.countP_eq]
theorem t6(t:RTag)(ts:List RTag)(p:Bs)(n:Int):iz (t::ts) p n=iz ts p n+(if t.path=p/\t.num=n then 1 else 0):=by
 unfold iz;rw[countP_cons];by_cases h:t.path=p/\t.num=n<;>simp[h]
theorem Link.names{S:AS}{R:RefL}(L:Link S R)(m:Bs):gJ S.ts m=true↔∃t∈R.ts,t.name=m:=by
 unfold gJ;rw[any_eq_true];constructor
 ·rintro⟨q,hq,e⟩;have:jI q∈R.ts.map ql:=L.tags.mem_iff.1 (mem_map.2 ⟨q,hq,rfl⟩);obtain⟨t,ht,e2⟩:=mem_map.1 this;refine⟨t,ht,?_⟩;have:=congrArg (·.1) e2;simp only[decide_eq_true_eq]at e;exact(show t.name=q.key from this).trans e
 ·rintro⟨t,ht,e⟩;have:ql t∈S.ts.map jI:=L.tags.mem_iff.2 (mem_map.2 ⟨t,ht,rfl⟩);obtain⟨q,hq,e2⟩:=mem_map.1 this;refine⟨q,hq,?_⟩;have:=congrArg (·.1) e2;simp only[decide_eq_true_eq];exact(show q.key=t.name from this).trans e
theorem Link.tag{S:AS}{R:RefL}(L:Link S R){m p:Bs}{n:Int}{V:VerL}(hm:aw m=true)(h:gB S p n V)(hno:gJ S.ts m=false){k:Nat}(hk:k<R.vs.length)(hg:cz R p n=.ok R.vs[k]){tv:Value}{L':DevL}:
  R.vs[k].num=V.num/\Link (yG S m p V.num L') (ec R (iw R.vs k 1) tv (po R.ts m ⟨m,p,R.vs[k].num⟩)):=by
 obtain⟨h1,h2,-⟩:=L.at h hk hg
 have hnm:∀t∈R.ts,t.name≠m:=fun t ht e=>by
  have:=(L.names m).2 ⟨t,ht,e⟩;rw[hno]at this;cases this
 refine⟨h2,?_⟩;rw[lM L.uniq hk,h1,h2];have hpm:=xo R.ts m ⟨m,p,(V.num:Int)⟩;refine L.held' (S':=yG S m p V.num L') rfl rfl rfl ?_ (Bz L.tsort hnm rfl) (fun t ht=>?_) (fun v hv=>?_)
 ·have e:(yG S m p V.num L').ts=S.ts++[⟨m,S.tc,mx m (p,(V.num:Int)),(p,(V.num:Int))⟩]:=by
   show ef S.ts S.tc m _ _=_;unfold ef;rw[hno];rfl
  rw[e,map_append];refine(Perm.append_right _ L.tags).trans ?_;refine Perm.trans ?_ (hpm.map _).symm;rw[map_cons];exact perm_append_singleton _ _
 ·rcases mem_cons.1 (hpm.mem_iff.1 ht)with rfl|ht
  ·exact⟨hm,R.vs[k],getElem_mem hk,h1,h2⟩
  ·exact L.teach t ht
 ·rw[t7 hpm,t6,<- L.held v hv];unfold eh;by_cases hb:v.path=p/\v.num=V.num
  ·rw[if_pos hb,if_pos ⟨hb.1.symm,hb.2.symm⟩]
  ·rw[if_neg hb,if_neg (fun e=>hb ⟨e.1.symm,e.2.symm⟩),Int.add_zero]
theorem Ku{ts:List RTag}(hs:ts.Pairwise (fun a b=>bJ a.name b.name=true)){i:Nat}(hi:i<ts.length):nQ ts i=ts.filter (fun t => !decide (t.name=ts[i].name)):=by
 have h5:=pairwise_iff_getElem.1 hs
 have hne:∀j (hj:j<ts.length),j≠i->ts[j].name≠ts[i].name:=fun j hj h e=>by
  rcases Nat.lt_or_gt_of_ne h with hl|hl
  ·have:=h5 j i hj hi hl;rw[e,b5]at this;cases this
  ·have:=h5 i j hi hj hl;rw[e,b5]at this;cases this
 have e:ts=ts.take i++ts[i]::ts.drop (i+1):=by rw[<- drop_eq_getElem_cons hi,take_append_drop]
 have h1:(ts.take i).filter (fun t => !decide (t.name=ts[i].name))=ts.take i:=filter_eq_self.2 fun v hv=>by
  obtain⟨j,hj,rfl⟩:=getElem_of_mem hv;rw[length_take]at hj;rw[getElem_take];have:=hne j (by omega) (by omega);simp[this]
 have h2:(ts.drop (i+1)).filter (fun t => !decide (t.name=ts[i].name))=ts.drop (i+1):=filter_eq_self.2 fun v hv=>by
  obtain⟨j,hj,rfl⟩:=getElem_of_mem hv;rw[length_drop]at hj;rw[getElem_drop];have:=hne (i+1+j) (by omega) (by omega);simp[this]
 calc nQ ts i=ts.take i++ts.drop (i+1):=rfl
  _=(ts.take i++ts[i]::ts.drop (i+1)).filter (fun t => !decide (t.name=ts[i].name)):=by rw[filter_append,filter_cons_of_neg (by simp),h1,h2]
  _=_:=by rw[<- e]
theorem Link.Qm{S:AS}{R:RefL}(L:Link S R){m:Bs}{q:fq}(hq:q∈S.ts)(hqk:q.key=m){i:Nat}(hi:i<R.ts.length)(him:R.ts[i].name=m){k:Nat}(hb:bW R.vs R.ts[i].path R.ts[i].num R.vs.length=k){tv:Value}{L':DevL}:
  Link (mZ S m q.g.1 q.g.2 L') (ec R (iw R.vs k (-1)) tv (nQ R.ts i)):=by
 have h5:=pairwise_iff_getElem.1 L.tsort
 have hqt:ql R.ts[i]=jI q:=by
  have:jI q∈R.ts.map ql:=L.tags.mem_iff.1 (mem_map.2 ⟨q,hq,rfl⟩);obtain⟨t,ht,e⟩:=mem_map.1 this;obtain⟨j,hj,rfl⟩:=getElem_of_mem ht;have hn:R.ts[j].name=R.ts[i].name:=by rw[him,<- hqk];exact congrArg (·.1) e
  have:j=i:=by
   rcases Nat.lt_trichotomy j i with hl|hl|hl
   ·have:=h5 j i hj hi hl;rw[hn,b5]at this;cases this
   ·exact hl
   ·have:=h5 i j hi hj hl;rw[hn,b5]at this;cases this
  subst this;exact e
 have hpn:R.ts[i].path=q.g.1/\R.ts[i].num=q.g.2:=⟨congrArg (·.2.1) hqt,congrArg (·.2.2) hqt⟩;obtain⟨-,v,hv,hv1,hv2⟩:=L.teach R.ts[i] (getElem_mem hi);obtain⟨k',hk',hk2,hb',-⟩:=lD L.uniq (fun v hv=>(L.each v hv).1) hv;have hkk:k'=k:=by rw[hv1,hv2,hb]at hb';omega
 subst hkk;have hcut:=Ku L.tsort hi
 have hperm:R.ts.Perm (R.ts[i]::nQ R.ts i):=by
  have e:R.ts=R.ts.take i++R.ts[i]::R.ts.drop (i+1):=by rw[<- drop_eq_getElem_cons hi,take_append_drop]
  unfold nQ
  calc R.ts.Perm (R.ts.take i++R.ts[i]::R.ts.drop (i+1)):=by rw[<- e]
   _ |>.Perm (R.ts[i]::(R.ts.take i++R.ts.drop (i+1))):=perm_middle
 rw[lM L.uniq hk',hk2,hv1,hv2,hpn.1,hpn.2];refine L.held' (S':=mZ S m q.g.1 q.g.2 L') rfl rfl rfl ?_ (by rw[hcut];exact L.tsort.filter _) (fun t ht=>L.teach t (by rw[hcut]at ht;exact(mem_filter.1 ht).1)) (fun v hv=>?_)
 ·show((bH S.ts m).map jI).Perm _;rw[hcut];have h6:=L.tags.filter (fun t => !decide (t.1=m));rw[filter_map,filter_map]at h6;rw[him];exact h6
 ·have h7:=L.held v hv;rw[t7 hperm,t6,hpn.1,hpn.2]at h7;unfold eh;by_cases hb2:v.path=q.g.1/\v.num=q.g.2
  ·rw[if_pos hb2];rw[if_pos ⟨hb2.1.symm,hb2.2.symm⟩]at h7;show v.held+-1=_;omega
  ·rw[if_neg hb2];rw[if_neg (fun e=>hb2 ⟨e.1.symm,e.2.symm⟩)]at h7;omega
theorem xK:∀{a b:Bs},bJ a b=true↔a<b
 | [],[]=>by simp[bJ]
 | [],_::_=>by simp[bJ]
 | _::_,[]=>by simp[bJ]
 | a::ax,b::bs=>by
  rw[cons_lt_cons_iff,<- xK (a:=ax)]
  by_cases h1:a<b
  ·simp[bJ,h1]
  ·by_cases h2:b<a
   ·have:¬a=b:=fun h=>by subst h;exact h1 h2
    simp[bJ,h1,h2,this]
   ·have:a=b:=UInt8.le_antisymm (UInt8.not_lt.1 h2) (UInt8.not_lt.1 h1)
    subst this
    simp[bJ]
theorem JP{a b:Bs}(h:bJ a b=true):a<=b:=fun hb=>by
 have:=xK.2 hb
 rw[lE h]at this;cases this
theorem Link.pins{S:AS}{R:RefL}(L:Link S R)(hok:ArOk S):c8 S.ts (eZ S.ts)=R.ts.map tagT:=by
 have hk:eZ S.ts=R.ts.map (·.name):=by
  unfold eZ
  have hp:(S.ts.map (·.key)).Perm (R.ts.map (·.name)):=by
   have:=L.tags.map (·.1);rw[map_map,map_map]at this;exact this
  refine Perm.eq_of_pairwise (le:=fun x y=>decide (x<=y)=true) (fun x y _ _ h1 h2=>?_) (pairwise_mergeSort (fun x y z h1 h2=>?_) (fun x y=>?_) _) ?_ ((mergeSort_perm _ _).trans hp)
  ·simp only[decide_eq_true_eq]at h1 h2;exact List.le_antisymm h1 h2
  ·simp only[decide_eq_true_eq]at h1 h2 ⊢;exact List.le_trans h1 h2
  ·simp only[Bool.or_eq_true,decide_eq_true_eq];exact List.le_total x y
  ·rw[pairwise_map];exact L.tsort.imp fun h=>by simpa using JP h
 unfold c8;rw[hk,map_map];refine map_congr_left fun t ht=>?_
 have hm:ql t∈S.ts.map jI:=L.tags.mem_iff.2 (mem_map.2 ⟨t,ht,rfl⟩);obtain⟨q,hq,e⟩:=mem_map.1 hm;have e1:q.key=t.name:=congrArg (·.1) e;have e2:q.g=(t.path,t.num):=congrArg (·.2) e;show(t.name,gOf ([],0) S.ts t.name)=(t.name,t.path,t.num);unfold gOf
 cases hf:S.ts.find? (fun p=>decide (p.key=t.name))with
 | none=>exact absurd e1 (by simpa using find?_eq_none.1 hf q hq)
 | some x =>
  have hx:=mem_of_find?_eq_some hf;have hxk:x.key=t.name:=by simpa using find?_some hf
  have hnd:(S.ts.map (·.key)).Nodup:=by have:=hok.tags.map.nodup;rw[cE]at this;exact this
  obtain⟨i,hi,rfl⟩:=getElem_of_mem hx;obtain⟨j,hj,rfl⟩:=getElem_of_mem hq
  have:i=j:=by
   have h3:=(pairwise_iff_getElem.1 hnd);rcases Nat.lt_trichotomy i j with hl|hl|hl
   ·exact absurd (by rw[getElem_map,getElem_map,hxk,e1]) (h3 i j (by simpa using hi) (by simpa using hj) hl)
   ·exact hl
   ·exact absurd (by rw[getElem_map,getElem_map,hxk,e1]) (h3 j i (by simpa using hj) (by simpa using hi) hl)
  subst this;simp only[e2]
theorem o7(k a1 a2 c1 c2:UInt8)(t:Bs)(ht:4<=t.length):bM (k::a1::a2::c1::c2::t) =
  if k=0 then none else if a1.toNat*256+a2.toNat≠(255-c1.toNat)*256+(255-c2.toNat)then none else if t.length+5<a1.toNat*256+a2.toNat+9 then none
  else if bk ((t.drop (a1.toNat*256+a2.toNat)).take 4)≠cF k (t.take (a1.toNat*256+a2.toNat))then none else some (k,t.take (a1.toNat*256+a2.toNat),a1.toNat*256+a2.toNat+9):=by
 have d1:∀n,drop (5+n) (k::a1::a2::c1::c2::t)=drop n t:=fun n=>by rw[<- drop_drop];rfl
 unfold bM;simp only[length_cons,QF,QG,d1];rw[if_neg (by omega)];rfl
theorem CT(k:UInt8)(body:Bs)(hl:body.length<65536):frame k body=k::UInt8.ofNat (body.length / 256)::UInt8.ofNat body.length::UInt8.ofNat ((65535-body.length) / 256)::UInt8.ofNat (65535-body.length)::(body++be (cF k body) 4):=by
 unfold frame;rw[be2,be2,Nat.mod_eq_of_lt hl];generalize be (cF k body) 4=s;generalize 65535-body.length=z;simp only[cons_append,nil_append]
theorem JM{b:Bs}{n:Nat}(hb:b.length=4)(h:bk b=n):b=be n 4:=by
 rw[<- h,<- hb,mB]
theorem um{k:UInt8}{body rest:Bs}{i:Nat}{y:UInt8}(hk:k≠0)(hl:body.length<65536)(hi:i<body.length+9)(hy:(frame k body)[i]?≠some y):bM ((frame k body++rest).set i y)=none:=by
 have hf:=aJ k body;rw[set_append_left i y (by rw[hf];exact hi)];rw[CT k body hl]at hy ⊢;obtain⟨n,hn⟩:∃n,n=body.length:=⟨_,rfl⟩;rw[<- hn]at hy hl hi ⊢;have h1:(UInt8.ofNat (n / 256)).toNat*256+(UInt8.ofNat n).toNat=n:=by rw[UInt8.toNat_ofNat',UInt8.toNat_ofNat'];omega
 have h2:(255-(UInt8.ofNat ((65535-n) / 256)).toNat)*256+(255-(UInt8.ofNat (65535-n)).toNat)=n:=by rw[UInt8.toNat_ofNat',UInt8.toNat_ofNat'];omega
 generalize ha1:UInt8.ofNat (n / 256)=a1 at *
 generalize ha2:UInt8.ofNat n=a2 at *
 generalize hc1:UInt8.ofNat ((65535-n) / 256)=c1 at *
 generalize hc2:UInt8.ofNat (65535-n)=c2 at *
 clear ha1 ha2 hc1 hc2;have b1:=UInt8.toNat_lt a1;have b2:=UInt8.toNat_lt a2;have b3:=UInt8.toNat_lt c1;have b4:=UInt8.toNat_lt c2;have by_:=UInt8.toNat_lt y
 have key:∀(k':UInt8) (body' s':Bs),body'.length=n->s'.length=4->(k'≠0->bk s'≠cF k' body')->bM (k'::a1::a2::c1::c2::(body'++s'++rest))=none:=by
  intro k' body' s' e1 e2 e3;rw[o7 _ _ _ _ _ _ (by simp only[length_append];omega),h1];by_cases hk0:k'=0
  ·rw[if_pos hk0]
  ·rw[if_neg hk0,h2,if_neg (fun h=>h rfl)];split
   ·rfl
   ·rw[append_assoc,take_left' e1,drop_left' e1,take_left' e2,if_pos (e3 hk0)]
 have bad:∀(x1 x2 z1 z2:UInt8) (t:Bs),4<=t.length->x1.toNat*256+x2.toNat≠(255-z1.toNat)*256+(255-z2.toNat)->bM (k::x1::x2::z1::z2::t)=none:=by
  intro x1 x2 z1 z2 t ht hne;rw[o7 _ _ _ _ _ _ ht,if_neg hk,if_pos hne]
 have hne:∀{x:UInt8},some x≠some y->x.toNat≠y.toNat:=fun h e=>h (congrArg some (UInt8.toNat_inj.1 e))
 have htl:∀s:Bs,4<=(body++be (cF k body) 4++s).length:=fun s=>by simp only[length_append,bE];omega
 match i,hi,hy with
 | 0,_,hy =>
  simp only[QB,getElem?_cons_zero,cons_append]at hy ⊢;refine key y body _ hn.symm (bE _ _) (fun _ e=>?_);rw[gC,Nat.mod_eq_of_lt (j9 k body)]at e;exact hy (congrArg some (DJ body e))
 | 1,_,hy =>
  simp only[QC,QB,getElem?_cons_succ,getElem?_cons_zero,cons_append]at hy ⊢;have:=hne hy;exact bad _ _ _ _ _ (htl _) (by rw[h2];omega)
 | 2,_,hy =>
  simp only[QC,QB,getElem?_cons_succ,getElem?_cons_zero,cons_append]at hy ⊢;have:=hne hy;exact bad _ _ _ _ _ (htl _) (by rw[h2];omega)
 | 3,_,hy =>
  simp only[QC,QB,getElem?_cons_succ,getElem?_cons_zero,cons_append]at hy ⊢;have:=hne hy;exact bad _ _ _ _ _ (htl _) (by rw[h1];omega)
 | 4,_,hy =>
  simp only[QC,QB,getElem?_cons_succ,getElem?_cons_zero,cons_append]at hy ⊢;have:=hne hy;exact bad _ _ _ _ _ (htl _) (by rw[h1];omega)
 | j+5,hi,hy =>
  simp only[QC,getElem?_cons_succ,cons_append]at hy ⊢;by_cases hj:j<n
  ·rw[set_append_left j y (by omega)];rw[getElem?_append_left (by omega)]at hy;refine key k _ _ (by rw[length_set,hn]) (bE _ _) (fun _ e=>?_);rw[gC,Nat.mod_eq_of_lt (j9 k body)]at e;have hj2:j<body.length:=by omega
   have e1:body=body.take j++body[j]::body.drop (j+1):=by rw[getElem_cons_drop,take_append_drop]
   have e2:body.set j y=body.take j++y::body.drop (j+1):=by rw[set_eq_take_append_cons_drop,if_pos hj2]
   rw[e2]at e;have:=Bt k (body.take j) (body.drop (j+1)) (x:=body[j]) (y:=y) (by rw[<- e1];exact e);exact hy (by rw[getElem?_eq_getElem hj2,this])
  ·rw[set_append_right j y (by omega)];rw[getElem?_append_right (by omega)]at hy;have hjl:j-body.length<4:=by omega
   refine key k body _ hn.symm (by rw[length_set,bE]) (fun _ e=>?_);have h4:=JM (by rw[length_set,bE]) e;have h5:=congrArg (·[j-body.length]?) h4;simp only[getElem?_set_self (show j-body.length<(be (cF k body) 4).length by rw[bE];exact hjl)]at h5;exact hy h5.symm
theorem rQ(n p:Nat)(y:UInt8):bM ((replicate n (0:UInt8)).set p y)=none:=by
 match n with
 | 0|1|2|3|4|5|6|7|8=>unfold bM;rw[if_pos (by simp)]
 | n+9 =>
  match p with
  | 0 =>
   rw[show(replicate (n+9) (0:UInt8)).set 0 y=y::0::0::0::0::replicate (n+4) 0 from rfl,o7 _ _ _ _ _ _ (by simp)];split
   ·rfl
   ·rw[if_pos (by decide)]
  | p+1 =>
   rw[show(replicate (n+9) (0:UInt8)).set (p+1) y=0::(replicate (n+8) (0:UInt8)).set p y from rfl];unfold bM;split
   ·rfl
   ·rw[if_pos (show(0::(replicate (n+8) (0:UInt8)).set p y).getD 0 0=0 from rfl)]
def KS(K:KL)(h:HV):kJ:=((h.num:Int),h.chs.flatMap (bm K),h.held)
structure LinkP (st:PSt) (R:RefL):Prop where
 used:(st.H.map (·.size)).sum=eT R.vs
 vers:∀p,(st.H.filter (fun h=>decide (h.p=p))).map (KS st.K)=(aD R.vs p).map fA
 sorted:R.vs.Pairwise (fun a b=>bJ b.path a.path=false)
 asc:∀p,((aD R.vs p).map (·.num)).Pairwise (·<·)
 each:∀v∈R.vs,1<=v.num/\aw v.path=true/\v.cont.length<=4000
 tags:st.T.Perm (R.ts.map ql)
 tsort:R.ts.Pairwise (fun a b=>bJ a.name b.name=true)
 teach:∀t∈R.ts,aw t.name=true/\∃v∈R.vs,v.path=t.path/\v.num=t.num
 held:∀v∈R.vs,v.held=iz R.ts v.path v.num
def LZ(K:KL)(t:Nat×Nat×List (Nat×Nat)×Int):kJ:=((t.1:Int),t.2.2.1.flatMap (bm K),t.2.2.2)
theorem BH{K:KL}{S:AS}(hK:S.K=K){H:List HV}{l:Bs}(h:(af S.ps l).map bp=(H.filter (fun h=>decide (h.p=l))).map cy):(H.filter (fun h=>decide (h.p=l))).map (KS K)=(af S.ps l).map (cQ S):=by
 subst hK;have h1:=congrArg (List.map (LZ S.K)) h;rw[map_map,map_map]at h1;exact h1.symm
theorem LinkP.of{S:AS}{R:RefL}{rs:fT}{H:List HV}(t:Told S rs H)(L:Link S R):LinkP ⟨S.K,H,S.ts.map ex⟩ R where
 used:=by have h1:=t.used;rw[L.used]at h1;exact(Int.ofNat.inj h1).symm
 vers:=fun p=>(BH rfl (t.hist p)).trans (L.vers p)
 sorted:=L.sorted
 asc:=L.asc
 each:=L.each
 tags:=L.tags
 tsort:=L.tsort
 teach:=L.teach
 held:=L.held
theorem LinkP.link{st:PSt}{R:RefL}(h:LinkP st R){S:AS}(hK:S.K=st.K)(hist:∀l,(af S.ps l).map bp=(st.H.filter (fun h=>decide (h.p=l))).map cy)(hT:S.ts.map ex=st.T)(hu:S.X.used=((st.H.map (·.size)).sum:Nat))(hq:R.quota=S.X.quota)(hc:R.closed=S.X.closed):Link S R where
 closed:=hc
 quota:=hq
 used:=by rw[hu,h.used]
 vers:=fun p=>(BH hK (hist p)).symm.trans (h.vers p)
 sorted:=h.sorted
 asc:=h.asc
 each:=h.each
 tags:=by have h1:=h.tags;rw[<- hT]at h1;exact h1
 tsort:=h.tsort
 teach:=h.teach
 held:=h.held
theorem Cu{K K2:KL}{q:Nat×Nat}(h:∃e∈K,e.2=q):bm (K++K2) q=bm K q:=by
 obtain⟨e,he,hq⟩:=h;unfold bm;rw[find?_append]
 cases hf:K.find? (fun e=>decide (e.2=q))with
 | some x=>rfl
 | none=>have:=find?_eq_none.1 hf e he;simp[hq]at this
theorem LinkP.keep{K K2:KL}{H:List HV}{T:List Tg}{R:RefL}(h:LinkP ⟨K,H,T⟩ R)(hin:∀x∈H,∀q∈x.chs,∃e∈K,e.2=q):LinkP ⟨K++K2,H,T⟩ R where
 used:=h.used
 vers:=fun p=>by
  rw[<- h.vers p]
  refine map_congr_left (fun x hx=>?_)
  have e:x.chs.flatMap (bm (K++K2))=x.chs.flatMap (bm K):=by
   rw[flatMap_def,flatMap_def]
   exact congrArg flatten (map_congr_left (fun q hq=>Cu (hin x (mem_filter.1 hx).1 q hq)))
  show((x.num:Int),x.chs.flatMap (bm (K++K2)),x.held)=((x.num:Int),x.chs.flatMap (bm K),x.held)
  rw[e]
 sorted:=h.sorted
 asc:=h.asc
 each:=h.each
 tags:=h.tags
 tsort:=h.tsort
 teach:=h.teach
 held:=h.held
theorem Told.chsIn{S:AS}{rs:fT}{H:List HV}(t:Told S rs H)(hok:ArOk S):∀x∈H,∀q∈x.chs,∃e∈S.K,e.2=q:=fun x hx q hq=>by
 have h1:cy x∈(af S.ps x.p).map bp:=by
  rw[t.hist];exact mem_map.2 ⟨x,mem_filter.2 ⟨hx,by simp⟩,rfl⟩
 obtain⟨V,hV,e⟩:=mem_map.1 h1;obtain⟨p,hp,-,hpg⟩:=bD (ne_nil_of_mem hV);have h2:=(hok.vers p hp V (hpg ▸ hV)).1;unfold bp cy at e;simp only[Prod.mk.injEq]at e;exact h2 q (by rw[e.2.2.1];exact hq)
def sg(rs:fT)(wh:Nat)(Rs:List RefL):Prop:=∀a b,rs=a++b->wh<=(bn a).length->∃R∈Rs,∃st,il 0 ⟨[],[],[]⟩ a=some st/\LinkP st R
theorem sg.more{rs recs:fT}{wh:Nat}{Rs Rs':List RefL}(h:sg rs wh Rs)(hsub:∀R∈Rs,R∈Rs')(hn:∀a b,recs=a++b->a≠[]->∃R∈Rs',∃st,il 0 ⟨[],[],[]⟩ (rs++a)=some st/\LinkP st R):sg (rs++recs) wh Rs':=fun a b hab hw=>by
 rcases append_eq_append_iff.1 hab with⟨c,h1,h2⟩|⟨c,h1,h2⟩
 ·by_cases hc:c=[]
  ·subst hc
   rw[append_nil]at h1
   subst h1
   obtain⟨R,hR,st,h3⟩:=h a [] (by simp) hw
   exact⟨R,hsub R hR,st,h3⟩
  ·rw[h1];exact hn c b h2 hc
 ·obtain⟨R,hR,st,h3⟩:=h a c h1 hw
  exact⟨R,hsub R hR,st,h3⟩
theorem sg.one{rs:fT}{r:UInt8×Bs}{wh:Nat}{Rs Rs':List RefL}(h:sg rs wh Rs)(hsub:∀R∈Rs,R∈Rs')(hn:∃R∈Rs',∃st,il 0 ⟨[],[],[]⟩ (rs++[r])=some st/\LinkP st R):sg (rs++[r]) wh Rs' :=
 h.more hsub (fun a b hab ha=>by
  cases a with
  | nil=>exact absurd rfl ha
  | cons x a =>
   rw[cons_append,List.cons.injEq]at hab
   have:a=[]:=(append_eq_nil_iff.1 hab.2.symm).1
   rw[this,<- hab.1];exact hn)
theorem sg.chunks{rs:fT}{l:List Bs}{r:UInt8×Bs}{wh:Nat}{Rs Rs':List RefL}(h:sg rs wh Rs)(hsub:∀R∈Rs,R∈Rs'){st:PSt}{R:RefL}(hR:R∈Rs)(hrun:il 0 ⟨[],[],[]⟩ rs=some st)(hl:LinkP st R)(hin:∀x∈st.H,∀q∈x.chs,∃e∈st.K,e.2=q)(hn:∃R∈Rs',∃st,il 0 ⟨[],[],[]⟩ (rs++l.map (fun c=>(1,c))++[r])=some st/\LinkP st R):sg (rs++l.map (fun c=>(1,c))++[r]) wh Rs':=by
 rw[append_assoc];refine h.more hsub (fun a b hab ha=>?_);rcases append_eq_append_iff.1 hab with⟨c,h1,h2⟩|⟨c,h1,h2⟩
 ·cases c with
  | nil =>
   rw[append_nil]at h1;subst h1;refine⟨R,hsub R hR,{ st with K:=st.K++ck (0+(bn rs).length) l },?_,hl.keep hin⟩;rw[dM,hrun,Option.bind_some,lU]
  | cons x c =>
   rw[cons_append,List.cons.injEq]at h2;have:c=[]:=(append_eq_nil_iff.1 h2.2.symm).1;rw[h1,this,<- h2.1,<- append_assoc];exact hn
 ·obtain⟨l1,l2,e0,e1,e2⟩:=map_eq_append_iff.1 h1;subst e1;refine⟨R,hsub R hR,{ st with K:=st.K++ck (0+(bn rs).length) l1 },?_,hl.keep hin⟩;rw[dM,hrun,Option.bind_some,lU]
theorem oV(l:Bs)(p f c:Nat)(y:UInt8):au (l.set p y) f c=if p<128*f then au l f c else(au l f c).set (p-128*f) y:=by
 unfold au;rw[drop_set];split
 ·rfl
 ·rw[take_set]
theorem tZ{l:Bs}{p f c:Nat}{y:UInt8}(h:l[p]?≠some y)(hp:¬p<128*f):(au l f c)[p-128*f]?≠some y:=by
 unfold au;rw[getElem?_take];split
 ·rw[getElem?_drop,show 128*f+(p-128*f)=p by omega];exact h
 ·simp
theorem Dz{rs:fT}(h:oA rs){z p:Nat}{y:UInt8}(hy:(bn rs++ak z)[p]?≠some y){at_:Nat}{s:PSt}(hr:Reach ((bn rs++ak z).set p y) at_ s):∃a b,rs=a++b/\at_=(bn a).length/\il 0 ⟨[],[],[]⟩ a=some s/\at_<=p:=by
 induction hr with
 | zero=>exact⟨[],rs,rfl,rfl,rfl,Nat.zero_le _⟩
 | @next at_ s s' k body n _ ho hs ih =>
  obtain⟨a,b,rfl,rfl,hrun,hle⟩:=ih
  have e:drop (bn a).length ((bn (a++b)++ak z).set p y)=(bn b++ak z).set (p-(bn a).length) y:=by
   rw[co,append_assoc,set_append_right _ _ hle,drop_left]
  rw[e]at ho
  have hy2:(bn b++ak z)[p-(bn a).length]?≠some y:=by
   rw[co,append_assoc,getElem?_append_right hle]at hy;exact hy
  cases b with
  | nil =>
   rw[show bn []=[]from rfl,nil_append]at ho;unfold ak at ho;rw[rQ]at ho;cases ho
  | cons r b =>
   have hk:=h r (by simp);rw[ia,append_assoc]at ho hy2;by_cases hin:p-(bn a).length<r.2.length+9
   ·rw[getElem?_append_left (by rw[aJ];exact hin)]at hy2;rw[um hk.1 hk.2 hin hy2]at ho;cases ho
   ·rw[set_append_right _ _ (by rw[aJ];omega),ge _ _ _ hk.1 hk.2]at ho;simp only[Option.some.injEq,Prod.mk.injEq]at ho;obtain⟨rfl,rfl,rfl⟩:=ho;exact⟨a++[r],b,by simp,by rw[co,length_append,tJ],by rw[dM,hrun];simp[il,hs],by omega⟩
def K0(D D':Bs):Prop:=D'=D\/∃p y,D[p]?≠some y/\D'=D.set p y
theorem Gf{rs:fT}(h:oA rs){z:Nat}{D':Bs}(ho:K0 (bn rs++ak z) D'){at_:Nat}{s:PSt}(hr:Reach D' at_ s):∃a b,rs=a++b/\at_=(bn a).length/\il 0 ⟨[],[],[]⟩ a=some s:=by
 rcases ho with rfl|⟨p,y,hy,rfl⟩
 ·exact qY h hr
 ·obtain⟨a,b,h1,h2,h3,-⟩:=Dz h hy hr;exact⟨a,b,h1,h2,h3⟩
theorem I2{D:Bs}{at_:Nat}{s:PSt}(h:Reach D at_ s):at_<=D.length:=by
 induction h with
 | zero=>exact Nat.zero_le _
 | next hr ho hs ih =>
  have:=(dx ho).2.2.1;rw[length_drop]at this;omega
theorem Iu{l:Bs}{p f c:Nat}{y:UInt8}(h:l[p]?≠some y):K0 (au l f c) (au (l.set p y) f c):=by
 rw[oV];split
 ·exact .inl rfl
 ·rename_i hp;exact .inr ⟨_,y,tZ h hp,rfl⟩
theorem pX{l:Bs}{p f c:Nat}{y:UInt8}(h:p<128*f\/128*(f+c)<=p):au (l.set p y) f c=au l f c:=by
 rw[oV];split
 ·rfl
 ·refine set_eq_of_length_le ?_;unfold au;rw[length_take];omega
def vN(s:Bs):Prop:=∀e wh,s≠bi e wh
theorem rO:vN (ak 128):=fun e wh h=>rn e wh h.symm
theorem AI(q:Nat)(y:UInt8):vN ((ak 128).set q y):=fun e wh h=>by
 have h1:=i4 e wh
 rw[<- h]at h1
 unfold ak at h1
 rw[rQ]at h1
 cases h1
theorem uj{e wh q:Nat}{y:UInt8}(h:(bi e wh)[q]?≠some y)(hq:q<128):vN ((bi e wh).set q y):=fun e' wh' he=>by
 have hl:=bO e wh
 by_cases h17:q<17
 ·have h1:=i4 e' wh'
  rw[<- he]at h1
  unfold bi at h1 h
  rw[getElem?_append_left (by rw[aJ,hl];exact h17)]at h
  rw[um (by decide) (by rw[hl];omega) (by rw[hl];exact h17) h]at h1
  cases h1
 ·have h1:=i4 e' wh'
  rw[<- he]at h1
  have h2:bM ((bi e wh).set q y)=some (77,br e wh,17):=by
   unfold bi;rw[set_append_right _ _ (by rw[aJ,hl];omega),ge _ _ _ (by decide) (by rw[hl];omega),hl]
  rw[h2]at h1;simp only[Option.some.injEq,Prod.mk.injEq,and_true,true_and]at h1;have h3:bi e' wh'=bi e wh:=by unfold bi;rw[h1]
  rw[h3]at he;refine h ?_;rw[<- he];exact getElem?_set_self (by rw[bZ];exact hq)
theorem BJ(e wh q:Nat)(y:UInt8):(bi e wh).set q y≠ak 128:=fun h=>by
 have h0:(bi e wh)[0]?=some 77:=by unfold bi frame;rfl
 have h2:(bi e wh)[2]?=some 8:=by
  unfold bi frame;rw[bO,be2];rfl
 by_cases hq:q=0
 ·have h3:=congrArg (fun l:Bs=>l[2]?) h;rw[getElem?_set_ne (by omega),h2]at h3;simp[ak]at h3
 ·have h3:=congrArg (fun l:Bs=>l[0]?) h;rw[getElem?_set_ne hq,h0]at h3;simp[ak]at h3
theorem qn{now:Bs}{ep:Nat}{a b:Option (Nat×Nat)}(ha:eO now (fun _=>a) (ep%2))(hb:eO now (fun _=>b) ((ep+1)%2)):∃us,(∀k,k<2->eO now us k)/\us (ep%2)=a/\us ((ep+1)%2)=b:=by
 have hne:(ep+1)%2≠ep%2:=by omega
 refine⟨fun k=>if k=ep%2 then a else b,fun k hk=>?_,if_pos rfl,if_neg hne⟩;by_cases h:k=ep%2
 ·unfold eO at ha ⊢;simp only[if_pos h];rw[h];exact ha
 ·have hk2:k=(ep+1)%2:=by omega
  unfold eO at hb ⊢;simp only[if_neg h];rw[hk2];exact hb
theorem yJ{us:Nat->Option (Nat×Nat)}{ep:Nat}:fB us 2=(us (ep%2)).toList++(us ((ep+1)%2)).toList\/fB us 2=(us ((ep+1)%2)).toList++(us (ep%2)).toList:=by
 have e:fB us 2=(us 0).toList++(us 1).toList:=by
  rw[rk,rk];rfl
 rcases Nat.mod_two_eq_zero_or_one ep with h|h
 ·left;rw[h,show(ep+1)%2=1 by omega];exact e
 ·right;rw[h,show(ep+1)%2=0 by omega];exact e
theorem eO.some'{now:Bs}{k e wh:Nat}(h:aC now k=bi e wh)(hk:e%2=k)(he:e<4294967296)(hw:wh<4294967296):eO now (fun _=>some (e,wh)) k:=.inr ⟨e,wh,rfl,h,hk,he,hw⟩
theorem eO.none'{now:Bs}{k:Nat}(h:vN (aC now k)):eO now (fun _=>none) k:=.inl ⟨rfl,fun e wh _ _ _=>h e wh⟩
def G4(now:Bs)(n:Nat)(Rs:List RefL)(e:Nat):Prop:=∃rs z,oA rs/\au now (2+e%2*ap n) (ap n)=bn rs++ak z/\∃R∈Rs,∃st,il 0 ⟨[],[],[]⟩ rs=some st/\LinkP st R
structure FlipIn (S:AS) (rs:fT) (Rs:List RefL):Prop where
 wh:∃wh,wh<4294967296/\aC S.L.now (S.X.ep%2)=bi S.X.ep wh/\wh<=(bn rs).length/\sg rs wh Rs
 old:aC S.L.now ((S.X.ep+1)%2)=ak 128\/∃e wh,S.X.ep=e+1/\wh<4294967296/\aC S.L.now ((S.X.ep+1)%2)=bi e wh/\G4 S.L.now S.L.n Rs e
def KG(L':DevL)(Rs:List RefL)(l:List (Nat×Nat)):Prop:=∀pre e wh rest,l=pre++(e,wh)::rest->(∀u∈pre,Cb L' u)->∀at_ s,Reach (au L'.now (2+e%2*ap L'.n) (ap L'.n)) at_ s->km (au L'.now (2+e%2*ap L'.n) (ap L'.n)) at_ s->wh<=at_->∃R∈Rs,LinkP s R
theorem G4.tells{now:Bs}{n:Nat}{Rs:List RefL}{e:Nat}(h:G4 now n Rs e){D:Bs}(hD:D=au now (2+e%2*ap n) (ap n)){at_:Nat}{s:PSt}(hr:Reach D at_ s)(hf:km D at_ s):∃R∈Rs,LinkP s R:=by
 obtain⟨rs,z,h1,h2,R,hR,st,h3,h4⟩:=h;rw[h2]at hD;subst hD;obtain⟨-,rfl⟩:=nJ h1 hr hf h3;exact⟨R,hR,h4⟩
theorem qO{α:Type}{u v:α}{pre rest:List α}(h:[u]=pre++v::rest):pre=[]/\v=u:=by
 cases pre with
 | nil=>simp at h;exact⟨rfl,h.1.symm⟩
 | cons a r=>simp at h
theorem Gz{α:Type}{u1 u2 v:α}{pre rest:List α}(h:[u1,u2]=pre++v::rest):(pre=[]/\v=u1)\/(pre=[u1]/\v=u2):=by
 cases pre with
 | nil=>simp at h;exact .inl ⟨rfl,h.1.symm⟩
 | cons a r =>
  rw[cons_append,List.cons.injEq]at h;obtain⟨h1,h2⟩:=qO h.2;exact .inr ⟨by rw[h1,h.1],h2⟩
theorem CR{S:AS}{rs:fT}{H:List HV}{Rs:List RefL}(t:Told S rs H)(hok:ArOk S)(hf:FlipIn S rs Rs){L':DevL}{p:Nat}{y:UInt8}(hL:L'.n=S.L.n)(hn:L'.now=S.L.now.set p y)(hy:S.L.now[p]?≠some y):
  ∃us,(∀k,k<2->eO L'.now us k)/\cf L'.now 2=false/\(∀u∈ey (fB us 2),u.1<4294967296/\u.2<4294967296)/\KG L' Rs (ey (fB us 2)):=by
 obtain⟨wh,hwh,hs1,hle,hg⟩:=hf.wh;have hep:=hok.ep;obtain⟨ep,hepe⟩:∃ep,ep=S.X.ep:=⟨_,rfl⟩;obtain⟨n,hne⟩:∃n,n=S.L.n:=⟨_,rfl⟩
 have hD:au S.L.now (2+ep%2*ap n) (ap n)=bn rs++ak (128*S.A.count-S.data.length):=by
  have h1:=hok.dat.1;have h2:S.A.first=2+ep%2*ap n:=by rw[hok.first,hepe,hne]
  have h3:S.A.count=ap n:=by rw[hok.count,hne]
  rw[<- h2,<- h3,h1,t.data]
 have hold:=hf.old;rw[<- hepe]at hs1 hep hold;rw[<- hne]at hL hold;obtain⟨z,hz⟩:∃z,z=128*S.A.count-S.data.length:=⟨_,rfl⟩;rw[<- hz]at hD
 have hoff:K0 (bn rs++ak z) (au L'.now (2+ep%2*ap L'.n) (ap L'.n)):=by
  rw[hn,hL,<- hD];exact Iu hy
 have T1:∀at_ s,Reach (au L'.now (2+ep%2*ap L'.n) (ap L'.n)) at_ s->wh<=at_->∃R∈Rs,LinkP s R:=fun at_ s hr hw=>by
  obtain⟨a,b,e1,e2,e3⟩:=Gf t.ok hoff hr;obtain⟨R,hR,st,h1,h2⟩:=hg a b e1 (by rw[<- e2];exact hw);rw[e3]at h1;obtain rfl:=Option.some.inj h1;exact⟨R,hR,h2⟩
 have hsecO:∀k,(p<128*k\/128*(k+1)<=p)->aC L'.now k=aC S.L.now k:=fun k hk=>by
  rw[hn,d9,pX hk,<- d9]
 have hsecF:∀k,¬p<128*k->aC L'.now k=(aC S.L.now k).set (p-128*k) y/\(aC S.L.now k)[p-128*k]?≠some y:=fun k hk=>by
  rw[hn,d9,oV,if_neg hk,<- d9];exact⟨rfl,by rw[d9];exact tZ hy hk⟩
 have zne:∀k,k<2->aC L'.now k≠ak 128->cf L'.now 2=false:=fun k hk h=>by
  unfold cf;exact decide_eq_false (fun hz=>h (hz k hk))
 have one:∀e w,aC L'.now (ep%2)=bi ep wh->vN (aC L'.now ((ep+1)%2))->e=ep->w=wh->∃us,(∀k,k<2->eO L'.now us k)/\cf L'.now 2=false/\(∀u∈ey (fB us 2),u.1<4294967296/\u.2<4294967296)/\KG L' Rs (ey (fB us 2)):=fun _ _ h1 h2 _ _=>by
  obtain⟨us,u1,u2,u3⟩:=qn (eO.some' h1 rfl hep hwh) (eO.none' h2)
  have e:fB us 2=[(ep,wh)]:=by
   rcases yJ (us:=us) (ep:=ep)with h|h<;>(rw[h,u2,u3];rfl)
  refine⟨us,u1,zne (ep%2) (by omega) (by rw[h1];exact rn ep wh),?_,?_⟩
  ·rw[e];intro u hu;rw[mem_singleton.1 hu];exact⟨hep,hwh⟩
  ·rw[e];intro pre e' wh' rest hs _ at_ s hr _ hw;obtain⟨-,h4⟩:=qO (show[(ep,wh)]=_ from hs);simp only[Prod.mk.injEq]at h4;obtain⟨rfl,rfl⟩:=h4;exact T1 at_ s hr hw
 by_cases hA:128*(ep%2)<=p/\p<128*(ep%2+1)
 ·obtain⟨f1,f2⟩:=hsecF (ep%2) (by omega);rw[hs1]at f1 f2;have nu:vN (aC L'.now (ep%2)):=by rw[f1];exact uj f2 (by omega)
  have hz:cf L'.now 2=false:=zne (ep%2) (by omega) (by rw[f1];exact BJ _ _ _ _);have fo:=hsecO ((ep+1)%2) (by omega);rcases hold with h0|⟨e,wh2,he,hw2,h0,ho⟩
  ·obtain⟨us,u1,u2,u3⟩:=qn (eO.none' nu) (eO.none' (now:=L'.now) (k:=(ep+1)%2) (by rw[fo,h0];exact rO))
   have e:fB us 2=[]:=by
    rcases yJ (us:=us) (ep:=ep)with h|h<;>(rw[h,u2,u3];rfl)
   refine⟨us,u1,hz,?_,?_⟩
   ·rw[e];intro u hu;cases hu
   ·rw[e];intro pre e' wh' rest hs;exact absurd hs (by show[]≠_;simp)
  ·obtain⟨us,u1,u2,u3⟩:=qn (eO.none' nu) (eO.some' (now:=L'.now) (k:=(ep+1)%2) (by rw[fo,h0]) (by omega) (by omega) hw2)
   have e1:fB us 2=[(e,wh2)]:=by
    rcases yJ (us:=us) (ep:=ep)with h|h<;>(rw[h,u2,u3];rfl)
   refine⟨us,u1,hz,?_,?_⟩
   ·rw[e1];intro u hu;rw[mem_singleton.1 hu];exact⟨by show e<_;omega,hw2⟩
   ·rw[e1];intro pre e' wh' rest hs _ at_ s hr hf _;obtain⟨-,h4⟩:=qO (show[(e,wh2)]=_ from hs);simp only[Prod.mk.injEq]at h4;obtain⟨rfl,rfl⟩:=h4;refine ho.tells ?_ hr hf;rw[hL,hn];exact pX (.inl (by omega))
 ·have s1:aC L'.now (ep%2)=bi ep wh:=by rw[hsecO (ep%2) (by omega)];exact hs1
  by_cases hB:128*((ep+1)%2)<=p/\p<128*((ep+1)%2+1)
  ·obtain⟨f1,f2⟩:=hsecF ((ep+1)%2) (by omega);refine one ep wh s1 ?_ rfl rfl;rw[f1];rcases hold with h0|⟨e,wh2,he,hw2,h0,ho⟩
   ·rw[h0];exact AI _ _
   ·rw[h0]at f2 ⊢;exact uj f2 (by omega)
  ·have s2:=hsecO ((ep+1)%2) (by omega);rcases hold with h0|⟨e,wh2,he,hw2,h0,ho⟩
   ·exact one ep wh s1 (by rw[s2,h0];exact rO) rfl rfl
   ·obtain⟨us,u1,u2,u3⟩:=qn (eO.some' s1 rfl hep hwh) (eO.some' (now:=L'.now) (k:=(ep+1)%2) (by rw[s2,h0]) (by omega) (by omega) hw2)
    have e1:ey (fB us 2)=[(ep,wh),(e,wh2)]:=by
     rcases yJ (us:=us) (ep:=ep)with h|h
     ·rw[h,u2,u3];show(if ep<e then _ else _)=_;rw[if_neg (by omega)]
     ·rw[h,u2,u3];show(if e<ep then _ else _)=_;rw[if_pos (by omega)]
    refine⟨us,u1,zne (ep%2) (by omega) (by rw[s1];exact rn ep wh),?_,?_⟩
    ·rw[e1];intro u hu;rcases mem_cons.1 hu with rfl|hu
     ·exact⟨hep,hwh⟩
     ·rw[mem_singleton.1 hu];exact⟨by show e<_;omega,hw2⟩
    ·rw[e1];intro pre e' wh' rest hs hpre at_ s hr hf hw;rcases Gz hs with⟨-,h4⟩|⟨rfl,h4⟩
     ·simp only[Prod.mk.injEq]at h4;obtain⟨rfl,rfl⟩:=h4;exact T1 at_ s hr hw
     ·simp only[Prod.mk.injEq]at h4;obtain⟨rfl,rfl⟩:=h4;by_cases hin:p<128*(2+ep%2*ap n)\/128*(2+ep%2*ap n+ap n)<=p
      ·obtain⟨a2,s2,r1,r2,r3⟩:=hpre (ep,wh) (by simp)
       have hu:au L'.now (2+ep%2*ap L'.n) (ap L'.n)=bn rs++ak z:=by
        rw[hL,hn,pX hin,hD]
       have r1:Reach (au L'.now (2+ep%2*ap L'.n) (ap L'.n)) a2 s2:=r1;have r2:km (au L'.now (2+ep%2*ap L'.n) (ap L'.n)) a2 s2:=r2;rw[hu]at r1 r2;obtain⟨h5,-⟩:=nJ t.ok r1 r2 t.run;have r3:a2<wh:=r3;omega
      ·refine ho.tells ?_ hr hf;rw[hL,hn];refine pX ?_;rcases Nat.mod_two_eq_zero_or_one ep with h|h
       ·have h':e'%2=1:=by omega
        rw[h]at hin;rw[h'];left;omega
       ·have h':e'%2=0:=by omega
        rw[h]at hin;rw[h'];right;omega
def rX(l:List Bs):Nat:=(l.map length).sum
def jA(vs:List RVer):List Bs:=vs.foldl (fun l v=>eF l (aB v.cont)) []
end
section
open Go.RowKit Go.Maps
end
section
open Go.RowKit Go.Maps
structure AB (S:AS) (M:List Bs):Prop where
 kM:S.K.map (·.1)=M
 nd:M.Nodup
 cut:∀l,∀V∈af S.ps l,V.chs.map (bm S.K)=aB (da S V)
 sc:S.X.sc=M.length
 sb:S.X.sb=(rX M:Nat)
theorem mA(l:List Bs):∀(cs acc:List Bs),eF (l++acc) cs=l++cn l acc cs
 | [],acc=>rfl
 | c::r,acc=>by
  show eF (oC (l++acc) c) r=_
  unfold oC
  simp only[mem_append]
  unfold cn
  split
  ·exact mA l r acc
  ·rw[append_assoc];exact mA l r (acc++[c])
theorem kn:∀(cs l:List Bs),l.Nodup->(eF l cs).Nodup
 | [],l,h=>h
 | c::r,l,h=>by
  show(eF (oC l c) r).Nodup
  refine kn r _ ?_
  unfold oC
  split
  ·exact h
  ·rename_i hc
   exact nodup_append.2 ⟨h,nodup_cons.2 ⟨by simp,nodup_nil⟩,fun a ha b hb=>by
    obtain rfl:=mem_singleton.1 hb
    exact fun e=>hc (e ▸ ha)⟩
theorem ut:∀(l:List Bs) (a:Nat),(ck a l).map (·.1)=l
 | [],_=>rfl
 | c::r,a=>by simp only[ck,map_cons,ut r]
theorem yE(a b:List Bs):rX (a++b)=rX a+rX b:=by unfold rX;rw[map_append,sum_append]
theorem AB.of{S S':AS}{M:List Bs}(h:AB S M)(hK:S'.K=S.K)(hsc:S'.X.sc=S.X.sc)(hsb:S'.X.sb=S.X.sb)(hv:∀l,∀V∈af S'.ps l,∃V0∈af S.ps l,V0.chs=V.chs):AB S' M:=by
 refine⟨by rw[hK];exact h.kM,h.nd,fun l V hV=>?_,by rw[hsc];exact h.sc,by rw[hsb];exact h.sb⟩;obtain⟨V0,h0,e⟩:=hv l V hV;have:=h.cut l V0 h0;unfold da at this ⊢;rw[hK,<- e];exact this
theorem Et(K:KL):∀{l:List Bs} {m:List (Nat×Nat)},m.length=l.length->(∀e∈l.zip m,bm K e.2=e.1)->m.map (bm K)=l
 | [],[],_,_=>rfl
 | c::l,q::m,h,hz=>by
  rw[map_cons,hz (c,q) (by simp),Et K (by simpa using h) (fun e he=>hz e (by simp[he]))]
theorem AB.put{S S':AS}{M:List Bs}(h:AB S M)(hok:ArOk S)(hok':ArOk S'){l D:Bs}{V:VerL}(hp:PutStep S S' l D V):AB S' (eF M (aB D)):=by
 have hf:eF M (aB D)=M++bF S D:=by
  have:=mA M (aB D) [];rw[append_nil]at this;rw[this];unfold bF;rw[h.kM]
 refine⟨?_,kn _ _ h.nd,fun m U hU=>?_,?_,?_⟩
 ·rw[hp.K,map_append,ut,h.kM,hf]
 ·rw[hp.vers]at hU
  have old:∀m,∀U∈af S.ps m,U.chs.map (bm S'.K)=aB (da S' U):=fun m U hU=>by
   obtain⟨p,hpm,-,hpg⟩:=bD (ne_nil_of_mem hU);have hin:=(hok.vers p hpm U (hpg ▸ hU)).1;rw[tB hp.K hin,<- h.cut m U hU];refine map_congr_left (fun q hq=>?_);rw[hp.K];exact kp (hin q hq)
  split at hU
  ·rename_i hm;rcases mem_append.1 hU with hU|hU
   ·exact old l U hU
   ·obtain rfl:=mem_singleton.1 hU;rw[zK hok' hp.nchs hp.chs];exact Et _ hp.nchs (fun e he=>pF hok' (hp.chs e he))
  ·exact old m U hU
 ·rw[hp.sc,h.sc,hf,length_append];omega
 ·rw[hp.sb,h.sb,hf,yE];unfold rX;omega
theorem zI{vs:List RVer}{c:Bs}:c∈jA vs->∃v∈vs,c∈aB v.cont:=by
 have key:∀(vs:List RVer) (l:List Bs),c∈vs.foldl (fun l v=>eF l (aB v.cont)) l->c∈l\/∃v∈vs,c∈aB v.cont:=by
  intro vs;induction vs with
  | nil=>intro l h;exact .inl h
  | cons v r ih =>
   intro l h;rcases ih _ h with h1|⟨u,hu,h1⟩
   ·have hb:∀(cs l:List Bs),c∈eF l cs->c∈l\/c∈cs:=by
     intro cs;induction cs with
     | nil=>intro l h;exact .inl h
     | cons x r ih =>
      intro l h;rcases ih _ h with h2|h2
      ·unfold oC at h2;split at h2
       ·exact .inl h2
       ·rcases mem_append.1 h2 with h3|h3
        ·exact .inl h3
        ·obtain rfl:=mem_singleton.1 h3;exact .inr (by simp)
      ·exact .inr (by simp[h2])
    rcases hb _ _ h1 with h2|h2
    ·exact .inl h2
    ·exact .inr ⟨v,by simp,h2⟩
   ·exact .inr ⟨u,by simp[hu],h1⟩
 intro h;rcases key vs [] h with h1|h1
 ·cases h1
 ·exact h1
theorem nX(vs:List RVer):(jA vs).Nodup:=by
 have key:∀(vs:List RVer) (l:List Bs),l.Nodup->(vs.foldl (fun l v=>eF l (aB v.cont)) l).Nodup:=by
  intro vs;induction vs with
  | nil=>intro l h;exact h
  | cons v r ih=>intro l h;exact ih _ (kn _ _ h)
 exact key vs [] nodup_nil
theorem qL{f:Bs->Nat}:∀{l m:List Bs},l.Nodup->(∀x∈l,x∈m)->(l.map f).sum<=(m.map f).sum
 | [],_,_,_=>by simp
 | a::r,m,hn,h=>by
  obtain⟨s,t,rfl⟩:=append_of_mem (h a (by simp))
  obtain⟨h1,h2⟩:=nodup_cons.1 hn
  have:=qL (f:=f) (l:=r) (m:=s++t) h2 (fun x hx=>by
   have hx2:=h x (by simp[hx])
   simp only[mem_append,mem_cons]at hx2 ⊢
   rcases hx2 with h3|rfl|h3
   ·exact .inl h3
   ·exact absurd hx h1
   ·exact .inr h3)
  simp only[map_append,map_cons,sum_append,sum_cons]at this ⊢
  omega
theorem ny{K:KL}{q:Nat×Nat}(h:∃e∈K,e.2=q):bm K q∈K.map (·.1):=by
 unfold bm
 cases hf:K.find? (fun e=>decide (e.2=q))with
 | none =>
  obtain⟨e,he,hq⟩:=h;exact absurd hq (by simpa using find?_eq_none.1 hf e he)
 | some e=>exact mem_map.2 ⟨e,mem_of_find?_eq_some hf,rfl⟩
theorem AB.subV{S:AS}{R:RefL}{M:List Bs}(h:AB S M)(hok:ArOk S)(L:Link S R):∀v∈R.vs,∀c∈aB v.cont,c∈M:=fun v hv c hcv=>by
 have hm:fA v∈(af S.ps v.path).map (cQ S):=by
  rw[L.vers];exact mem_map.2 ⟨v,mem_filter.2 ⟨hv,by simp⟩,rfl⟩
 obtain⟨V,hV,e⟩:=mem_map.1 hm;have e2:da S V=v.cont:=congrArg (fun t:kJ=>t.2.1) e;rw[<- e2,<- h.cut v.path V hV]at hcv;obtain⟨q,hq,rfl⟩:=mem_map.1 hcv;obtain⟨p,hp,-,hpg⟩:=bD (ne_nil_of_mem hV);rw[<- h.kM];exact ny ((hok.vers p hp V (hpg ▸ hV)).1 q hq)
theorem Lq:∀l:List Bs,(l.map (fun _=>1)).sum=l.length
 | []=>rfl
 | a::r=>by simp only[map_cons,sum_cons,length_cons,Lq r];omega
theorem AB.take{S:AS}{R:RefL}{M:List Bs}(h:AB S M)(hok:ArOk S)(L:Link S R)(j:Nat):(jA (R.vs.take j)).length<=M.length:=by
 have h1:=qL (f:=fun _=>1) (nX (R.vs.take j)) (m:=M) (fun c hc=>by
  obtain⟨v,hv,hcv⟩:=zI hc;exact h.subV hok L v (mem_of_mem_take hv) c hcv)
 rwa [Lq,Lq]at h1
theorem AB.start{n:Nat}{q:Int}{d:Nat}{S:AS}(h:nm n q d S):AB S []:=by
 obtain⟨-,-,-,-,-,h6,h7,h8,-,h10,-⟩:=h;refine { kM:=?_,nd:=nodup_nil,cut:=fun l V hV=>?_,sc:=?_,sb:=?_ }
 ·rw[h10];rfl
 ·rw[h8]at hV;exact absurd hV (by simp[af,gOf])
 ·rw[h6];rfl
 ·rw[h7];rfl
theorem AB.views{S S':AS}{M:List Bs}(h:AB S M)(hK:S'.K=S.K)(hsc:S'.X.sc=S'.K.length)(hsb:S'.X.sb=((S'.K.map (·.1.length)).sum:Nat))(hv:∀l,(af S'.ps l).map bp=(af S.ps l).map bp):AB S' M:=by
 refine h.of hK ?_ ?_ (fun l V hV=>?_)
 ·rw[hsc,hK,h.sc,<- h.kM,length_map]
 ·rw[hsb,hK,h.sb,<- h.kM];unfold rX;rw[map_map];rfl
 ·obtain⟨V0,h0,e⟩:=EO (hv l) V hV;exact⟨V0,h0,congrArg (fun t:E8=>t.2.2.1) e⟩
theorem AB.gone{S:AS}{M:List Bs}(h:AB S M)(p:Bs)(ns:List Int)(v':Value)(L':DevL)(hv:∀l,∀V∈af (ib S p ns v' L').ps l,V∈af S.ps l):AB (ib S p ns v' L') M:=h.of rfl rfl rfl (fun l V hV=>⟨V,hv l V hV,rfl⟩)
theorem AB.held{S S':AS}{M:List Bs}(h:AB S M){p:Bs}{n d:Int}(hps:S'.ps=cP S.ps p n d)(hK:S'.K=S.K)(hX:S'.X=S.X):AB S' M:=by
 refine h.of hK (by rw[hX]) (by rw[hX]) (fun l V hV=>?_);rw[hps,gT]at hV;split at hV
 ·rename_i hl;obtain⟨V0,h0,rfl⟩:=mem_map.1 hV;exact⟨V0,hl ▸ h0,(gy n d V0).2.2.1.symm⟩
 ·exact⟨V,hV,rfl⟩
def plV(q:Nat×Nat):Value:=.agg #[.int .i64 q.1,.int .i64 q.2]
def G3(q:Nat×Nat):Prop:=q.1<4611686018427387904/\q.2<4611686018427387904
theorem Aq(d:Nat)(n:Nat)(h:n<4611686018427387904):Tryz.prog.keyLits (d+1) 3 [.int .i64 n]=some [.int .i64 n]:=by
 have hw:(Lit.int .i64 (n:Int)).wf=true:=by
  simp[Lit.wf,IntKind.signed,IntKind.bits,IntKind.min,IntKind.max];omega
 unfold Program.keyLits;rw[Tryz.underlying3];simp[hw]
theorem Dg(d:Nat)(q:Nat×Nat)(h:G3 q):Tryz.prog.keyLits (d+2) 161 [.int .i64 q.1,.int .i64 q.2]=some [.int .i64 q.1,.int .i64 q.2]:=by
 have hc:Tryz.prog.cellsOf 161=2:=by kernel_rfl
 have hi:Tryz.prog.cellsOf 3=1:=by kernel_rfl
 unfold Program.keyLits;rw[Tryz.underlying161];simp[hc,hi,Aq d _ h.1,Aq d _ h.2]
theorem IT:EncOk Tryz.prog 161 plV G3 where
 keyed:=Keyed.of_law (deep_law_laid (m:=2) (by kernel_rfl) (by decide) (of_decide_eq_true (by kernel_rfl)) (by kernel_rfl) (by kernel_rfl))
 inj:=fun a b h=>by
  obtain⟨a1,a2⟩:=a
  obtain⟨b1,b2⟩:=b
  simp only[plV,Value.agg.injEq,Array.mk.injEq,List.cons.injEq,Value.int.injEq,true_and,and_true]at h
  obtain⟨h1,h2⟩:=h
  simp only[Prod.mk.injEq];omega
 key:=fun a ha=>by
  refine⟨.string (keyBytes [.int .i64 a.1,.int .i64 a.2]),?_⟩
  have hc:Tryz.prog.cellsOf 161=2:=by kernel_rfl
  have hk2:Tryz.prog.keyType 161=true:=by kernel_rfl
  have hsz:Tryz.prog.types.size+1=362+1:=by kernel_rfl
  unfold keyOf plV
  rw[Tryz.underlying161]
  simp only[hk2,Value.formed,Tryz.underlying161,hc]
  rw[hsz]
  show(Tryz.prog.keyLits (362-1+2) 161 [.int .i64 a.1,.int .i64 a.2]).map _=_
  rw[Dg _ a ha]
  rfl
theorem xw(w:World):(zeroValue 161).run Tryz.prog w=.ok (.agg #[.int .i64 0,.int .i64 0]) w:=by kernel_rfl
end
section
open Go.Shelf
def rK:Go.Shelf.Ren:=⟨fun|7=>117|10=>148|n=>n,fun|23=>119|26=>9|3=>153|28=>241|0=>0|27=>240|33=>226|4=>4|n=>n,fun|n=>n⟩
theorem Ep:Go.Proofs.SlLaysZ.n7 Tryz.prog rK:={
 mixed:=by kernel_rfl,
 f7:=⟨Tryz.f117.name,by decide,Tryz.func117.trans (congrArg some (by kernel_rfl))⟩,
 f10:=⟨Tryz.f148.name,by decide,Tryz.func148.trans (congrArg some (by kernel_rfl))⟩,
 t0:=Tryz.underlying0,
 a0:=Tryz.isAgg0,
 z0:=Tryz.sizeOf0,
 v0:=Tryz.zeroValue0,
 t4:=Tryz.underlying4,
 a4:=Tryz.isAgg4,
 z4:=Tryz.sizeOf4,
 v4:=Tryz.zeroValue4,
 t23:=Tryz.underlying119,
 a23:=Tryz.isAgg119,
 z23:=Tryz.sizeOf119,
 v23:=Tryz.zeroValue119,
 t26:=Tryz.underlying9,
 a26:=Tryz.isAgg9,
 z26:=Tryz.sizeOf9,
 v26:=Tryz.zeroValue9,
 t27:=Tryz.underlying240,
 a27:=Tryz.isAgg240,
 z27:=Tryz.sizeOf240,
 v27:=Tryz.zeroValue240,
 t28:=Tryz.underlying241,
 a28:=Tryz.isAgg241,
 z28:=Tryz.sizeOf241,
 v28:=Tryz.zeroValue241,
 t33:=Tryz.underlying226,
 a33:=Tryz.isAgg226,
 z33:=Tryz.sizeOf226,
 v33:=Tryz.zeroValue226 }
end
section
open Go.RowKit Go.Maps Go.Sort Go.Shelf
theorem AG(mb:Option Nat)(W:World):CallsIn Fence.wide 5 Tryz.prog 117 #[.map mb] W fun e w'=>e=.returned (.func (.func 148) #[] #[.pointer (some ⟨W.heap.size,0,none⟩)])/\w'=W.alloc (.cells #[.map mb] 119) :=
 AnyZ.keys_in Ep Fence.wide 5 trivial rfl mb W
theorem uO{H:Type}(b nn:Nat)(D0:DataW H)(R:Value->Option (DataW H×List MemPlace))(w:World)(hown:w.ownsMap Tryz.prog 9 R b nn D0)(hmax:Maps.size D0<=maxLen)(hbytes:Maps.size D0*16<=140737488355328):
  CallsIn Fence.wide 5 Tryz.prog 116 #[.func (.func 148) #[] #[.pointer (some ⟨w.heap.size,0,none⟩)]] (w.alloc (.cells #[.map (some b)] 119)) fun e w'=>∃(v:Value) (ss:List (List UInt8)),e=.returned v/\ss.Perm (strKeys D0) /\
   w'.ownsRow (w.alloc (.cells #[.map (some b)] 119)).heap.size 9 1 v ss.length ((ss.mergeSort (fun x y=>decide (x<=y))).map encStr)/\(v=.slice none 0 0↔ss=[])/\Below (w.alloc (.cells #[.map (some b)] 119)).heap.size (w.alloc (.cells #[.map (some b)] 119)) w':=by
 have hbl:=hown.lt
 have hseq:SeqGives Fence.wide 2 Tryz.prog 148 #[.pointer (some ⟨w.heap.size,0,none⟩)] encStr (fun ss=>ss.Perm (strKeys D0)) (Maps.size D0) (w.alloc (.cells #[.map (some b)] 119)) :=
  AnyZ.keys_gives (ρ:=rK) { Ep with } Fence.wide _ trivial rfl (by omega) w.heap.size b nn D0 _ (by simp) (by simp) (by
   obtain⟨es,clock,hb,Ft,hs,hD⟩:=hown;exact⟨es,clock,(Below.heap_alloc _ _ b hbl).trans hb,Ft,hs,hD⟩)
 exact AnyZ.sorted_in xk Fence.wide 5 trivial trivial trivial trivial rfl (by omega) (Av _) (enters_of Tryz.func147 (by kernel_rfl) rfl) 148 #[.pointer (some ⟨w.heap.size,0,none⟩)] trivial (enters_of Tryz.func148 (by kernel_rfl) rfl) _ _ hmax hbytes _ hseq
def kC(l:List Bs):List Bs:=l.mergeSort (fun x y=>decide (x<=y))
def fL(ps:List aW):List Bs:=kC (ps.map (·.key))
theorem sK(S:AS)(w:World)(h:Sat w (arF S))(hc:S.X.closed=true):
  Calls Tryz.prog 71 #[.pointer (some ⟨S.a,0,none⟩)] w (fun e w'=>e=.returned (cO 9)/\aX w w'):=by
 have ha:=h.Q5;have hal:=ac ha;have a10:w.cell? ⟨S.a,10,none⟩=some (.bool true):=by rw[<- hc];exact aa ha 10 rfl
 clear h ha hc;go_enter Tryz.func71,Tryz.ntmps71;go_wp2_with fail;go_ret;exact ⟨rfl,Mods.refl _ _⟩
theorem AO{F0 F:HF}{w wa w':World}{B:Nat}{v:Value}{xs:List Value}(hT:Turns F0 F w wa)(hB:B=wa.heap.size)(ho:w'.ownsRow B 9 1 v xs.length xs)(hb:Below B wa w'):eE 1 v xs.length xs/\Turns F0 (bN 9 1 v xs.length xs++F) w w':=by
 subst hB;obtain⟨h1,h2⟩:=gl ho;refine⟨h2,hT.Qb ⟨(aX.of_below hb).mods _,h1,fun g hg=>.inr ?_⟩⟩;have hg:=(ff _ _ _ _ _ _).1 hg;rcases ho.2 with⟨rfl,-⟩|⟨g',cap,cur,rfl,hb',-⟩
 ·cases hg
 ·simp only[Value.ownBlock,Option.some.injEq]at hg;subst hg;exact hb'
theorem rY{ks:List Bs}{ss:List Bs}{D:DataW Unit}(h1:ss.Perm (strKeys D))(h2:(strKeys D).Perm ks):(ss.mergeSort (fun x y=>decide (x<=y))).map encStr=(kC ks).map str/\ss.length=(kC ks).length:=by
 have h3:ss.Perm ks:=h1.trans h2;refine⟨?_,?_⟩
 ·unfold kC;rw[xj h3];try rfl
 ·unfold kC;rw[length_mergeSort];exact h3.length_eq
end
section
open Go.RowKit Go.Maps
structure CB where
 pm:Nat
 tm:Nat
 cm:Nat
 X:ArchL
 ps:List aW
 pc:Nat
 cs:List kg
 cc:Nat
 ts:List fq
 tc:Nat
 sz:List (Ent Int)
 szc:Nat
 D:Bs
 s:PSt
 mp:List (Ent (Nat×Nat))
 mc:Nat
def fD(K:KL)(V:VerL):Nat×Nat×List Bs:=(V.num,V.size,V.chs.map (bm K))
abbrev yV:=List (Bs×VerL)
def JO(S:AS)(dn:yV):List Bs:=dn.flatMap (fun x=>x.2.chs.map (bm S.K))
def mF(K:KL):Nat:=(K.map (fun e=>e.1.length+9)).sum
def pM(dn:yV):Nat:=(dn.map (fun x=>x.1.length+16+4*x.2.chs.length)).sum
def dU(td:List Tg):Nat:=(td.map (fun t=>t.1.length+t.2.1.length+15)).sum
structure CbOk (S:AS) (dn:yV) (pt:List Bs) (td:List Tg) (B:CB) (vb:Value):Prop where
 ct:CtOk B.D B.X B.ps B.pc B.cs B.cc B.ts B.tc B.sz B.szc B.D.length B.s
 map:MapOk G3 B.mp B.mc
 moved:∀e∈B.mp,∃c q,(c,e.key)∈S.K/\e.val=plV q/\(c,q)∈B.s.K
 back:∀c q,(c,q)∈B.s.K->∃e∈B.mp,(c,e.key)∈S.K
 row:bOk vb B.D
 bod:B.s.K.map (·.1)=eF [] (JO S dn++pt)
 hist:∀l,(af B.ps l).map (fD B.s.K)=(dn.filter (fun x=>decide (x.1=l))).map (fun x=>fD S.K x.2)
 held:∀l,∀V∈af B.ps l,V.held=((td.countP (fun t=>decide (t.2.1=l/\t.2.2=(V.num:Int))):Nat):Int)
 tT:B.s.T=td
 len:B.D.length=mF B.s.K+pM dn+dU td
theorem wL{p q:Nat×Nat}{c:Bs}:∀{K:KL},(K.map (·.1)).Nodup->(c,p)∈K->(c,q)∈K->p=q
 | e::r,hn,h1,h2=>by
  obtain⟨n1,n2⟩:=nodup_cons.1 hn
  rcases mem_cons.1 h1 with rfl|h1<;>rcases mem_cons.1 h2 with h2|h2
  ·exact(congrArg Prod.snd h2).symm
  ·exact absurd (mem_map.2 ⟨_,h2,rfl⟩) n1
  ·rw[<- h2]at n1;exact absurd (mem_map.2 ⟨_,h1,rfl⟩) n1
  ·exact wL n2 h1 h2
theorem pA(l a b:List Bs):eF l (a++b)=eF (eF l a) b:=foldl_append
theorem vR{c:Bs}:∀{cs l:List Bs},c∈eF l cs↔c∈l\/c∈cs
 | [],l=>by simp[eF]
 | x::r,l=>by
  show c∈eF (oC l x) r↔_
  rw[vR (cs:=r)]
  unfold oC
  split
  ·rename_i hx
   rw[mem_cons]
   exact⟨fun h=>h.imp id .inr,fun h=>by
    rcases h with h|rfl|h
    ·exact .inl h
    ·exact .inl hx
    ·exact .inr h⟩
  ·rw[mem_append,mem_singleton,mem_cons,or_assoc]
section
variable {S:AS} {dn:yV} {pt:List Bs} {td:List Tg} {B:CB} {vb:Value}
theorem CtOk.body{D:Bs}{X:ArchL}{ps:List aW}{pc:Nat}{cs:List kg}{cc:Nat}{ts:List fq}{tc:Nat}{sz:List (Ent Int)}{szc at_:Nat}{s:PSt}(h:CtOk D X ps pc cs cc ts tc sz szc at_ s){c:Bs}{q:Nat×Nat}(hq:(c,q)∈s.K):bm s.K q=c:=by
 unfold bm
 cases hf:s.K.find? (fun e=>decide (e.2=q))with
 | none=>rw[find?_eq_none]at hf;exact absurd (by simp) (hf _ hq)
 | some e =>
  have h1:=mem_of_find?_eq_some hf;have h2:e.2=q:=by simpa using find?_some hf
  have h3:=(h.kat e h1).2.2;rw[h2]at h3;simpa using rI h3 (h.kat _ hq).2.2
theorem CtOk.vers{D:Bs}{X:ArchL}{ps:List aW}{pc:Nat}{cs:List kg}{cc:Nat}{ts:List fq}{tc:Nat}{sz:List (Ent Int)}{szc at_:Nat}{s:PSt}(h:CtOk D X ps pc cs cc ts tc sz szc at_ s){l:Bs}{V:VerL}(hV:V∈af ps l):(∀q∈V.chs,∃e∈s.K,e.2=q)/\V.size=(V.chs.map (·.2)).sum:=by
 have h1:bp V∈(af ps l).map bp:=mem_map.2 ⟨V,hV,rfl⟩;rw[h.hist]at h1;obtain⟨x,hx,e⟩:=mem_map.1 h1;obtain⟨h2,h3⟩:=h.chsK x (mem_filter.1 hx).1;unfold cy bp at e;simp only[Prod.mk.injEq]at e;rw[<- e.2.1,<- e.2.2.1];exact⟨h2,h3⟩
theorem CbOk.hit(h:CbOk S dn pt td B vb)(hok:ArOk S){c:Bs}{p:Nat×Nat}(hc:(c,p)∈S.K){e:Ent (Nat×Nat)}(he:e∈B.mp)(hk:e.key=p):∃q,e.val=plV q/\(c,q)∈B.s.K/\CbOk S dn (pt++[c]) td B vb:=by
 obtain⟨c',q,h1,h2,h3⟩:=h.moved e he;rw[hk]at h1;obtain rfl:=KF hok h1 hc;refine⟨q,h2,h3,{ h with bod:=?_ }⟩;rw[<- append_assoc,pA,<- h.bod];show _=oC _ c';unfold oC;rw[if_pos (mem_map.2 ⟨_,h3,rfl⟩)]
theorem CbOk.miss(h:CbOk S dn pt td B vb)(hnd:(S.K.map (·.1)).Nodup){c:Bs}{p:Nat×Nat}(hc:(c,p)∈S.K)(hn:∀e∈B.mp,e.key≠p):c∉B.s.K.map (·.1):=fun hm=>by
 obtain⟨⟨c',q⟩,hq,rfl⟩:=mem_map.1 hm
 obtain⟨e,he,h1⟩:=h.back _ _ hq
 exact hn e he (wL hnd h1 hc)
def CB.chunk(B:CB)(c:Bs)(p:Nat×Nat)(v:Value):CB :=
 { B with X:={ B.X with sc:=B.X.sc+1,sb:=B.X.sb+c.length },cs:=ef B.cs B.cc (ed c) v (aY B.cs (ed c)++[(B.D.length,c.length)]),cc:=cw (B.cs.map aO) B.cc (ed c),sz:=gA B.sz B.szc (B.D.length:Int) (.int .i64 c.length),szc:=cw B.sz B.szc (B.D.length:Int),D:=B.D++frame 1 c,s:={ B.s with K:=B.s.K++[(c,B.D.length,c.length)] },mp:=gA B.mp B.mc p (plV (B.D.length,c.length)),mc:=cw B.mp B.mc p }
theorem CbOk.chunk(h:CbOk S dn pt td B vb){c:Bs}{p:Nat×Nat}(hc:(c,p)∈S.K)(hm:c∉B.s.K.map (·.1))(hn:∀e∈B.mp,e.key≠p)(hcl:c.length<65536)(hD:B.D.length<=4294967296)(hp:G3 p){v vb':Value}(hv:cd v (aY B.cs (ed c)++[(B.D.length,c.length)]))(hvb:bOk vb' (B.D++frame 1 c)):
  CbOk S dn (pt++[c]) td (B.chunk c p v) vb':=by
 have hh:ix B.mp p=false:=by
  cases hb:ix B.mp p with
  | false=>rfl
  | true=>obtain⟨e,he,hk⟩:=iy.1 hb;exact absurd hk (hn e he)
 have hmp:(B.chunk c p v).mp=B.mp++[⟨p,plV (B.D.length,c.length),B.mc⟩]:=by unfold CB.chunk gA;simp[hh]
 refine { ct:=h.ct.Qn hcl hD hv,map:=h.map.put hp _,moved:=fun e he=>?_,back:=fun c' q hq=>?_,row:=hvb,bod:=?_,hist:=fun l=>?_,held:=h.held,tT:=h.tT,len:=?_ }
 ·rw[hmp]at he;rcases mem_append.1 he with he|he
  ·obtain⟨c',q,h1,h2,h3⟩:=h.moved e he;exact⟨c',q,h1,h2,mem_append_left _ h3⟩
  ·obtain rfl:=mem_singleton.1 he;exact⟨c,_,hc,rfl,mem_append_right _ (by simp)⟩
 ·rw[hmp];rcases mem_append.1 hq with hq|hq
  ·obtain⟨e,he,h1⟩:=h.back c' q hq;exact⟨e,mem_append_left _ he,h1⟩
  ·have:=mem_singleton.1 hq;simp only[Prod.mk.injEq]at this;obtain⟨rfl,-⟩:=this;exact⟨_,mem_append_right _ (mem_singleton.2 rfl),hc⟩
 ·show(B.s.K++[_]).map _=_;rw[<- append_assoc,pA,<- h.bod,map_append];show _=oC _ c;unfold oC;rw[if_neg hm];rfl
 ·rw[<- h.hist l];refine map_congr_left (fun V hV=>?_);unfold fD;congr 2;exact map_congr_left (fun q hq=>kp ((h.ct.vers hV).1 q hq))
 ·show(B.D++frame 1 c).length=mF (B.s.K++[_])+pM dn+dU td;have:=h.len;unfold mF at this ⊢;rw[length_append,aJ,map_append,sum_append];simp only[map_cons,map_nil,sum_cons,sum_nil];omega
def iP(S:AS)(K:KL)(chs chs':List (Nat×Nat)):Prop:=chs'.map (bm K)=chs.map (bm S.K)/\∀q∈chs',∃e∈K,e.2=q
theorem iP.nil(S:AS)(K:KL):iP S K [] []:=⟨rfl,fun q h=>by cases h⟩
theorem iP.more{K:KL}{chs chs':List (Nat×Nat)}(h:iP S K chs chs')(K':KL):iP S (K++K') chs chs':=by
 refine⟨?_,fun q hq=>?_⟩
 ·rw[<- h.1];exact map_congr_left (fun q hq=>kp (h.2 q hq))
 ·obtain⟨e,he,e1⟩:=h.2 q hq;exact⟨e,mem_append_left _ he,e1⟩
theorem iP.snoc{K:KL}{chs chs':List (Nat×Nat)}(h:iP S K chs chs'){p q:Nat×Nat}{c:Bs}(hp:bm S.K p=c)(hq:bm K q=c)(he:∃e∈K,e.2=q):iP S K (chs++[p]) (chs'++[q]):=by
 refine⟨by rw[map_append,map_append,h.1];simp[hp,hq],fun x hx=>?_⟩;rcases mem_append.1 hx with hx|hx
 ·exact h.2 x hx
 ·obtain rfl:=mem_singleton.1 hx;exact he
theorem iP.len{K:KL}{chs chs':List (Nat×Nat)}(h:iP S K chs chs'):chs'.length=chs.length:=by
 have:=congrArg length h.1;simpa using this
theorem uL{K:KL}(hk:∀e∈K,e.2.2=e.1.length)(hb:∀{c:Bs} {q:Nat×Nat},(c,q)∈K->bm K q=c):∀{chs:List (Nat×Nat)},(∀q∈chs,∃e∈K,e.2=q)->chs.map (·.2)=(chs.map (bm K)).map length
 | [],_=>rfl
 | q::r,h=>by
  obtain⟨e,he,rfl⟩:=h q (by simp)
  have h2:=uL hk hb (chs:=r) (fun x hx=>h x (by simp[hx]))
  simp only[map_cons]
  rw[hb (c:=e.1) (q:=e.2) he,hk e he,h2]
theorem iP.sum(h:CbOk S dn pt td B vb)(hok:ArOk S){chs chs':List (Nat×Nat)}(hc:iP S B.s.K chs chs')(hS:∀q∈chs,∃e∈S.K,e.2=q):(chs'.map (·.2)).sum=(chs.map (·.2)).sum:=by
 rw[uL (fun e he=>(h.ct.kat e he).1) (fun hq=>h.ct.body hq) hc.2,hc.1,uL (fun e he=>(hok.kat e he).1) (fun hq=>pF hok hq) hS]
def gL(b:Nat)(V:VerL)(cv:Value)(chs:List (Nat×Nat)):VerL:=⟨b,V.num,V.size,cv,chs,0⟩
def CB.ver(B:CB)(l:Bs)(V:VerL)(b:Nat)(cv v':Value)(chs:List (Nat×Nat)):CB :=
 { B with X:={ B.X with used:=B.X.used+V.size },ps:=kh B.ps B.pc l v' (gL b V cv chs),pc:=cw (B.ps.map aO) B.pc l,D:=B.D++frame 2 (eC l V.num V.size (bt chs)),s:={ B.s with H:=B.s.H++[⟨l,V.num,V.size,chs,0⟩] } }
theorem CbOk.ver{V:VerL}(h:CbOk S dn (V.chs.map (bm S.K)) [] B vb)(hok:ArOk S){l:Bs}(hl:l.length<=20)(hnum:V.num<4294967296)(hsz:V.size<65536)(hD:B.D.length<=4294967296)(hcl:V.chs.length<=16000)(hS:(∀q∈V.chs,∃e∈S.K,e.2=q)/\V.size=(V.chs.map (·.2)).sum){chs:List (Nat×Nat)}(hc:iP S B.s.K V.chs chs){b:Nat}{cv v' vb':Value}(hcv:cd cv chs)(hv:eP v' (af B.ps l++[gL b V cv chs]))(hvb:bOk vb' (B.D++frame 2 (eC l V.num V.size (bt chs)))):
  CbOk S (dn++[(l,V)]) [] [] (B.ver l V b cv v' chs) vb':=by
 have hfl:=gc l V.num V.size chs;have hln:=hc.len;have hct:=h.ct.addVer (b:=b) (m:=V.size) hl hnum hsz hD (by rw[aJ]at hfl;omega) hc.2 (by rw[iP.sum h hok hc hS.1];exact hS.2.symm) hcv hv;refine { ct:=hct,map:=h.map,moved:=h.moved,back:=h.back,row:=hvb,bod:=?_,hist:=fun m=>?_,held:=fun m U hU=>?_,tT:=h.tT,len:=?_ }
 ·show B.s.K.map _=_;rw[h.bod,append_nil];unfold JO;rw[flatMap_append];simp
 ·show(af (kh B.ps B.pc l v' (gL b V cv chs)) m).map (fD B.s.K)=_;rw[qz,filter_append,map_append,<- h.hist m];by_cases hm:m=l
  ·subst hm;rw[if_pos rfl,map_append];simp only[map_cons,map_nil,filter_cons,decide_true,if_true,filter_nil];congr 2;unfold fD gL;simp only;rw[hc.1]
  ·rw[if_neg hm];have:¬l=m:=fun e=>hm e.symm
   simp[this]
 ·have hU:U∈af (kh B.ps B.pc l v' (gL b V cv chs)) m:=hU;rw[qz]at hU;split at hU
  ·rename_i hm;subst hm;rcases mem_append.1 hU with hU|hU
   ·exact h.held _ U hU
   ·obtain rfl:=mem_singleton.1 hU;rfl
  ·exact h.held _ U hU
 ·show(B.D++frame 2 _).length=mF B.s.K+pM (dn++[(l,V)])+dU [];have:=h.len;unfold pM at this ⊢;rw[length_append,hfl,map_append,sum_append,hln];simp only[map_cons,map_nil,sum_cons,sum_nil];omega
def CB.tag(B:CB)(m p:Bs)(n:Nat):CB :=
 { B with ps:=cP B.ps p n 1,ts:=ef B.ts B.tc m (mx m (p,(n:Int))) (p,(n:Int)),tc:=cw (B.ts.map aO) B.tc m,D:=B.D++frame 4 (dR p m n),s:={ B.s with H:=fw B.s.H p n 1,T:=lS B.s.T (m,p,(n:Int)) } }
theorem tR(p m:Bs)(n:Int):(frame 4 (dR p m n)).length=m.length+p.length+15:=by
 simp only[aJ,dR,length_append,bI,bV];omega
theorem CbOk.tag(h:CbOk S dn [] td B vb){m p:Bs}{n:Nat}(hp:p.length<=20)(hm:m.length<=20)(hn:n<4294967296)(hnew:∀t∈td,t.1≠m){vb':Value}(hvb:bOk vb' (B.D++frame 4 (dR p m n))):
  CbOk S dn [] (td++[(m,p,(n:Int))]) (B.tag m p n) vb':=by
 have hfl:=tR p m n
 have hT:lS B.s.T (m,p,(n:Int))=td++[(m,p,(n:Int))]:=by
  unfold lS;rw[if_neg,h.tT];rw[h.tT,any_eq_true];rintro⟨t,ht,e⟩;exact hnew t ht (by simpa using e)
 refine { ct:=h.ct.addTag hp hm (by unfold OkS;omega) hn (by rw[aJ]at hfl;omega),map:=h.map,moved:=h.moved,back:=h.back,row:=hvb,bod:=h.bod,hist:=fun l=>?_,held:=fun l U hU=>?_,tT:=hT,len:=?_ }
 ·show(af (cP B.ps p n 1) l).map (fD B.s.K)=_;rw[gT,<- h.hist l];split
  ·rename_i e;subst e;rw[map_map];refine map_congr_left (fun V _=>?_);show fD B.s.K (di n 1 V)=_;obtain⟨-,-,e1,e2,e3⟩:=gy n 1 V;unfold fD;rw[e1,e2,e3]
  ·rfl
 ·have hU:U∈af (cP B.ps p n 1) l:=hU;rw[gT]at hU;rw[countP_append];split at hU
  ·rename_i e;subst e;obtain⟨V,hV,rfl⟩:=mem_map.1 hU;rw[(gy n 1 V).2.2.2.1];have h0:=h.held _ V hV;unfold di;by_cases hnn:(V.num:Int)=n
   ·rw[if_pos hnn];simp only[countP_cons,countP_nil,hnn,and_self,decide_true,if_true];rw[hnn]at h0;show V.held+1=_;omega
   ·rw[if_neg hnn];have:¬((n:Int)=V.num):=fun e=>hnn e.symm
    simp only[countP_cons,countP_nil,this,and_false,decide_false,Bool.false_eq_true,if_false,Nat.add_zero];exact h0
  ·rename_i e;have:¬p=l:=fun e2=>e e2.symm
   simp only[countP_cons,countP_nil,this,false_and,decide_false,Bool.false_eq_true,if_false,Nat.add_zero];exact h.held _ U hU
 ·show(B.D++frame 4 _).length=mF B.s.K+pM dn+dU (td++[_]);have:=h.len;unfold dU at this ⊢;rw[length_append,hfl,map_append,sum_append];simp only[map_cons,map_nil,sum_cons,sum_nil];omega
theorem CbOk.costs(h:CbOk S dn pt td B vb)(hin:∀x∈dn,∀q∈x.2.chs,∃e∈S.K,e.2=q)(hpt:∀c∈pt,c∈S.K.map (·.1)):B.D.length<=mF S.K+pM dn+dU td:=by
 have h1:(B.s.K.map (·.1)).Nodup:=by rw[h.bod];exact kn _ _ nodup_nil
 have h2:=qL (f:=fun c=>c.length+9) h1 (m:=S.K.map (·.1)) (fun c hc=>by
  rw[h.bod,vR]at hc;rcases hc with hc|hc
  ·cases hc
  rcases mem_append.1 hc with hc|hc
  ·obtain⟨x,hx,hc⟩:=mem_flatMap.1 hc;obtain⟨q,hq,rfl⟩:=mem_map.1 hc;exact ny (hin x hx q hq)
  ·exact hpt c hc)
 have h3:=h.len;rw[map_map,map_map]at h2;unfold mF at h3 ⊢;have e:∀K:KL,(K.map ((fun c:Bs=>c.length+9) ∘ (·.1))).sum=(K.map (fun e=>e.1.length+9)).sum:=fun K=>rfl
 rw[e,e]at h2;omega
end
end
section
open Go.RowKit Go.Maps
theorem xO(vs:List RVer):jA vs=eF [] (vs.flatMap (fun v=>aB v.cont)):=by
 unfold jA eF;rw[foldl_flatMap]
theorem rM{p:Bs}:∀{vs:List RVer},vs.Pairwise (fun a b=>bJ b.path a.path=false)->(∀v∈vs,v.path=p\/bJ p v.path=true)->vs=aD vs p++vs.filter (fun v => !decide (v.path=p))
 | [],_,_=>rfl
 | v::r,hs,h=>by
  obtain⟨h1,h2⟩:=pairwise_cons.1 hs
  have ih:=rM h2 (fun u hu=>h u (by simp[hu]))
  unfold aD at ih ⊢
  by_cases hp:v.path=p
  ·rw[filter_cons,filter_cons]
   simp only[hp,decide_true,if_true,Bool.not_true,Bool.false_eq_true,if_false,cons_append]
   rw[<- ih]
  ·have hlt:bJ p v.path=true:=(h v (by simp)).resolve_left hp
   have hn:∀u∈r,¬u.path=p:=fun u hu e=>by
    have:=h1 u hu
    rw[e,hlt]at this;cases this
   have e1:(v::r).filter (fun u=>decide (u.path=p))=[]:=filter_eq_nil_iff.2 (fun u hu=>by
    rcases mem_cons.1 hu with rfl|hu
    ·simpa using hp
    ·simpa using hn u hu)
   have e2:(v::r).filter (fun u => !decide (u.path=p))=v::r:=filter_eq_self.2 (fun u hu=>by
    rcases mem_cons.1 hu with rfl|hu
    ·simpa using hp
    ·simpa using hn u hu)
   rw[e1,e2];rfl
theorem up:∀{ks:List Bs} {vs:List RVer},ks.Pairwise (fun a b=>bJ a b=true)->vs.Pairwise (fun a b=>bJ b.path a.path=false)->(∀v∈vs,v.path∈ks)->vs=ks.flatMap (aD vs)
 | [],vs,_,_,h=>by
  cases vs with
  | nil=>rfl
  | cons v r=>exact absurd (h v (by simp)) (by simp)
 | p::r,vs,hk,hs,h=>by
  obtain⟨h1,h2⟩:=pairwise_cons.1 hk
  have hl:=rM (p:=p) hs (fun v hv=>by
   rcases mem_cons.1 (h v hv)with e|e
   ·exact .inl e
   ·exact .inr (h1 _ e))
  obtain⟨ws,hws⟩:∃ws,ws=vs.filter (fun v => !decide (v.path=p)):=⟨_,rfl⟩
  have ih:=up (ks:=r) (vs:=ws) h2 (by rw[hws];exact hs.filter _) (fun v hv=>by
   rw[hws]at hv
   obtain⟨hv1,hv2⟩:=mem_filter.1 hv
   rcases mem_cons.1 (h v hv1)with e|e
   ·simp[e]at hv2
   ·exact e)
  have hq:∀q∈r,aD ws q=aD vs q:=fun q hq=>by
   unfold aD
   rw[hws,filter_filter]
   refine filter_congr (fun v _=>?_)
   have hne:q≠p:=fun e=>by
    have h3:=h1 q hq
    rw[e,b5]at h3;cases h3
   by_cases e:v.path=q
   ·simp[e,hne]
   ·simp[e]
  rw[<- hws]at hl
  rw[flatMap_cons]
  conv=>lhs;rw[hl,ih]
  congr 1
  exact gt hq
theorem yF{l:List Bs}(hn:l.Nodup):(kC l).Pairwise (fun a b=>bJ a b=true):=by
 have h1:(kC l).Pairwise (fun x y=>decide (x<=y)=true):=pairwise_mergeSort (fun x y z h1 h2=>by simp only[decide_eq_true_eq]at h1 h2 ⊢;exact List.le_trans h1 h2) (fun x y=>by simp only[Bool.or_eq_true,decide_eq_true_eq];exact List.le_total x y) _;have h2:(kC l).Nodup:=(mergeSort_perm _ _).nodup_iff.2 hn;refine(h1.and h2).imp (fun {a b} h=>?_);obtain⟨h3,h4⟩:=h;simp only[decide_eq_true_eq]at h3
 cases hb:bJ a b with
 | true=>rfl
 | false =>
  have h5:¬a<b:=fun e=>by rw[xK.2 e]at hb;cases hb
  exact absurd (List.le_antisymm h3 h5) h4
theorem nK{l:List Bs}{x:Bs}:x∈kC l↔x∈l:=(mergeSort_perm _ _).mem_iff
def pE(S:AS)(l:Bs):List Bs:=(af S.ps l).flatMap (fun V=>V.chs.map (bm S.K))
theorem AB.order{S:AS}{R:RefL}{M:List Bs}(h:AB S M)(hok:ArOk S)(L:Link S R):jA R.vs=eF [] ((fL S.ps).flatMap (pE S)):=by
 have hks:(S.ps.map (·.key)).Nodup:=by rw[<- cE];exact hok.paths.map.nodup
 have hf:=up (ks:=fL S.ps) (vs:=R.vs) (yF hks) L.sorted (fun v hv=>by
  have hm:fA v∈(af S.ps v.path).map (cQ S):=by
   rw[L.vers];exact mem_map.2 ⟨v,mem_filter.2 ⟨hv,by simp⟩,rfl⟩
  obtain⟨V,hV,-⟩:=mem_map.1 hm;obtain⟨p,hp,hpk,-⟩:=bD (ne_nil_of_mem hV);exact nK.2 (mem_map.2 ⟨p,hp,hpk⟩))
 rw[xO];congr 1;conv=>lhs;rw[hf]
 rw[flatMap_assoc];refine gt (fun l _=>?_);have h1:(aD R.vs l).flatMap (fun v=>aB v.cont)=((aD R.vs l).map fA).flatMap (fun t=>aB t.2.1):=by rw[flatMap_map];rfl
 rw[h1,<- L.vers,flatMap_map];unfold pE;exact gt (fun V hV=>(h.cut l V hV).symm)
theorem qe{l:Bs}{n:Nat}(h:fa l false n=false):(eR l false n).length+n=l.length:=by
 unfold fa at h;simp only[Bool.false_or,decide_eq_false_iff_not]at h;unfold eR;rw[if_neg (by simpa using h),length_drop];omega
theorem li{l:Bs}{b:Bool}{n:Nat}(h:fa l b n=false):b=false:=by
 unfold fa at h
 cases b with
 | false=>rfl
 | true=>simp at h
theorem rj{l:Bs}{b:Bool}(h:kE l b=false):b=false/\(gn l b).length+1+(lu l b).length=l.length:=by
 unfold kE at h;have h1:=li h;have h0:=li h1;subst h0;refine⟨rfl,?_⟩;rw[h1]at h;have h2:=qe h1;have h3:=qe h;unfold fa at h;simp only[Bool.false_or,decide_eq_false_iff_not]at h;unfold gn lu;rw[h1,if_neg (by simpa using h),length_take];omega
theorem uy{k:UInt8}{body:Bs}:(∀p n m ats,fb k body=some (.ver p n m ats)->p.length+16+4*ats.length<=body.length+9)/\(∀q p m n,fb k body=some (.pin q p m n)->p.length+m.length+15<=body.length+9):=by
 unfold fb;simp only;refine⟨fun p n m ats h=>?_,fun q p m n h=>?_⟩
 ·split at h
  ·split at h
   ·rename_i hc;simp only[Option.some.injEq,RecR.ver.injEq]at h;obtain⟨rfl,-,-,rfl⟩:=h;obtain⟨h1,-⟩:=hc;have b2:=li (show fa _ _ 2=false from h1);have b1:=li (show fa _ _ 4=false from b2);obtain⟨-,h3⟩:=rj (show kE body false=false from b1);unfold rN rT at h1 b2 ⊢;simp only at h1 b2 b1 ⊢;unfold rT at b1;simp only at b1;rw[b1]at b2 h1 ⊢;rw[b2]at h1 ⊢;have h4:=qe b2;have h5:=qe h1;rw[iZ];omega
   ·cases h
  ·split at h
   ·split at h<;>cases h
   ·split at h
    ·split at h<;>cases h
    ·cases h
 ·split at h
  ·split at h<;>cases h
  ·split at h
   ·split at h<;>cases h
   ·split at h
    ·split at h
     ·rename_i hc;simp only[Option.some.injEq,RecR.pin.injEq]at h;obtain⟨-,rfl,rfl,-⟩:=h;obtain⟨h1,-⟩:=hc;have b2:=li (show fa _ _ 4=false from h1);obtain⟨b1,h4⟩:=rj (show kE _ _=false from b2);obtain⟨-,h3⟩:=rj (show kE body false=false from b1);unfold rT at h1 b2 h4 ⊢;unfold rN at h1;simp only at h1 b2 h4 ⊢;rw[b2]at h1;have h5:=qe h1;unfold rT at b1;simp only at b1;rw[b1]at h4 h5 ⊢;omega
     ·cases h
    ·cases h
def tD(H:List HV):Nat:=(H.map (fun h=>h.p.length+16+4*h.chs.length)).sum
theorem pn{α:Type}(f:α->Nat)(p:α->Bool):∀l:List α,((l.filter p).map f).sum<=(l.map f).sum
 | []=>by simp
 | a::r=>by
  have:=pn f p r
  rw[filter_cons]
  split
  ·simp only[map_cons,sum_cons];omega
  ·simp only[map_cons,sum_cons];omega
theorem Gd{x:Tg}:∀{T:List Tg},(T.map (·.1)).Nodup->dU (lS T x)<=dU T+(x.1.length+x.2.1.length+15):=by
 have key:∀{T:List Tg},(T.map (·.1)).Nodup->dU (T.map (fun t=>if t.1=x.1 then x else t))<=dU T+(x.1.length+x.2.1.length+15):=by
  intro T;induction T with
  | nil=>intro _;simp[dU]
  | cons t r ih =>
   intro hn;obtain⟨n1,n2⟩:=nodup_cons.1 hn;by_cases h:t.1=x.1
   ·have e:r.map (fun t=>if t.1=x.1 then x else t)=r:=by
     conv=>rhs;rw[<- map_id r]
     refine map_congr_left (fun u hu=>?_);rw[if_neg (fun e=>n1 (mem_map.2 ⟨u,hu,e.trans h.symm⟩))];rfl
    rw[map_cons,e,if_pos h];unfold dU;simp only[map_cons,sum_cons];omega
   ·have:=ih n2;rw[map_cons,if_neg h];unfold dU at this ⊢;simp only[map_cons,sum_cons];omega
 intro T hn;unfold lS;split
 ·exact key hn
 ·unfold dU;rw[map_append,sum_append];simp
theorem Dt{x:Tg}{T:List Tg}(h:(T.map (·.1)).Nodup):((lS T x).map (·.1)).Nodup:=by
 unfold lS;split
 ·have e:(T.map (fun t=>if t.1=x.1 then x else t)).map (·.1)=T.map (·.1):=by
   rw[map_map];refine map_congr_left (fun t _=>?_);show(if t.1=x.1 then x else t).1=t.1;split
   ·rename_i e;exact e.symm
   ·rfl
  rw[e];exact h
 ·rename_i hx;rw[map_append];refine nodup_append.2 ⟨h,by simp,fun a ha b hb e=>?_⟩;simp only[map_cons,map_nil,mem_singleton]at hb;obtain⟨t,ht,e2⟩:=mem_map.1 ha;exact hx (any_eq_true.2 ⟨t,ht,by simpa using(e2.trans e).trans hb⟩)
def need(s:PSt):Nat:=mF s.K+tD s.H+dU s.T
theorem tE(H:List HV)(p:Bs)(n d:Int):tD (fw H p n d)=tD H:=by
 unfold tD fw;rw[map_map];congr 1;refine map_congr_left (fun h _=>?_);show(if _ then _ else h:HV).p.length+16+4*(if _ then _ else h:HV).chs.length=_;split<;>rfl
theorem Gs{at_:Nat}{s s':PSt}{k:UInt8}{body:Bs}(h:fy at_ s k body=some s')(hn:(s.T.map (·.1)).Nodup):need s'<=need s+(body.length+9)/\(s'.T.map (·.1)).Nodup:=by
 unfold fy at h;split at h
 ·simp only[Option.some.injEq]at h;subst h;refine⟨?_,hn⟩;unfold need mF;simp only[map_append,sum_append,map_cons,map_nil,sum_cons,sum_nil];omega
 ·split at h
  ·cases h
  ·rename_i p n m ats hr;split at h
   ·cases h
   ·rename_i chs hc;split at h
    ·simp only[Option.some.injEq]at h;subst h;refine⟨?_,hn⟩;have h1:=uy.1 _ _ _ _ hr;have h2:=nC hc;unfold need tD;simp only[map_append,sum_append,map_cons,map_nil,sum_cons,sum_nil];omega
    ·cases h
  ·rename_i p ns hr;split at h
   ·simp only[Option.some.injEq]at h;subst h;refine⟨?_,hn⟩;have:=pn (fun h:HV=>h.p.length+16+4*h.chs.length) (fun h => !(decide (h.p=p)&&ns.contains (h.num:Int))) s.H;unfold need tD jt;simp only;omega
   ·cases h
  ·rename_i q p m n hr;have h1:=uy.2 _ _ _ _ hr;split at h
   ·simp only[Option.some.injEq]at h;subst h;have:=Gd (x:=(m,p,(n:Int))) hn;refine⟨?_,Dt hn⟩;unfold need;simp only[tE]at this ⊢;omega
   ·simp only[Option.some.injEq]at h;subst h;have:=pn (fun t:Tg=>t.1.length+t.2.1.length+15) (fun t => !decide (t.1=m)) s.T;refine⟨?_,?_⟩
    ·unfold need;simp only[tE];unfold dU zT;omega
    ·unfold zT;exact(filter_sublist.map _).nodup hn
theorem Bg:∀{rs:fT} {a:Nat} {s s':PSt},il a s rs=some s'->(s.T.map (·.1)).Nodup->need s'<=need s+(bn rs).length
 | [],a,s,s',h,_=>by simp only[il,Option.some.injEq]at h;subst h;omega
 | r::q,a,s,s',h,hn=>by
  simp only[il]at h
  cases hs:fy a s r.1 r.2 with
  | none=>rw[hs]at h;cases h
  | some t =>
   rw[hs,Option.bind_some]at h
   obtain⟨h1,h2⟩:=Gs hs hn
   have h3:=Bg h h2
   rw[ia,length_append,aJ]
   omega
theorem uq{α β γ:Type}[DecidableEq γ](φ:α->Bs)(f:α->γ)(ψ:β->Bs)(g:β->γ){A:List α}{B:List β}(h:∀l,(A.filter (fun x=>decide (φ x=l))).map f=(B.filter (fun x=>decide (ψ x=l))).map g):(A.map (fun x=>(φ x,f x))).Perm (B.map (fun x=>(ψ x,g x))):=by
 have key:∀{δ:Type} (θ:δ->Bs) (k:δ->γ) (L:List δ) (a:Bs×γ),(L.map (fun x=>(θ x,k x))).count a=((L.filter (fun x=>decide (θ x=a.1))).map k).count a.2:=by
  intro δ θ k L a;induction L with
  | nil=>rfl
  | cons x r ih =>
   rw[map_cons,count_cons,ih,filter_cons];by_cases h1:θ x=a.1
   ·simp only[h1,decide_true,if_true,map_cons,count_cons];congr 1;by_cases h2:k x=a.2
    ·have:(a.1,k x)=a:=by rw[h2]
     simp[h2]
    ·have:¬(a.1,k x)=a:=fun e=>h2 (congrArg Prod.snd e)
     simp[h2,this]
   ·have:¬(θ x,k x)=a:=fun e=>h1 (congrArg Prod.fst e)
    simp[h1,this]
 rw[perm_iff_count];intro a;rw[key,key,h]
theorem Mh:∀{b:Bs},9<=b.length->∃b0 b1 b2 b3 b4 r,b=b0::b1::b2::b3::b4::r
 | b0::b1::b2::b3::b4::r,_=>⟨b0,b1,b2,b3,b4,r,rfl⟩
 | [],h=>by simp at h
 | [_],h=>by simp at h
 | [_,_],h=>by simp at h
 | [_,_,_],h=>by simp at h
 | [_,_,_,_],h=>by simp at h
theorem Dc{b:Bs}{k:UInt8}{body:Bs}{n:Nat}(h:bM b=some (k,body,n)):b.take n=frame k body:=by
 obtain⟨-,-,h0,-,-⟩:=dx h
 obtain⟨b0,b1,b2,b3,b4,r,rfl⟩:=Mh (b:=b) (by
  unfold bM at h;split at h
  ·cases h
  ·omega)
 obtain⟨m,hm⟩:∃m,m=b1.toNat*256+b2.toNat:=⟨_,rfl⟩;have hd:(b0::b1::b2::b3::b4::r).drop (5+m)=r.drop m:=by rw[Nat.add_comm];simp[QD]
 unfold bM at h;simp only[QF,QG,length_cons,<- hm,hd]at h;split at h
 ·cases h
 split at h
 ·cases h
 split at h
 ·cases h
 split at h
 ·cases h
 split at h
 ·cases h
 rename_i h1 h2 h3 h4 h5;simp only[QD,drop_zero,Option.some.injEq,Prod.mk.injEq]at h h5;obtain⟨rfl,hb,rfl⟩:=h;have h3:=Decidable.not_not.1 h3;have h5:=Decidable.not_not.1 h5;have hb1:=UInt8.toNat_lt b1;have hb2:=UInt8.toNat_lt b2;have hb3:=UInt8.toNat_lt b3;have hb4:=UInt8.toNat_lt b4;have hl:(r.take m).length=m:=by rw[length_take];omega
 unfold frame
 have e4:be (cF b0 (r.take m)) 4=(r.drop m).take 4:=by
  rw[<- h5];have:=mB ((r.drop m).take 4);rwa [show((r.drop m).take 4).length=4 by rw[length_take,length_drop];omega]at this
 rw[<- hb,e4,hl];have e1:be m 2=[b1,b2]:=by rw[hm];exact we b1 b2
 have e2:be (65535-m%65536) 2=[b3,b4]:=by
  rw[<- we b3 b4];congr 1;omega
 rw[e1,e2,show m+9=(m+4)+5 by omega];simp only[QE,cons_append,nil_append];rw[take_add]
theorem DA{D:Bs}{a:Nat}{s:PSt}(h:Reach D a s)(hl:a<=D.length):∃rs,oA rs/\bn rs=D.take a/\il 0 ⟨[],[],[]⟩ rs=some s:=by
 induction h with
 | zero=>exact⟨[],(fun r hr=>by cases hr),by simp[bn],rfl⟩
 | @next at_ s s' k body n _ ho hs ih =>
  obtain⟨rs,h1,h2,h3⟩:=ih (by omega);obtain⟨hk,hn,-,-,hb⟩:=dx ho;have hlen:(bn rs).length=at_:=by rw[h2,length_take];omega
  refine⟨rs++[(k,body)],fun r hr=>?_,?_,?_⟩
  ·rcases mem_append.1 hr with hr|hr
   ·exact h1 r hr
   ·obtain rfl:=mem_singleton.1 hr;exact⟨hk,hb⟩
  ·rw[co,h2,take_add,Dc ho];simp[bn]
  ·rw[dM,h3,Option.bind_some,Nat.zero_add,hlen];simp[il,hs]
end
end Go.Proofs.YtdhobpbngkainaaGreatDoor
