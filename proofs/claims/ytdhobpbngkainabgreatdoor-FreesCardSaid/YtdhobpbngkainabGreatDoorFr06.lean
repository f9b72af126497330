/- Ours. A part of the proof, made small by a program. -/
import Derived.Test.YtdhobpbngkainabGreatDoorFr05
set_option maxRecDepth 100000
set_option maxHeartbeats 4000000
namespace Go.Proofs.YtdhobpbngkainabGreatDoor
open List
section
open Go.RowKit Go.Maps
def Kx(X:WS)(o:OpL)(vv cv:Value):RefL:={ X.R with vv:=vv,vs:=dd X.R.vs o.s ⟨o.s,i5 X.R.vs o.s X.R.vs.length,o.d,cv,0⟩ }
def KA(X:WS)(o:OpL)(S':AS)(vv cv mv:Value)(M':List SlB):WS:={ U:={ X.U with most:=mv },S:=S',R:=Kx X o vv cv,P:=X.P++[(cv,o.d)],M:=M',O:=X.O,J:=X.J }
def Lg(w0:World)(X:WS)(o:OpL)(b:Nat)(e:Ending)(W':World):Prop :=
 e=.returned (.bool true)/\(WsOk w0 W' X\/∃S' V vv cv mv M',X.S.X.closed=false/\PutStep X.S S' o.s o.d V/\Cr X.S o.d b S'/\o.d.length<=4000/\M'.map (·.bs)=dU (X.M.map (·.bs)) (au o.d)/\WsOk w0 W' (KA X o S' vv cv mv M'))
def oP(S:AS)(l D:Bs)(n:Int):Prop :=
 (S.X.closed=true/\n=9)\/(S.X.closed=false/\aq l=false/\n=1)\/(S.X.closed=false/\aq l=true/\4000<D.length/\n=2) \/
   (S.X.closed=false/\aq l=true/\D.length<=4000/\S.X.quota<S.X.used+D.length/\n=7)
theorem oP.ref{S:AS}{R:RefL}(L:Link S R){l D:Bs}{n:Int}(h:oP S l D n){w w':World}{e:Ending}(hr:pD R l D w e w'):e=.returned (.tuple #[.int .i64 0,.int .i64 n])/\aQ w w':=by
 have hc:=L.closed;have hu:=L.used;have hq:=L.quota;rcases hr with⟨k,rfl,hs,hk⟩|⟨h1,h2,h3,h4,-⟩
 ·refine⟨?_,hs⟩
  have:k=n:=by
   rw[hc,hq]at hk;rcases h with⟨a1,rfl⟩|⟨a1,a2,rfl⟩|⟨a1,a2,a3,rfl⟩|⟨a1,a2,a3,a4,rfl⟩<;>rcases hk with⟨b1,rfl⟩|⟨b1,b2,rfl⟩|⟨b1,b2,b3,rfl⟩|⟨b1,b2,b3,b4,rfl⟩<;>first|rfl|(exfalso;simp_all;done)|(exfalso;simp_all;omega)|omega
  rw[this]
 ·exfalso;rw[hc]at h1;rw[hq]at h4;rcases h with⟨a1,-⟩|⟨-,a2,-⟩|⟨-,-,a3,-⟩|⟨-,-,-,a4,-⟩
  ·rw[h1]at a1;cases a1
  ·rw[h2]at a2;cases a2
  ·omega
  ·omega
theorem oP.no{S:AS}{R:RefL}(L:Link S R){l D:Bs}(h1:S.X.closed=false)(h2:aq l=true)(h3:D.length<=4000)(h4:S.X.used+D.length<=S.X.quota){w w':World}{e:Ending}(hr:pD R l D w e w'):
  ∃vv' cv,e=.returned (.tuple #[.int .i64 (i5 R.vs l R.vs.length),.int .i64 0])/\bOk cv D/\RefOk { R with vv:=vv',vs:=dd R.vs l ⟨l,i5 R.vs l R.vs.length,D,cv,0⟩ } /\
   Turns (aI R) (aI { R with vv:=vv',vs:=dd R.vs l ⟨l,i5 R.vs l R.vs.length,D,cv,0⟩ }++aA cv D) w w':=by
 rcases hr with⟨k,-,-,hk⟩|⟨-,-,-,-,h⟩
 ·exfalso;rw[L.closed,L.quota]at hk;have hu:=L.used;rcases hk with⟨b1,-⟩|⟨-,b2,-⟩|⟨-,-,b3,-⟩|⟨-,-,-,b4,-⟩
  ·rw[h1]at b1;cases b1
  ·rw[h2]at b2;cases b2
  ·omega
  ·omega
 ·exact h
theorem oP.ne{S:AS}{l D:Bs}{n:Int}(h:oP S l D n):n=9\/n=1\/n=2\/n=7:=by
 rcases h with⟨_,h⟩|⟨_,_,h⟩|⟨_,_,_,h⟩|⟨_,_,_,_,h⟩<;>omega
theorem EM{S:AS}{R:RefL}(L:Link S R){b:Nat}(hB:ArB S b)(hb:b<=90000):∀v∈R.vs,0<=v.num/\v.num<=1099511627776:=fun v hv=>by
 have h1:=(L.each v hv).1
 have h2:v∈aH R.vs v.path:=mem_filter.2 ⟨hv,by simp⟩
 have h3:gn v∈(af S.ps v.path).map (cX S):=by rw[L.vers];exact mem_map.2 ⟨v,h2,rfl⟩
 obtain⟨V,hV,hVv⟩:=mem_map.1 h3
 obtain⟨p,hp,-,hg⟩:=bD (ne_nil_of_mem hV)
 have h4:=((hB.vers p hp).2.2 V (hg ▸ hV)).1
 have h5:(V.num:Int)=v.num:=congrArg (fun t:ku=>t.1) hVv
 omega
theorem Bo{S:AS}{l D:Bs}(hl:l.length<=20){n s:Int}{chs:List (Nat×Nat)}(hc:chs.length=(au D).length):(dY (bC S D)).length+(frame 2 (eF l n s (br chs))).length<=2*D.length+100:=by
 have h1:=ue D;have h2:(au D).length=(aE D).length:=by unfold au;rw[cA]
 have h3:=iY S D
 have h4:(bC S D).length<=(au D).length:=by
  unfold bC
  have:∀(has l acc:List Bs),(bX has acc l).length<=acc.length+l.length:=by
   intro has l;induction l with
   | nil=>intro acc;simp[bX]
   | cons c r ih =>
    intro acc;simp only[bX];split
    ·have:=ih acc;simp only[length_cons];omega
    ·have:=ih (acc++[c]);simp only[length_append,length_cons,length_nil]at this ⊢;omega
  simpa using this (S.K.map (·.1)) (au D) []
 rw[gL,jG,ga,hc];omega
theorem BH{l:Bs}{w w':World}{e:Ending}(h:wl l w e w'):e=.returned (.slice (some ⟨w.heap.size,0,none⟩) l.length (l.length+2))/\Turns [] [(w.heap.size,Is (.cells (aw (l++[71,72])) 5 (0,0)))] w w':=by
 obtain⟨h1,h2,h3⟩:=h;refine⟨h1,h3.mods _,Sat.one h2 Is.rfl,fun b hb=>?_⟩;simp at hb;exact .inr (by omega)
theorem DU{W:World}{B:Nat}{l:Bs}(h:W.heap[B]?=some (.cells (aw (l++[71,72])) 5 (0,0))):ak W (some ⟨B,0,none⟩) (l.map al):=fun hp =>
 ⟨B,0,rfl,fun j hj=>by
  rw[Nat.zero_add]
  rw[length_map]at hj
  refine aa h j ?_
  unfold aw
  simp only[map_append,getElem?_toArray]
  rw[getElem?_append_left (by simpa using hj)]
  simp[hj]⟩
theorem Turns.Qn{F G:HF}{a w w':World}{b:Nat}{φ:Obj->Prop}(h:Turns F ((b,φ)::G) a w)(hm:Mods (fun k=>k=b) w w'):Turns F G a w':=by
 have k:Turns [(b,φ)] [] w w':=⟨hm.mono (fun x hx=>.inl (by simp[hx])),Sat.nil _,fun x hx=>by simp at hx⟩;have:=h.step (F:=[(b,φ)]) (R:=G) (Perm.refl _) k;simpa using this
theorem vX(w0 W:World)(X:WS)(o:OpL)(b:Nat)(h:WsOk w0 W X)(hB:ArB X.S b)(hb:b<=90000)(hl:X.R.vs.length<=100000)(hE:aW w0)(ho:OpOk w0 o)(hk:o.kind=1)(hd6:o.d.length<=60000)(hML:X.M.length<=800000)(hroom:X.S.data.length+2*o.d.length+100<=128*X.S.A.count)(hq : -4611686018427387904<=X.S.X.quota):
  Calls Tryz.prog 7 #[.pointer (some ⟨X.U.blk,0,none⟩),opA o] W (Lg w0 X o b):=by
 obtain⟨dsl,dcap,hdv,hdc,hdc9,hdcell⟩:=ho.dv;have HH:=Hq7 h hB hb hl hE ho hk;have HQ:=Hq5 hML hroom hq hdc hdc9;have HD:=Hq2 hdv hdcell;have hk':=hk;obtain⟨ok,oa,ob_,oc,os,ot,odv,od⟩:=o;simp only at hk' hdv hdc hdcell hd6;subst hk';subst hdv;clear h hB hb hl hE ho hk hML hroom hq hdcell;unfold opA opV;go_enter Tryz.func7,Tryz.ntmps7;go_upto_region 9 with(fail);obtain⟨ob,hob⟩:∃ob,ob=W.heap.size:=⟨_,rfl⟩
 have hT1:Turns [] ((ob,Is (oO ⟨1,oa,ob_,oc,os,ot,.slice dsl od.length dcap,od⟩))::wsF X) w0 (W.alloc (.cells #[.int .i64 1,.int .i64 oa,.int .i64 ob_,.int .i64 oc,str os,str ot,.slice dsl od.length dcap] 41)):=by
  rw[hob];exact HH.a.turns.Q8 _
 rw[<- hob];generalize W.alloc (.cells #[.int .i64 1,.int .i64 oa,.int .i64 ob_,.int .i64 oc,str os,str ot,.slice dsl od.length dcap] 41)=W1 at hT1 ⊢;have o6:W1.cell? ⟨ob,6,none⟩=some (.slice dsl od.length dcap):=aa hT1.sat.Q5 6 rfl;have hDW:∀(W:World) (G:HF),Turns [] G w0 W->ak W dsl (od.map al):=fun W G hG=>HD.z.turns (by exact hG)
 have HDW:=qqH hDW;have HT1:=qqH hT1;clear hT1 hDW hob;go_wp2_with fail;refine(BG dsl dcap od W1 (by omega) (HDW.out _ _ HT1.out)).mono ?_;intro e W2 hr;obtain⟨rfl,hrT⟩:=BH hr;obtain⟨B,hBd⟩:∃B,B=W1.heap.size:=⟨_,rfl⟩;rw[<- hBd]at hrT ⊢
 have hT2:Turns [] (arF X.S++((ob,Is (oO ⟨1,oa,ob_,oc,os,ot,.slice dsl od.length dcap,od⟩))::(B,Is (.cells (aw (od++[71,72])) 5 (0,0)))::(X.U.blk,Is (az X.U))::(aI X.R++aV X))) w0 W2:=by
  have:=HT1.out.Qb hrT;unfold wsF at this;exact this.to ac
 have HT2:=qqH hT2;clear hr hrT hT2 hBd o6;go_upto_region 10 with(fail)
 have hcells:∀(W:World) (G:HF),Turns [] (G++((ob,Is (oO ⟨1,oa,ob_,oc,os,ot,.slice dsl od.length dcap,od⟩))::(B,Is (.cells (aw (od++[71,72])) 5 (0,0)))::(X.U.blk,Is (az X.U))::(aI X.R++aV X))) w0 W ->
   W.cell? ⟨X.U.blk,1,none⟩=some (.pointer (some ⟨X.S.a,0,none⟩))/\W.cell? ⟨ob,4,none⟩=some (str os):=by
  intro W G hT;have hu:W.heap[X.U.blk]?=some (az X.U):=hT.sat.Q7 (by simp);have ho:W.heap[ob]?=some (oO ⟨1,oa,ob_,oc,os,ot,.slice dsl od.length dcap,od⟩):=hT.sat.Q7 (by simp);refine⟨?_,aa ho 4 rfl⟩;have:=aa hu 1 (v:=l7 X.U.a) rfl;rw[HH.a.a]at this;exact this
 have HCE:=qqH hcells;clear hcells;obtain⟨u1,o4⟩:=HCE.out W2 _ HT2.out;have HO:=qqH (Ff X.S os od (some ⟨B,0,none⟩) (od.length+2) b W2.drew (HT2.out.drew.sat.left) HH.a.ar HH.b HH.c (DU (HT2.out.drew.sat.Q7 (by simp))) (by omega) (by omega) (fun x hx hd=>by obtain rfl:=Option.some.inj hx;exact HT2.out.drew.sat.Qh hd (by simp)) (by have:=HH.f.s;simp only at this;omega) HQ.c);refine bh 7 HM.out (by kernel_rfl) rfl ?_;simp only[QE,take_zero];repeat still_step
 refine wpStill_nil ?_;refine aU (by kernel_rfl) HO.out ?_;intro e W3 hp;rcases hp with⟨n,rfl,hG,hn⟩|⟨h1,h2,h3,h4,⟨sp,chs,-,-,-,hfull,hch⟩|⟨S',V,rfl,hps,hok',hpb,hG⟩⟩
 ·refine⟨_,rfl,?_⟩;simp only[Act.put,QA,QB,QC,QD,drop_zero];repeat still_step
  refine wpStill_nil ?_;have hT3:=HT2.out.drew.step (Perm.refl _) hG;have hn':oP X.S os od n:=hn;have HT3:=Hq2 hT3 hn';clear hG hT3 hn hn';have o6:W3.cell? ⟨ob,6,none⟩=some (.slice dsl od.length dcap):=aa (HT3.a.sat.Q7 (b:=ob) (o:=oO ⟨1,oa,ob_,oc,os,ot,.slice dsl od.length dcap,od⟩) (by simp)) 6 rfl;go_wp2_with fail;refine(se B dsl dcap od W3 (by omega) (HT3.a.sat.Q7 (by simp)) (HDW.out _ _ HT3.a)).mono ?_;rintro e W4 ⟨rfl,hs4⟩
  have hT4:Turns [] (arF X.S++((ob,Is (oO ⟨1,oa,ob_,oc,os,ot,.slice dsl od.length dcap,od⟩))::(X.U.blk,Is (az X.U))::(aI X.R++aV X))) w0 W4 :=
   (HT3.a.to (H:=(B,Is (.cells (aw (od++[71,72])) 5 (0,0)))::(arF X.S++((ob,Is (oO ⟨1,oa,ob_,oc,os,ot,.slice dsl od.length dcap,od⟩))::(X.U.blk,Is (az X.U))::(aI X.R++aV X)))) ac).Qn hs4
  have hc4:∀(W:World) (F:HF),Turns [] (F++((ob,Is (oO ⟨1,oa,ob_,oc,os,ot,.slice dsl od.length dcap,od⟩))::(X.U.blk,Is (az X.U))::aV X)) w0 W->W.cell? ⟨X.U.blk,2,none⟩=some (.pointer (some ⟨X.R.blk,0,none⟩))/\W.cell? ⟨ob,4,none⟩=some (str os)/\W.cell? ⟨ob,6,none⟩=some (.slice dsl od.length dcap):=by
   intro W F hT;have hu:W.heap[X.U.blk]?=some (az X.U):=hT.sat.Q7 (by simp);have ho:W.heap[ob]?=some (oO ⟨1,oa,ob_,oc,os,ot,.slice dsl od.length dcap,od⟩):=hT.sat.Q7 (by simp);refine⟨?_,aa ho 4 rfl,aa ho 6 rfl⟩;have:=aa hu 2 (v:=.pointer (some ⟨X.U.r,0,none⟩)) rfl;rw[HH.a.r]at this;exact this
  have HT4:=Hq2 hT4 hc4;clear hs4 hT4 hc4 o6;go_upto_region 12 with(fail);obtain⟨u2,o4',o6'⟩:=HT4.z W4 (arF X.S++aI X.R) (HT4.a.to ac);have HR:=qqH (uw X.R X.P os od dsl dcap W4.drew (HH.a.refAt' HH.d (HT4.a.drew.sat.right.tail.tail)) (EM HH.a.link HH.b HH.c) (HDW.out _ _ HT4.a.drew) (by omega));refine bh 8 HM.out (by kernel_rfl) rfl ?_;simp only[QE,take_zero];repeat still_step
  refine wpStill_nil ?_;refine aU (by kernel_rfl) HR.out ?_;intro e W5 hp;obtain⟨rfl,hs5⟩:=HT3.z.ref HH.a.link hp;refine⟨_,rfl,?_⟩;simp only[Act.put,QA,QB,QC,QD,drop_zero];repeat still_step
  refine wpStill_nil ?_;have hT5:=HT4.a.drew.Q9 hs5;have hE5:aW W5:=HH.e.keep hT5.mods (fun h=>by simp at h);have HT5:=Hq2 hT5 hE5;have hnn:=HT3.z.ne;have hn0:(n==0)=false:=by simp;omega
  clear hp hs5 hT5 hE5 hnn;go_wp2_with fail;refine(cz (ck n) n W5 HT5.z (.inr (.inl rfl))).mono ?_;rintro e W6 ⟨rfl,hs6⟩;have HT6:=qqH (HT5.a.Q9 hs6);clear hs6;go_wp2_with (go_at_call 18;refine(fK _ _).mono ?_;rintro e w' ⟨rfl,rfl⟩);go_ret;refine ⟨rfl,.inl (HH.a.back ?_)⟩;exact HT6.out.drop (fun x=>by unfold wsF;simp only[ao,ai]<;>omega)
 ·exfalso;have:=Bo (S:=X.S) (D:=od) (bA h2) (n:=(eM (af X.S.ps os):Int)+1) (s:=od.length) hch;have hr:=HQ.b;omega
 ·refine⟨_,rfl,?_⟩;simp only[Act.put,QA,QB,QC,QD,drop_zero];repeat still_step
  refine wpStill_nil ?_;have hT3:=HT2.out.drew.step (Perm.refl _) hG;have HT3:=Hq8 hT3 hps hok' hpb h1 h2 h3 h4;clear hG hT3 hps hok' hpb h1 h2 h3 h4;have o6:W3.cell? ⟨ob,6,none⟩=some (.slice dsl od.length dcap):=aa (HT3.a.sat.Q7 (b:=ob) (o:=oO ⟨1,oa,ob_,oc,os,ot,.slice dsl od.length dcap,od⟩) (by simp)) 6 rfl;go_wp2_with fail;refine(se B dsl dcap od W3 (by omega) (HT3.a.sat.Q7 (by simp)) (HDW.out _ _ HT3.a)).mono ?_;rintro e W4 ⟨rfl,hs4⟩
  have hT4:Turns [] (arF S'++((ob,Is (oO ⟨1,oa,ob_,oc,os,ot,.slice dsl od.length dcap,od⟩))::(X.U.blk,Is (az X.U))::(aI X.R++aV X))) w0 W4 :=
   (HT3.a.to (H:=(B,Is (.cells (aw (od++[71,72])) 5 (0,0)))::(arF S'++((ob,Is (oO ⟨1,oa,ob_,oc,os,ot,.slice dsl od.length dcap,od⟩))::(X.U.blk,Is (az X.U))::(aI X.R++aV X)))) ac).Qn hs4
  have hc4:∀(W:World) (F:HF),Turns [] (F++((ob,Is (oO ⟨1,oa,ob_,oc,os,ot,.slice dsl od.length dcap,od⟩))::(X.U.blk,Is (az X.U))::aV X)) w0 W->W.cell? ⟨X.U.blk,2,none⟩=some (.pointer (some ⟨X.R.blk,0,none⟩))/\W.cell? ⟨ob,4,none⟩=some (str os)/\W.cell? ⟨ob,6,none⟩=some (.slice dsl od.length dcap):=by
   intro W F hT;have hu:W.heap[X.U.blk]?=some (az X.U):=hT.sat.Q7 (by simp);have ho:W.heap[ob]?=some (oO ⟨1,oa,ob_,oc,os,ot,.slice dsl od.length dcap,od⟩):=hT.sat.Q7 (by simp);refine⟨?_,aa ho 4 rfl,aa ho 6 rfl⟩;have:=aa hu 2 (v:=.pointer (some ⟨X.U.r,0,none⟩)) rfl;rw[HH.a.r]at this;exact this
  have HT4:=Hq2 hT4 hc4;clear hs4 hT4 hc4 o6;go_upto_region 12 with(fail);obtain⟨u2,o4',o6'⟩:=HT4.z W4 (arF S'++aI X.R) (HT4.a.to ac);have HR:=qqH (uw X.R X.P os od dsl dcap W4.drew (HH.a.refAt' HH.d (HT4.a.drew.sat.right.tail.tail)) (EM HH.a.link HH.b HH.c) (HDW.out _ _ HT4.a.drew) (by omega));refine bh 8 HM.out (by kernel_rfl) rfl ?_;simp only[QE,take_zero];repeat still_step
  refine wpStill_nil ?_;refine aU (by kernel_rfl) HR.out ?_;intro e W5 hp;obtain⟨vv,cv,he,hco,hro,hG⟩:=oP.no HH.a.link HT3.e HT3.f HT3.g HT3.t hp;rw[HH.a.link.nr]at he;subst he;refine⟨_,rfl,?_⟩;simp only[Act.put,QA,QB,QC,QD,drop_zero];repeat still_step
  refine wpStill_nil ?_
  have hT5:Turns [] ((X.U.blk,Is (az X.U))::(ob,Is (oO ⟨1,oa,ob_,oc,os,ot,.slice dsl od.length dcap,od⟩))::(cN X.U.most X.M++(arF S'++(aI (Kx X ⟨1,oa,ob_,oc,os,ot,.slice dsl od.length dcap,od⟩ vv cv)++(aA cv od++(bi X.P++(aA X.U.out X.O++X.J))))))) w0 W5:=by
   have:=(HT4.a.drew.to (H:=aI X.R++(arF S'++((ob,Is (oO ⟨1,oa,ob_,oc,os,ot,.slice dsl od.length dcap,od⟩))::(X.U.blk,Is (az X.U))::aV X))) ac).step (Perm.refl _) hG;unfold aV at this;exact this.to (by unfold Kx;exact ac)
  have hE5:aW W5:=HH.e.keep hT5.mods (fun h=>by simp at h);have HT5:=Hq4 hT5 hE5 hco hro;clear hp hG hT5 hE5 hco hro;go_wp2_with fail;refine(cz .nilIface 0 W5 HT5.b (.inl ⟨rfl,rfl⟩)).mono ?_;rintro e W6 ⟨rfl,hs6⟩;have HT6:=qqH (HT5.a.Q9 hs6);clear hs6;go_upto_region 15 with(fail);obtain⟨o,ho⟩:∃o:OpL,o=⟨1,oa,ob_,oc,os,ot,.slice dsl od.length dcap,od⟩:=⟨_,rfl⟩;obtain⟨Zr,hZr⟩:∃Zr:HF,Zr=arF S'++(aI (Kx X o vv cv)++(aA cv od++(bi X.P++(aA X.U.out X.O++X.J)))):=⟨_,rfl⟩;rw[<- ho,<- hZr]at HT6;have HZr:=Hq2 ho hZr;clear ho hZr;refine db [([0,1,2,3,4,5,6],7,[0]),([8,9],10,[])] [] HM.out (by kernel_rfl) fun W tW=>?_
  simp only[Mix,map_cons,map_nil,nth,QG,QF];have hTx:=tW HT6.out;clear tW;have g0:W.cell? ⟨X.U.blk,5,none⟩=some X.U.most:=aa hTx.sat.Q5 5 rfl
  have g1:W.cell? ⟨ob,6,none⟩=some (.slice dsl od.length dcap):=by
   have:=aa hTx.sat.tail.Q5 6 (v:=o.dv) rfl;rw[HZr.a]at this;exact this
  repeat still_step
  have hx:=hTx.to (H:=cN X.U.most X.M++((X.U.blk,Is (az X.U))::(ob,Is (oO o))::Zr)) ac;have hpool:∀x,cnt x (bi X.P)<=cnt x Zr:=fun x=>by rw[HZr.z];simp only[ai];omega
  refine wpStill_nil (aU (by kernel_rfl) (uu dsl dcap od X.U.most X.M W hx.sat.left HH.a.most (fun W' G hG x hxm=>?q1) (fun W' G hG=>?q2) HQ.d HQ.w (by omega) (by have:=HQ.a;omega)) ?_)
  case q1 =>
   have hy:=hx.step (Perm.refl _) hG;exact(HH.a.ms x hxm).at hy (hy.sat.sub (G:=bi X.P) (fun x=>by have:=hpool x;simp only[ao,ai];omega)) HH.a.pok
  case q2=>exact HDW.out _ _ (hx.step (Perm.refl _) hG)
  rintro e W5' ⟨y84,M',rfl,g1',g2,g3,g4⟩;have k1:=hx.step (Perm.refl _) g4;refine⟨_,rfl,by(repeat still_step);exact rfl,?_⟩;simp only[Act.put,QA,QB,QC];repeat still_step
  have k2:=dl k1.sat.left g1';refine wpStill_nil (bb 36 (.tmp 86) (.tmp 84) rfl X.U.blk 5 (bf X.U) 38 y84 (k1.to (H:=(X.U.blk,Is (az X.U))::((ob,Is (oO o))::(cN y84 M'++Zr))) ac) rfl rfl (by simp[bf]) (by kernel_rfl) k2.1 k2.2.1 fun W7 k3=>⟨rfl,?_⟩);simp only[Act.put];refine wpStill_nil ?_;have hT7:Turns [] ((X.U.blk,Is (az { X.U with most:=y84 }))::(ob,Is (oO o))::(cN y84 M'++Zr)) w0 W7:=k3;rw[HZr.z,HZr.a]at hT7;have HT7:=Hq4 hT7 g1' g2 g3;clear HT6 HZr hTx g0 g1 hx hpool g1' g2 g3 g4 k1 k2 k3 hT7;go_wp2_with (go_at_call 18;refine(fK _ _).mono ?_;rintro e w' ⟨rfl,rfl⟩);go_ret;refine ⟨rfl,.inr ⟨S',V,vv,cv,y84,M',HT3.e,HT3.b,HT3.d,HT3.g,HT7.c,?_⟩⟩;have hmem:∀p∈X.P,p∈X.P++[(cv,od)]:=fun p hp=>mem_append_left _ hp
  refine⟨HT7.a.drop (fun x=>?_),?_,HH.a.r,?_,HT3.c,HT5.x,?_,?_,HH.a.out,HH.a.want.grow hmem,HT7.b,?_,HH.a.link.put HH.a.ar HT3.c HT3.b HT3.f HT3.g,HH.a.olen⟩
  ·unfold wsF aV KA bi;simp only[flatMap_append,flatMap_cons,flatMap_nil,append_nil,ao,ai]<;>omega
  ·show X.U.a=some S'.a;rw[HT3.b.a];exact HH.a.a
  ·show X.U.d=S'.X.d;rw[HT3.b.d];exact HH.a.d
  ·intro p hp;rcases mem_append.1 hp with hp|hp
   ·exact HH.a.pok p hp
   ·obtain rfl:=mem_singleton.1 hp;exact HT5.c
  ·intro v hv;rcases nQ.1 hv with hv|rfl
   ·exact hmem _ (HH.a.inp v hv)
   ·exact mem_append_right _ (mem_singleton.2 rfl)
  ·intro x hx;rcases HT7.x x hx with hx|hx
   ·exact(HH.a.ms x hx).grow hmem
   ·exact .inl (hx.at HD.z HQ.d HQ.w)
def iA(X:Bs)(a e:Nat):Bs:=(X.take e).drop a
theorem Dz(X bo:Bs)(a e:Nat):iA (X++bo) a e=iA X a e++(bo.take (min (e-X.length) bo.length)).drop (a-X.length):=by
 unfold iA;rw[take_append,drop_append,length_take];congr 1;rw[<- take_take,take_length];by_cases h:e<=X.length
 ·rw[Nat.sub_eq_zero_of_le h];simp
 ·rw[Nat.min_eq_right (by omega)]
def JK(S:AS)(l:Bs)(n a c:Int)(w:World)(e:Ending)(w':World):Prop :=
 (∃k,jb S l n k/\e=.returned (.tuple #[.slice none 0 0,ck k])/\Turns (arF S) (arF S) w w') \/
 (∃V,iP S l n V/\(a<0\/c<0\/(V.size:Int)<a)/\e=.returned (.tuple #[.slice none 0 0,ck 4])/\Turns (arF S) (arF S) w w') \/
 (∃V v sp,iP S l n V/\¬(a<0\/c<0\/(V.size:Int)<a)/\e=.returned (.tuple #[v,.nilIface])/\bOk v (((cE S V).drop a.toNat).take c.toNat)/\AreaOk { S.A with spare:=sp }/\Turns (arF S) (aA v (((cE S V).drop a.toNat).take c.toNat)++arF { S with A:={ S.A with spare:=sp } }) w w')
def Lh(S:AS)(V:VerL)(a m:Nat)(w:World)(out fr i:Value)(W:World):Prop :=
 ∃(j:Nat) (sp:List (Nat×Nat×Nat)) (J:HF),j<=V.chs.length/\i=.int .i64 j/\fr=.int .i64 (((V.chs.take j).flatMap (bq S.K)).length:Nat)/\bOk out (iA ((V.chs.take j).flatMap (bq S.K)) a (a+m))/\AreaOk { S.A with spare:=sp } /\
  Turns (arF S) (aA out (iA ((V.chs.take j).flatMap (bq S.K)) a (a+m))++(arF { S with A:={ S.A with spare:=sp } }++J)) w W
theorem I0{X:Bs}{a c m size:Nat}(hX:X.length=size)(ha:a<=size)(hm:min (c:Int) ((size:Int)-a)=m):iA X a (a+m)=(X.drop a).take c:=by
 unfold iA;rw[drop_take];have:a+m-a=min c (size-a):=by omega
 rw[this,<- take_take,take_of_length_le (i:=size-a) (by rw[length_drop];omega)]
theorem xY(S:AS)(l:Bs)(n a c:Int)(b:Nat)(w:World)(h:Sat w (arF S))(hok:ArOk S)(hB:ArB S b)(hb:b<=90000)(_:l.length<=9223372036854775807)(hc2:c<=9223372036854775807):
  Calls Tryz.prog 38 #[.pointer (some ⟨S.a,0,none⟩),str l,.int .i64 n,.int .i64 a,.int .i64 c] w (JK S l n a c w):=by
 have HF:=qqH (iV S.a S.X S.ps S.pc l n w h.Q5 (h.tail.right.right.left) hok.paths);have HH:=Hq4 h hok hB hb;clear h hok hB hb;go_enter Tryz.func38,Tryz.ntmps38;go_wp2_with fail;refine HF.out.mono ?_;intro e w1 hp;obtain⟨hs,⟨k,hk,rfl⟩|⟨V,hV,rfl⟩⟩:=iW hp
 ·have HK:=Hq2 hk hs;clear hp hs hk;unfold ck;go_wp2_with fail;exact bodyPost_ret (results_tmp2 rfl _ _ _) rfl (.inl ⟨k,HK.a,rfl,(Turns.same HH.a HK.z)⟩)
 ·obtain⟨p,hpm,hpk,hVp⟩:=qy hV.2.2;have hT1:Turns (arF S) (arF S) w w1:=Turns.same HH.a hs;have hps:Sat w1 (d9 p.val p.g):=Sat.flat (f:=fun p:ba=>d9 p.val p.g) (hT1.sat.tail.right.right.left).tail hpm;have hvf:Sat w1 (bL V):=Sat.flat (f:=bL) hps.right hVp;have hpo:bP V.cv V.chs:=(HH.b.paths.rows p hpm).2 V hVp;obtain⟨sl,cap,hcv,e2,e3,hcell⟩:=fd hvf.tail hpo;have v1:w1.cell? ⟨V.blk,1,none⟩=some (.int .i64 V.size):=aa hvf.Q5 1 rfl;have v2:w1.cell? ⟨V.blk,2,none⟩=some (.slice sl V.chs.length cap):=by rw[<- hcv];exact aa hvf.Q5 2 rfl
  have hvl:=ae hvf.Q5
  have hcl:V.chs.length<=90000/\V.size<=65536*90000:=by
   have h1:=(HH.c.vers p hpm).2.2 V hVp;have:=HH.x;omega
  have hclen:=jR HH.b hpm hVp;have HV:=Hq8 hV hpm hVp hT1 hcell hpo hcv hclen;clear hp hs hV hpm hpk hVp hT1 hps hvf hpo hcv hcell hclen;unfold dH;by_cases h1:a<0
  ·go_wp2_with fail;exact bodyPost_ret (results_tmp2 rfl _ _ _) rfl (.inr (.inl ⟨V,HV.a,.inl h1,rfl,HV.d⟩))
  ·by_cases h2:c<0
   ·go_wp2_with fail;exact bodyPost_ret (results_tmp2 rfl _ _ _) rfl (.inr (.inl ⟨V,HV.a,.inr (.inl h2),rfl,HV.d⟩))
   ·by_cases h3:(V.size:Int)<a
    ·go_wp2_with fail;exact bodyPost_ret (results_tmp2 rfl _ _ _) rfl (.inr (.inl ⟨V,HV.a,.inr (.inr h3),rfl,HV.d⟩))
    ·obtain⟨a,rfl⟩:∃a':Nat,a=a':=⟨a.toNat,by omega⟩;obtain⟨c,rfl⟩:∃c':Nat,c=c':=⟨c.toNat,by omega⟩;obtain⟨m,hm⟩:∃m:Nat,min (c:Int) ((V.size:Int)-a)=m:=⟨(min (c:Int) ((V.size:Int)-a)).toNat,by omega⟩;have hHm:=Hq2 hm h3;have hms:a+m<=V.size:=by omega
     go_wp2_with fail;clear hm;have d1:decide ((a:Int)<0)=false:=decide_eq_false (by omega);have d2:decide ((c:Int)<0)=false:=decide_eq_false (by omega);have d3:decide (V.size<a)=false:=decide_eq_false (by omega);simp only[d1,d2,d3,Bool.or_false];clear d1 d2 d3;go_loopw [14,15,60] (fun out fr i wr=>Lh S V a m w out fr i wr) (fun _ _ i _=>V.chs.length-(intOf i).toNat)
     case atStart=>exact⟨0,S.A.spare,[],Nat.zero_le _,rfl,rfl,by simpa[iA]using fi,HH.b.area,by rw[append_nil];simp only[take_zero,flatMap_nil,iA,take_nil,List.drop_nil];exact HV.d⟩
     case round =>
      obtain⟨j,sp,J,hj,rfl,rfl,hbo,hAo,hT⟩:=hrel;obtain⟨X,hX⟩:∃X,X=(V.chs.take j).flatMap (bq S.K):=⟨_,rfl⟩;rw[<- hX]at hbo hT ⊢
      have hXl:X.length<=V.size:=by
       have h1:X.length<=(cE S V).length:=by
        unfold cE;conv=>rhs;rw[<- take_append_drop j V.chs,flatMap_append,length_append,<- hX]
        omega
       rw[HV.t]at h1;exact h1
      have HR:=Hq4 hbo hAo hT hX;clear hbo hAo hT hX;by_cases hlt:j<V.chs.length
      ·obtain⟨hver,hcells⟩:=xL HH.b HV.b HV.c HV.g (W:=wr) (HR.c.sat.sub (fun x=>by simp only[arF,ao,ai]<;>omega));obtain⟨g,off,hg,hcell⟩:=hcells (by rw[eS];omega);subst hg;obtain⟨hc1,hc2⟩:=mY hcell hlt;obtain⟨q,hq⟩:∃q,q=V.chs[j]:=⟨_,rfl⟩;rw[<- hq]at hc1 hc2;have hbK:=Io HH.b HV.b HV.c (q:=q) (by rw[hq];exact getElem_mem hlt);obtain⟨bo,hbo⟩:∃bo,bo=bq S.K q:=⟨_,rfl⟩;rw[<- hbo]at hbK;have hq2:q.2=bo.length:=(HH.b.kat _ hbK).1;have hbody:=(HH.b.kat _ hbK).2.Qd HH.b.dat
       have htk:(V.chs.take (j+1)).flatMap (bq S.K)=X++bo:=by
        rw[QH hlt,flatMap_append,hbo,hq,HR.x];simp
       have hXb:X.length+q.2<=V.size:=by
        have h1:((V.chs.take (j+1)).flatMap (bq S.K)).length<=(cE S V).length:=by
         unfold cE;conv=>rhs;rw[<- take_append_drop (j+1) V.chs,flatMap_append,length_append]
         omega
        rw[HV.t,htk,length_append]at h1;omega
       have hpa:=Dz X bo a (a+m);obtain⟨B8,hB8⟩:∃B8,B8=wr.heap.size:=⟨_,rfl⟩;obtain⟨bs,hbs⟩:∃bs,bs=iA X a (a+m):=⟨_,rfl⟩;rw[<- hbs]at hpa HR;have hbsl:bs.length<=V.size:=by rw[hbs];unfold iA;rw[length_drop,length_take];omega
       have hT8:Turns (arF S) (ap S.X.ab S.X.d { S.A with spare:=sp }++((B8,Is (aB q))::(aA u14 bs++((S.a,Is (aJ S.X))::(aD S.X.d S.L++(aF S.X.pm S.ps S.pc++(bU S.X.tm S.ts S.tc++(aP S.X.cm S.cs S.cc++J)))))))) w (wr.alloc (aB q)):=by
        rw[hB8];exact(HR.c.Q8 (aB q)).to (by unfold arF;exact ac)
       have HLd:=qqH (fun(W:World) hT=>lX S.a S.X S.X.ab S.X.d rfl { S.A with spare:=sp } S.L q.1 bo ((B8,Is (aB q))::(aA u14 bs++((S.a,Is (aJ S.X))::(aD S.X.d S.L++(aF S.X.pm S.ps S.pc++(bU S.X.tm S.ts S.tc++(aP S.X.cm S.cs S.cc++J))))))) W hT (fun x=>by simp only[ao,ai];omega) HH.b.dev HR.b HH.b.fits HH.b.nmax hbody);rw[<- hq2]at HLd;obtain⟨fr,hfr⟩:∃fr,fr=X.length:=⟨_,rfl⟩;rw[<- hfr]at hXl hXb hpa ⊢;have HQ:=Hq8 hbK hq2 htk hpa hT8 hB8 hbsl hfr;clear hver hcells hcell hq hbK hbo hq2 hbody htk hpa hT8 hB8 hbs hbsl hfr;obtain⟨lo,m1⟩:∃lo:Nat,max ((a:Int)-fr) 0=lo:=⟨(max ((a:Int)-fr) 0).toNat,by omega⟩;obtain⟨hi,m2⟩:∃hi:Int,min ((a:Int)+m-fr) q.2=hi:=⟨_,rfl⟩;have s1:IntKind.i64.wrap ((a:Int)-fr)=(a:Int)-fr:=IntWalk.i64_in _ (by omega);have s2:IntKind.i64.wrap ((a:Int)+m)=(a:Int)+m:=IntWalk.i64_in _ (by omega);have s3:IntKind.i64.wrap ((a:Int)+m-fr)=(a:Int)+m-fr:=IntWalk.i64_in _ (by omega);have s4:IntKind.i64.wrap ((fr:Int)+q.2)=((fr+q.2:Nat):Int):=by rw[IntWalk.i64_in _ (by omega)];omega
       have HM:=Hq2 m1 m2;go_wp2_with fail;go_quiet (fail);by_cases hlh:(lo:Int)<hi
       ·obtain⟨hi,rfl⟩:∃h':Nat,hi=h':=⟨hi.toNat,by omega⟩;have hh:hi<=q.2:=by omega
        clear m1 m2 s1 s2 s3;go_wp2_with fail;refine(HLd.out _ ((HQ.e.drewN nq).sat)).mono ?_;rintro e w4 ⟨av,cv,sp2,rfl,hok4,hAo4,hT4⟩;have hT5:=(HQ.e.drewN nq).trans hT4;obtain⟨av',cv',hev,-,hcv4,hav,-⟩:=aL (cZ hT4.sat.left hok4);simp only[Value.slice.injEq,true_and]at hev;obtain⟨rfl,rfl⟩:=hev;rw[<- HQ.f];have hT6:Turns (arF S) (aA u14 bs++(arF { S with A:={ S.A with spare:=sp2 } }++((B8,Is (aB q))::(aA (.slice av bo.length cv) bo++J)))) w w4:=hT5.to (by unfold arF;exact ac);have hb8:=hT6.sat.Q7 (b:=B8) (o:=aB q) (by simp);have p1:w4.cell? ⟨B8,1,none⟩=some (.int .i64 q.2):=aa hb8 1 rfl;have hb8l:=ae hb8;rw[<- HQ.b]at hcv4 ⊢;obtain⟨g4,off4,hg4,hcl4⟩:=hav (by rw[length_map,<- HQ.b];omega);subst hg4
        have hcr:ak w4 (some ⟨g4,off4+lo,none⟩) (((bo.take hi).drop lo).map al):=fun _=>⟨g4,off4+lo,rfl,fun j hj=>by
         have hj':j<hi-lo:=by simp at hj;omega
         have h9:=hcl4 (lo+j) (by rw[length_map,<- HQ.b];omega);rw[Nat.add_assoc,h9];simp⟩
        have hrl:hi-lo=((bo.take hi).drop lo).length:=by rw[length_drop,length_take,<- HQ.b];omega
        have m5:¬cv=lo:=by omega
        have m6:¬lo=cv:=by omega
        have H4:=Hq4 hAo4 hT6 hcr hrl;clear hok4 hAo4 hT4 hT5 hav hT6 hcr hrl hcl4 hb8;go_wp2_with ((at_builtin;go_loud (refine ah rfl ?_;refine fu (.tmp 88) (.tmp 92) rfl u14 bs rfl H4.b HR.a _ (hi-lo) _ rfl ((bo.take hi).drop lo) H4.x H4.c (by have:=H4.x;have:=HQ.g;omega) ?_;intro av2 cv2 w6 hok6 hT6 _;have hb86:=hT6.sat.Q7 (b:=B8) (o:=aB q) (by simp);have p6:w6.cell? ⟨B8,1,none⟩=some (.int .i64 q.2):=aa hb86 1 rfl;have hb8l6:=ae hb86;have H6:=Hq2 hok6 hT6;clear hok6 hT6 hb86)));go_roundw
        case rel =>
         have e9:iA (X++bo) a (a+m)=bs++(bo.take hi).drop lo:=by
          rw[HQ.d];have:=HM.a;have:=HM.z;have:=HQ.b;rw[show min (a+m-fr) bo.length=hi by omega,show a-fr=lo by omega]
         refine⟨j+1,sp2,(B8,Is (aB q))::(aA (.slice (some ⟨g4,off4,none⟩) bo.length cv) bo++J),by omega,by go_num,?_,?_,H4.a,?_⟩
         ·rw[HQ.c,length_append,<- HQ.b,<- HQ.t,Int.natCast_add]
         ·rw[HQ.c,e9];have:=H6.a;simp only[length_append,length_drop,length_take]at this;exact this
         ·rw[HQ.c,e9];have:=H6.z;simp only[length_append,length_drop,length_take]at this;exact this
        case measure=>simp[intOf];omega
       ·clear m1 m2 s1 s2 s3;have hb8:=(HQ.e.drewN nq).sat.Q7 (b:=B8) (o:=aB q) (by simp);rw[HQ.f]at hb8;have p1:=aa (v:=.int .i64 q.2) hb8 1 rfl;clear hb8;go_wp2_with fail;go_roundw
        case rel =>
         have e9:iA (X++bo) a (a+m)=bs:=by
          rw[HQ.d];have:=HM.a;have:=HM.z;have:=HQ.b;rw[drop_eq_nil_of_le (by rw[length_take];omega),append_nil]
         refine⟨j+1,sp,(B8,Is (aB q))::J,by omega,by go_num,?_,?_,HR.b,?_⟩
         ·rw[HQ.c,length_append,<- HQ.b,<- HQ.t,Int.natCast_add]
         ·rw[HQ.c,e9];exact HR.a
         ·rw[HQ.c,e9];exact(HQ.e.drewN nq).to (by unfold arF;exact ac)
        case measure=>simp[intOf];omega
      ·obtain rfl:j=V.chs.length:=by omega
       have hXc:X=cE S V:=by rw[HR.x,take_length];rfl
       have hpe:iA X a (a+m)=((cE S V).drop a).take c:=by
        rw[hXc];exact I0 HV.t (by omega) hHm.a
       rw[hpe]at HR;have HE:=Hq2 hXc hpe;clear hXc hpe;go_wp2_with fail;go_ret2;refine (.inr (.inr ⟨V,u14,sp,HV.a,?_,rfl,HR.a,HR.b,HR.c.drop (fun x=>by simp only[Int.toNat_natCast,ai];omega)⟩));have:=hHm.z;omega
def xT(ev:Value)(n:Int):Prop:=(ev=.nilIface/\n=0)\/ev=ck n
theorem xT.is{ev:Value}{n:Int}(h:xT ev n)(w:World):KW w ev n:=h.imp id .inl
def Scr(F G:HF)(a:World)(va:Option Addr)(n:Nat)(J:HF):Prop:=∀(W:World) (k:Nat),Turns F (J++G) a W->k<n->∃g x,va=some ⟨g,0,none⟩/\W.cell? ⟨g,k,none⟩=some (.int .u8 x)/\W.frozen? ⟨g,k,none⟩=false/\g<W.heap.size/\∀y,Turns F (J++G) a (W.setCell ⟨g,k,none⟩ (.int .u8 y))
theorem JS{F G:HF}{a w:World}{va:Option Addr}{vc:Nat}{D:Bs}(h:Turns F (aA (.slice va D.length vc) D++G) a w)(hok:bOk (.slice va D.length vc) D):∃J,Turns F (J++G) a w/\Scr F G a va D.length J:=by
 by_cases hD:D=[]
 ·exact⟨_,h,fun W k _ hk=>by rw[hD]at hk;cases hk⟩
 ·obtain⟨g,cap,hg,hT⟩:=JR h hok hD;simp only[Value.slice.injEq,true_and]at hg;obtain⟨rfl,rfl⟩:=hg;refine⟨[(g,GU D.length)],hT,fun W k hW hk=>?_⟩;obtain⟨x,h1,h2,h3⟩:=Ib hW hk;exact⟨g,x,rfl,h1,h2,h3,JT hW k⟩
def BAg(X:WS)(RR:World->Ending->World->Prop)(W':World)(e:Ending)(w'':World):Prop :=
 ∃D v sp ev k,e=.returned (.tuple #[v,ev])/\xT ev k/\(k=0\/v=.slice none 0 0)/\D.length<=4000/\bOk v D/\AreaOk { X.S.A with spare:=sp }/\Turns (arF X.S) (aA v D++arF (ed X.S sp)) W' w'' /\
  ∀u e u',RR u e u'->aQ u u'/\∃cv,e=.returned (.tuple #[cv,.int .i64 k])/\j6 X.P cv D
theorem m0(w0 W:World)(X:WS)(o:OpL)(h:WsOk w0 W X)(hl:X.R.vs.length<=100000)(hE:aW w0)(hk:o.kind=2\/o.kind=3)(RR:World->Ending->World->Prop)(hours:(o.kind=2->∀W',Sat W' (arF X.S)->Calls Tryz.prog 36 #[.pointer (some ⟨X.S.a,0,none⟩),str o.s,.int .i64 o.a] W' (BAg X RR W'))/\(o.kind=3->∀W',Sat W' (arF X.S)->Calls Tryz.prog 38 #[.pointer (some ⟨X.S.a,0,none⟩),str o.s,.int .i64 o.a,.int .i64 o.b,.int .i64 o.c] W' (BAg X RR W')))(href:(o.kind=2->∀W',RefAt X.R X.P W'->Calls Tryz.prog 37 #[.pointer (some ⟨X.R.blk,0,none⟩),str o.s,.int .i64 o.a] W' (RR W'))/\(o.kind=3->∀W',RefAt X.R X.P W'->Calls Tryz.prog 39 #[.pointer (some ⟨X.R.blk,0,none⟩),str o.s,.int .i64 o.a,.int .i64 o.b,.int .i64 o.c] W' (RR W'))):
  Calls Tryz.prog 11 #[.pointer (some ⟨X.U.blk,0,none⟩),opA o] W (jY w0 X):=by
 obtain⟨ok,oa,ob_,oc,os,ot,odv,od⟩:=o;dsimp only at hk hours href;obtain⟨ob,hob⟩:∃ob,ob=W.heap.size:=⟨_,rfl⟩;obtain⟨W1,hW1⟩:∃W1,W1=W.alloc (.cells #[.int .i64 ok,.int .i64 oa,.int .i64 ob_,.int .i64 oc,str os,str ot,odv] 41):=⟨_,rfl⟩;obtain⟨Oc,hOc⟩:∃Oc:Nat×(Obj->Prop),Oc=(ob,Is (oO ⟨ok,oa,ob_,oc,os,ot,odv,od⟩)):=⟨_,rfl⟩;obtain⟨J,hJ⟩:∃J:HF,J=Oc::(X.U.blk,Is (az X.U))::(aI X.R++aV X):=⟨_,rfl⟩
 have hT1:Turns [] (arF X.S++J) w0 W1:=by
  rw[hW1,hJ,hOc,hob];have:=h.turns.Q8 (.cells #[.int .i64 ok,.int .i64 oa,.int .i64 ob_,.int .i64 oc,str os,str ot,odv] 41);unfold wsF at this;exact this.to (H:=arF X.S++((W.heap.size,Is (.cells #[.int .i64 ok,.int .i64 oa,.int .i64 ob_,.int .i64 oc,str os,str ot,odv] 41))::(X.U.blk,Is (az X.U))::(aI X.R++aV X))) ac
 have hcells:∀(W:World) (G:HF),Turns [] (G++J) w0 W ->
   W.cell? ⟨X.U.blk,1,none⟩=some (.pointer (some ⟨X.S.a,0,none⟩))/\W.cell? ⟨X.U.blk,2,none⟩=some (.pointer (some ⟨X.R.blk,0,none⟩))/\W.cell? ⟨ob,4,none⟩=some (str os)/\W.cell? ⟨ob,1,none⟩=some (.int .i64 oa)/\W.cell? ⟨ob,2,none⟩=some (.int .i64 ob_)/\W.cell? ⟨ob,3,none⟩=some (.int .i64 oc)/\RefAt X.R X.P W/\aW W:=by
  intro W G hT;rw[hJ,hOc]at hT;have hu:W.heap[X.U.blk]?=some (az X.U):=hT.sat.Q7 (by simp);have ho:W.heap[ob]?=some (oO ⟨ok,oa,ob_,oc,os,ot,odv,od⟩):=hT.sat.Q7 (by simp);refine⟨?_,?_,aa ho 4 rfl,aa ho 1 rfl,aa ho 2 rfl,aa ho 3 rfl,h.refAt' hl hT.sat.right.tail.tail,hE.keep hT.mods (fun h=>by simp at h)⟩
  ·have:=aa hu 1 (v:=l7 X.U.a) rfl;rw[h.a]at this;exact this
  ·have:=aa hu 2 (v:=.pointer (some ⟨X.U.r,0,none⟩)) rfl;rw[h.r]at this;exact this
 obtain⟨u1,-,o4,o1,o2,o3,-⟩:=hcells W1 _ hT1;have HH:=Hq3 h hours href;have HCE:=Hq4 hcells hW1 hob hJ;have HT1:=qqH hT1;clear h hl hE hours href hT1 hcells hW1 hob hJ hOc;unfold opA opV;rcases hk with rfl|rfl
 case' inl =>
  go_enter Tryz.func11,Tryz.ntmps11;go_upto_region 9 with(fail);rw[<- HCE.b,<- HCE.c];refine bh 8 HM.out (by kernel_rfl) rfl ?_;simp only[QE,take_zero];repeat still_step
  refine wpStill_nil ?_;refine aU (by kernel_rfl) (HH.b.1 rfl W1.drew HT1.out.drew.sat.left) ?_;rintro e W3 ⟨D,v,sp,ev,k,rfl,hev,hkv,hD,hbo,hA,hG,hag⟩;refine⟨_,rfl,?_⟩;simp only[Act.put,QA,QB,QC,QD,drop_zero];repeat still_step
  refine wpStill_nil ?_;have hT3:=HT1.out.drew.step (Perm.refl _) hG;obtain⟨-,u2,o4,o1,o2,o3,-⟩:=HCE.a W3 _ hT3;have HT3:=Hq7 hT3 hev hkv hD hbo hA hag;clear hG hT3 hev hkv hD hbo hA hag;go_upto_region 10 with(fail);refine bh 8 HM.out (by kernel_rfl) rfl ?_;simp only[QE,take_zero];repeat still_step
  refine wpStill_nil ?_;refine aU (by kernel_rfl) (HH.c rfl W3.drew (HCE.a W3.drew _ HT3.a.drew).2.2.2.2.2.2.1) ?_;intro e W4 hr;obtain⟨hs,cv,rfl,hwa⟩:=HT3.u _ _ _ hr;refine⟨_,rfl,?_⟩;simp only[Act.put,QA,QB,QC,QD,drop_zero];repeat still_step
  refine wpStill_nil ?_
 case' inr =>
  go_enter Tryz.func11,Tryz.ntmps11;go_upto_region 11 with(fail);rw[<- HCE.b,<- HCE.c];refine bh 12 HM.out (by kernel_rfl) rfl ?_;simp only[QE,take_zero];repeat still_step
  refine wpStill_nil ?_;refine aU (by kernel_rfl) (HH.b.2 rfl W1.drew HT1.out.drew.sat.left) ?_;rintro e W3 ⟨D,v,sp,ev,k,rfl,hev,hkv,hD,hbo,hA,hG,hag⟩;refine⟨_,rfl,?_⟩;simp only[Act.put,QA,QB,QC,QD,drop_zero];repeat still_step
  refine wpStill_nil ?_;have hT3:=HT1.out.drew.step (Perm.refl _) hG;obtain⟨-,u2,o4,o1,o2,o3,-⟩:=HCE.a W3 _ hT3;have HT3:=Hq7 hT3 hev hkv hD hbo hA hag;clear hG hT3 hev hkv hD hbo hA hag;go_upto_region 12 with(fail);refine bh 12 HM.out (by kernel_rfl) rfl ?_;simp only[QE,take_zero];repeat still_step
  refine wpStill_nil ?_;refine aU (by kernel_rfl) (HH.x rfl W3.drew (HCE.a W3.drew _ HT3.a.drew).2.2.2.2.2.2.1) ?_;intro e W4 hr;obtain⟨hs,cv,rfl,hwa⟩:=HT3.u _ _ _ hr;refine⟨_,rfl,?_⟩;simp only[Act.put,QA,QB,QC,QD,drop_zero];repeat still_step
  refine wpStill_nil ?_
 all_goals
  have hT4:=HT3.a.drew.Q9 hs;obtain⟨-,-,-,-,-,-,-,hE4⟩:=HCE.a W4 _ hT4;have HTe:=qqH (cz ev k W4 hE4 (HT3.b.is W4));have HT4:=Hq2 hT4 hwa;clear hr hs hwa hT4 hE4 u2 o4 o1 o2 o3;go_wp2_with fail;refine HTe.out.mono ?_;rintro e W5 ⟨rfl,hs5⟩;have hT5:=HT4.a.Q9 hs5;obtain⟨va,vc,hbv,-,hvcap,hvc,-⟩:=aL (cZ hT5.sat.left.left HT3.e);rw[HCE.x]at hT5;obtain⟨csl,ccap,hcv,hcc⟩:=HT4.z.at (hT5.sat.right.tail.tail.right.left) HH.a.pok;subst hbv;subst hcv;have hDl:=HT3.d;have HSC:=qqH (uM va csl vc ccap D D W5 hvc hcc (by omega) (by omega));have HT5:=qqH hT5;clear hs5 hT5 hvc hcc;go_wp2_with fail;refine HSC.out.mono ?_;rintro e W6 ⟨rfl,hs6⟩;rw[decide_eq_true trivial]
  have hT6:Turns [] ((X.U.blk,Is (az X.U))::(aA (.slice va D.length vc) D++(arF (ed X.S sp)++(aI X.R++(aV X++[Oc]))))) w0 W6 :=
   (HT5.out.Q9 hs6.same).to ac
  obtain⟨Z,hZ⟩:∃Z,Z=aA (.slice va D.length vc) D++(arF (ed X.S sp)++(aI X.R++(aV X++[Oc]))):=⟨_,rfl⟩;rw[<- hZ]at hT6;have HT6:=Hq2 hT6 hZ
  have hkk:k=0\/((k==0)=false/\∀W,(binOp .eql 35 (.slice va D.length vc) (.slice none 0 0)).run Tryz.prog W=.ok (.bool true) W):=by
   rcases HT3.c with h0|h0
   ·exact .inl h0
   ·by_cases hk0:k=0
    ·exact .inl hk0
    ·exact .inr ⟨by simp[hk0],fun W=>by rw[h0];kernel_rfl⟩
  have HK:=qqH hkk;clear hT6 hs6 hZ hkk;by_cases hpar:D.length%2=0
  ·have hev1:((D.length:Int).tmod 2==0)=true:=by rw[Int.tmod_eq_emod_of_nonneg (by omega)];simp;omega
   have hev2:((D.length:Int)%2==0)=true:=by simp;omega
   go_wp2_with (first
    | (refine ah rfl (bb 35 (.tmp 100) (.tmp 98) rfl X.U.blk 3 (bf X.U) 38 (.slice va D.length vc) HT6.a rfl rfl (by simp[bf]) (by kernel_rfl) rfl rfl ?_);intro w15 hT15;have HT15:=qqH (show Turns [] ((X.U.blk,Is (az { X.U with out:=.slice va D.length vc }))::Z) w0 w15 from hT15);clear hT15;simp only[Act.put])
    | (refine ah rfl (bb 35 (.tmp 104) (.tmp 102) rfl X.U.blk 4 (bf { X.U with out:=.slice va D.length vc }) 38 (.slice csl D.length ccap) HT15.out rfl rfl (by simp[bf]) (by kernel_rfl) rfl rfl ?_);intro w16 hT16;have HT16:=qqH (show Turns [] ((X.U.blk,Is (az { X.U with out:=.slice va D.length vc,want:=.slice csl D.length ccap }))::Z) w0 w16 from hT16);clear hT16;simp only[Act.put])
    | (refine ah rfl (bb 35 (.tmp 111) (.const (.slice none 0 0)) rfl X.U.blk 3 (bf { X.U with out:=.slice va D.length vc,want:=.slice csl D.length ccap }) 38 (.slice none 0 0) HT16.out rfl rfl (by simp[bf]) (by kernel_rfl) rfl rfl ?_);intro w18 hT18;have HT18:=qqH (show Turns [] ((X.U.blk,Is (az { X.U with out:=.slice none 0 0,want:=.slice csl D.length ccap }))::Z) w0 w18 from hT18);clear hT18;simp only[Act.put])
    | (refine ah rfl (bb 35 (.tmp 114) (.const (.slice none 0 0)) rfl X.U.blk 4 (bf { X.U with out:=.slice none 0 0,want:=.slice csl D.length ccap }) 38 (.slice none 0 0) HT18.out rfl rfl (by simp[bf]) (by kernel_rfl) rfl rfl ?_);intro w19 hT19;have HT19:=qqH (show Turns [] ((X.U.blk,Is (az { X.U with out:=.slice none 0 0,want:=.slice none 0 0 }))::Z) w0 w19 from hT19);clear hT19;simp only[Act.put]))
   have h19:=HT19.out;rw[HT6.z]at h19;obtain⟨B,hB,hscr⟩:=JS (h19.to (H:=aA (.slice va D.length vc) D++((X.U.blk,Is (az { X.U with out:=.slice none 0 0,want:=.slice none 0 0 }))::(arF (ed X.S sp)++(aI X.R++(aV X++[Oc]))))) ac) HT3.e;obtain⟨Y,hY⟩:∃Y:HF,Y=(X.U.blk,Is (az { X.U with out:=.slice none 0 0,want:=.slice none 0 0 }))::(arF (ed X.S sp)++(aI X.R++(aV X++[Oc]))):=⟨_,rfl⟩;rw[<- hY]at hB hscr;have HB:=Hq3 hB hscr hY;clear h19 hB hscr hY;go_loopw [11] (fun i W'=>∃j:Nat,j<=D.length/\i=.int .i64 j/\Turns [] (B++Y) w0 W') (fun i _=>D.length-(intOf i).toNat)
   case atStart=>exact⟨0,Nat.zero_le _,rfl,HB.a⟩
   case round =>
    obtain⟨j,hj,rfl,hTk⟩:=hrel;by_cases hlt:j<D.length
    ·obtain⟨g,x,rfl,hx,hfz,hgl,hset⟩:=HB.b _ _ hTk hlt;have HS:=qqH hset;clear hTk hset;go_wp2_with fail;go_roundw
     case rel=>exact⟨j+1,by omega,by go_num,HS.out _⟩
     case measure=>simp[intOf];omega
    ·obtain rfl:j=D.length:=by omega
     have HTk:=qqH hTk;clear hTk;rcases HK.out with rfl|⟨hk0,heq⟩
     all_goals
      go_wp2_with (go_at_call 18;refine(fK _ _).mono ?_;rintro e w' ⟨rfl,rfl⟩);go_ret;refine ⟨sp,.slice none 0 0,.slice none 0 0,[],by simp,HH.a.outTo HT3.f fi (qz _) (by simp) ?_⟩;refine HTk.out.drop (fun x=>?_);rw[HB.y];unfold wsF Gi aV;rw[lp];simp only[ao,ai,ee]<;>omega
  ·have hev1:((D.length:Int).tmod 2==0)=false:=by rw[Int.tmod_eq_emod_of_nonneg (by omega)];simp;omega
   have hev2:((D.length:Int)%2==0)=false:=by simp;omega
   rcases HK.out with rfl|⟨hk0,heq⟩
   all_goals
    go_wp2_with (first
     | (refine ah rfl (bb 35 (.tmp 100) (.tmp 98) rfl X.U.blk 3 (bf X.U) 38 (.slice va D.length vc) HT6.a rfl rfl (by simp[bf]) (by kernel_rfl) rfl rfl ?_);intro w15 hT15;have HT15:=qqH (show Turns [] ((X.U.blk,Is (az { X.U with out:=.slice va D.length vc }))::Z) w0 w15 from hT15);clear hT15;simp only[Act.put])
     | (refine ah rfl (bb 35 (.tmp 104) (.tmp 102) rfl X.U.blk 4 (bf { X.U with out:=.slice va D.length vc }) 38 (.slice csl D.length ccap) HT15.out rfl rfl (by simp[bf]) (by kernel_rfl) rfl rfl ?_);intro w16 hT16;have HT16:=qqH (show Turns [] ((X.U.blk,Is (az { X.U with out:=.slice va D.length vc,want:=.slice csl D.length ccap }))::Z) w0 w16 from hT16);clear hT16;simp only[Act.put])
     | (go_at_call 18;refine(fK _ _).mono ?_;rintro e w' ⟨rfl,rfl⟩))
    go_ret;refine ⟨sp,.slice va D.length vc,.slice csl D.length ccap,D,by simp,HH.a.outTo HT3.f HT3.e HT4.z (by omega) ?_⟩;have h16:=HT16.out;rw[HT6.z]at h16;refine h16.drop (fun x=>?_);unfold wsF Gi aV;simp only[ao,ai,ee]<;>omega
theorem qn(w0 W:World)(X:WS)(o:OpL)(h:WsOk w0 W X)(hl:X.R.vs.length<=100000)(hE:aW w0)(hk:o.kind=4)(RR:World->Ending->World->Prop)(hours:∀W',Sat W' (arF X.S)->Calls Tryz.prog 41 #[.pointer (some ⟨X.S.a,0,none⟩),str o.s] W' (fun e w''=>∃ns v ev k,e=.returned (.tuple #[v,ev])/\xT ev k/\(k=0\/v=.slice none 0 0)/\ns.length<=100000/\iOk v ns/\Turns (arF X.S) (bZ v ns++arF X.S) W' w'' /\
   ∀u e u',RR u e u'->∃cv,e=.returned (.tuple #[cv,.int .i64 k])/\iOk cv ns/\Turns [] (bZ cv ns) u u'))(href:∀W',RefAt X.R X.P W'->Calls Tryz.prog 42 #[.pointer (some ⟨X.R.blk,0,none⟩),str o.s] W' (RR W')):
  Calls Tryz.prog 11 #[.pointer (some ⟨X.U.blk,0,none⟩),opA o] W (jY w0 X):=by
 obtain⟨ok,oa,ob_,oc,os,ot,odv,od⟩:=o;dsimp only at hk hours href;obtain⟨ob,hob⟩:∃ob,ob=W.heap.size:=⟨_,rfl⟩;obtain⟨W1,hW1⟩:∃W1,W1=W.alloc (.cells #[.int .i64 ok,.int .i64 oa,.int .i64 ob_,.int .i64 oc,str os,str ot,odv] 41):=⟨_,rfl⟩;obtain⟨Oc,hOc⟩:∃Oc:Nat×(Obj->Prop),Oc=(ob,Is (oO ⟨ok,oa,ob_,oc,os,ot,odv,od⟩)):=⟨_,rfl⟩;obtain⟨J,hJ⟩:∃J:HF,J=Oc::(X.U.blk,Is (az X.U))::(aI X.R++aV X):=⟨_,rfl⟩
 have hT1:Turns [] (arF X.S++J) w0 W1:=by
  rw[hW1,hJ,hOc,hob];have:=h.turns.Q8 (.cells #[.int .i64 ok,.int .i64 oa,.int .i64 ob_,.int .i64 oc,str os,str ot,odv] 41);unfold wsF at this;exact this.to (H:=arF X.S++((W.heap.size,Is (.cells #[.int .i64 ok,.int .i64 oa,.int .i64 ob_,.int .i64 oc,str os,str ot,odv] 41))::(X.U.blk,Is (az X.U))::(aI X.R++aV X))) ac
 have hcells:∀(W:World) (G:HF),Turns [] (G++J) w0 W ->
   W.cell? ⟨X.U.blk,1,none⟩=some (.pointer (some ⟨X.S.a,0,none⟩))/\W.cell? ⟨X.U.blk,2,none⟩=some (.pointer (some ⟨X.R.blk,0,none⟩))/\W.cell? ⟨ob,4,none⟩=some (str os)/\W.cell? ⟨ob,1,none⟩=some (.int .i64 oa)/\W.cell? ⟨ob,2,none⟩=some (.int .i64 ob_)/\W.cell? ⟨ob,3,none⟩=some (.int .i64 oc)/\RefAt X.R X.P W/\aW W:=by
  intro W G hT;rw[hJ,hOc]at hT;have hu:W.heap[X.U.blk]?=some (az X.U):=hT.sat.Q7 (by simp);have ho:W.heap[ob]?=some (oO ⟨ok,oa,ob_,oc,os,ot,odv,od⟩):=hT.sat.Q7 (by simp);refine⟨?_,?_,aa ho 4 rfl,aa ho 1 rfl,aa ho 2 rfl,aa ho 3 rfl,h.refAt' hl hT.sat.right.tail.tail,hE.keep hT.mods (fun h=>by simp at h)⟩
  ·have:=aa hu 1 (v:=l7 X.U.a) rfl;rw[h.a]at this;exact this
  ·have:=aa hu 2 (v:=.pointer (some ⟨X.U.r,0,none⟩)) rfl;rw[h.r]at this;exact this
 obtain⟨u1,-,o4,o1,o2,o3,-⟩:=hcells W1 _ hT1;have HH:=Hq3 h hours href;have HCE:=Hq4 hcells hW1 hob hJ;have HT1:=qqH hT1;clear h hl hE hours href hT1 hcells hW1 hob hJ hOc;unfold opA opV;subst hk;go_enter Tryz.func11,Tryz.ntmps11;go_upto_region 26 with(fail);rw[<- HCE.b,<- HCE.c];refine bh 6 HM.out (by kernel_rfl) rfl ?_;simp only[QE,take_zero];repeat still_step
 refine wpStill_nil ?_;refine aU (by kernel_rfl) (HH.b W1.drew HT1.out.drew.sat.left) ?_;rintro e W3 ⟨ns,v,ev,k,rfl,hev,hkv,hnl,hbo,hG,hag⟩;refine⟨_,rfl,?_⟩;simp only[Act.put,QA,QB,QC,QD,drop_zero];repeat still_step
 refine wpStill_nil ?_;have hT3:Turns [] ((bZ v ns++arF X.S)++J) w0 W3:=HT1.out.drew.step (Perm.refl _) hG;obtain⟨-,u2,o4,o1,o2,o3,-⟩:=HCE.a W3 _ hT3;have HT3:=Hq6 hT3 hev hkv hnl hbo hag;clear hG hT3 hev hkv hnl hbo hag;go_upto_region 27 with(fail);refine bh 6 HM.out (by kernel_rfl) rfl ?_;simp only[QE,take_zero];repeat still_step
 refine wpStill_nil ?_;refine aU (by kernel_rfl) (HH.y W3.drew (HCE.a W3.drew _ HT3.a.drew).2.2.2.2.2.2.1) ?_;intro e W4 hr;obtain⟨cv,rfl,hmo,hGm⟩:=HT3.v _ _ _ hr;refine⟨_,rfl,?_⟩;simp only[Act.put,QA,QB,QC,QD,drop_zero];repeat still_step
 refine wpStill_nil ?_
 have hT4:Turns [] ((bZ cv ns++(bZ v ns++arF X.S))++J) w0 W4:=by
  have:=HT3.a.drew.Qb hGm;rwa [<- append_assoc]at this
 obtain⟨-,-,-,-,-,-,-,hE4⟩:=HCE.a W4 _ hT4;have HTe:=qqH (cz ev k W4 hE4 (HT3.b.is W4));have HT4:=Hq2 hT4 hmo;clear hr hGm hmo hT4 hE4 u2 o4 o1 o2 o3;go_wp2_with fail;refine HTe.out.mono ?_;rintro e W5 ⟨rfl,hs5⟩;have hT5:=HT4.a.Q9 hs5;obtain⟨ca,cc,hcv,-,-,hcc,-⟩:=bv (hT5.sat.left.left) HT4.z (by decide);obtain⟨la,lc,hlv,-,-,hlc,-⟩:=bv (hT5.sat.left.right.left) HT3.e (by decide);have hnl:=HT3.d;have HSC:=qqH (qr la ca lc cc ns ns W5 hlc hcc (by omega) (by omega))
 have hkk:k=0\/((k==0)=false/\∀W,(binOp .eql 96 v (.slice none 0 0)).run Tryz.prog W=.ok (.bool true) W):=by
  rcases HT3.c with h0|h0
  ·exact .inl h0
  ·by_cases hk0:k=0
   ·exact .inl hk0
   ·exact .inr ⟨by simp[hk0],fun W=>by rw[h0];kernel_rfl⟩
 have HT5:=qqH hT5;subst hcv;subst hlv;have HK:=qqH hkk;clear hs5 hT5 hcc hlc hkk;go_wp2_with fail;refine HSC.out.mono ?_;rintro e W6 ⟨rfl,hs6⟩;rw[decide_eq_true trivial];have HT6:=qqH (HT5.out.Q9 hs6.same);clear hs6;rcases HK.out with rfl|⟨hk0,heq⟩
 all_goals
  go_wp2_with (go_at_call 18;refine(fK _ _).mono ?_;rintro e w' ⟨rfl,rfl⟩);go_ret;refine ⟨X.S.A.spare,X.U.out,X.U.want,X.O,by simp,(HH.a.back ?_:WsOk w0 _ X)⟩;refine HT6.out.drop (fun x=>?_);rw[HCE.x];unfold wsF;simp only[ao,ai]<;>omega
theorem vN(w0 W:World)(X:WS)(o:OpL)(h:WsOk w0 W X)(hl:X.R.vs.length<=100000)(hE:aW w0)(hk:o.kind=5)(RR:World->Ending->World->Prop)(hours:∀W',Sat W' (arF X.S)->Calls Tryz.prog 44 #[.pointer (some ⟨X.S.a,0,none⟩),str o.s] W' (fun e w''=>∃ns v ev k,e=.returned (.tuple #[v,ev])/\xT ev k/\(k=0\/v=.slice none 0 0)/\ns.length<=100000/\pZ v ns/\Turns (arF X.S) (eP v ns++arF X.S) W' w'' /\
   ∀u e u',RR u e u'->∃cv,e=.returned (.tuple #[cv,.int .i64 k])/\oe cv ns/\Turns [] (eY cv ns) u u'))(href:∀W',RefAt X.R X.P W'->Calls Tryz.prog 45 #[.pointer (some ⟨X.R.blk,0,none⟩),str o.s] W' (RR W')):
  Calls Tryz.prog 11 #[.pointer (some ⟨X.U.blk,0,none⟩),opA o] W (jY w0 X):=by
 obtain⟨ok,oa,ob_,oc,os,ot,odv,od⟩:=o;dsimp only at hk hours href;obtain⟨ob,hob⟩:∃ob,ob=W.heap.size:=⟨_,rfl⟩;obtain⟨W1,hW1⟩:∃W1,W1=W.alloc (.cells #[.int .i64 ok,.int .i64 oa,.int .i64 ob_,.int .i64 oc,str os,str ot,odv] 41):=⟨_,rfl⟩;obtain⟨Oc,hOc⟩:∃Oc:Nat×(Obj->Prop),Oc=(ob,Is (oO ⟨ok,oa,ob_,oc,os,ot,odv,od⟩)):=⟨_,rfl⟩;obtain⟨J,hJ⟩:∃J:HF,J=Oc::(X.U.blk,Is (az X.U))::(aI X.R++aV X):=⟨_,rfl⟩
 have hT1:Turns [] (arF X.S++J) w0 W1:=by
  rw[hW1,hJ,hOc,hob];have:=h.turns.Q8 (.cells #[.int .i64 ok,.int .i64 oa,.int .i64 ob_,.int .i64 oc,str os,str ot,odv] 41);unfold wsF at this;exact this.to (H:=arF X.S++((W.heap.size,Is (.cells #[.int .i64 ok,.int .i64 oa,.int .i64 ob_,.int .i64 oc,str os,str ot,odv] 41))::(X.U.blk,Is (az X.U))::(aI X.R++aV X))) ac
 have hcells:∀(W:World) (G:HF),Turns [] (G++J) w0 W ->
   W.cell? ⟨X.U.blk,1,none⟩=some (.pointer (some ⟨X.S.a,0,none⟩))/\W.cell? ⟨X.U.blk,2,none⟩=some (.pointer (some ⟨X.R.blk,0,none⟩))/\W.cell? ⟨ob,4,none⟩=some (str os)/\W.cell? ⟨ob,1,none⟩=some (.int .i64 oa)/\W.cell? ⟨ob,2,none⟩=some (.int .i64 ob_)/\W.cell? ⟨ob,3,none⟩=some (.int .i64 oc)/\RefAt X.R X.P W/\aW W:=by
  intro W G hT;rw[hJ,hOc]at hT;have hu:W.heap[X.U.blk]?=some (az X.U):=hT.sat.Q7 (by simp);have ho:W.heap[ob]?=some (oO ⟨ok,oa,ob_,oc,os,ot,odv,od⟩):=hT.sat.Q7 (by simp);refine⟨?_,?_,aa ho 4 rfl,aa ho 1 rfl,aa ho 2 rfl,aa ho 3 rfl,h.refAt' hl hT.sat.right.tail.tail,hE.keep hT.mods (fun h=>by simp at h)⟩
  ·have:=aa hu 1 (v:=l7 X.U.a) rfl;rw[h.a]at this;exact this
  ·have:=aa hu 2 (v:=.pointer (some ⟨X.U.r,0,none⟩)) rfl;rw[h.r]at this;exact this
 obtain⟨u1,-,o4,o1,o2,o3,-⟩:=hcells W1 _ hT1;have HH:=Hq3 h hours href;have HCE:=Hq4 hcells hW1 hob hJ;have HT1:=qqH hT1;clear h hl hE hours href hT1 hcells hW1 hob hJ hOc;unfold opA opV;subst hk;go_enter Tryz.func11,Tryz.ntmps11;go_upto_region 32 with(fail);rw[<- HCE.b,<- HCE.c];refine bh 6 HM.out (by kernel_rfl) rfl ?_;simp only[QE,take_zero];repeat still_step
 refine wpStill_nil ?_;refine aU (by kernel_rfl) (HH.b W1.drew HT1.out.drew.sat.left) ?_;rintro e W3 ⟨ns,v,ev,k,rfl,hev,hkv,hnl,hbo,hG,hag⟩;refine⟨_,rfl,?_⟩;simp only[Act.put,QA,QB,QC,QD,drop_zero];repeat still_step
 refine wpStill_nil ?_;have hT3:Turns [] ((eP v ns++arF X.S)++J) w0 W3:=HT1.out.drew.step (Perm.refl _) hG;obtain⟨-,u2,o4,o1,o2,o3,-⟩:=HCE.a W3 _ hT3;have HT3:=Hq6 hT3 hev hkv hnl hbo hag;clear hG hT3 hev hkv hnl hbo hag;go_upto_region 33 with(fail);refine bh 6 HM.out (by kernel_rfl) rfl ?_;simp only[QE,take_zero];repeat still_step
 refine wpStill_nil ?_;refine aU (by kernel_rfl) (HH.y W3.drew (HCE.a W3.drew _ HT3.a.drew).2.2.2.2.2.2.1) ?_;intro e W4 hr;obtain⟨cv,rfl,hmo,hGm⟩:=HT3.v _ _ _ hr;refine⟨_,rfl,?_⟩;simp only[Act.put,QA,QB,QC,QD,drop_zero];repeat still_step
 refine wpStill_nil ?_
 have hT4:Turns [] ((eY cv ns++(eP v ns++arF X.S))++J) w0 W4:=by
  have:=HT3.a.drew.Qb hGm;rwa [<- append_assoc]at this
 obtain⟨-,-,-,-,-,-,-,hE4⟩:=HCE.a W4 _ hT4;have HTe:=qqH (cz ev k W4 hE4 (HT3.b.is W4));have HT4:=Hq2 hT4 hmo;clear hr hGm hmo hT4 hE4 u2 o4 o1 o2 o3;go_wp2_with fail;refine HTe.out.mono ?_;rintro e W5 ⟨rfl,hs5⟩;have hT5:=HT4.a.Q9 hs5;obtain⟨ca,cc,hcv,-,-,hcc,-⟩:=bv (hT5.sat.left.left) HT4.z (by decide);obtain⟨la,lc,hlv,-,-,hlc,-⟩:=bv (hT5.sat.left.right.left) HT3.e (by decide);have hnl:=HT3.d;have HSC:=qqH (qq ns ns la ca lc cc W5 hlc hcc (by omega) (by omega))
 have hkk:k=0\/((k==0)=false/\∀W,(binOp .eql 102 v (.slice none 0 0)).run Tryz.prog W=.ok (.bool true) W):=by
  rcases HT3.c with h0|h0
  ·exact .inl h0
  ·by_cases hk0:k=0
   ·exact .inl hk0
   ·exact .inr ⟨by simp[hk0],fun W=>by rw[h0];kernel_rfl⟩
 have HT5:=qqH hT5;subst hcv;subst hlv;have HK:=qqH hkk;clear hs5 hT5 hcc hlc hkk;go_wp2_with fail;refine HSC.out.mono ?_;rintro e W6 ⟨b6,rfl,hb6,hs6⟩;obtain rfl:=hb6 rfl;have HT6:=qqH (HT5.out.Q9 hs6);clear hs6;rcases HK.out with rfl|⟨hk0,heq⟩
 all_goals
  go_wp2_with (go_at_call 18;refine(fK _ _).mono ?_;rintro e w' ⟨rfl,rfl⟩);go_ret;refine ⟨X.S.A.spare,X.U.out,X.U.want,X.O,by simp,(HH.a.back ?_:WsOk w0 _ X)⟩;refine HT6.out.drop (fun x=>?_);rw[HCE.x];unfold wsF;simp only[ao,ai]<;>omega
theorem vM(w0 W:World)(X:WS)(o:OpL)(b:Nat)(h:WsOk w0 W X)(hB:ArB X.S b)(hb:b<=90000)(hl:X.R.vs.length<=100000)(hE:aW w0)(ho:OpOk w0 o)(hk:o.kind=2):
  Calls Tryz.prog 11 #[.pointer (some ⟨X.U.blk,0,none⟩),opA o] W (jY w0 X):=by
 refine m0 w0 W X o h hl hE (.inl hk) (jn X.R o.s o.a) ⟨fun _ W' hs=>?_,fun h3=>by omega⟩ ⟨fun _ W' hr=>ko X.R X.P o.s o.a W' hr,fun h3=>by omega⟩;refine(Fa X.S o.s o.a b W' hs h.ar hB hb (by have:=ho.s;omega)).mono ?_;rintro e w' (⟨k,hf,rfl,hT⟩|⟨V,v,sp,hf,rfl,hbo,hA,hT⟩)
 ·refine⟨[],_,X.S.A.spare,_,k,rfl,.inr rfl,.inr rfl,by simp,fi,h.ar.area,by rw[lp];exact hT,fun u e u' hq=>?_⟩;obtain⟨hs,hm⟩:=hq;rw[h.link.err hf]at hm;exact⟨hs,_,hm,qz _⟩
 ·obtain⟨rv,hrv,htr,hrm,-⟩:=h.link.found hf;have hDr:rv.cont=cE X.S V:=congrArg (fun t:ku=>t.2.1) htr;have hDl:(cE X.S V).length<=4000:=by rw[<- hDr];exact(h.link.each rv hrm).2.2
  refine⟨_,_,sp,_,0,rfl,.inl ⟨rfl,rfl⟩,.inl rfl,hDl,hbo,hA,hT,fun u e u' hq=>?_⟩;obtain⟨hs,hm⟩:=hq;rw[hrv]at hm;refine⟨hs,_,hm.1,?_⟩;rw[<- hDr];exact GR h.pool h.pok (h.inp rv hrm)
theorem yR(w0 W:World)(X:WS)(o:OpL)(b:Nat)(h:WsOk w0 W X)(hB:ArB X.S b)(hb:b<=90000)(hl:X.R.vs.length<=100000)(hE:aW w0)(ho:OpOk w0 o)(hk:o.kind=3):
  Calls Tryz.prog 11 #[.pointer (some ⟨X.U.blk,0,none⟩),opA o] W (jY w0 X):=by
 have hc9:o.c<=9223372036854775807:=ho.c.2;refine m0 w0 W X o h hl hE (.inr hk) (jo X.R o.s o.a o.b o.c) ⟨fun h2=>by omega,fun _ W' hs=>?_⟩ ⟨fun h2=>by omega,fun _ W' hr=>vK X.R X.P o.s o.a o.b o.c W' hr hc9⟩;refine(xY X.S o.s o.a o.b o.c b W' hs h.ar hB hb (by have:=ho.s;omega) hc9).mono ?_;rintro e w' (⟨k,hf,rfl,hT⟩|⟨V,hf,hr,rfl,hT⟩|⟨V,v,sp,hf,hr,rfl,hbo,hA,hT⟩)
 ·refine⟨[],_,X.S.A.spare,_,k,rfl,.inr rfl,.inr rfl,by simp,fi,h.ar.area,by rw[lp];exact hT,fun u e u' hq=>?_⟩;obtain⟨hs,hm⟩:=hq;rw[h.link.err hf]at hm;exact⟨hs,_,hm,qz _⟩
 all_goals
  obtain⟨rv,hrv,htr,hrm,-⟩:=h.link.found hf;have hDr:rv.cont=cE X.S V:=congrArg (fun t:ku=>t.2.1) htr;obtain⟨p,hp1,-,hp2⟩:=qy hf.2.2;have hlen:rv.cont.length=V.size:=by rw[hDr];exact jR h.ar hp1 hp2
  have hDl:rv.cont.length<=4000:=(h.link.each rv hrm).2.2
 ·refine⟨[],_,X.S.A.spare,_,4,rfl,.inr rfl,.inr rfl,by simp,fi,h.ar.area,by rw[lp];exact hT,fun u e u' hq=>?_⟩;obtain⟨hs,hm⟩:=hq;rw[hrv]at hm;obtain⟨-,hm⟩:=hm;rw[hlen]at hm;rcases hm with⟨-,hm⟩|⟨hm,-⟩
  ·exact⟨hs,_,hm,qz _⟩
  ·exact absurd hr hm
 ·refine⟨((cE X.S V).drop o.b.toNat).take o.c.toNat,v,sp,_,0,rfl,.inl ⟨rfl,rfl⟩,.inl rfl,?_,hbo,hA,hT,fun u e u' hq=>?_⟩
  ·rw[length_take,length_drop,<- hDr];omega
  ·obtain⟨hs,hm⟩:=hq;rw[hrv]at hm;obtain⟨-,hm⟩:=hm;rw[hlen,hDr]at hm;rcases hm with⟨hm,-⟩|⟨-,sl,cap,hm,-,hx⟩
   ·exact absurd hm hr
   ·refine⟨hs,_,hm,sl,cap,rfl,?_⟩;by_cases hne:((cE X.S V).drop o.b.toNat).take o.c.toNat=[]
    ·exact .inl hne
    ·obtain⟨g,off,cap',e1,e2⟩:=hx hne;refine .inr ⟨(rv.cv,rv.cont),h.inp rv hrm,g,off,cap',o.b.toNat,by simp only;rw[hlen];exact e1,e2,?_⟩;simp only[hDr];rw[length_take];rcases Nat.le_total o.c.toNat ((cE X.S V).drop o.b.toNat).length with hc|hc
     ·rw[Nat.min_eq_left hc]
     ·rw[Nat.min_eq_right hc,take_of_length_le hc,take_length]
theorem vO(w0 W:World)(X:WS)(o:OpL)(b:Nat)(h:WsOk w0 W X)(hB:ArB X.S b)(hb:b<=90000)(hl:X.R.vs.length<=100000)(hE:aW w0)(hk:o.kind=4):
  Calls Tryz.prog 11 #[.pointer (some ⟨X.U.blk,0,none⟩),opA o] W (jY w0 X):=by
 refine qn w0 W X o h hl hE hk (fh X.R o.s) (fun W' hs=>?_) (fun W' hr=>mZ X.R X.P o.s W' hr);refine(tg X.S o.s b W' hs h.ar hB hb).mono ?_;rintro e w' (⟨k,hf,rfl,hT⟩|⟨V,v,hf,rfl,hbo,hT⟩)
 ·refine⟨[],_,_,k,rfl,.inr rfl,.inr rfl,by simp,lV,hT,fun u e u' hm=>?_⟩;unfold fh at hm;rw[h.link.err hf]at hm;exact⟨_,hm.2,lV,(Sat.nil u |> fun hs=>Turns.same hs hm.1)⟩
 ·obtain⟨rv,hrv,-⟩:=h.link.found hf
  have hnr:gd X.R.vs o.s=eB (af X.S.ps o.s):=by
   have:=congrArg (List.map (fun t:ku=>t.1)) (h.link.vers o.s);rw[map_map,map_map]at this;exact this.symm
  refine⟨_,v,_,0,rfl,.inl ⟨rfl,rfl⟩,.inl rfl,by rw[<- hnr];have:=qW X.R.vs o.s;omega,hbo,hT,fun u e u' hm=>?_⟩;unfold fh at hm;rw[hrv]at hm;rw[<- hnr];exact hm
theorem ux(w0 W:World)(X:WS)(o:OpL)(b:Nat)(h:WsOk w0 W X)(hB:ArB X.S b)(hb:b<=90000)(hl:X.R.vs.length<=100000)(hE:aW w0)(hk:o.kind=5):
  Calls Tryz.prog 11 #[.pointer (some ⟨X.U.blk,0,none⟩),opA o] W (jY w0 X):=by
 refine vN w0 W X o h hl hE hk (wj X.R o.s) (fun W' hs=>?_) (fun W' hr=>Bq X.R X.P o.s W' hr);refine(Cn X.S o.s b W' hs h.ar hB hb).mono ?_;rintro e w' (⟨hc,rfl,hT⟩|⟨hc,v,es,rfl,hso,heo,hT⟩)
 ·refine⟨[],_,_,9,rfl,.inr rfl,.inr rfl,by simp,⟨rfl,fun _=>⟨rfl,rfl⟩⟩,hT,fun u e u' hm=>?_⟩;rcases hm with⟨_,he,hs⟩|⟨h1,-⟩
  ·exact⟨_,he,⟨rfl,fun _=>⟨rfl,rfl⟩⟩,Turns.same (Sat.nil u) hs⟩
  ·rw[h.link.closed,hc]at h1;cases h1
 ·obtain rfl:=h.link.list h.ar o.s hso;refine⟨_,v,_,0,rfl,.inl ⟨rfl,rfl⟩,.inl rfl,by have:=wP o.s X.R.vs;omega,heo,hT,fun u e u' hm=>?_⟩;rcases hm with⟨h1,-⟩|⟨-,hm⟩
  ·rw[h.link.closed,hc]at h1;cases h1
  ·exact hm
def jC(L L':DevL):Prop:=DevOk L'/\L'.n=L.n/\L'.now=L.now/\L'.safe=L.now/\L'.chs=[]
def Hs(S:AS)(w:World)(e:Ending)(w':World):Prop :=
 (S.X.closed=true/\e=.returned (ck 9)/\Turns (arF S) (arF S) w w') \/
 (S.X.closed=false/\e=.returned .nilIface/\∃L',jC S.L L'/\Turns (arF S) (arF { S with L:=L' }) w w')
theorem zO(X:ArchL)(h:X.broken=.nilIface):(bl X).setIfInBounds 11 .nilIface=bl X:=by
 unfold bl;rw[h];rfl
theorem te(S:AS)(b:Nat)(w:World)(h:Sat w (arF S))(hok:ArOk S)(hB:ArB S b)(hb:b<=90000):
  Calls Tryz.prog 27 #[.pointer (some ⟨S.a,0,none⟩)] w (Hs S w):=by
 have ha:=h.Q5;have hal:=ae ha;have HH:=Hq2 h hok;have hch:S.L.chs.length<=1099511627776:=by have:=hB.chs;omega
 cases hc:S.X.closed with
 | true =>
  have a10:w.cell? ⟨S.a,10,none⟩=some (.bool true):=by rw[<- hc];exact aa ha 10 rfl
  have HC:=qqH hc;clear h hok hB hb ha hc hch;go_enter Tryz.func27,Tryz.ntmps27;go_wp2_with fail;exact bodyPost_ret (results_tmp rfl _ _ _) rfl (.inl ⟨HC.out,rfl,Turns.refl HH.a⟩)
 | false =>
  have a10:w.cell? ⟨S.a,10,none⟩=some (.bool false):=by rw[<- hc];exact aa ha 10 rfl
  have a6:w.cell? ⟨S.a,6,none⟩=some (.pointer (some ⟨S.X.d,0,none⟩)):=aa ha 6 rfl;have a11:w.cell? ⟨S.a,11,none⟩=some .nilIface:=by rw[<- hok.sound];exact aa ha 11 rfl
  have HF:=qqH (jm S.X.d S.L w (h.sub (fun x=>by simp only[arF,ao,ai]<;>omega)) hok.dev hch);have HC:=qqH hc;clear h hok hB hb ha hc hch;go_enter Tryz.func27,Tryz.ntmps27;go_wp2_with fail;refine HF.out.mono ?_;rintro e w1 ⟨rfl,L',hT,hL⟩;have hT1:Turns (arF S) (arF { S with L:=L' }) w w1:=((Turns.refl HH.a).step (R:=(S.a,Is (aJ S.X))::(ap S.X.ab S.X.d S.A++(aF S.X.pm S.ps S.pc++(bU S.X.tm S.ts S.tc++aP S.X.cm S.cs S.cc)))) (by unfold arF;exact ac) hT).to (by unfold arF;exact ac);have HT:=Hq2 hL hT1;clear hT hL hT1;go_wp2_with ((refine ah rfl (bb 30 (.tmp 20) (.tmp 18) rfl S.a 11 (bl S.X) 59 .nilIface HT.z rfl rfl (by simp[bl]) (by kernel_rfl) rfl rfl ?_);rw[zO S.X HH.z.sound];intro w2 hT2;have b11:w2.cell? ⟨S.a,11,none⟩=some .nilIface:=(by rw[<- HH.z.sound];exact aa hT2.sat.Q5 11 rfl);have HT2:=qqH hT2;clear hT2;simp only[Act.put]));exact bodyPost_ret (results_tmp rfl _ _ _) rfl (.inr ⟨HC.out,rfl,L',HT.a,HT2.out⟩)
def E7(S:AS)(w:World)(e:Ending)(w':World):Prop :=
 (S.X.closed=true/\e=.returned (ck 9)/\Turns (arF S) (arF S) w w') \/
 (S.X.closed=false/\e=.returned .nilIface/\∃L',jC S.L L'/\Turns (arF S) (arF { S with L:=L',X:={ S.X with closed:=true } }) w w')
theorem rx(S:AS)(b:Nat)(w:World)(h:Sat w (arF S))(hok:ArOk S)(hB:ArB S b)(hb:b<=90000):
  Calls Tryz.prog 31 #[.pointer (some ⟨S.a,0,none⟩)] w (E7 S w):=by
 have HS:=qqH (te S b w h hok hB hb);have HH:=Hq2 h hok;clear h hok hB hb;go_enter Tryz.func31,Tryz.ntmps31;go_wp2_with fail;refine HS.out.mono ?_;rintro e w1 (⟨hc,rfl,hT⟩|⟨hc,rfl,L',hL,hT⟩)
 ·have HT:=Hq2 hc hT;have hal:=ae hT.sat.Q5;clear hc hT;unfold ck;go_wp2_with ((refine ah rfl (bb 4 (.tmp 8) (.const (.bool true)) rfl S.a 10 (bl S.X) 59 (.bool true) HT.z rfl rfl (by simp[bl]) (by kernel_rfl) rfl rfl ?_);intro w2 hT2;have HT2:=qqH hT2;clear hT2;simp only[Act.put]));go_ret;refine (.inl ⟨HT.a,rfl,?_⟩);have h2:=HT2.out;have e1:(bl S.X).setIfInBounds 10 (.bool true)=bl S.X:=by rw[<- HT.a];rfl
  rw[e1]at h2;exact h2
 ·have HT:=Hq3 hc hL hT;have hal:=ae hT.sat.Q5;clear hc hT hL;go_wp2_with ((refine ah rfl (bb 4 (.tmp 8) (.const (.bool true)) rfl S.a 10 (bl S.X) 59 (.bool true) HT.y rfl rfl (by simp[bl]) (by kernel_rfl) rfl rfl ?_);intro w2 hT2;have HT2:=qqH hT2;clear hT2;simp only[Act.put]));exact bodyPost_ret (results_tmp rfl _ _ _) rfl (.inr ⟨HT.a,rfl,L',HT.b,HT2.out⟩)
theorem kf(ub:Nat)(U:WorldL)(R:RefL)(ev:Value)(w:World)(hu:w.heap[ub]?=some (az U))(hr:U.r=R.blk)(hR:w.heap[R.blk]?=some (fQ R))(hE:aW w)(hev:(R.closed=false/\ev=.nilIface)\/(R.closed=true/\ev=ck 9)):
  Calls Tryz.prog 28 #[.pointer (some ⟨ub,0,none⟩),ev] w (fun e w'=>e=.returned (.bool true)/\aQ w w'):=by
 have HH:=Hq4 hu hr hR hE;rcases hev with⟨hc,rfl⟩|⟨hc,rfl⟩
 ·have HC:=qqH hc;have HT:=qqH (cz .nilIface 0 w hE (.inl ⟨rfl,rfl⟩));clear hu hr hR hE hc;go_enter Tryz.func28,Tryz.ntmps28;go_wp2_with fail;refine HT.out.mono ?_;rintro e w1 ⟨rfl,hs1⟩
  have u2:w1.cell? ⟨ub,2,none⟩=some (.pointer (some ⟨R.blk,0,none⟩)):=by
   have:=aa (hs1.at HH.a id) 2 (v:=.pointer (some ⟨U.r,0,none⟩)) rfl;rw[HH.b]at this;exact this
  have r3:w1.cell? ⟨R.blk,3,none⟩=some (.bool false):=by
   have:=aa (hs1.at HH.c id) 3 (v:=.bool R.closed) rfl;rw[HC.out]at this;exact this
  have HS:=qqH hs1;clear hs1;go_wp2_with fail;go_ret;exact ⟨rfl,HS.out⟩
 ·have HC:=qqH hc;have HT:=qqH (cz (ck 9) 9 w hE (.inr (.inl rfl)));clear hu hr hR hE hc;go_enter Tryz.func28,Tryz.ntmps28;go_wp2_with fail;refine HT.out.mono ?_;rintro e w1 ⟨rfl,hs1⟩
  have u2:w1.cell? ⟨ub,2,none⟩=some (.pointer (some ⟨R.blk,0,none⟩)):=by
   have:=aa (hs1.at HH.a id) 2 (v:=.pointer (some ⟨U.r,0,none⟩)) rfl;rw[HH.b]at this;exact this
  have r3:w1.cell? ⟨R.blk,3,none⟩=some (.bool true):=by
   have:=aa (hs1.at HH.c id) 3 (v:=.bool R.closed) rfl;rw[HC.out]at this;exact this
  have HS:=qqH hs1;clear hs1;go_wp2_with fail;go_ret;exact ⟨rfl,HS.out⟩
theorem gl(w0 W:World)(X:WS)(o:OpL)(h:WsOk w0 W X)(hk:o.kind=2\/o.kind=3\/o.kind=4\/o.kind=5\/o.kind=13)(hR:∀W',WsOk w0 W' X->Calls Tryz.prog 11 #[.pointer (some ⟨X.U.blk,0,none⟩),opA o] W' (jY w0 X)):
  Calls Tryz.prog 7 #[.pointer (some ⟨X.U.blk,0,none⟩),opA o] W (jY w0 X):=by
 have HH:=Hq2 h hR;obtain⟨ok,oa,ob_,oc,os,ot,odv,od⟩:=o;simp only at hk;clear h hR;unfold opA opV at *
 have hal:WsOk w0 (W.alloc (.cells #[.int .i64 ok,.int .i64 oa,.int .i64 ob_,.int .i64 oc,str os,str ot,odv] 41)) X:=HH.a.back (HH.a.turns.alloc _);have HA:=qqH (HH.z _ hal);clear hal;rcases hk with rfl|rfl|rfl|rfl|rfl
 all_goals
  go_enter Tryz.func7,Tryz.ntmps7;go_wp2_with fail;refine HA.out.mono ?_;rintro e w1 ⟨sp,ov,wv,D,rfl,hw⟩;have HW:=qqH hw;clear hw;go_wp2_with fail;go_ret;exact ⟨sp,ov,wv,D,rfl,HW.out⟩
def iX(S:AS)(L':DevL):AS:={ S with L:=L' }
def oX(S:AS):AS:={ S with X:={ S.X with closed:=true } }
theorem ArOk.flush{S:AS}{L':DevL}(h:ArOk S)(hf:jC S.L L'):ArOk (iX S L') where
 dev:=hf.1
 n16:=by show 16<=L'.n;rw[hf.2.1];exact h.n16
 nmax:=by show L'.n<=_;rw[hf.2.1];exact h.nmax
 area:=h.area
 first:=by show S.A.first=_;rw[h.first];show _=2+S.X.ep%2*ay L'.n;rw[hf.2.1]
 count:=by show S.A.count=ay L'.n;rw[hf.2.1];exact h.count
 end_:=h.end_
 tail:=h.tail
 dat:=by show ez L'.now S.A.first S.A.count S.data;rw[hf.2.2.1];exact h.dat
 paths:=h.paths
 tags:=h.tags
 chunks:=h.chunks
 kin:=h.kin
 kat:=h.kat
 vers:=h.vers
 some:=h.some
 sound:=h.sound
 ep:=h.ep
theorem ArOk.close{S:AS}(h:ArOk S):ArOk (oX S) where
 dev:=h.dev
 n16:=h.n16
 nmax:=h.nmax
 area:=h.area
 first:=h.first
 count:=h.count
 end_:=h.end_
 tail:=h.tail
 dat:=h.dat
 paths:=h.paths
 tags:=h.tags
 chunks:=h.chunks
 kin:=h.kin
 kat:=h.kat
 vers:=h.vers
 some:=h.some
 sound:=h.sound
 ep:=h.ep
theorem ArB.flush{S:AS}{L':DevL}{b:Nat}(h:ArB S b)(hf:jC S.L L'):ArB (iX S L') b where
 K:=h.K
 np:=h.np
 nt:=h.nt
 vers:=h.vers
 tags:=h.tags
 used:=h.used
 sc:=h.sc
 sb:=h.sb
 quota:=h.quota
 chs:=by show L'.chs.length<=_;rw[hf.2.2.2.2];simp
theorem ArB.close{S:AS}{b:Nat}(h:ArB S b):ArB (oX S) b where
 K:=h.K
 np:=h.np
 nt:=h.nt
 vers:=h.vers
 tags:=h.tags
 used:=h.used
 sc:=h.sc
 sb:=h.sb
 quota:=h.quota
 chs:=h.chs
theorem Link.flush{S:AS}{R:RefL}(L:Link S R)(L':DevL):Link (iX S L') R where
 closed:=L.closed
 quota:=L.quota
 used:=L.used
 vers:=L.vers
 sorted:=L.sorted
 asc:=L.asc
 each:=L.each
 tags:=L.tags
 tsort:=L.tsort
 teach:=L.teach
 held:=L.held
theorem Link.close{S:AS}{R:RefL}(L:Link S R):Link (oX S) { R with closed:=true } where
 closed:=rfl
 quota:=L.quota
 used:=L.used
 vers:=L.vers
 sorted:=L.sorted
 asc:=L.asc
 each:=L.each
 tags:=L.tags
 tsort:=L.tsort
 teach:=L.teach
 held:=L.held
def JM(w0:World)(X:WS)(e:Ending)(W':World):Prop :=
 e=.returned (.bool true)/\(WsOk w0 W' X\/∃L',jC X.S.L L'/\WsOk w0 W' { X with S:=iX X.S L' })
theorem WsOk.flush{w0 W W':World}{X:WS}(h:WsOk w0 W X){L':DevL}(hf:jC X.S.L L')(hT:Turns [] (wsF { X with S:=iX X.S L' }) w0 W'):WsOk w0 W' { X with S:=iX X.S L' } where
 turns:=hT
 a:=h.a
 r:=h.r
 d:=h.d
 ar:=h.ar.flush hf
 ref:=h.ref
 pok:=h.pok
 inp:=h.inp
 out:=h.out
 want:=h.want
 most:=h.most
 ms:=h.ms
 link:=h.link.flush L'
 olen:=h.olen
theorem uW(w0 W:World)(X:WS)(o:OpL)(b:Nat)(h:WsOk w0 W X)(hB:ArB X.S b)(hb:b<=90000)(hE:aW w0)(hk:o.kind=6):
  Calls Tryz.prog 7 #[.pointer (some ⟨X.U.blk,0,none⟩),opA o] W (JM w0 X):=by
 obtain⟨ok,oa,ob_,oc,os,ot,odv,od⟩:=o;simp only at hk;subst hk;have HH:=Hq4 h hB hb hE;clear h hB hb hE;unfold opA opV;go_enter Tryz.func7,Tryz.ntmps7;go_upto_region 38 with(fail);have hT1:=HH.a.turns.alloc (.cells #[.int .i64 6,.int .i64 oa,.int .i64 ob_,.int .i64 oc,str os,str ot,odv] 41);generalize W.alloc (.cells #[.int .i64 6,.int .i64 oa,.int .i64 ob_,.int .i64 oc,str os,str ot,odv] 41)=W1 at hT1 ⊢
 have u1:W1.cell? ⟨X.U.blk,1,none⟩=some (.pointer (some ⟨X.S.a,0,none⟩)):=by
  have:=aa hT1.sat.Q5 1 (v:=l7 X.U.a) rfl;rw[HH.a.a]at this;exact this
 have HT1:=qqH hT1;clear hT1;go_wp2_with fail;refine(te X.S b W1 HT1.out.sat.tail.left HH.a.ar HH.b HH.c).mono ?_;intro e W2 hp
 have key:∃(S':AS) (ev:Value),e=.returned ev/\((X.R.closed=false/\ev=.nilIface)\/(X.R.closed=true/\ev=ck 9))/\Turns (arF X.S) (arF S') W1 W2/\(S'=X.S\/∃L',jC X.S.L L'/\S'=iX X.S L'):=by
  rcases hp with⟨hc,rfl,hG⟩|⟨hc,rfl,L',hf,hG⟩
  ·exact⟨X.S,_,rfl,.inr ⟨by rw[HH.a.link.closed];exact hc,rfl⟩,hG,.inl rfl⟩
  ·exact⟨iX X.S L',_,rfl,.inl ⟨by rw[HH.a.link.closed];exact hc,rfl⟩,hG,.inr ⟨L',hf,rfl⟩⟩
 obtain⟨S',ev,rfl,hev,hG,hS⟩:=key
 have hT2:Turns [] ((X.U.blk,Is (az X.U))::(arF S'++(aI X.R++aV X))) w0 W2:=by
  have:=HT1.out;unfold wsF at this;exact((this.to (H:=arF X.S++((X.U.blk,Is (az X.U))::(aI X.R++aV X))) ac).step (Perm.refl _) hG).to ac
 have HEn:=qqH (kf X.U.blk X.U X.R ev W2 hT2.sat.Q5 HH.a.r (hT2.sat.Q7 (by unfold aI;simp)) (HH.x.keep hT2.mods (fun h=>by simp at h)) hev);have HT2:=Hq2 hT2 hS;clear hp hev hG hS hT2;go_wp2_with fail;refine HEn.out.mono ?_;rintro e W3 ⟨rfl,hs3⟩;have HT3:=qqH (HT2.a.Q9 hs3);clear hs3;go_wp2_with fail;go_ret;refine ⟨rfl,?_⟩;rcases HT2.z with hS|⟨L',hf,hS⟩
 ·have h3:=HT3.out;rw[hS]at h3;exact .inl (HH.a.back h3)
 ·have h3:=HT3.out;rw[hS]at h3;exact .inr ⟨L',hf,HH.a.flush hf h3⟩
structure StoredIn (X:WS) (just:Bool):Prop where
 len:X.R.vs.length<=100000
 cl:∀j,j<=X.R.vs.length->(cB (X.R.vs.take j)).length<=700000
 ml:X.M.length<=800000
 mb:∀x∈X.M,x.bs.length<=1000000
 lo:((cB X.R.vs).length:Int)<=X.S.X.sc/\(fB (cB X.R.vs):Int)<=X.S.X.sb
 eq:just=true->X.S.X.sc=(cB X.R.vs).length/\X.S.X.sb=fB (cB X.R.vs)
 hi:just=false->X.S.X.sc<=X.M.length/\X.S.X.sb<=fB (X.M.map (·.bs))
theorem nC(w0 W:World)(X:WS)(just:Bool)(h:WsOk w0 W X)(hE:aW w0)(hc:X.R.closed=true):
  Calls Tryz.prog 8 #[.pointer (some ⟨X.U.blk,0,none⟩),.bool just] W (fun e w'=>e=.returned (.bool true)/\aQ W w'):=by
 have hcl:X.S.X.closed=true:=by rw[<- h.link.closed];exact hc
 have u1:W.cell? ⟨X.U.blk,1,none⟩=some (.pointer (some ⟨X.S.a,0,none⟩)):=by
  have:=aa h.turns.sat.Q5 1 (v:=l7 X.U.a) rfl;rw[h.a]at this;exact this
 have hU:=h.turns.sat.Q5;have hR:W.heap[X.R.blk]?=some (fQ X.R):=h.Qm.Q5;have hA:W.heap[X.S.a]?=some (aJ X.S.X):=h.Qq.Q5;have HS:=qqH (og X.S.a X.S.X W hA hcl);have HH:=Hq5 h hE hU hR hc;have hul:=ae hU;clear h hE hU hR hA hc hcl;go_enter Tryz.func8,Tryz.ntmps8;go_wp2_with fail;refine HS.out.mono ?_;rintro e w1 ⟨rfl,hs1⟩;have H1:=qqH hs1;clear hs1 u1;go_upto_region 2 with(fail);obtain⟨t,ht⟩:∃t,t=w1.heap.size:=⟨_,rfl⟩;rw[<- ht];have hT2:=(HH.a.turns.Q9 H1.out).Q8 (.cells #[.int .i64 0,.int .i64 0] 28 (0,0));rw[<- ht]at hT2;have hs2:=Mods.alloc H1.out (.cells #[.int .i64 0,.int .i64 0] 28 (0,0));generalize w1.alloc (.cells #[.int .i64 0,.int .i64 0] 28 (0,0))=w2 at hT2 hs2 ⊢;have HE:=qqH (cz (ck 9) 9 w2 (HH.b.keep hT2.mods (fun h=>by simp at h)) (.inr (.inl rfl)));have HT2:=qqH hT2;clear hT2 ht;go_wp2_with fail;refine HE.out.mono ?_;rintro e w3 ⟨rfl,hs3⟩;have hT3:=HT2.out.Q9 hs3;have hr3:w3.heap[X.R.blk]?=some (fQ X.R):=hT3.sat.tail.tail.right.left.Q5;have r3:w3.cell? ⟨X.R.blk,3,none⟩=some (.bool X.R.closed):=aa hr3 3 rfl;rw[HH.w]at r3
 have u2:w3.cell? ⟨X.U.blk,2,none⟩=some (.pointer (some ⟨X.R.blk,0,none⟩)):=by
  have:=aa hT3.sat.tail.Q5 2 (v:=.pointer (some ⟨X.U.r,0,none⟩)) rfl;rw[HH.a.r]at this;exact this
 have t0:w3.cell? ⟨t,0,none⟩=some (.int .i64 0):=aa hT3.sat.Q5 0 rfl;have t1:w3.cell? ⟨t,1,none⟩=some (.int .i64 0):=aa hT3.sat.Q5 1 rfl;have HT3:=Hq2 hT3 hs3;clear hT3 hs3 hr3;go_wp2_with fail;go_ret;exact ⟨rfl,hs2.trans HT3.z⟩
theorem nH.val{R:RefL}{P:eO}{w:World}{x:SlB}(hx:nH R x)(h:RefAt R P w):∃s c,x.val=.slice s x.bs.length c/\x.bs.length<=1000000:=by
 obtain⟨s,c,e,-⟩:=hx.at h;obtain⟨u,hu,-,-,-,-,-,-,-,k,-,-,-,h3⟩:=hx;have:=h.clen u hu;exact⟨s,c,e,by omega⟩
theorem qC(w0 W:World)(X:WS)(just:Bool)(h:WsOk w0 W X)(hE:aW w0)(hc:X.R.closed=false)(hi:StoredIn X just):
  Calls Tryz.prog 8 #[.pointer (some ⟨X.U.blk,0,none⟩),.bool just] W (fun e w'=>e=.returned (.bool true)/\aQ W w'):=by
 have hcl:X.S.X.closed=false:=by rw[<- h.link.closed];exact hc
 have u1:W.cell? ⟨X.U.blk,1,none⟩=some (.pointer (some ⟨X.S.a,0,none⟩)):=by
  have:=aa h.turns.sat.Q5 1 (v:=l7 X.U.a) rfl;rw[h.a]at this;exact this
 have hU:=h.turns.sat.Q5;have hR:=h.refAt hi.len;have hA:W.heap[X.S.a]?=some (aJ X.S.X):=h.Qq.Q5;obtain⟨sc,hsc⟩:∃z,z=X.S.X.sc:=⟨_,rfl⟩;obtain⟨sb,hsb⟩:∃z,z=X.S.X.sb:=⟨_,rfl⟩;have hS:=rB X.S.a X.S.X W hA hcl;unfold sY at hS;rw[<- hsc,<- hsb]at hS;have HS:=qqH hS;have HI:=Hq3 hi hsc hsb;have HH:=Hq5 h hE hU hR hc;have hul:=ae hU;clear h hE hU hR hA hc hcl hS hi hsc hsb;go_enter Tryz.func8,Tryz.ntmps8;go_wp2_with fail;refine HS.out.mono ?_;rintro e w1 ⟨rfl,hs1⟩;have H1:=qqH hs1;clear hs1 u1;go_upto_region 2 with(fail);obtain⟨t,ht⟩:∃t,t=w1.heap.size:=⟨_,rfl⟩;rw[<- ht];have hT2:=(HH.a.turns.Q9 H1.out).Q8 (.cells #[.int .i64 sc,.int .i64 sb] 28 (0,0));rw[<- ht]at hT2;have hs2:=Mods.alloc H1.out (.cells #[.int .i64 sc,.int .i64 sb] 28 (0,0));generalize w1.alloc (.cells #[.int .i64 sc,.int .i64 sb] 28 (0,0))=w2 at hT2 hs2 ⊢;have HE:=qqH (cz .nilIface 0 w2 (HH.b.keep hT2.mods (fun h=>by simp at h)) (.inl ⟨rfl,rfl⟩));have HT2:=Hq2 hT2 hs2;clear hT2 ht hs2;go_wp2_with fail;refine HE.out.mono ?_;rintro e w3 ⟨rfl,hs3⟩;have hT3:=HT2.a.Q9 hs3;have hr3:w3.heap[X.R.blk]?=some (fQ X.R):=hT3.sat.tail.tail.right.left.Q5;have r3:w3.cell? ⟨X.R.blk,3,none⟩=some (.bool X.R.closed):=aa hr3 3 rfl;rw[HH.w]at r3
 have u2:w3.cell? ⟨X.U.blk,2,none⟩=some (.pointer (some ⟨X.R.blk,0,none⟩)):=by
  have:=aa hT3.sat.tail.Q5 2 (v:=.pointer (some ⟨X.U.r,0,none⟩)) rfl;rw[HH.a.r]at this;exact this
 have hra:=HH.d.same (HT2.z.trans hs3);have HC:=Hq2 (oC X.R X.P w3 hra HI.a.cl) hra;have HT3:=Hq2 hT3 (HT2.z.trans hs3);clear hT3 hs3 hr3 hra;go_wp2_with fail;refine HC.a.mono ?_;rintro e w4 ⟨v8,M8,rfl,ok8,hM8,hin8,hT8⟩;obtain⟨sl8,cap8,rfl,hc8,hc8b,hcells8⟩:=kp hT8.sat ok8;have hra4:=HC.z.same hT8.news;have hm8:M8.length=(cB X.R.vs).length:=by rw[<- hM8,length_map]
 have hlen8:M8.length<=800000:=by
  have h1:=HI.a.cl X.R.vs.length (Nat.le_refl _);rw[take_length]at h1;omega
 have HZ:=qqH (r8 sl8 cap8 M8 w4 hcells8 (fun x hx=>(hin8 x hx).val hra4) (by omega));have hT4:=HT3.a.Q9 hT8.news;have HT4:=Hq2 hT4 (HT3.z.trans hT8.news);have H8:=Hq2 hM8 hm8;clear hM8 hin8 hT8 hra4 hT4 hcells8 ok8 hm8 u2 r3;go_wp2_with fail;refine HZ.out.mono ?_;rintro e w5 ⟨rfl,hs5⟩;have hT5:=HT4.a.Q9 hs5;obtain⟨msl,mcap,hme,hmc,hmc9,hmcells⟩:=kp (hT5.sat.tail.tail.right.right.right.left) HH.a.most
 have u5:w5.cell? ⟨X.U.blk,5,none⟩=some (.slice msl X.M.length mcap):=by
  have:=aa hT5.sat.tail.Q5 5 (v:=X.U.most) rfl;rw[hme]at this;exact this
 have hz2:=r8 msl mcap X.M w5 hmcells (fun x hx=>by
  obtain⟨s,c,e,-⟩:=(HH.a.ms x hx).at hT5 hT5.sat.tail.tail.right.right.left HH.a.pok;exact⟨s,c,e,HI.a.mb x hx⟩) (by have:=HI.a.ml;omega)
 have HZ2:=qqH hz2;have HME:=qqH hme;have hml:=HI.a.ml;have HT5:=Hq2 hT5 (HT4.z.trans hs5);clear hT5 hs5 hme hmcells hz2;go_wp2_with fail;refine HZ2.out.mono ?_;rintro e w6 ⟨rfl,hs6⟩;have hT6:=HT5.a.Q9 hs6;have t0:w6.cell? ⟨t,0,none⟩=some (.int .i64 sc):=aa hT6.sat.Q5 0 rfl;have t1:w6.cell? ⟨t,1,none⟩=some (.int .i64 sb):=aa hT6.sat.Q5 1 rfl;have htl:=ae hT6.sat.Q5
 have u6:w6.cell? ⟨X.U.blk,5,none⟩=some (.slice msl X.M.length mcap):=by
  have:=aa hT6.sat.tail.Q5 5 (v:=X.U.most) rfl;rw[HME.out]at this;exact this
 have hul6:=ae hT6.sat.tail.Q5;have HT6:=qqH (HT5.z.trans hs6);have hlo:=HI.a.lo;have heq:=HI.a.eq;have hhi:=HI.a.hi;rw[<- HI.b,<- HI.y,<- H8.a,length_map]at hlo heq;rw[<- HI.b,<- HI.y]at hhi;obtain⟨c8,hc8'⟩:∃z,z=M8.length:=⟨_,rfl⟩;obtain⟨l8,hl8'⟩:∃z,z=fB (M8.map (·.bs)):=⟨_,rfl⟩;obtain⟨m,hm'⟩:∃z,z=X.M.length:=⟨_,rfl⟩;obtain⟨l9,hl9'⟩:∃z,z=fB (X.M.map (·.bs)):=⟨_,rfl⟩;rw[<- hc8',<- hl8']at hlo heq;rw[<- hm',<- hl9']at hhi;rw[<- hm']at u6 hml hmc;rw[<- hc8']at hc8 hlen8;rw[<- hc8',<- hl8',<- hl9'];have k1:¬(sc<(c8:Int)):=by omega
 have k2:¬(sb<(l8:Int)):=by omega
 clear hT6 hs6 hc8' hl8' hm' hl9' u5 hlo
 cases just with
 | true =>
  obtain⟨rfl,rfl⟩:=heq rfl;clear heq hhi;go_wp2_with fail;go_ret;exact ⟨rfl,HT6.out⟩
 | false =>
  obtain⟨k3,k4⟩:=hhi rfl;clear heq hhi;go_wp2_with fail;go_quiet (fail);go_wp2_with fail;go_ret;exact ⟨rfl,HT6.out.drewN _⟩
theorem ro(w0 W:World)(X:WS)(o:OpL)(h:WsOk w0 W X)(hE:aW w0)(hk:o.kind=15)(hi:X.R.closed=false->StoredIn X false):
  Calls Tryz.prog 7 #[.pointer (some ⟨X.U.blk,0,none⟩),opA o] W (fun e W'=>e=.returned (.bool true)/\WsOk w0 W' X):=by
 obtain⟨ok,oa,ob_,oc,os,ot,odv,od⟩:=o;simp only at hk;subst hk;have HH:=Hq3 h hE hi;clear h hE hi;unfold opA opV;go_enter Tryz.func7,Tryz.ntmps7;go_upto_region 46 with(fail);have hT1:=HH.a.turns.alloc (.cells #[.int .i64 15,.int .i64 oa,.int .i64 ob_,.int .i64 oc,str os,str ot,odv] 41);generalize W.alloc (.cells #[.int .i64 15,.int .i64 oa,.int .i64 ob_,.int .i64 oc,str os,str ot,odv] 41)=W1 at hT1 ⊢;have h1:WsOk w0 W1 X:=HH.a.back hT1
 have HS:Hid (Calls Tryz.prog 8 #[.pointer (some ⟨X.U.blk,0,none⟩),.bool false] W1 (fun e w'=>e=.returned (.bool true)/\aQ W1 w')):=qqH (by
  cases hc:X.R.closed with
  | true=>exact nC w0 W1 X false h1 HH.b hc
  | false=>exact qC w0 W1 X false h1 HH.b hc (HH.y hc))
 have H1:=qqH h1;clear h1 hT1;go_wp2_with fail;refine HS.out.mono ?_;rintro e W2 ⟨rfl,hs2⟩;have H2:=qqH (H1.out.back (H1.out.turns.Q9 hs2));clear hs2;go_wp2_with fail;go_ret;exact ⟨rfl,H2.out⟩
end
section
open Go.RowKit
def nu(u:Nat×Nat):List Value:=[.int .u32 u.1,.int .u32 u.2]
def gG(v:Value)(l:List (Nat×Nat)):HF:=bK 179 2 v l.length (l.flatMap nu)
def xK(v:Value)(l:List (Nat×Nat)):Prop:=et 2 v l.length (l.flatMap nu)
def lE(us:Nat->Option (Nat×Nat))(k:Nat):List (Nat×Nat):=(range k).filterMap us
def iM(e wh:Nat):Obj:=.cells #[.int .u32 e,.int .u32 wh] 179 (0,0)
theorem Km:(Tryz.prog.info? 179).map (fun i=>(i.zero,i.size,i.bytes))=some (some (.agg #[.int .u32 0,.int .u32 0]),2,8):=by kernel_rfl
theorem Jr(l:List (Nat×Nat)):(l.flatMap nu).length=l.length*2:=by
 induction l with
 | nil=>rfl
 | cons a r ih=>rw[flatMap_cons,length_append,ih];simp[nu];omega
theorem zi{o:Oper}{a:Act}{w a0:World}{K:Act->World->Prop}{Q:Exit->Act->World->Prop}{F G:HF}(s x:Operand)(hop:o.op=.call { callee:=.builtin .append,args:=#[s,x],argTypes:=#[175,175] })(v:Value)(l:List (Nat×Nat))(hs:a.eval s=v)(hT:Turns F (gG v l++G) a0 w)(hok:xK v l)(sa:Option Addr)(m c:Nat)(hx:a.eval x=.slice sa m c)(r:List (Nat×Nat))(hm:m=r.length)(hc:0<m->∃ad,sa=some ad/\∀j u,(r.flatMap nu)[j]?=some u->w.cell? (ad.add j)=some u)(hb:l.length+r.length<=1000000)(hk:∀v' w',xK v' (l++r)->Turns F (gG v' (l++r)++G) a0 w'->K (a.put o.dst v') w'):o.wp Tryz.prog a w K Q:=by
 obtain⟨i0,hi0,hz1,hz2,hz3⟩:=info_parts Km;refine cV s x 175 179 i0 (.agg #[.int .u32 0,.int .u32 0]) 2 8 hop Tryz.underlying175 hi0 hz1 hz2 hz3 rfl (by decide) v l.length (l.flatMap nu) hs hT hok sa m c hx (r.flatMap nu) (by rw[Jr,hm]) hc (fun u hu=>?_) (by unfold maxLen;omega) (by omega) (fun v' w' h1 h2 h3=>?_)
 ·obtain⟨q,-,hq⟩:=mem_flatMap.1 hu;simp only[nu,mem_cons,not_mem_nil,or_false]at hq;rcases hq with rfl|rfl<;>rfl
 ·exact hk v' w' (by unfold xK;rw[length_append,flatMap_append,<- hm];exact h1) (by unfold gG;rw[length_append,flatMap_append,<- hm];exact h2)
theorem wG(a b:Nat)(ha:a*256+b<4294967296)(hb:b<256):bits BinOp.or IntKind.u32 ((a:Int)*256) (b:Int)=((a*256+b:Nat):Int):=by
 have e1:(BitVec.ofInt 32 ((a:Int)*256)).toNat=a*256:=by
  rw[show((a:Int)*256)=((a*256:Nat):Int) by omega,BitVec.ofInt_natCast,BitVec.toNat_ofNat];exact Nat.mod_eq_of_lt (by omega)
 have e2:(BitVec.ofInt 32 (b:Int)).toNat=b:=by rw[BitVec.ofInt_natCast,BitVec.toNat_ofNat];exact Nat.mod_eq_of_lt (by omega)
 show IntKind.u32.wrap ((BitVec.ofInt 32 ((a:Int)*256) ||| BitVec.ofInt 32 (b:Int)).toNat:Int)=_
 have e3:a*256 ||| b=a*256+b:=by
  have:=Nat.two_pow_add_eq_or_of_lt (i:=8) hb a;rw[show(256:Nat)=2 ^ 8 from rfl,Nat.mul_comm];exact this.symm
 rw[BitVec.toNat_or,e1,e2,e3];unfold IntKind.wrap;simp[IntKind.bits,IntKind.signed];omega
theorem Ka{o:Oper}{a:Act}{w:World}(b:BinOp)(t:TypeId)(x y:Operand)(ty:TypeId)(ho:o.op=.binOp b t x y ty)(hg:Tryz.prog.eqGuardType Tryz.prog.depth t=false)(A B:Array Value)(v:Value)(hn:(binOp b t (.agg A) (.agg B)).run Tryz.prog w=.ok v w)(hx:a.eval x=.agg A)(hy:a.eval y=.agg B):(execOp a.eval o).run Tryz.prog w=.ok (.value v) w:=by
 unfold execOp;simp only[ho,hx,hy,Sem.run_bind,lh hg,Result.andThen_ok,hn,Sem.run_pure]
theorem wrap_u32{n:Int}(h1:0<=n)(h2:n<4294967296):IntKind.u32.wrap n=n:=by
 unfold IntKind.wrap;simp[show IntKind.u32.bits=32 from rfl,show IntKind.u32.signed=false from rfl];omega
theorem BL{t:TypeId}(e:Nat)(he:e<4294967296)(w:World):(binOp .rem t (.int .u32 e) (.int .u32 2)).run Tryz.prog w=.ok (.int .u32 ((e%2:Nat):Int)) w:=by
 have h1:(e:Int).tmod 2=((e%2:Nat):Int):=by
  rw[Int.tmod_eq_emod_of_nonneg (by omega)];omega
 have h2:IntKind.u32.wrap ((e:Int).tmod 2)=((e%2:Nat):Int):=by rw[h1,wrap_u32 (by omega) (by omega)]
 simp[binOp,Op.intDiv,h1]
theorem DW(k:Nat)(hk:k<4294967296)(w:World):(convert 3 57 (.int .i64 k)).run Tryz.prog w=.ok (.int .u32 k) w:=by
 simp[convert,run_underlying Tryz.underlying3,run_underlying Tryz.underlying57,Conv.intToInt,wrap_u32 (show(0:Int)<=k by omega) (by omega)]
theorem Gu{t:TypeId}(a b:Nat)(w:World):(binOp .eql t (.int .u32 a) (.int .u32 b)).run Tryz.prog w=.ok (.bool (decide (a=b))) w:=by
 simp[binOp,Op.intCmp];rw[Bool.eq_iff_iff];simp;omega
def jz:List (Nat×Nat)->List (Nat×Nat)
 | [u,v]=>if u.1<v.1 then[v,u]else[u,v]
 | l=>l
theorem vh{o:Oper}{a:Act}{w a0:World}{K:Act->World->Prop}{Q:Exit->Act->World->Prop}{F G:HF}(x y:Operand)(ho:o.op=.store 179 x y)(g cap j:Nat)(p q u:Nat×Nat)(hT:Turns F (gG (.slice (some ⟨g,0,none⟩) 2 cap) [p,q]++G) a0 w)(hj:j<2)(hx:a.eval x=.pointer (some ⟨g,j*2,none⟩))(hy:a.eval y=.agg #[.int .u32 u.1,.int .u32 u.2])(hk:∀w',Turns F (gG (.slice (some ⟨g,0,none⟩) 2 cap) ([p,q].set j u)++G) a0 w'->K (a.put o.dst undef) w'):o.wp Tryz.prog a w K Q:=by
 obtain⟨φ,hφ⟩:∃φ:List (Nat×Nat)->Obj->Prop,φ=fun l ob=>∃c cur,Value.slice (some ⟨g,0,none⟩) 2 cap=.slice (some ⟨g,0,none⟩) l.length c/\ob=.cells cur 179 (0,0)/\l.length<=c/\c<=maxLen/\cur.size=c*2/\cur.toList.take (l.length*2)=l.flatMap nu:=⟨_,rfl⟩
 have e:∀l,gG (.slice (some ⟨g,0,none⟩) 2 cap) l=[(g,φ l)]:=fun l=>by rw[hφ];rfl
 rw[e]at hT;have hT:Turns F ((g,φ [p,q])::G) a0 w:=hT;obtain⟨ob,hg,hp⟩:=hT.sat.head;rw[hφ]at hp;obtain⟨c,cur,he,rfl,h1,h2,h3,h4⟩:=hp;obtain⟨C,rfl⟩:∃C:List Value,cur=C.toArray:=⟨cur.toList,by simp⟩;simp only[size_toArray]at h3;have h4:C.take 4=[.int .u32 p.1,.int .u32 p.2,.int .u32 q.1,.int .u32 q.2]:=h4;have h1:2<=c:=h1;obtain⟨q1,q2⟩:=fq hg (j*2) [.int .u32 u.1,.int .u32 u.2] (by simp;omega);refine wp_store_mid 179 x y ho g (j*2) #[.int .u32 u.1,.int .u32 u.2] hx hy (dr hg _ _ (by simp;omega)) (by kernel_rfl) (by simp[Value.oneCell']) (hk _ ?_);rw[e];refine hT.put q2 q1 ?_;have hl:([p,q].set j u).length=2:=by simp
 rw[hφ];show ∃c cur,_/\_/\_/\_/\_/\_;rw[hl];have hC:C=[.int .u32 p.1,.int .u32 p.2,.int .u32 q.1,.int .u32 q.2]++C.drop 4:=by rw[<- h4,take_append_drop]
 refine⟨c,_,he,rfl,h1,h2,?_,?_⟩
 ·rw[<- h3];simp[spl];omega
 ·rw[hC];rcases(by omega:j=0\/j=1)with rfl|rfl<;>simp[spl,nu]
theorem qx{W:World}{g cap:Nat}{p q:Nat×Nat}(h:Sat W (gG (.slice (some ⟨g,0,none⟩) 2 cap) [p,q]))(j:Nat)(v:Value)(hj:j<4)(hv:[Value.int .u32 p.1,.int .u32 p.2,.int .u32 q.1,.int .u32 q.2][j]?=some v):W.cell? ⟨g,j,none⟩=some v:=by
 obtain⟨ob,hg,c,cur,-,rfl,-,-,-,h6⟩:=h.head;have h6:cur.toList.take 4=[.int .u32 p.1,.int .u32 p.2,.int .u32 q.1,.int .u32 q.2]:=h6;refine aa hg j ?_;rw[<- Array.getElem?_toList,<- hv,<- h6,getElem?_take,if_pos hj]
def tf(us:Nat->Option (Nat×Nat))(z:Bool)(w:World)(e:Ending)(w':World):Prop :=
 ∃v,e=.returned (.tuple #[v,.bool z,.nilIface])/\xK v (jz (lE us 2))/\Turns [] (gG v (jz (lE us 2))) w w'
def JP(us:Nat->Option (Nat×Nat))(now:Bs)(w:World)(l em i:Value)(W:World):Prop :=
 ∃(k:Nat) (J:HF),k<=2/\i=.int .i64 k/\xK l (lE us k)/\em=.bool (cD now k)/\Turns [] (gG l (lE us k)++J) w W
def wn(now:Bs)(us:Nat->Option (Nat×Nat))(k:Nat):Prop :=
 (us k=none/\ce (aM now k)=none)\/(∃e wh,us k=some (e,wh)/\aM now k=cH e wh/\e%2=k/\e<4294967296/\wh<4294967296)
theorem GN(us:Nat->Option (Nat×Nat))(k:Nat):lE us (k+1)=lE us k++(us k).toList:=by
 unfold lE;rw[range_succ,filterMap_append]
 cases h:us k<;>simp[h]
theorem xh(e wh:Nat):ce (cH e wh)=some (77,bG e wh,17):=by
 unfold cH;rw[jt 77 _ _ (by decide) (by rw[cn];omega),cn]
theorem D6(e wh:Nat):cH e wh≠am 128:=fun h=>by
 have h1:=xh e wh
 rw[h,rU]at h1
 cases h1
def rZ(ub:Nat):Obj:=.cells #[.pointer (some ⟨ub,0,none⟩),.pointer (some ⟨ub,1,none⟩)] 237 (0,0)
def zw(G:HF)(ub j x e:Nat)(w:World)(i:Value)(W:World):Prop :=
 ∃m:Nat,m<=4/\i=.int .i64 m/\Turns [] ((ub,Is (if j=0 then iM (bz ((be x 4).take m)) 0 else iM e (bz ((be x 4).take m))))::G) w W
def Hf(G:HF)(ub e wh:Nat)(w:World)(i:Value)(W:World):Prop :=
 ∃j:Nat,j<=2/\i=.int .i64 j/\Turns [] ((ub,Is (iM (if j=0 then 0 else e) (if j<=1 then 0 else wh)))::G) w W
theorem vf(us:Nat->Option (Nat×Nat))(k:Nat):(lE us k).length<=k:=by
 have:=length_filterMap_le us (range k);rw[length_range]at this;exact this
theorem D8(d:Nat)(L:DevL)(us:Nat->Option (Nat×Nat))(w:World)(h:Sat w (aD d L))(hL:DevOk L)(hn:16<=L.n)(hU:∀k,k<2->wn L.now us k):
  Calls Tryz.prog 80 #[.pointer (some ⟨d,0,none⟩)] w (tf us (cD L.now 2) w):=by
 have HZ:=qqH nX;have HC:Hid (∀(k:Nat) (W:World),k<2->aQ w W->Calls Tryz.prog 115 #[.pointer (some ⟨d,0,none⟩),.int .i64 k] W (jZ L k W)):=qqH (fun k W hk hW=>lI d L k W (h.same hW) hL (by omega));have HL:Hid (∀k,k<2->(aM L.now k).length=128):=qqH (fun k hk=>iE hL.nowL (by omega));have HU:=qqH hU;clear h hL hU;go_enter Tryz.func80,Tryz.ntmps80;go_wp2_with fail;go_loopw [2,3,16] (fun l em i wr=>JP us L.now w l em i wr) (fun _ _ i _=>2-(intOf i).toNat)
 case atStart=>exact⟨0,[],by omega,rfl,⟨rfl,fun _=>⟨rfl,rfl⟩⟩,by rw[qD],Turns.refl (Sat.nil w)⟩
 case round =>
  obtain⟨k,J,hk,rfl,hlo,rfl,hT⟩:=hrel;by_cases hlt:k<2
  ·have HR:=qqH (HC.out k wr hlt hT.news);have HL':=qqH (HL.out k hlt);have HZ0:=qqH (sk (l:=L.now) (k:=k));have HZ1:=qqH (vo (l:=L.now) (k:=k));have HUk:=qqH (HU.out k hlt);have hsu:=GN us k;unfold jZ at HR;unfold wn at HUk;obtain⟨s,hse⟩:∃s,s=aM L.now k:=⟨_,rfl⟩;obtain⟨z,hz⟩:∃z,z=cD L.now k:=⟨_,rfl⟩;obtain⟨z1,hz1⟩:∃z,z=cD L.now (k+1):=⟨_,rfl⟩;rw[<- hse]at HR HL' HZ0 HZ1 HUk;rw[<- hz,<- hz1]at HZ0;rw[<- hz1]at HZ1;rw[<- hz];have H1:=Hq4 hz1 hlo hT hsu;clear hT hlo HC HL hse hz hz1 hsu;go_wp2_with fail;refine HR.out.mono ?_;rintro e w2 ⟨rfl,hs2⟩;have hb:=aK w2 (.cells (aw (am 128)) 121);obtain⟨q1,q2⟩:=dJ hb (s:=s) (by rw[HL'.out,an]);have hTs:Turns [] ((w2.heap.size,Is (.cells (aw s) 121 (0,0)))::(gG u2 (lE us k)++J)) w ((w2.alloc (.cells (aw (am 128)) 121)).setCells w2.heap.size 0 (s.map al)):=((H1.c.Q9 hs2).Q8 (.cells (aw (am 128)) 121)).Qa q2 q1;have hth:(w2.alloc (.cells (aw (am 128)) 121)).there w2.heap.size 0 (aw s).size:=by rw[bN,HL'.out];exact fL hb 0 128 (by rw[an];omega)
   have hrg:((w2.alloc (.cells (aw (am 128)) 121)).setCells w2.heap.size 0 (s.map al)).rangeAt w2.heap.size 0 (s.map al):=by
    have:=ex q1 0 128;rwa [drop_zero,take_of_length_le (by rw[HL'.out];omega)]at this
   have HN:=qqH (fun W=>EK s (am 128) HL'.out (an _) W);obtain⟨W4,hW4⟩:∃W,(w2.alloc (.cells (aw (am 128)) 121)).setCells w2.heap.size 0 (s.map al)=W:=⟨_,rfl⟩;rw[hW4]at q1 hTs hrg;have H3:=Hq3 q1 hTs hrg;have HT:=qqH hth;have HW:=qqH hW4;have hb6l:w2.heap.size<W4.heap.size:=ae q1;clear q1 q2 hb hTs hs2 hth hrg hW4;have hz:=nY
   have hop:Calls Tryz.prog 110 #[.slice (some ⟨w2.heap.size,0,none⟩) 128 128] W4 (er (some ⟨w2.heap.size,0,none⟩) s W4):=by
    have:=ji (some ⟨w2.heap.size,0,none⟩) 128 s W4 (fun hp=>⟨w2.heap.size,0,rfl,fun j hj=>by rw[Nat.zero_add];exact aa H3.a j (by rw[gi s j (by simpa using hj)];simp)⟩) (by rw[HL'.out];omega) (by rw[HL'.out];omega);rwa [HL'.out]at this
   rcases HUk.out with⟨huk,hno⟩|⟨e,wh,huk,hsu,hek,he,hwh⟩
   ·unfold er at hop;rw[hno]at hop;have HP:=qqH hop;have HK:=qqH huk;clear hop hno huk;go_wp2_with (first|(refine wpList_store_mid rfl 121 (.tmp 6) (.tmp 23) rfl w2.heap.size 0 (aw s) rfl rfl HT.out (iD HL'.out) (c9 _) ?_;change wpList _ _ _ _ _ (World.setCells (w2.alloc (.cells (aw (am 128)) 121)) w2.heap.size 0 (s.map al));rw[HW.out])|(refine wpList_load_mid rfl 121 (.tmp 6) rfl w2.heap.size 0 rfl (s.map al) _ H3.y Tryz.underlying121 rfl (iC HL'.out) ?_)|(refine bV rfl 121 #[] rfl (aw (am 128)) HZ.out ?_)|(refine px rfl .neq 121 (.tmp 28) (.tmp 29) _ rfl qf _ _ (.bool (!decide (s=am 128))) (HN.out _) rfl rfl ?_))
    all_goals
     first
     | (
      have hne:s≠am 128:=by
       have:(!decide (s=am 128))=true:=by assumption
       simpa using this
      have HE:=qqH (HZ1.out hne))
     | (
      have hne:s=am 128:=by
       have:(!decide (s=am 128))=false:=by assumption
       simpa using this
      have HE:=qqH (HZ0.out hne))
     clear hne;refine HP.out.mono ?_;rintro e w5 ⟨rfl,hs5⟩;have H5:=qqH (H3.b.Q9 hs5);clear hs5;go_wp2_with fail;go_roundw
     case rel=>exact⟨k+1,(w2.heap.size,Is (.cells (aw s) 121 (0,0)))::J,by omega,by go_num,by rw[H1.x,HK.out];simpa using H1.b,by rw[<- H1.a,HE.out],by rw[H1.x,HK.out];exact H5.out.to (by simp only[Option.toList_none,append_nil];exact ac)⟩
     case measure=>simp[intOf];omega
   ·have hop2:ce s=some (77,bG e wh,17):=by rw[hsu];exact xh e wh
    have hne:s≠am 128:=by rw[hsu];exact D6 e wh
    have HE:=qqH (HZ1.out hne);have hne2:(!decide (s=am 128))=true:=by simp[hne]
    have HNE:=qqH hne2;unfold er at hop;rw[hop2]at hop;have HP:=qqH hop;have HK:=Hq3 huk hsu hek;have hbl:=cn e wh;clear hop hop2 huk hsu hek hne hne2;go_wp2_with (first|(refine wpList_store_mid rfl 121 (.tmp 6) (.tmp 23) rfl w2.heap.size 0 (aw s) rfl rfl HT.out (iD HL'.out) (c9 _) ?_;change wpList _ _ _ _ _ (World.setCells (w2.alloc (.cells (aw (am 128)) 121)) w2.heap.size 0 (s.map al));rw[HW.out])|(refine wpList_load_mid rfl 121 (.tmp 6) rfl w2.heap.size 0 rfl (s.map al) _ H3.y Tryz.underlying121 rfl (iC HL'.out) ?_)|(refine bV rfl 121 #[] rfl (aw (am 128)) HZ.out ?_)|(refine px rfl .neq 121 (.tmp 28) (.tmp 29) _ rfl qf _ _ (.bool true) ((HN.out _).trans (by rw[HNE.out])) rfl rfl ?_));refine HP.out.mono ?_;rintro e5 w5 ⟨a2,rfl,hb2,ha2,hs5⟩;rw[hbl];obtain⟨g2,off2,hg2,hc2⟩:=hb2 (by rw[length_map,hbl];omega);subst hg2;obtain⟨y2,hy2,hgy⟩:=ha2 _ rfl;simp only[Option.some.injEq]at hy2;subst hy2;simp only at hgy;subst hgy;have H5:=Hq2 (H3.b.Q9 hs5) hc2;clear hb2 ha2 hs5 hc2;have hk77:(((77:UInt8).toNat:Nat):Int)=77:=rfl;rw[hk77];go_wp2_with fail;obtain⟨b6,hb6⟩:∃b6,b6=w2.heap.size:=⟨_,rfl⟩
    have hby:∀(q:Nat) (hq:q<8) (W:World),W.heap[b6]?=some (.cells (aw s) 121 (0,0))->W.cell? ⟨b6,off2+q,none⟩=some (.int .u8 (((bG e wh)[q]'(by rw[hbl];exact hq)).toNat:Int)):=fun q hq W hW=>by
     have h1:=H5.z q (by rw[length_map,hbl];exact hq);rw[getElem_map]at h1;rw[hb6]at hW ⊢;exact(World.cell?_of_block (hW.trans (H5.a.sat.Q7 (b:=w2.heap.size) (o:=.cells (aw s) 121 (0,0)) (by simp)).symm)).trans h1
    have HBy:=qqH hby
    obtain⟨ub,hub⟩:∃ub,ub=w5.heap.size:=⟨_,rfl⟩;obtain⟨pb,hpb⟩:∃pb,pb=w5.heap.size+1:=⟨_,rfl⟩;obtain⟨G,hG⟩:∃G:HF,G=(pb,Is (rZ ub))::(b6,Is (.cells (aw s) 121 (0,0)))::(gG u2 (lE us k)++J):=⟨_,rfl⟩;have HG:=qqH hG
    have hTu:Turns [] ((ub,Is (iM 0 0))::G) w ((w5.alloc (iM 0 0)).alloc (rZ ub)):=by
     have h1:=(H5.a.Q8 (iM 0 0)).Q8 (rZ ub);rw[World.size_alloc,<- hpb,<- hub]at h1;rw[hG,hb6];exact h1.to ac
    have HTu:=Hq4 hTu hub hpb hb6;clear hby hG hTu;rw[<- hpb,<- hub,<- hb6];clear hpb hub hb6;go_loopw [48] (fun i wr=>Hf G ub e wh w i wr) (fun i _=>2-(intOf i).toNat)
    case atStart =>
     refine⟨0,by omega,rfl,?_⟩;have h1:=HTu.a;rw[HTu.b]at h1 ⊢;exact h1
    case round =>
     obtain⟨j,hj,rfl,hT⟩:=hrel;rcases(show j=0\/j=1\/j=2 by omega)with rfl|rfl|rfl
     ·have hTj:=hT.to (H:=(ub,Is (iM 0 0))::G) (Perm.refl _);have p0:wr.cell? ⟨pb,0,none⟩=some (.pointer (some ⟨ub,0,none⟩)):=aa (hTj.sat.Q7 (b:=pb) (o:=rZ ub) (by rw[HG.out];simp)) 0 rfl;have hpl:=hTj.sat.lt (b:=pb) (by rw[HG.out];simp);have HTj:=qqH hTj;clear hT hTj;go_wp2_with fail;go_loopw [61] (fun i wr=>zw G ub 0 e e w i wr) (fun i _=>4-(intOf i).toNat)
      case atStart=>exact⟨0,by omega,rfl,HTj.out⟩
      case round =>
       obtain⟨m,hm,rfl,hT3⟩:=hrel;by_cases hm4:m<4
       ·have hby:=HBy.out (m) (by omega) wr (hT3.sat.Q7 (by rw[HG.out];simp));obtain⟨x8,hx8⟩:∃x8,x8=((bG e wh)[m]'(by rw[hbl];omega)).toNat:=⟨_,rfl⟩;have hx8l:x8<256:=by rw[hx8];exact UInt8.toNat_lt _
        rw[<- hx8]at hby
        have hql:bz ((be e 4).take m)<16777216:=by
         have h1:=im ((be e 4).take m);have h2:((be e 4).take m).length<=3:=by simp;omega
         have h3:(256:Nat) ^ ((be e 4).take m).length<=256 ^ 3:=Nat.pow_le_pow_right (by omega) h2;omega
        have hnx:bz ((be e 4).take (m+1))=bz ((be e 4).take m)*256+x8:=by
         rw[QH (by rw[cd];exact hm4),oT,hx8];congr 2;simp only[bG];rw[getElem_append_left (by rw[cd];exact hm4)]
        obtain⟨q,hq⟩:∃q,q=bz ((be e 4).take m):=⟨_,rfl⟩;rw[<- hq]at hql hnx hT3;have hor:=wG q x8 (by omega) hx8l;have hub3:=hT3.sat.Q5;have c3:wr.cell? ⟨ub,0,none⟩=some (.int .u32 q):=aa hub3 0 rfl;have hul3:=ae hub3;have H6:=Hq2 hnx hT3;have s1:IntKind.u32.wrap ((q:Int)*256)=(q:Int)*256:=wrap_u32 (by omega) (by omega);clear hx8 hq hnx hT3 hub3;go_wp2_with (first|(refine ah rfl (bb 57 (.tmp 73) (.tmp 72) rfl ub 0 #[.int .u32 q,.int .u32 0] 179 (.int .u32 ((q*256+x8:Nat):Int)) H6.z rfl rfl (by simp) (by kernel_rfl) rfl rfl ?_);intro w7 hT7;have HT7:=qqH hT7;clear hT7;simp only[Act.put])|fail);go_roundw
        case rel=>exact⟨m+1,by omega,by go_num,by rw[H6.a];exact HT7.out⟩
        case measure=>simp[intOf];omega
       ·obtain rfl:m=4:=by omega
        have hx4:bz ((be e 4).take 4)=e:=by rw[take_of_length_le (by rw[cd];omega),pJ];exact Nat.mod_eq_of_lt (by omega)
        rw[hx4]at hT3;have HT3:=qqH hT3;clear hT3 hx4;go_wp2_with fail;go_roundw
        case rel=>exact⟨0+1,by omega,by go_num,HT3.out⟩
        case measure=>simp[intOf]
     ·have hTj:=hT.to (H:=(ub,Is (iM e 0))::G) (Perm.refl _);have p0:wr.cell? ⟨pb,1,none⟩=some (.pointer (some ⟨ub,1,none⟩)):=aa (hTj.sat.Q7 (b:=pb) (o:=rZ ub) (by rw[HG.out];simp)) 1 rfl;have hpl:=hTj.sat.lt (b:=pb) (by rw[HG.out];simp);have HTj:=qqH hTj;clear hT hTj;go_wp2_with fail;go_loopw [61] (fun i wr=>zw G ub 1 wh e w i wr) (fun i _=>4-(intOf i).toNat)
      case atStart=>exact⟨0,by omega,rfl,HTj.out⟩
      case round =>
       obtain⟨m,hm,rfl,hT3⟩:=hrel;by_cases hm4:m<4
       ·have hby:=HBy.out (4+m) (by omega) wr (hT3.sat.Q7 (by rw[HG.out];simp));obtain⟨x8,hx8⟩:∃x8,x8=((bG e wh)[4+m]'(by rw[hbl];omega)).toNat:=⟨_,rfl⟩;have hx8l:x8<256:=by rw[hx8];exact UInt8.toNat_lt _
        rw[<- hx8]at hby
        rw[<- Nat.add_assoc]at hby
        have hql:bz ((be wh 4).take m)<16777216:=by
         have h1:=im ((be wh 4).take m);have h2:((be wh 4).take m).length<=3:=by simp;omega
         have h3:(256:Nat) ^ ((be wh 4).take m).length<=256 ^ 3:=Nat.pow_le_pow_right (by omega) h2;omega
        have hnx:bz ((be wh 4).take (m+1))=bz ((be wh 4).take m)*256+x8:=by
         rw[QH (by rw[cd];exact hm4),oT,hx8];congr 2;simp only[bG];rw[getElem_append_right (by rw[cd];omega)];simp[cd]
        obtain⟨q,hq⟩:∃q,q=bz ((be wh 4).take m):=⟨_,rfl⟩;rw[<- hq]at hql hnx hT3;have hor:=wG q x8 (by omega) hx8l;have hub3:=hT3.sat.Q5;have c3:wr.cell? ⟨ub,1,none⟩=some (.int .u32 q):=aa hub3 1 rfl;have hul3:=ae hub3;have H6:=Hq2 hnx hT3;have s1:IntKind.u32.wrap ((q:Int)*256)=(q:Int)*256:=wrap_u32 (by omega) (by omega);clear hx8 hq hnx hT3 hub3;go_wp2_with (first|(refine ah rfl (bb 57 (.tmp 73) (.tmp 72) rfl ub 1 #[.int .u32 e,.int .u32 q] 179 (.int .u32 ((q*256+x8:Nat):Int)) H6.z rfl rfl (by simp) (by kernel_rfl) rfl rfl ?_);intro w7 hT7;have HT7:=qqH hT7;clear hT7;simp only[Act.put])|fail);go_roundw
        case rel=>exact⟨m+1,by omega,by go_num,by rw[H6.a];exact HT7.out⟩
        case measure=>simp[intOf];omega
       ·obtain rfl:m=4:=by omega
        have hx4:bz ((be wh 4).take 4)=wh:=by rw[take_of_length_le (by rw[cd];omega),pJ];exact Nat.mod_eq_of_lt (by omega)
        rw[hx4]at hT3;have HT3:=qqH hT3;clear hT3 hx4;go_wp2_with fail;go_roundw
        case rel=>exact⟨1+1,by omega,by go_num,HT3.out⟩
        case measure=>simp[intOf]
     ·have HT9:=qqH (show Turns [] ((ub,Is (iM e wh))::G) w wr from hT);clear hT;go_upto_region 22 with(fail);have hT9:=HT9.out.to (H:=(b6,Is (.cells (aw s) 121 (0,0)))::(ub,Is (iM e wh))::((pb,Is (rZ ub))::(gG u2 (lE us k)++J))) (by rw[HG.out];exact ac);have HT9:=qqH hT9;have hsl:=HL'.out;refine db [([0,1],2,[0])] [3,4,5,6,7,8,9,10,11] HM.out (by kernel_rfl) fun W tW=>?_
      simp only[Mix,map_cons,map_nil,nth,QG,QF];have k0:=tW HT9.out;clear tW;have gs:∀{W:World},W.heap[b6]?=some (.cells (aw s) 121 (0,0))->W.rangeAt b6 0 (s.map al):=fun h=>by have:=ex h 0 128;rwa [drop_zero,take_of_length_le (by omega)]at this
      refine iL 121 (.tmp 6) rfl rfl b6 0 rfl (s.map al) _ (gs (k0.sat.Q7 (by simp))) Tryz.underlying121 rfl (iC hsl) ?_;refine iL 179 (.tmp 11) rfl rfl ub 0 rfl [.int .u32 e,.int .u32 wh] _ (fun j v hv=>aa (k0.sat.Q7 (b:=ub) (o:=iM e wh) (by simp)) (0+j) (by rw[Nat.zero_add,<- Array.getElem?_toList];exact hv)) Tryz.underlying179 rfl (by kernel_rfl) (wpStill_nil ?_);refine aU (by kernel_rfl) (mg e wh he hwh W) ?_;rintro e3 w9 ⟨rfl,hs3⟩;have hTA:=k0.Q9 hs3;refine⟨_,rfl,iL 121 (.tmp 6) rfl rfl b6 0 rfl (s.map al) _ (gs (hTA.sat.Q7 (by simp))) Tryz.underlying121 rfl (iC hsl) rfl,?_⟩;refine eG rfl (Ka .eql 121 (.tmp 76) (.tmp 78) _ rfl qf (aw s) (aw (cH e wh)) (.bool true) (by rw[Kf s _ hsl (co e wh),HK.b];simp) rfl rfl) ?_;simp only[Act.put,QA,QB,QC];have g0:w9.cell? ⟨ub,0,none⟩=some (.int .u32 e):=aa (hTA.sat.Q7 (b:=ub) (o:=iM e wh) (by simp)) 0 rfl;iterate 3 still_step
      refine sL rfl (v:=.int .u32 ((e%2:Nat):Int)) (by simp[execOp,eqGuard,BL e he,Act.eval]) ?_;simp only[Act.put,QA,QB,QC];still_step;refine sL rfl (v:=.int .u32 k) (by simp[execOp,DW k (by omega),Act.eval]) ?_;refine sL rfl (v:=.bool true) (by have q:=Gu (t:=57) (e%2) k w9;rw[decide_eq_true HK.y]at q;simp only[Int.natCast_emod,Int.cast_ofNat_Int]at q;simp[execOp,eqGuard,q,Act.eval,Act.put]) ?_;simp only[Act.put,QA,QB,QC];still_step;refine wpStill_nil ?_;clear k0 gs g0 hs3;have hu9:=hTA.sat.Q7 (b:=ub) (o:=iM e wh) (by simp);have f0:w9.cell? ⟨ub,0,none⟩=some (.int .u32 e):=aa hu9 0 rfl;have f1:w9.cell? ⟨ub,1,none⟩=some (.int .u32 wh):=aa hu9 1 rfl;have hul9:=ae hu9;have hTA2:=hTA.to (H:=gG u2 (lE us k)++((b6,Is (.cells (aw s) 121 (0,0)))::(ub,Is (iM e wh))::((pb,Is (rZ ub))::J))) ac;have HTA:=qqH hTA2;have hul:=vf us k;clear hT9 hTA hTA2 hu9;go_wp2_with (first|(at_builtin;refine ah rfl ?_;refine zi (.tmp 88) (.tmp 90) rfl _ (lE us k) rfl (HTA.out.alloc _) H1.b _ 1 1 rfl [(e,wh)] rfl (fun _=>⟨_,rfl,fun j u hu=>ic _ _ _ j u (by simpa[nu]using hu)⟩) (by simp;omega) ?_;intro v10 w10 hok10 hT10;have H10:=Hq2 hok10 hT10;clear hok10 hT10)|fail);go_roundw
      case rel=>exact⟨k+1,(b6,Is (.cells (aw s) 121 (0,0)))::(ub,Is (iM e wh))::((pb,Is (rZ ub))::J),by omega,by go_num,by rw[H1.x,HK.a];exact H10.a,by rw[<- H1.a,HE.out],by rw[H1.x,HK.a];exact H10.z⟩
      case measure=>simp[intOf];omega
  ·obtain rfl:k=2:=by omega
   have hl2:=vf us 2;obtain⟨l,hl⟩:∃l,l=lE us 2:=⟨_,rfl⟩;have HG:Hid (∀(e:Ending) (w':World),(∃v,e=.returned (.tuple #[v,.bool (cD L.now 2),.nilIface])/\xK v (jz l)/\Turns [] (gG v (jz l)) w w')->tf us (cD L.now 2) w e w'):=qqH (fun e w' h=>by unfold tf;rw[<- hl];exact h);rw[<- hl]at hlo hT hl2;have HS:=Hq2 hlo hT;clear hlo hT HC HL hl;by_cases h2:l.length=2
   ·obtain⟨p,q,rfl⟩:∃p q,l=[p,q]:=by
     match l,h2 with
     | [p,q],_=>exact⟨p,q,rfl⟩
    rcases(aR HS.z.sat.left HS.a).2 with⟨-,h0⟩|⟨g,cap,cur,hv,-,hg,h3,h4,h5,h6⟩
    ·exact absurd h0 (by simp)
    have h6:cur.toList.take 4=[.int .u32 p.1,.int .u32 p.2,.int .u32 q.1,.int .u32 q.2]:=h6;have hv:u2=.slice (some ⟨g,0,none⟩) 2 cap:=hv
    have hat:∀(W:World),W.heap[g]?=some (.cells cur 179 (0,0))->∀j v,j<4->[Value.int .u32 p.1,.int .u32 p.2,.int .u32 q.1,.int .u32 q.2][j]?=some v->W.cell? ⟨g,j,none⟩=some v:=fun W hW j v hj h=>by
     refine aa hW j ?_;rw[<- Array.getElem?_toList,<- h,<- h6,getElem?_take,if_pos hj]
    have c0:wr.cell? ⟨g,0,none⟩=some (.int .u32 p.1):=hat wr hg 0 _ (by decide) rfl;have c2:wr.cell? ⟨g,2,none⟩=some (.int .u32 q.1):=hat wr hg 2 _ (by decide) rfl;have hgl:=ae hg;have HSo:=HS.out;rw[hv]at HSo;subst hv;have hc2:(2:Nat)<=cap:=h3;have hc3:cap<=9223372036854775807:=by unfold maxLen at h4;omega
    have HS:=qqH HSo;clear hg h3 h4 h5 h6 hat HSo h2 hl2;by_cases hlt:p.1<q.1
    ·have hlt2:((p.1:Int)<(q.1:Int)):=by omega
     go_wp2_with fail;go_quiet (fail);go_upto_region 26 with(fail);refine db [([0,1,2,3,4,5,6,7,8],9,[1]),([10],11,[])] [] HM.out (by kernel_rfl) fun W tW=>?_
     simp only[Mix,map_cons,map_nil,nth,QG,QF];have hT:=tW (HS.z.drewN _);clear tW;have k0:W.cell? ⟨g,0,none⟩=some (.int .u32 p.1):=qx hT.sat.left 0 _ (by decide) rfl;have k1:W.cell? ⟨g,1,none⟩=some (.int .u32 p.2):=qx hT.sat.left 1 _ (by decide) rfl;have k2:W.cell? ⟨g,2,none⟩=some (.int .u32 q.1):=qx hT.sat.left 2 _ (by decide) rfl;have k3:W.cell? ⟨g,3,none⟩=some (.int .u32 q.2):=qx hT.sat.left 3 _ (by decide) rfl;repeat still_step
     refine wpStill_nil (vh (.tmp 115) (.tmp 111) rfl g cap 0 p q q hT (by decide) rfl rfl fun W1 hT1=>⟨by((repeat still_step);exact rfl),?_⟩);simp only[Act.put];clear k0 k1 k2 k3 hT;repeat still_step
     refine wpStill_nil (vh (.tmp 116) (.tmp 114) rfl g cap 1 q q p hT1 (by decide) rfl rfl fun W2 hT2=>⟨rfl,?_⟩);simp only[Act.put];clear hT1;refine wpStill_nil ?_;have H2:=qqH (Turns.drop (H:=gG (.slice (some ⟨g,0,none⟩) 2 cap) [q,p]) (show Turns [] (gG (.slice (some ⟨g,0,none⟩) 2 cap) [q,p]++J) w W2 from hT2) (fun x=>by simp only[ai];omega));clear hT2;go_wp2_with fail;go_ret3;exact HG.out _ _ ⟨.slice (some ⟨g,0,none⟩) 2 cap,rfl,⟨by simp[jz,hlt,nu],fun h=>by simp[Value.ownBlock]at h⟩,by simpa[jz,hlt]using H2.out⟩
    ·have hlt2:¬((p.1:Int)<(q.1:Int)):=by omega
     go_wp2_with fail;go_quiet (fail);go_wp2_with fail;go_ret3;exact HG.out _ _ ⟨.slice (some ⟨g,0,none⟩) 2 cap,rfl,by simpa[jz,hlt]using HS.a,by simpa[jz,hlt]using(HS.z.drewN _).drop (fun x=>by simp only[ai];omega)⟩
   ·have ho:jz l=l:=by
     match l,h2 with
     | [],_=>rfl
     | [p],_=>rfl
     | p::q::r::t,_=>rfl
    obtain⟨-,-,sl,cap,e1,-,-⟩:=dl HS.z.sat.left HS.a;obtain⟨m,hm⟩:∃m,m=l.length:=⟨_,rfl⟩;rw[<- hm]at e1 hl2 h2;have hne:((m:Int)==2)=false:=by simp;omega
    have hne2:¬((m:Int)=2):=by omega
    have HM:=Hq3 hm e1 ho;clear hm ho h2;subst e1;go_wp2_with fail;go_quiet (fail);go_wp2_with fail;go_ret3;rw[HM.y]at HG;exact HG.out _ _ ⟨.slice sl m cap,rfl,HS.a,(HS.z.drewN _).drop (fun x=>by simp only[ai];omega)⟩
def vd(l:Bs)(bad:Bool):Nat:=dc l bad 1
def lD(l:Bs)(bad:Bool):Bs:=eV (eV l bad 1) (fe l bad 1) (vd l bad)
def kQ(l:Bs)(bad:Bool):Bool:=fe (eV l bad 1) (fe l bad 1) (vd l bad)
def gm(l:Bs)(bad:Bool):Bs:=if fe l bad 1=true\/(eV l bad 1).length<vd l bad then[]else(eV l bad 1).take (vd l bad)
def wk(rb:Nat)(l:Bs)(bad:Bool)(w:World)(e:Ending)(w':World):Prop :=
 e=.returned (str (gm l bad))/\Rd w' rb (lD l bad) (kQ l bad)/\Mods (fun k=>k=rb) w w'
theorem gh(l:Bs)(bad:Bool)(n:Nat):(eV l bad n).length<=l.length:=by
 unfold eV;split<;>simp
theorem Bt(l:Bs)(bad:Bool):dc l bad 1<=255:=by
 unfold dc;split
 ·omega
 ·have:=im (l.take 1);have h2:(l.take 1).length<=1:=by simp;omega
  have h3:256 ^ (l.take 1).length<=256 ^ 1:=Nat.pow_le_pow_right (by omega) h2;omega
theorem iH(l:Bs)(bad:Bool):(lD l bad).length<=l.length:=Nat.le_trans (gh _ _ _) (gh _ _ _)
theorem mo(l:Bs)(bad:Bool):(gm l bad).length<=255:=by
 unfold gm;split
 ·simp
 ·rw[length_take];have:=Bt l bad;unfold vd;omega
theorem ng(rb:Nat)(l:Bs)(bad:Bool)(w:World)(h:Rd w rb l bad)(hl:l.length<=1099511627776):
  Calls Tryz.prog 136 #[.pointer (some ⟨rb,0,none⟩)] w (wk rb l bad w):=by
 have HN:=qqH (de rb l bad 1 w h hl (by omega));clear h;go_enter Tryz.func136,Tryz.ntmps136;go_wp2_with fail;refine HN.out.mono ?_;rintro e w1 ⟨rfl,hR,hm,-⟩;have h2:=Bt l bad;have h3:=gh l bad 1;have HB:=qqH (rH rb (eV l bad 1) (fe l bad 1) (dc l bad 1) w1 hR (by omega) (by omega));have H1:=qqH hm;clear hR hm;go_wp2_with fail;refine HB.out.mono ?_;intro e w2 hp;obtain⟨a,cap,bs,rfl,hc,-,hbs,hR2,hm2,-⟩:=ou hp;have hs:=jQ cap hc;have H2:=Hq3 hbs hR2 hm2;clear hp hc hbs hR2 hm2;go_wp2_with fail;go_ret;refine ⟨?_,H2.b,H1.out.trans H2.y⟩;rw[H2.a];rfl
def iy(l:Bs):List Int:=(range (l.length / 4)).map fun i=>((bz ((l.drop (4*i)).take 4):Nat):Int)
theorem i6(l:Bs):(iy l).length=l.length / 4:=by simp[iy]
theorem Du{l:Bs}{k:Nat}(h:k<l.length / 4):(iy l).take (k+1)=(iy l).take k++[((bz ((l.drop (4*k)).take 4):Nat):Int)]:=by
 rw[QH (by rw[i6];exact h)];simp[iy]
def LC:Value->Nat
 | .slice _ n _=>n
 | _=>0
theorem Ki{v:Value}{l:List Int}{w:World}(hs:Sat w (bZ v l))(h:iOk v l):LC v=l.length:=by
 obtain⟨av,cv,rfl,-⟩:=aL (aR hs h);rfl
def rbF(rb:Nat):HF:=[(rb,fun _=>True)]
def Co(l:Bs)(bad:Bool)(ns:List Int)(l':Bs)(b':Bool):Prop :=
 (b'=false/\bad=false/\∃k,k<=l.length / 4/\l'=l.drop (4*k)/\ns=(iy l).take k)\/(b'=true/\(bad=true\/l.length%4≠0)/\ns.length<=l.length+1)
def Hl(rb:Nat)(l:Bs)(bad:Bool)(w:World)(v:Value)(W:World):Prop :=
 ∃ns l' b',iOk v ns/\Turns (rbF rb) (bZ v ns++rbF rb) w W/\Rd W rb l' b'/\Co l bad ns l' b'
def Fg(rb:Nat)(l:Bs)(bad:Bool)(w:World)(e:Ending)(w':World):Prop :=
 ∃v ns l' b',e=.returned v/\iOk v ns/\Turns (rbF rb) (bZ v ns++rbF rb) w w'/\Rd w' rb l' b'/\((b'=false/\bad=false/\l.length%4=0/\l'=[]/\ns=iy l)\/(b'=true/\(bad=true\/l.length%4≠0)/\ns.length<=l.length+1))
theorem Ja{rb:Nat}{w w':World}(hm:Mods (fun k=>k=rb) w w'){F G:HF}{A:World}{o:Obj}(h:Turns F (G++rbF rb) A w)(ho:w'.heap[rb]?=some o):Turns F (G++[(rb,Is o)]) A w' :=
 ((h.to (H:=(rb,fun _=>True)::G) (by unfold rbF;exact perm_append_comm)).put hm ho Is.rfl).to (perm_append_comm (l₁:=[(rb,Is o)]))
theorem DQ{rb:Nat}{w:World}{F G:HF}{A:World}{o:Obj}(h:Turns F (G++[(rb,Is o)]) A w):Turns F (G++rbF rb) A w:=by
 have h1:=h.to (H:=(rb,Is o)::G) perm_append_comm;exact(h1.put (Mods.refl _ _) h1.sat.Q5 (ψ:=fun _=>True) trivial).to (by unfold rbF;exact perm_append_comm (l₁:=[(rb,fun _=>True)]))
theorem Rd.via{rb:Nat}{l:Bs}{b:Bool}{w0 W w':World}(h:Rd W rb l b)(h1:Mods (fun k=>k∈dom (rbF rb)) w0 W)(h2:Mods (fun k=>k∈dom (rbF rb)) w0 w')(hr:rb<w0.heap.size)(he:w'.heap[rb]?=W.heap[rb]?):Rd w' rb l b:=by
 obtain⟨a,cap,e1,e2,e3,e4⟩:=h;refine⟨a,cap,?_,e2,fun hp=>?_,e4⟩
 ·unfold sW at e1 ⊢;rw[he];exact e1
 ·obtain⟨g,off,ha,hc⟩:=e3 hp;have hg:g<rb:=e4 _ ha;have hS:¬(g∈dom (rbF rb)):=by simp[rbF,dom];omega
  refine⟨g,off,ha,fun j hj=>?_⟩;rw[<- hc j hj];exact World.cell?_of_block ((h2.block g (by omega) hS).trans (h1.block g (by omega) hS).symm)
theorem Bc{l l':Bs}{bad:Bool}{ns:List Int}(h:Co l bad ns l' false)(hne:l'≠[]):Co l bad (ns++[((dc l' false 4:Nat):Int)]) (eV l' false 4) (fe l' false 4)/\ns.length<=l.length:=by
 rcases h with⟨-,hb,k,hk,rfl,rfl⟩|⟨h,-,-⟩
 ·have hl:(l.drop (4*k)).length=l.length-4*k:=length_drop;have hl2:((iy l).take k).length=k:=by rw[length_take,i6];omega
  have hpos:0<l.length-4*k:=by rw[<- hl];exact length_pos_iff.2 hne
  refine⟨?_,by omega⟩;by_cases h4:(l.drop (4*k)).length<4
  ·refine .inr ⟨by simp[fe];omega,.inr (by omega),?_⟩;rw[length_append,hl2];simp;omega
  ·refine .inl ⟨by simp[fe];omega,hb,k+1,by omega,?_,?_⟩
   ·unfold eV;rw[if_neg (by simp;omega),drop_drop];congr 1
   ·unfold dc;rw[if_neg (by simp;omega),Du (by omega)]
 ·cases h
theorem oB(rb:Nat)(l:Bs)(bad:Bool)(w:World)(h:Rd w rb l bad)(hl:l.length<=70000):
  Calls Tryz.prog 137 #[.pointer (some ⟨rb,0,none⟩)] w (Fg rb l bad w):=by
 have hrl:rb<w.heap.size:=by obtain⟨a,cap,h1,-⟩:=h;exact ae h1
 have HH:=qqH h;clear h;go_enter Tryz.func137,Tryz.ntmps137;go_wp2_with fail;go_loopw [3] (fun v wr=>Hl rb l bad w v wr) (fun v _=>l.length+2-LC v)
 case atStart =>
  refine⟨[],l,bad,lV,?_,HH.out,?_⟩
  ·rw[AL];obtain⟨a,cap,h1,-⟩:=HH.out;exact Turns.refl (Sat.one h1 trivial)
  ·cases bad with
   | false=>exact .inl ⟨rfl,rfl,0,Nat.zero_le _,rfl,rfl⟩
   | true=>exact .inr ⟨rfl,.inl rfl,by simp⟩
 case round =>
  obtain⟨ns,l',b',hio,hT,hR,hN⟩:=hrel;obtain⟨a',cap',e1,e2,e3,e4⟩:=hR;have c0:wr.cell? ⟨rb,0,none⟩=some (.slice a' l'.length cap'):=aa e1 0 rfl;have c1:wr.cell? ⟨rb,1,none⟩=some (.bool b'):=aa e1 1 rfl;have hlv:=Ki hT.sat.left hio;have HR:=Hq4 hio hT (show Rd wr rb l' b' from⟨a',cap',e1,e2,e3,e4⟩) hN;clear hio hT hN e1 e2 e3 e4;by_cases h0:l'=[]
  ·have hd:l'.length=0:=by rw[h0];rfl
   rw[hd]at c0;go_wp2_with fail;go_ret;refine ⟨u3,ns,l',b',rfl,HR.a,HR.b,HR.c,?_⟩;rcases HR.x with⟨h1,h2,k,h3,h4,h5⟩|h
   ·refine .inl ⟨h1,h2,?_,h0,?_⟩
    ·have:=congrArg length h4;rw[h0,length_drop]at this;simp at this;omega
    ·rw[h5,take_of_length_le];rw[i6];have:=congrArg length h4;rw[h0,length_drop]at this;simp at this;omega
   ·exact .inr h
  ·have hp:0<l'.length:=length_pos_iff.2 h0
   cases b' with
   | true =>
    go_wp2_with fail;go_ret;refine ⟨u3,ns,l',true,rfl,HR.a,HR.b,HR.c,?_⟩;rcases HR.x with⟨h1,-⟩|h
    ·cases h1
    ·exact .inr h
   | false =>
    have hnx:=Bc HR.x h0;have HN:=qqH (de rb l' false 4 wr HR.c (by rcases HR.x with⟨-,-,k,-,rfl,-⟩|⟨h,-⟩<;>first|(rw[length_drop];omega)|cases h) (by omega));have HX:=Hq2 hnx.1 hlv;have hnl:=hnx.2;clear hnx hlv;go_wp2_with fail;refine HN.out.mono ?_;rintro e w1 ⟨rfl,hR1,hm1,-⟩;obtain⟨o,ho⟩:∃o,w1.heap[rb]?=some o:=by obtain⟨a,c,h1,-⟩:=hR1;exact⟨_,h1⟩
    have hT1:=Ja hm1 HR.b ho;obtain⟨x,hx⟩:∃x,x=dc l' false 4:=⟨_,rfl⟩;rw[<- hx]at HX ⊢;have H1:=Hq3 hR1 ho hT1;clear hR1 hm1 ho hT1 hx c0 c1;go_wp2_with ((at_builtin;refine ah rfl ?_;refine kq (.tmp 17) (.tmp 20) rfl _ ns rfl (H1.y.alloc _) HR.a _ 1 1 rfl [(x:Int)] rfl (fun _=>⟨_,rfl,fun j u hu=>ic _ _ _ j u hu⟩) (by simp;omega) ?_;intro av cv w5 hok5 hT5;have H5:=Hq2 hok5 hT5;clear hok5 hT5));go_roundw
    case rel =>
     have h5:=H5.z;have hR5:=Rd.via H1.a (H1.y.mods) h5.mods hrl ((h5.sat.Q7 (b:=rb) (by simp)).trans H1.b.symm);refine⟨_,_,_,?_,DQ (o:=o) ?_,hR5,HX.a⟩
     ·have:=H5.a;rw[length_append]at this;exact this
     ·rw[length_append]at h5;exact h5
    case measure=>rw[HX.z];simp[LC];omega
inductive RecR where
 | ver (p:Bs) (num size:Nat) (ats:List Int)
 | gone (p:Bs) (ns:List Int)
 | pin (k:UInt8) (p name:Bs) (num:Nat)
def uA:RecR->Value->Value
 | .ver p n s _,v=>.iface 139 (.agg #[.int .u8 2,str p,.int .i64 n,.int .i64 s,v])
 | .gone p _,v=>.iface 220 (.agg #[.int .u8 3,str p,v])
 | .pin k p m n,_=>.iface 159 (.agg #[.int .u8 k.toNat,str p,str m,.int .i64 n])
def mz:RecR->List Int
 | .ver _ _ _ a=>a
 | .gone _ a=>a
 | .pin _ _ _ _=>[]
def rN(s:Bs×Bool)(n:Nat):Bs×Bool:=(eV s.1 s.2 n,fe s.1 s.2 n)
def rT(s:Bs×Bool):Bs×Bool:=(lD s.1 s.2,kQ s.1 s.2)
def ff(k:UInt8)(body:Bs):Option RecR :=
 let p:=gm body false
 let s1:=rT (body,false)
 if k=2 then
  let s2:=rN s1 4
  let s3:=rN s2 2
  if s3.2=false/\s3.1.length%4=0 then some (.ver p (dc s1.1 s1.2 4) (dc s2.1 s2.2 2) (iy s3.1))else none
 else if k=3 then
  if s1.2=false/\s1.1.length%4=0 then some (.gone p (iy s1.1))else none
 else if k=4\/k=5 then
  let s2:=rT s1
  let s3:=rN s2 4
  if s3.2=false/\s3.1=[]then some (.pin k p (gm s1.1 s1.2) (dc s2.1 s2.2 4))else none
 else none
def RdT(A:World)(G:HF)(rb:Nat)(s:Bs×Bool)(W:World):Prop:=Turns [] (G++rbF rb) A W/\Rd W rb s.1 s.2
theorem RdT.is{A W:World}{G:HF}{rb:Nat}{s:Bs×Bool}(h:RdT A G rb s W):∃o,Turns [] (G++[(rb,Is o)]) A W/\W.heap[rb]?=some o:=by
 obtain⟨a,c,h1,-⟩:=h.2;exact⟨_,Ja (Mods.refl _ W) h.1 h1,h1⟩
theorem RdT.on{A W W':World}{G G':HF}{rb:Nat}{s:Bs×Bool}{o:Obj}(h:RdT A G rb s W)(hrb:rb=A.heap.size)(ho:W.heap[rb]?=some o)(hT:Turns [] (G'++[(rb,Is o)]) A W'):RdT A G' rb s W':=by
 refine⟨DQ hT,?_⟩;have ho':=hT.sat.Q7 (b:=rb) (o:=o) (by simp);obtain⟨a,cap,e1,e2,e3,e4⟩:=h.2;refine⟨a,cap,?_,e2,fun hp=>?_,e4⟩
 ·unfold sW at e1 ⊢;rw[ho',<- ho];exact e1
 ·obtain⟨g,off,ha,hc⟩:=e3 hp;have hg:g<rb:=e4 _ ha;refine⟨g,off,ha,fun j hj=>?_⟩;rw[<- hc j hj];exact World.cell?_of_block ((hT.mods.block g (by omega) (by simp)).trans (h.1.mods.block g (by omega) (by simp)).symm)
theorem RdT.alloc{A W:World}{G:HF}{rb:Nat}{s:Bs×Bool}(h:RdT A G rb s W)(hrb:rb=A.heap.size)(o:Obj):RdT A ((W.heap.size,Is o)::G) rb s (W.alloc o):=by
 obtain⟨o',h1,h2⟩:=h.is;exact h.on hrb h2 ((h1.Q8 o).to ac)
theorem RdT.call{A W W':World}{G:HF}{rb:Nat}{s s':Bs×Bool}(h:RdT A G rb s W)(hm:Mods (fun k=>k=rb) W W')(hR:Rd W' rb s'.1 s'.2):RdT A G rb s' W':=by
 obtain⟨a,c,h1,-⟩:=id hR;exact⟨DQ (Ja hm h.1 h1),hR⟩
theorem RdT.nums{A W W':World}{G H:HF}{rb:Nat}{s s':Bs×Bool}(h:RdT A G rb s W)(hT:Turns (rbF rb) (H++rbF rb) W W')(hR:Rd W' rb s'.1 s'.2):RdT A (H++G) rb s' W' :=
 ⟨(h.1.step (R:=G) (by unfold rbF;exact perm_append_comm) hT).to (by unfold rbF;exact ac),hR⟩
def ki(k:UInt8)(p:Bs):Obj:=.cells #[.int .u8 k.toNat,str p] 137 (0,0)
def E1:Obj:=.cells #[.int .u8 0,.string ⟨#[]⟩,.int .i64 0,.int .i64 0,.slice none 0 0] 139 (0,0)
def iI(p:Bs)(n m:Nat)(v:Value):Obj:=.cells #[.int .u8 2,str p,.int .i64 n,.int .i64 m,v] 139 (0,0)
theorem km{rb:Nat}{s:Bs×Bool}{n:Nat}{w w':World}{e:Ending}(h:iT rb s.1 s.2 n w e w'):e=.returned (.int .i64 (dc s.1 s.2 n))/\Rd w' rb (rN s n).1 (rN s n).2/\Mods (fun k=>k=rb) w w':=⟨h.1,h.2.1,h.2.2.1⟩
theorem Eb{P:Program}{o:Oper}{a:Act}{w A:World}{K:Act->World->Prop}{Q:Exit->Act->World->Prop}{G:HF}{rb:Nat}{s:Bs×Bool}(O:Obj)(f:Nat->Value)(hr:(execOp a.eval o).run P w=.ok (.value (f w.heap.size)) (w.alloc O))(hT:RdT A G rb s w)(hrb:rb=A.heap.size)(hk:∀n w',RdT A ((n,Is O)::G) rb s w'->K (a.put o.dst (f n)) w'):o.wp P a w K Q:=nA hr (hk _ _ (hT.alloc hrb O))
theorem fT{ops:Array Oper}{k:UInt8}{p:Bs}{hb rb:Nat}{A W:World}{G:HF}{s:Bs×Bool}{R:Act->Prop}{r:List Oper}{o:Oper}{a:Act}(h:RdT A G rb s W)(hm:(hb,Is (ki k p))∈G)(hg:o.guard=none)(ho:o.op=.load 137 (.tmp 6))(hx:a.eval (.tmp 6)=.pointer (some ⟨hb,0,none⟩))(hk:wpStill Tryz.prog ops W R r (a.put o.dst (.agg #[.int .u8 k.toNat,str p]))):wpStill Tryz.prog ops W R (o::r) a :=
 iL 137 (.tmp 6) hg ho hb 0 hx [.int .u8 k.toNat,str p] _ (fun j v hv=>aa (h.1.sat.Q7 (mem_append_left _ hm)) (0+j) (by rw[Nat.zero_add,<- Array.getElem?_toList];exact hv)) Tryz.underlying137 rfl (by kernel_rfl) hk
theorem RdT.at{A W W':World}{G:HF}{rb:Nat}{s:Bs×Bool}(h:RdT A G rb s W)(hrb:rb=A.heap.size)(tW:∀{F G:HF} {b:World},Turns F G b W->Turns F G b W'):RdT A G rb s W':=by
 obtain⟨o,h1,h2⟩:=h.is;exact h.on hrb h2 (tW h1)
theorem LW(A:World)(hb:Nat)(p:Bs)(rb:Nat)(s1:Bs×Bool)(hrb:rb=A.heap.size){Q:Exit->Act->World->Prop}{w:World}{u1 u2 u3 u4 u7 u8 u9 aS aT ab ad ag aj ar av ax a0 a1 a2 a3 a4 a5 a6 a7 a8 a9 bY bg bj bk bo bs bx b0 b1 b2 b3 b4 b6 b7 b9 ca cb cc ch ci cj cl cm cp cs ct cu cv cx c0 c1:Value}{ds:List Deferred}(hT:RdT A [(hb,Is (ki 2 p))] rb s1 w)(hl:s1.1.length<=70000)(hk:∀(c:Nat) (c2 c3 c4 c5 c6 c7:Value) (w':World),RdT A [(c,Is (iI p (dc s1.1 s1.2 4) (dc (rN s1 4).1 (rN s1 4).2 2) (.slice none 0 0))),(hb,Is (ki 2 p))] rb (rN (rN s1 4) 2) w'->Q .normal { tmps:=#[.int .u8 2,u1,u2,u3,u4,.pointer (some ⟨rb,0,none⟩),.pointer (some ⟨hb,0,none⟩),u7,.pointer (some ⟨c,0,none⟩),u9,aS,aT,ab,ad,ag,aj,ar,av,ax,c2,c3,c4,c5,c6,c7,a6,a7,a8,a9,bY,bg,bj,bk,bo,bs,bx,b0,b1,b2,b3,b4,b6,b7,b9,ca,cb,cc,ch,ci,cj,cl,cm,cp,cs,ct,cu,cv,cx,c0,c1],defers:=ds } w'):
  (Jd 6 Tryz.f117).wp Tryz.prog Q { tmps:=#[.int .u8 2,u1,u2,u3,u4,.pointer (some ⟨rb,0,none⟩),.pointer (some ⟨hb,0,none⟩),u7,u8,u9,aS,aT,ab,ad,ag,aj,ar,av,ax,a0,a1,a2,a3,a4,a5,a6,a7,a8,a9,bY,bg,bj,bk,bo,bs,bx,b0,b1,b2,b3,b4,b6,b7,b9,ca,cb,cc,ch,ci,cj,cl,cm,cp,cs,ct,cu,cv,cx,c0,c1],defers:=ds } w:=by
 have hl2:(rN s1 4).1.length<=70000:=Nat.le_trans (gh _ _ _) hl;obtain⟨s2,hs2⟩:∃s2,s2=rN s1 4:=⟨_,rfl⟩;obtain⟨s3,hs3⟩:∃s3,s3=rN s2 2:=⟨_,rfl⟩;obtain⟨n,hn⟩:∃n,n=dc s1.1 s1.2 4:=⟨_,rfl⟩;obtain⟨m,hm⟩:∃m,m=dc s2.1 s2.2 2:=⟨_,rfl⟩;rw[<- hs2]at hk hl2;rw[<- hs3,<- hn,<- hm]at hk;conv=>arg 2;whnf
 refine zj [0,1,3] (.two 2 [0,3] [] (.two 4 [0] [5] (.one 6 [0,1,3,5] [] (.one 7 [] [] .fin)) 6 [0,1,3] [] (.one 4 [0] [5] (.one 7 [] [] .fin))) 6 [0,1,3] [] (.one 2 [0,3] [] (.one 4 [0] [5] (.one 7 [] [] .fin)))) HM.out (by kernel_rfl) fun W tW=>?_
 simp only[sS,map_cons,map_nil,nth,QG,QF];have k0:=hT.at hrb tW;have HRB:=qqH hrb;clear tW hrb
 have n4:∀(W:World) (G:HF),RdT A G rb s1 W->Calls Tryz.prog 134 #[.pointer (some ⟨rb,0,none⟩),.int .i64 4] W (fun e w'=>e=.returned (.int .i64 n)/\RdT A G rb s2 w'):=fun W G h=>(de rb s1.1 s1.2 4 _ h.2 (by omega) (by omega)).mono fun e w' hp=>by
  obtain⟨rfl,hR,hM⟩:=km hp;exact⟨by rw[hn],by rw[hs2];exact h.call hM hR⟩
 have n2:∀(W:World) (G:HF),RdT A G rb s2 W->Calls Tryz.prog 134 #[.pointer (some ⟨rb,0,none⟩),.int .i64 2] W (fun e w'=>e=.returned (.int .i64 m)/\RdT A G rb s3 w'):=fun W G h=>(de rb s2.1 s2.2 2 _ h.2 (by omega) (by omega)).mono fun e w' hp=>by
  obtain⟨rfl,hR,hM⟩:=km hp;exact⟨by rw[hm],by rw[hs3];exact h.call hM hR⟩
 have N4:=qqH n4;have N2:=qqH n2;clear n4 n2 hs2 hs3 hn hm;refine fT (k:=2) (p:=p) k0 (by simp) rfl rfl rfl ?_;simp only[Act.put,QA,QB,QC];repeat still_step
 refine wpStill_nil ⟨aU (by kernel_rfl) (N4.out _ _ k0) ?A,Eb E1 (fun c=>.pointer (some ⟨c,0,none⟩)) (by kernel_rfl) k0 HRB.out fun c W1 k1=>⟨fT (k:=2) (p:=p) k1 (by simp) rfl rfl rfl (by(simp only[Act.put,QA,QB,QC];(repeat still_step);exact rfl)),wpStill_nil (aU (by kernel_rfl) (N4.out _ _ k1) ?B)⟩⟩
 case' A =>
  rintro e W1 ⟨rfl,k1⟩;refine⟨_,rfl,fT (k:=2) (p:=p) k1 (by simp) rfl rfl rfl (by(simp only[Act.put,QA,QB,QC];(repeat still_step);exact rfl)),wpStill_nil ⟨aU (by kernel_rfl) (N2.out _ _ k1) ?A1,Eb E1 (fun c=>.pointer (some ⟨c,0,none⟩)) (by kernel_rfl) k1 HRB.out fun c W2 k2=>⟨fT (k:=2) (p:=p) k2 (by simp) rfl rfl rfl (by(simp only[Act.put,QA,QB,QC];(repeat still_step);exact rfl)),wpStill_nil (aU (by kernel_rfl) (N2.out _ _ k2) ?A2)⟩⟩⟩
 case' B =>
  rintro e W2 ⟨rfl,k2⟩;refine⟨_,rfl,fT (k:=2) (p:=p) k2 (by simp) rfl rfl rfl (by(simp only[Act.put,QA,QB,QC];(repeat still_step);exact rfl)),wpStill_nil (aU (by kernel_rfl) (N2.out _ _ k2) ?B2)⟩
 case' A1 =>
  rintro e W2 ⟨rfl,k2⟩;refine⟨_,rfl,fT (k:=2) (p:=p) k2 (by simp) rfl rfl rfl rfl,?_⟩;simp only[Act.put,QA,QB,QC];repeat still_step
  refine wpStill_nil (Eb E1 (fun c=>.pointer (some ⟨c,0,none⟩)) (by kernel_rfl) k2 HRB.out fun c W3 k3=>⟨fT (k:=2) (p:=p) k3 (by simp) rfl rfl rfl (by(simp only[Act.put,QA,QB,QC];(repeat still_step);exact rfl)),?_⟩)
 case' A2 =>
  rintro e W3 ⟨rfl,k3⟩;refine⟨_,rfl,fT (k:=2) (p:=p) k3 (by simp) rfl rfl rfl rfl,?_⟩;simp only[Act.put,QA,QB,QC];repeat still_step
 case' B =>
  rintro e W3 ⟨rfl,k3⟩;refine⟨_,rfl,fT (k:=2) (p:=p) k3 (by simp) rfl rfl rfl rfl,?_⟩;simp only[Act.put,QA,QB,QC];repeat still_step
 all_goals
  obtain⟨o',h8,h9⟩:=k3.is;refine wpStill_nil (ny 139 (.tmp 8) (.tmp 24) rfl c #[.int .u8 0,.string ⟨#[]⟩,.int .i64 0,.int .i64 0,.slice none 0 0] #[.int .u8 2,str p,.int .i64 n,.int .i64 m,.slice none 0 0] 139 (h8.to (H:=(c,Is (.cells #[.int .u8 0,.string ⟨#[]⟩,.int .i64 0,.int .i64 0,.slice none 0 0] 139 (0,0)))::[(hb,Is (ki 2 p)),(rb,Is o')]) (by unfold E1;exact ac)) rfl rfl rfl (by kernel_rfl) (by simp[Value.oneCell',str]) fun w3 h10=>⟨rfl,wpStill_nil ?_⟩);simp only[Act.put,QA,QB,QC];exact hk c _ _ _ _ _ _ w3 (k3.on HRB.out h9 (h10.to (by unfold iI;exact ac)))
theorem yS(body:Bs):ff 2 body=if(rN (rN (rT (body,false)) 4) 2).2=false/\(rN (rN (rT (body,false)) 4) 2).1.length%4=0 then some (.ver (gm body false) (dc (rT (body,false)).1 (rT (body,false)).2 4) (dc (rN (rT (body,false)) 4).1 (rN (rT (body,false)) 4).2 2) (iy (rN (rN (rT (body,false)) 4) 2).1))else none:=by
 unfold ff;rw[if_pos rfl]
def cI(k:UInt8)(body:Bs)(w:World)(e:Ending)(w':World):Prop :=
 match ff k body with
 | none=>e=.returned .nilIface/\aQ w w'
 | some r=>∃v,e=.returned (uA r v)/\iOk v (mz r)/\Turns [] (bZ v (mz r)) w w'
theorem zB(a:Option Addr)(cap:Nat)(body:Bs)(w:World)(h:ak w a (body.map al))(hcap:body.length<=cap)(ha:∀x,a=some x->x.block<w.heap.size)(hl:body.length<=70000):
  Calls Tryz.prog 117 #[.int .u8 2,.slice a body.length cap] w (cI 2 body w):=by
 obtain⟨rb,hrb⟩:∃rb,rb=w.heap.size:=⟨_,rfl⟩
 have hR0:RdT w [] rb (body,false) (w.alloc (.cells #[.slice a body.length cap,.bool false] 270)):=by
  refine⟨?_,a,cap,?_,hcap,h.keep ((Mods.refl (fun _=>False) w).alloc _) (fun _ _ _=>id),fun x hx=>hrb ▸ ha x hx⟩
  ·rw[hrb];exact(Turns.refl (Sat.nil w)).Qe (φ:=fun _=>True) trivial
  ·unfold sW;rw[hrb];exact aK w _
 have HT:=qqH (ng rb body false _ hR0.2 (by omega));have H0:=Hq2 hR0 hrb;rw[hrb]at HT;clear h ha hcap hR0;go_enter Tryz.func117,Tryz.ntmps117;go_wp2_with fail;refine HT.out.mono ?_;rintro e w2 ⟨rfl,hR2,hm2⟩;rw[<- hrb]at hR2 hm2 ⊢;have hR3:RdT w [] rb (rT (body,false)) w2:=H0.a.call hm2 hR2;obtain⟨p,hp⟩:∃p,p=gm body false:=⟨_,rfl⟩;obtain⟨s1,hs1⟩:∃s1,s1=rT (body,false):=⟨_,rfl⟩;have hl1:s1.1.length<=70000:=by rw[hs1];exact Nat.le_trans (iH _ _) hl
 rw[<- hs1]at hR3;rw[<- hp];have H2:=Hq3 hR3 hp hs1;clear hR2 hm2 hR3 hp hs1 hrb;go_upto_region 6 with(fail);obtain⟨hb,hhb⟩:∃hb,hb=w2.heap.size:=⟨_,rfl⟩;rw[<- hhb];refine LW w hb p rb s1 H0.z ?_ hl1 ?_
 ·rw[hhb];exact H2.a.alloc H0.z (ki 2 p)
 intro c _ _ _ _ _ _ w3 hT3;obtain⟨n,hn⟩:∃n,n=dc s1.1 s1.2 4:=⟨_,rfl⟩;obtain⟨m,hm⟩:∃m,m=dc (rN s1 4).1 (rN s1 4).2 2:=⟨_,rfl⟩;obtain⟨s3,hs3⟩:∃s3,s3=rN (rN s1 4) 2:=⟨_,rfl⟩;rw[<- hn,<- hm,<- hs3]at hT3;have hl3:s3.1.length<=70000:=by rw[hs3];exact Nat.le_trans (Nat.le_trans (gh _ _ _) (gh _ _ _)) hl1
 have HN:=qqH (oB rb s3.1 s3.2 w3 hT3.2 hl3);have H3:=Hq4 hT3 hn hm hs3;have hcl:c<w3.heap.size:=hT3.1.sat.lt (by simp);clear hT3 hn hm hs3 hhb;go_wp2_with fail;refine HN.out.mono ?_;rintro e w4 ⟨v,ns,l',b',rfl,hio,hT4,hR4,hres⟩;have hT5:RdT w (bZ v ns++[(c,Is (iI p n m (.slice none 0 0))),(hb,Is (ki 2 p))]) rb (l',b') w4:=RdT.nums (s':=(l',b')) H3.a hT4 hR4;obtain⟨o',h8,h9⟩:=hT5.is;have hcl4:c<w4.heap.size:=hT5.1.sat.lt (by simp);have hv1:=dl hT5.1.sat.left.left hio;have H5:=Hq6 hT5 hio trivial h8 h9 hv1;clear hT4 hR4 hio hT5 h8 h9 hv1;rcases hres with⟨hb',hs2,hl4,hl',hns⟩|⟨hb',hbad,-⟩
 ·subst hb';subst hl';have HX:=Hq3 hs2 hl4 hns;clear hs2 hl4 hns;go_wp2_with (first|(refine ah rfl (bb 96 (.tmp 27) (.tmp 26) rfl c 4 #[.int .u8 2,str p,.int .i64 n,.int .i64 m,.slice none 0 0] 139 v (H5.d.to (H:=(c,Is (.cells #[.int .u8 2,str p,.int .i64 n,.int .i64 m,.slice none 0 0] 139 (0,0)))::(bZ v ns++[(hb,Is (ki 2 p)),(rb,Is o')])) (by unfold iI;exact ac)) rfl rfl (by simp) (by kernel_rfl) H5.f H5.g ?_);intro w5 hT6;have hR6:=RdT.on H5.a H0.z H5.e (G':=(c,Is (iI p n m v))::(bZ v ns++[(hb,Is (ki 2 p))])) ((show Turns [] ((c,Is (iI p n m v))::(bZ v ns++[(hb,Is (ki 2 p)),(rb,Is o')])) w w5 from hT6).to ac);have hb6:=hR6.1.sat.Q5;have d0:=aa (v:=.int .u8 2) hb6 0 rfl;have d1:=aa (v:=str p) hb6 1 rfl;have d2:=aa (v:=.int .i64 n) hb6 2 rfl;have d3:=aa (v:=.int .i64 m) hb6 3 rfl;have d4:=aa (v:=v) hb6 4 rfl;have hcl6:=ae hb6;obtain⟨ra,rc,hra,-,-,-⟩:=id hR6.2;have f0:=aa hra 0 rfl;have f1:=aa hra 1 rfl;have hrl6:=ae hra;have H6:=qqH hR6;clear hT6 hR6 hb6 hra;simp only[Act.put])|fail)
  have hrd:ff 2 body=some (.ver p n m ns):=by
   rw[yS,<- H2.y,<- H2.b,<- H3.b,<- H3.c,<- H3.x,if_pos ⟨HX.a,HX.b⟩,HX.y]
  have hfin:cI 2 body w (.returned (.iface 139 (.agg #[.int .u8 2,str p,.int .i64 n,.int .i64 m,v]))) w5:=by
   unfold cI;rw[hrd];exact⟨v,rfl,H5.b,H6.a.drop (fun x=>by show cnt x (bZ v ns)<=_;simp only[ao,ai];omega)⟩
  go_ret;exact (by exact hfin)
 ·subst hb';have HX:=qqH hbad;clear hbad;go_wp2_with (first|(refine ah rfl (bb 96 (.tmp 27) (.tmp 26) rfl c 4 #[.int .u8 2,str p,.int .i64 n,.int .i64 m,.slice none 0 0] 139 v (H5.d.to (H:=(c,Is (.cells #[.int .u8 2,str p,.int .i64 n,.int .i64 m,.slice none 0 0] 139 (0,0)))::(bZ v ns++[(hb,Is (ki 2 p)),(rb,Is o')])) (by unfold iI;exact ac)) rfl rfl (by simp) (by kernel_rfl) H5.f H5.g ?_);intro w5 hT6;have hR6:=RdT.on H5.a H0.z H5.e (G':=(c,Is (iI p n m v))::(bZ v ns++[(hb,Is (ki 2 p))])) ((show Turns [] ((c,Is (iI p n m v))::(bZ v ns++[(hb,Is (ki 2 p)),(rb,Is o')])) w w5 from hT6).to ac);have hb6:=hR6.1.sat.Q5;have d0:=aa (v:=.int .u8 2) hb6 0 rfl;have d1:=aa (v:=str p) hb6 1 rfl;have d2:=aa (v:=.int .i64 n) hb6 2 rfl;have d3:=aa (v:=.int .i64 m) hb6 3 rfl;have d4:=aa (v:=v) hb6 4 rfl;have hcl6:=ae hb6;obtain⟨ra,rc,hra,-,-,-⟩:=id hR6.2;have f0:=aa hra 0 rfl;have f1:=aa hra 1 rfl;have hrl6:=ae hra;have H6:=qqH hR6;clear hT6 hR6 hb6 hra;simp only[Act.put])|fail)
  have hrd:ff 2 body=none:=by
   rw[yS,<- H2.y,<- H3.x,if_neg];rintro⟨h1,h2⟩;rcases HX.out with h|h
   ·rw[h1]at h;cases h
   ·exact h h2
  have hfin:cI 2 body w (.returned .nilIface) w5:=by
   unfold cI;rw[hrd];exact⟨rfl,H6.a.news⟩
  go_ret;exact (by exact hfin)
end
section
open Go.RowKit Go.Maps
def OkI(n:Int):Prop:=-9223372036854775808<=n/\n<=9223372036854775807
theorem Dn:EncOk Tryz.prog 3 di OkI where
 keyed:=int_keyed Tryz.underlying3
 inj:=fun a b h=>by simpa[di]using h
 key:=fun a h=>⟨_,Go.Maps.keyOf_int_mk Tryz.underlying3 (by
  unfold OkI at h
  simp[Lit.wf,IntKind.signed,IntKind.bits,IntKind.min,IntKind.max]
  omega)⟩
theorem K9(w:World):(zeroValue 3).run Tryz.prog w=.ok (.int .i64 0) w:=by kernel_rfl
def du(szf:Int->Option Nat):List Int->Option (List (Nat×Nat))
 | []=>some []
 | a::r=>match szf a,du szf r with
  | some s,some l=>some ((a.toNat,s)::l)
  | _,_=>none
theorem oV(szf:Int->Option Nat)(a:Int):∀l:List Int,du szf (l++[a])=match du szf l,szf a with|some m,some s=>some (m++[(a.toNat,s)])|_,_=>none
 | []=>by simp only[nil_append,du];cases szf a<;>rfl
 | b::r=>by
  simp only[cons_append,du,oV szf a r]
  cases szf b<;>cases du szf r<;>cases szf a<;>rfl
theorem tB{szf:Int->Option Nat}:∀{l m:List Int},du szf l=none->du szf (l++m)=none
 | [],_,h=>by cases h
 | b::r,m,h=>by
  simp only[cons_append,du]at h ⊢
  cases hb:szf b with
  | none=>rfl
  | some s =>
   rw[hb]at h
   cases hr:du szf r with
   | none=>rw[tB hr]
   | some l=>rw[hr]at h;cases h
theorem nO{szf:Int->Option Nat}:∀{l:List Int} {m:List (Nat×Nat)},du szf l=some m->m.length=l.length
 | [],m,h=>by simp only[du,Option.some.injEq]at h;subst h;rfl
 | b::r,m,h=>by
  simp only[du]at h
  cases hb:szf b with
  | none=>rw[hb]at h;cases h
  | some s =>
   cases hr:du szf r with
   | none=>rw[hb,hr]at h;cases h
   | some l=>rw[hb,hr]at h;simp only[Option.some.injEq]at h;subst h;simp[nO hr]
theorem wI{szf:Int->Option Nat}(hs:∀a s,szf a=some s->s<=65535):∀{l:List Int} {m:List (Nat×Nat)},du szf l=some m->(m.map (·.2)).sum<=65535*l.length
 | [],m,h=>by simp only[du,Option.some.injEq]at h;subst h;simp
 | b::r,m,h=>by
  simp only[du]at h
  cases hb:szf b with
  | none=>rw[hb]at h;cases h
  | some s =>
   cases hr:du szf r with
   | none=>rw[hb,hr]at h;cases h
   | some l =>
    rw[hb,hr]at h
    simp only[Option.some.injEq]at h
    subst h
    have h1:=wI hs hr
    have h2:=hs b s hb
    simp only[map_cons,sum_cons,length_cons]
    omega
theorem Fs(X:ArchL)(s:Int):(bl X).setIfInBounds 5 (.int .i64 s)=bl { X with used:=s }:=rfl
theorem Fw(c:Array Value)(w:World):(Instr.typeAssert (.iface 139 (.agg c)) 200 139 true).run Tryz.prog w=.ok (.tuple #[.agg c,.bool true]) w:=by kernel_rfl
def iR(a:Nat)(X:ArchL)(ps:List ba)(pc sm:Nat)(sz:List (Ent Int))(szc:Nat)(v:Value)(ats:List Int):HF :=
 (a,Is (aJ X))::(aF X.pm ps pc++((sm,Is (aO di sz szc))::bZ v ats))
def Fj(a:Nat)(X:ArchL)(ps:List ba)(pc sm:Nat)(sz:List (Ent Int))(szc:Nat)(v:Value)(szf:Int->Option Nat)(p:Bs)(n m:Nat)(ats:List Int)(w:World)(e:Ending)(w':World):Prop :=
 ((∀chs,du szf ats=some chs->(chs.map (·.2)).sum≠m)/\e=.returned (.bool false)/\Turns (iR a X ps pc sm sz szc v ats) (iR a X ps pc sm sz szc v ats) w w') \/
 (∃chs b cv v',du szf ats=some chs/\(chs.map (·.2)).sum=m/\e=.returned (.bool true)/\bP cv chs/\eT v' (af ps p++[⟨b,n,m,cv,chs,0⟩]) /\
  Turns (iR a X ps pc sm sz szc v ats) (iR a { X with used:=X.used+m } (kw ps pc p v' ⟨b,n,m,cv,chs,0⟩) (cf (ps.map aN) pc p) sm sz szc v ats) w w')
def JL(F1:HF)(szf:Int->Option Nat)(ats:List Int)(n m tb:Nat)(p:Bs)(v:Value)(vb:Nat)(w:World)(sum i:Value)(W:World):Prop :=
 ∃(k:Nat) (cv:Value) (chs:List (Nat×Nat)) (J:HF),k<=ats.length/\i=.int .i64 k/\du szf (ats.take k)=some chs/\sum=.int .i64 ((chs.map (·.2)).sum:Nat)/\bP cv chs /\
  Turns F1 ((vb,Is (dt ⟨vb,n,m,cv,chs,0⟩))::(aY cv chs++((tb,Is (iI p n m v))::(F1++J)))) w W
theorem BA(a:Nat)(X:ArchL)(ps:List ba)(pc sm:Nat)(sz:List (Ent Int))(szc:Nat)(v:Value)(szf:Int->Option Nat)(p:Bs)(n m:Nat)(ats:List Int)(w:World)(h:Sat w (iR a X ps pc sm sz szc v ats))(hio:iOk v ats)(hsz:MapOk OkI sz szc)(hz:∀k,dz sz k=(szf k).map (fun s=>.int .i64 (s:Nat)))(hs:∀a s,szf a=some s->s<=65535)(hat:∀x∈ats,0<=x/\x<=4294967296)(hal:ats.length<=100000)(hok:PathsOk ps pc)(hl:OkS p)(hlen:(af ps p).length<=100000)(hus : -2305843009213693952<=X.used/\X.used<=2305843009213693952)(hm:m<=4294967296):
  Calls Tryz.prog 116 #[.pointer (some ⟨a,0,none⟩),uA (.ver p n m ats) v,.map (some sm)] w (Fj a X ps pc sm sz szc v szf p n m ats w):=by
 obtain⟨F1,hF1⟩:∃F1,F1=iR a X ps pc sm sz szc v ats:=⟨_,rfl⟩;have hsm:=h.Q7 (b:=sm) (o:=aO di sz szc) (by simp[iR])
 obtain⟨av,cap,hv,-,hcap,hcap2,hcell⟩:∃av cap,v=.slice av ats.length cap/\True/\ats.length<=cap/\cap<=9223372036854775807/\ak w av (ats.map di):=by
  obtain⟨a',c',e1,-,h3,h4,h5⟩:=aL (aR (h.sub (G:=bZ v ats) (fun x=>by simp only[iR,ao,ai];omega)) hio);exact⟨a',c',e1,trivial,h3,by have:=dl (h.sub (G:=bZ v ats) (fun x=>by simp only[iR,ao,ai];omega)) hio;obtain⟨-,-,a2,c2,e2,-,h2⟩:=this;rw[e1]at e2;simp only[Value.slice.injEq]at e2;obtain⟨-,-,rfl⟩:=e2;exact h2,h4⟩
 have HH:=qqH (And.intro h (And.intro hio (And.intro hsz (And.intro hz (And.intro hs (And.intro hat (And.intro hok (And.intro hl (And.intro hlen (And.intro hus (And.intro hF1 hv)))))))))));clear h hio hsz hz hs hat hok hl hlen hcell;have hT0:Turns F1 F1 w w:=by rw[hF1];exact Turns.refl HH.a
 subst hv;unfold uA;obtain⟨tb,htb⟩:∃tb,tb=w.heap.size:=⟨_,rfl⟩;obtain⟨vb,hvb⟩:∃vb,vb=w.heap.size+1:=⟨_,rfl⟩
 have hT1:Turns F1 ((vb,Is (dt ⟨vb,n,m,.slice none 0 0,[],0⟩))::((tb,Is (iI p n m (.slice av ats.length cap)))::F1)) w ((w.alloc (iI p n m (.slice av ats.length cap))).alloc (dt ⟨vb,n,m,.slice none 0 0,[],0⟩)):=by
  have:=(hT0.Q8 (iI p n m (.slice av ats.length cap))).Q8 (dt ⟨vb,n,m,.slice none 0 0,[],0⟩);rw[World.size_alloc,<- htb]at this;rw[hvb,<- htb];exact this
 have HT1:=qqH hT1;have HB:=Hq3 htb hvb hF1;clear hT0 hT1 hF1 hsm htb hvb;go_enter Tryz.func116,Tryz.ntmps116;have hta:=Fw #[.int .u8 2,str p,.int .i64 n,.int .i64 m,.slice av ats.length cap] w;go_wp2_with fail;rw[<- HB.b,<- HB.a];clear hta;go_loopw [9,32] (fun sum i wr=>JL F1 szf ats n m tb p (.slice av ats.length cap) vb w sum i wr) (fun _ i _=>ats.length-(intOf i).toNat)
 case atStart=>exact⟨0,.slice none 0 0,[],[],Nat.zero_le _,rfl,rfl,rfl,⟨rfl,fun _=>⟨rfl,rfl⟩⟩,by rw[append_nil];exact HT1.out⟩
 case round =>
  obtain⟨k,cv,chs,J,hk,rfl,hch,rfl,hpo,hT⟩:=hrel;obtain⟨sm1,hsm1⟩:∃sm1,sm1=(chs.map (·.2)).sum:=⟨_,rfl⟩;have hsl:sm1<=65535*k:=by have:=wI HH.e hch;rw[length_take]at this;rw[hsm1];omega
  have hcl:chs.length=k:=by rw[nO hch,length_take];omega
  rw[<- hsm1];have htb:=hT.sat.Q7 (b:=tb) (o:=iI p n m (.slice av ats.length cap)) (by simp);have t2:wr.cell? ⟨tb,3,none⟩=some (.int .i64 m):=aa htb 3 rfl;have htl:=ae htb;by_cases hlt:k<ats.length
  ·have hrow:ak wr av (ats.map di):=by
    have hs:=hT.sat.sub (G:=bZ (.slice av ats.length cap) ats) (fun x=>by rw[HB.y];simp only[iR,ao,ai];omega);obtain⟨a',c',e1,-,-,h4,-⟩:=aL (aR hs HH.b);simp only[Value.slice.injEq]at e1;obtain⟨rfl,-,-⟩:=e1;exact h4
   obtain⟨g,off,hg,hcell⟩:=hrow (by rw[length_map];omega);subst hg;have hc1:=hcell k (by rw[length_map];exact hlt);rw[getElem_map]at hc1;obtain⟨x,hx⟩:∃x,x=ats[k]:=⟨_,rfl⟩;rw[<- hx]at hc1;unfold di at hc1;have hxr:=HH.f x (by rw[hx];exact getElem_mem hlt);have htk:ats.take (k+1)=ats.take k++[x]:=by rw[QH hlt,hx]
   have hsb:=hT.sat.Q7 (b:=sm) (o:=aO di sz szc) (by rw[HB.y];simp[iR]);have hget:=HH.d x;have hhas:=gM (l:=sz) (k:=x);have hvbo:=hT.sat.Q7 (b:=vb) (o:=dt ⟨vb,n,m,cv,chs,0⟩) (by simp);have v2:wr.cell? ⟨vb,2,none⟩=some cv:=aa hvbo 2 rfl;have hvl:=ae hvbo;rw[hget]at hhas
   cases hzx:szf x with
   | none =>
    rw[hzx]at hget hhas;have HR:=Hq7 hT hsb hget hhas htk hzx hxr;clear hT hsb hget hhas htk hzx hx hcell hrow hpo hvbo htb hxr;go_wp2_with ((refine ah rfl (iJ Dn (.tmp 37) (.tmp 38) rfl Tryz.underlying240 HR.b HH.c (K9 _) x rfl rfl ⟨by have:=HR.u;omega,by have:=HR.u;omega⟩ ?_);rw[HR.c,HR.d];simp only[Option.map_none,Option.getD_none,Option.isSome_none]));go_ret;refine (.inl ⟨fun c' hc'=>?_,rfl,?_⟩)
    ·have h1:du szf (ats.take (k+1))=none:=by rw[HR.e,oV,HR.f];cases du szf (ats.take k)<;>rfl
     have h2:=tB (m:=ats.drop (k+1)) h1;rw[take_append_drop]at h2;rw[h2]at hc';cases hc'
    ·rw[<- HB.y];exact HR.a.drop (fun x=>by simp only[ao,ai];omega)
   | some s =>
    rw[hzx]at hget hhas;have hs6:=HH.e x s hzx;have hch2:du szf (ats.take (k+1))=some (chs++[(x.toNat,s)]):=by rw[htk,oV,hch,hzx]
    have hx2:(x.toNat:Int)=x:=by omega
    have hTp:=hT.to (H:=aY cv chs++((vb,Is (dt ⟨vb,n,m,cv,chs,0⟩))::((tb,Is (iI p n m (.slice (some ⟨g,off,none⟩) ats.length cap)))::(F1++J)))) ac;have HR:=Hq9 hTp hsb hget hhas hch2 hpo hxr hsm1 hx2;clear hT hTp hsb hget hhas htk hzx hx hcell hrow hpo hvbo htb hxr hch2 hch hx2 hsm1
    go_wp2_with (first
     | (refine ah rfl (iJ Dn (.tmp 37) (.tmp 38) rfl Tryz.underlying240 HR.b HH.c (K9 _) x rfl rfl ⟨by have:=HR.g;omega,by have:=HR.g;omega⟩ ?_);rw[HR.c,HR.d];simp only[Option.map_some,Option.getD_some,Option.isSome_some])
     | (at_builtin;refine ah rfl ?_;refine kR (.tmp 51) (.tmp 55) rfl _ chs rfl (HR.a.alloc _) HR.f _ 1 1 rfl [(x.toNat,s)] rfl (fun _=>⟨_,rfl,fun j u hu=>ic _ _ _ j u (by simpa only[cR,flatMap_cons,flatMap_nil,append_nil,re,HR.out.2.2.2.2.2.2.2.2]using hu)⟩) (by simp;omega) ?_;intro v5 w5 hok5 hT5;have hb5:=hT5.sat.Q7 (b:=vb) (o:=dt ⟨vb,n,m,cv,chs,0⟩) (by simp);have v5c:w5.cell? ⟨vb,2,none⟩=some cv:=aa hb5 2 rfl;have hv5l:=ae hb5;have h51:=dl hT5.sat.left hok5;have H5:=Hq3 hok5 hT5 h51;clear hok5 hT5 hb5 h51)
     | (refine ah rfl (bb 115 (.tmp 58) (.tmp 56) rfl vb 2 (fD ⟨vb,n,m,cv,chs,0⟩) 117 v5 (H5.b.to (H:=(vb,Is (dt ⟨vb,n,m,cv,chs,0⟩))::(aY v5 (chs++[(x.toNat,s)])++((tb,Is (iI p n m (.slice (some ⟨g,off,none⟩) ats.length cap)))::(F1++J)))) ac) rfl rfl (by simp[fD]) (by kernel_rfl) H5.c H5.d ?_);intro w6 hT6;have HT6:=qqH hT6;clear hT6;simp only[Act.put])
     | fail)
    go_roundw
    case rel =>
     refine⟨k+1,v5,chs++[(x.toNat,s)],J,by omega,by go_num,HR.e,?_,H5.a,?_⟩
     ·rw[map_append,sum_append,<- HR.h];simp
     ·exact HT6.out
    case measure=>simp[intOf];omega
  ·obtain rfl:k=ats.length:=by omega
   rw[take_length]at hch;by_cases hse:sm1=m
   ·have hTp:=hT.to (H:=(tb,Is (iI p n m (.slice av ats.length cap)))::((a,Is (aJ X))::((aF X.pm ps pc++bL ⟨vb,n,m,cv,chs,0⟩)++((sm,Is (aO di sz szc))::(bZ (.slice av ats.length cap) ats++J))))) (by rw[HB.y];unfold iR bL;exact ac);have HR:=Hq4 hTp hch hpo hsm1;clear hT hTp hch hpo hsm1 htb;subst hse;go_upto_region 17 with(fail);refine db [([0,1,2,3,4,5,6],7,[])] [] HM.out (by kernel_rfl) fun W tW=>?_
    simp only[Mix,map_cons,map_nil,nth,QG,QF];have k0:=tW (HR.a.to (H:=((a,Is (aJ X))::(aF X.pm ps pc++bL ⟨vb,n,sm1,cv,chs,0⟩))++((tb,Is (iI p n sm1 (.slice av ats.length cap)))::((sm,Is (aO di sz szc))::(bZ (.slice av ats.length cap) ats++J)))) ac);clear tW;have g0:W.cell? ⟨tb,1,none⟩=some (str p):=aa (k0.sat.Q7 (b:=tb) (o:=iI p n sm1 (.slice av ats.length cap)) (by simp)) 1 rfl;repeat still_step
    refine wpStill_nil (aU (by kernel_rfl) (qK a X.pm X.tm X.cm pc X.sc X.sb X.used ps p ⟨vb,n,sm1,cv,chs,0⟩ (bl X) 59 W k0.sat.left ⟨rfl,rfl,rfl,rfl,rfl,rfl⟩ HH.g HH.h HH.out.2.2.2.2.2.2.2.2.1 (by have:=HH.out.2.2.2.2.2.2.2.2.2.1;simp only;omega) (by simp only;omega)) ?_);rintro e w7 ⟨v7,rfl,hv7,hT3⟩;have hT7:=k0.step (Perm.refl _) hT3;rw[Fs]at hT7;refine⟨_,rfl,rfl,?_⟩;simp only[Act.put,QA,QB,QC];refine wpStill_nil ?_;have H7:=Hq2 hv7 hT7;clear k0 g0 hv7 hT3 hT7;go_wp2_with fail;go_ret;refine (.inr ⟨chs,vb,cv,v7,HR.b,HR.x.symm,rfl,HR.c,H7.a,?_⟩);rw[<- HB.y];exact H7.z.drop (fun x=>by unfold iR aJ;simp only[ao,ai];omega)
   ·have HR:=Hq3 hT hch hsm1;have hse2:¬((sm1:Int)=(m:Int)):=by omega
    clear hT hch hpo hsm1 htb;go_wp2_with fail;go_ret;refine (.inl ⟨fun c' hc'=>?_,rfl,?_⟩)
    ·rw[HR.b]at hc';obtain rfl:=Option.some.inj hc';rw[<- HR.y];exact hse
    ·rw[<- HB.y];exact HR.a.drop (fun x=>by simp only[ao,ai];omega)
theorem Gq(x rest:Bs):dc (x++rest) false x.length=bz x:=by
 unfold dc;rw[if_neg (by simp),take_left]
theorem I9(x rest:Bs):rN (x++rest,false) x.length=(rest,false):=by
 unfold rN eV fe;rw[if_neg (by simp),drop_left];simp
theorem wD{n:Int}{k:Nat}(h0:0<=n)(h1:n<256 ^ k):(bz (beI n k):Int)=n:=by
 obtain⟨m,rfl⟩:∃m:Nat,n=m:=⟨n.toNat,by omega⟩;have h2:m<256 ^ k:=by have:((256 ^ k:Nat):Int)=256 ^ k:=Int.natCast_pow 256 k;omega
 rw[yd,pJ,Nat.mod_eq_of_lt h2]
theorem rh{n:Int}{k:Nat}(h0:0<=n)(h1:n<256 ^ k)(rest:Bs):(dc (beI n k++rest) false k:Int)=n:=by
 have:=Gq (beI n k) rest;rw[bM]at this;rw[this];exact wD h0 h1
theorem DN(n:Int)(k:Nat)(rest:Bs):rN (beI n k++rest,false) k=(rest,false):=by
 have:=I9 (beI n k) rest;rwa [bM]at this
theorem GK{p:Bs}(hp:p.length<=255)(rest:Bs):dc (ej p++rest) false 1=p.length/\eV (ej p++rest) false 1=p++rest/\fe (ej p++rest) false 1=false:=by
 unfold ej dc eV fe;refine⟨?_,?_,?_⟩
 ·rw[if_neg (by simp)];simp only[cons_append,QE,take_zero];unfold bz;simp only[foldl_cons,foldl_nil,Nat.zero_mul,Nat.zero_add];rw[UInt8.toNat_ofNat'];exact Nat.mod_eq_of_lt (by omega)
 ·rw[if_neg (by simp)];rfl
 ·simp
theorem mn{p:Bs}(hp:p.length<=255)(rest:Bs):gm (ej p++rest) false=p/\rT (ej p++rest,false)=(rest,false):=by
 obtain⟨h1,h2,h3⟩:=GK hp rest;have hN:vd (ej p++rest) false=p.length:=by unfold vd;exact h1
 refine⟨?_,?_⟩
 ·unfold gm;rw[h2,h3,hN,if_neg (by simp),take_left]
 ·unfold rT lD kQ;simp only[h2,h3,hN];have:=I9 p rest;exact this
theorem ui(a:Int)(r:List Int):dN (a::r)=beI a 4++dN r:=by simp[dN]
theorem Bb:∀(l:List Int) (i:Nat) (hi:i<l.length),((dN l).drop (4*i)).take 4=beI l[i] 4
 | [],i,hi=>by simp at hi
 | a::r,0,_=>by
  rw[ui,Nat.mul_zero,drop_zero]
  have:=take_left (l₁:=beI a 4) (l₂:=dN r)
  rw[bM]at this;exact this
 | a::r,i+1,hi=>by
  have e1:(dN (a::r)).drop (4*(i+1))=(dN r).drop (4*i):=by
   have h4:4*(i+1)=(beI a 4).length+4*i:=by rw[bM];omega
   rw[ui,h4,<- drop_drop,drop_left]
  rw[e1];exact Bb r i (by simpa using hi)
theorem xg{l:List Int}(h:∀n∈l,0<=n/\n<4294967296):iy (dN l)=l:=by
 refine ext_getElem (by rw[i6,cr];omega) (fun i h1 h2=>?_)
 have e1:(iy (dN l))[i]?=some ((bz (((dN l).drop (4*i)).take 4):Nat):Int):=by
  unfold iy;rw[getElem?_map,getElem?_range (by rw[cr];omega)];rfl
 rw[getElem?_eq_getElem h1]at e1;rw[Option.some.inj e1,Bb l i h2];have:=h l[i] (getElem_mem h2);exact wD this.1 (by omega)
theorem xr{p:Bs}{num size:Nat}{ats:List Int}(hp:p.length<=255)(hn:num<4294967296)(hs:size<65536)(ha:∀n∈ats,0<=n/\n<4294967296):ff 2 (eF p num size ats)=some (.ver p num size ats):=by
 have e0:eF p num size ats=ej p++(beI num 4++(beI size 2++dN ats)):=by unfold eF;simp
 obtain⟨t1,t2⟩:=mn hp (beI num 4++(beI size 2++dN ats));rw[yS,e0,t1,t2,DN,DN];rw[if_pos ⟨rfl,by rw[cr];omega⟩,xg ha];have h1:=rh (n:=(num:Int)) (k:=4) (by omega) (by omega) (beI size 2++dN ats);have h2:=rh (n:=(size:Int)) (k:=2) (by omega) (by omega) (dN ats);simp only[Option.some.injEq,RecR.ver.injEq,true_and,and_true];exact⟨by omega,by omega⟩
theorem DS{p:Bs}{ns:List Int}(hp:p.length<=255)(ha:∀n∈ns,0<=n/\n<4294967296):ff 3 (dA p ns)=some (.gone p ns):=by
 have e0:dA p ns=ej p++dN ns:=rfl;obtain⟨t1,t2⟩:=mn hp (dN ns);unfold ff;simp only[e0,t1,t2];rw[if_neg (by decide),if_pos trivial,if_pos ⟨trivial,by rw[cr];omega⟩,xg ha]
theorem ri{k:UInt8}(hk:k=4\/k=5){p name:Bs}{num:Nat}(hp:p.length<=255)(hq:name.length<=255)(hn:num<4294967296):ff k (dG p name num)=some (.pin k p name num):=by
 have e0:dG p name num=ej p++(ej name++beI num 4):=by unfold dG;simp
 obtain⟨t1,t2⟩:=mn hp (ej name++beI num 4);obtain⟨t3,t4⟩:=mn hq (beI num 4);have t5:=DN num 4 [];rw[append_nil]at t5;have h1:=rh (n:=(num:Int)) (k:=4) (by omega) (by omega) [];rw[append_nil]at h1;unfold ff;simp only[e0,t1,t2,t3,t4,t5];rw[if_neg (by rcases hk with rfl|rfl<;>decide),if_neg (by rcases hk with rfl|rfl<;>decide),if_pos hk,if_pos ⟨trivial,trivial⟩];simp only[Option.some.injEq,RecR.pin.injEq,true_and];omega
abbrev KL:=List (Bs×Nat×Nat)
abbrev Tg:=Bs×Bs×Int
def eZ(p:fO):Tg:=(p.key,p.g.1,p.g.2)
structure HV where
 p:Bs
 num:Nat
 size:Nat
 chs:List (Nat×Nat)
 held:Int
structure PSt where
 K:KL
 H:List HV
 T:List Tg
def kx(K:KL)(a:Int):Option Nat:=(K.find? (fun e=>decide ((e.2.1:Int)=a))).map (·.2.2)
def jy(H:List HV)(p:Bs)(ns:List Int):List HV:=H.filter (fun h => !(decide (h.p=p)&&ns.contains (h.num:Int)))
def fy(H:List HV)(p:Bs)(n:Int)(d:Int):List HV:=H.map (fun h=>if h.p=p/\(h.num:Int)=n then { h with held:=h.held+d } else h)
def ma(T:List Tg)(x:Tg):List Tg:=if T.any (fun t=>decide (t.1=x.1))then T.map (fun t=>if t.1=x.1 then x else t)else T++[x]
def Ap(T:List Tg)(m:Bs):List Tg:=T.filter (fun t => !decide (t.1=m))
def fC(at_:Nat)(s:PSt)(k:UInt8)(body:Bs):Option PSt :=
 if k=1 then some { s with K:=s.K++[(body,at_,body.length)] }
 else match ff k body with
  | none=>none
  | some (.ver p n m ats)=>match du (kx s.K) ats with
   | none=>none
   | some chs=>if(chs.map (·.2)).sum=m then some { s with H:=s.H++[⟨p,n,m,chs,0⟩] } else none
  | some (.gone p ns)=>if s.H.any (fun h=>decide (h.p=p))then some { s with H:=jy s.H p ns } else none
  | some (.pin q p m n)=>if q=4 then some { s with H:=fy s.H p n 1,T:=ma s.T (m,p,n) } else some { s with H:=fy s.H p n (-1),T:=Ap s.T m }
inductive Reach (D:Bs):Nat->PSt->Prop
 | zero:Reach D 0 ⟨[],[],[]⟩
 | next {at_ s s' k body n}:Reach D at_ s->ce (D.drop at_)=some (k,body,n)->fC at_ s k body=some s'->Reach D (at_+n) s'
def sC(D:Bs)(at_:Nat)(s:PSt):Prop:=∀k body n,ce (D.drop at_)=some (k,body,n)->fC at_ s k body=none
abbrev j0:=List (UInt8×Bs)
def cC(rs:j0):Bs:=(rs.map fun r=>frame r.1 r.2).flatten
def xZ(rs:j0):Prop:=∀r∈rs,r.1≠0/\r.2.length<65536
def lf:Nat->PSt->j0->Option PSt
 | _,s,[]=>some s
 | a,s,r::q=>(fC a s r.1 r.2).bind (fun s'=>lf (a+(r.2.length+9)) s' q)
theorem dL(a b:j0):cC (a++b)=cC a++cC b:=by simp[cC]
theorem kF(r:UInt8×Bs)(b:j0):cC (r::b)=frame r.1 r.2++cC b:=by simp[cC]
theorem C4(k:UInt8)(b:Bs):(cC [(k,b)]).length=b.length+9:=by simp[cC,aX]
theorem gk(q:j0):∀(r:j0) (a:Nat) (s:PSt),lf a s (r++q)=(lf a s r).bind (fun s'=>lf (a+(cC r).length) s' q)
 | [],a,s=>by simp[lf,cC]
 | x::r,a,s=>by
  simp only[cons_append,lf,Option.bind_assoc,kF,length_append,aX]
  congr 1
  funext s'
  rw[gk q r]
  congr 1
  funext t
  rw[Nat.add_assoc]
theorem qj(n:Nat):ce (am n)=none:=by
 unfold ce;split
 ·rfl
 ·rw[if_pos];unfold am
  cases n with
  | zero=>rfl
  | succ n=>simp[replicate_succ]
theorem xq{rs:j0}(h:xZ rs){z:Nat}{at_:Nat}{s:PSt}(hr:Reach (cC rs++am z) at_ s):∃a b,rs=a++b/\at_=(cC a).length/\lf 0 ⟨[],[],[]⟩ a=some s:=by
 induction hr with
 | zero=>exact⟨[],rs,rfl,rfl,rfl⟩
 | @next at_ s s' k body n _ ho hs ih =>
  obtain⟨a,b,rfl,rfl,hrun⟩:=ih;rw[dL,append_assoc,drop_left]at ho
  cases b with
  | nil=>rw[show cC []=[]from rfl,nil_append,qj]at ho;cases ho
  | cons r b =>
   have hk:=h r (by simp);rw[kF,append_assoc,jt _ _ _ hk.1 hk.2]at ho;simp only[Option.some.injEq,Prod.mk.injEq]at ho;obtain⟨rfl,rfl,rfl⟩:=ho;exact⟨a++[r],b,by simp,by rw[dL,length_append,C4],by rw[gk,hrun];simp[lf,hs]⟩
theorem xB{rs:j0}(h:xZ rs){z at_:Nat}{s t:PSt}(hr:Reach (cC rs++am z) at_ s)(hf:sC (cC rs++am z) at_ s)(ht:lf 0 ⟨[],[],[]⟩ rs=some t):at_=(cC rs).length/\s=t:=by
 obtain⟨a,b,rfl,rfl,hrun⟩:=xq h hr
 cases b with
 | nil =>
  rw[append_nil]at ht ⊢;rw[hrun]at ht;exact⟨rfl,Option.some.inj ht⟩
 | cons r b =>
  have hk:=h r (by simp);have h1:=hf r.1 r.2 (r.2.length+9) (by rw[dL,append_assoc,drop_left,kF,append_assoc,jt _ _ _ hk.1 hk.2]);rw[gk,hrun]at ht;simp[lf,h1]at ht
def cY(h:HV):Nat×Nat×List (Nat×Nat)×Int:=(h.num,h.size,h.chs,h.held)
def bI(V:VerL):Nat×Nat×List (Nat×Nat)×Int:=(V.num,V.size,V.chs,V.held)
structure Cnt (at_:Nat) (s:PSt):Prop where
 n:9*(s.K.length+s.H.length+s.T.length)<=at_
 held:∀h∈s.H,9*h.held.natAbs<=at_
 size:∀h∈s.H,h.p.length<=255/\h.num<4294967296/\h.size<=65535/\h.chs.length<=65536
 tag:∀t∈s.T,t.1.length<=255/\t.2.1.length<=255/\0<=t.2.2/\t.2.2<4294967296
structure CtOk (D:Bs) (X:ArchL) (ps:List ba) (pc:Nat) (cs:List kT) (cc:Nat) (ts:List fO) (tc:Nat) (sz:List (Ent Int)) (szc:Nat) (at_:Nat) (s:PSt):Prop where
 reach:Reach D at_ s
 le:at_<=D.length
 cnt:Cnt at_ s
 paths:PathsOk ps pc
 chunks:ChunksOk cs cc
 tags:TagsOk ts tc
 kin:∀k,(bd cs k).Perm ((s.K.filter (fun e=>decide (ef e.1=k))).map (·.2))
 kat:∀e∈s.K,e.2.2=e.1.length/\e.1.length<=65535/\dw (D.take at_) e.2.1 e.1
 hist:∀l,(af ps l).map bI=(s.H.filter (fun h=>decide (h.p=l))).map cY
 nem:∀p∈ps,p.g≠[]
 chsK:∀h∈s.H,(∀q∈h.chs,∃e∈s.K,e.2=q)/\h.size=(h.chs.map (·.2)).sum
 used:X.used=((s.H.map (·.size)).sum:Nat)
 sc:X.sc=s.K.length
 sb:X.sb=((s.K.map (·.1.length)).sum:Nat)
 map:MapOk OkI sz szc
 get:∀k,dz sz k=(kx s.K k).map (fun m=>.int .i64 (m:Nat))
 tagT:ts.map eZ=s.T
theorem BV(K:KL)(e:Bs×Nat×Nat)(a:Int):kx (K++[e]) a=(kx K a).or (if(e.2.1:Int)=a then some e.2.2 else none):=by
 unfold kx;rw[find?_append]
 cases hf:K.find? (fun e=>decide ((e.2.1:Int)=a))with
 | some x=>simp
 | none =>
  simp only[Option.none_or,Option.map_none,find?_cons,find?_nil];by_cases h:(e.2.1:Int)=a<;>simp[h]
theorem GJ{K:KL}{n:Nat}(h:∀e∈K,e.2.1<n):kx K n=none:=by
 unfold kx;rw[find?_eq_none.2]
 ·rfl
 ·intro e he;have:=h e he;simp;omega
theorem BW{K:KL}{a:Int}{s:Nat}(h:kx K a=some s):∃e∈K,e.2=(a.toNat,s):=by
 unfold kx at h
 cases hf:K.find? (fun e=>decide ((e.2.1:Int)=a))with
 | none=>rw[hf]at h;cases h
 | some e =>
  rw[hf]at h;have h1:(e.2.1:Int)=a:=by simpa using find?_some hf
  refine⟨e,mem_of_find?_eq_some hf,?_⟩;simp only[Option.map_some,Option.some.injEq]at h;rw[<- h,<- h1];rfl
theorem wH{K:KL}:∀{l:List Int} {m:List (Nat×Nat)},du (kx K) l=some m->∀q∈m,∃e∈K,e.2=q
 | [],m,h,q,hq=>by simp only[du,Option.some.injEq]at h;subst h;cases hq
 | b::r,m,h,q,hq=>by
  simp only[du]at h
  cases hb:kx K b with
  | none=>rw[hb]at h;cases h
  | some s =>
   cases hr:du (kx K) r with
   | none=>rw[hb,hr]at h;cases h
   | some l =>
    rw[hb,hr]at h
    simp only[Option.some.injEq]at h
    subst h
    rcases mem_cons.1 hq with rfl|hq
    ·exact BW hb
    ·exact wH hr q hq
theorem kK{b c:Bs}{k:UInt8}{body:Bs}{n:Nat}(h:ce b=some (k,body,n))(hc:c.take n=b.take n):ce c=some (k,body,n):=by
 obtain⟨-,hn,hnb,hbody,-⟩:=eD h
 have hlen:n<=c.length:=by
  have:=congrArg length hc;rw[length_take,length_take]at this;omega
 have hg:∀j,j<n->c.getD j 0=b.getD j 0:=fun j hj=>by
  have:=congrArg (fun l=>l[j]?) hc;simp only[getElem?_take_of_lt hj]at this;rw[getD_eq_getElem?_getD,getD_eq_getElem?_getD,this]
 have hd:∀i m,i+m<=n->(c.drop i).take m=(b.drop i).take m:=fun i m hi=>by
  have:=congrArg (fun l=>(l.drop i).take m) hc;simp only[drop_take,take_take]at this;rwa [Nat.min_eq_left (by omega)]at this
 unfold ce at h;split at h
 ·cases h
 split at h
 ·cases h
 simp only at h;split at h
 ·cases h
 split at h
 ·cases h
 split at h
 ·cases h
 rename_i h1 h2 h3 h4 h5;simp only[Option.some.injEq,Prod.mk.injEq]at h;obtain⟨rfl,hb,rfl⟩:=h;unfold ce;rw[if_neg (by omega),hg 0 (by omega),if_neg h2];simp only;rw[hg 1 (by omega),hg 2 (by omega),hg 3 (by omega),hg 4 (by omega),if_neg h3,if_neg (by omega),hd 5 _ (by omega),hd _ 4 (by omega),if_neg h5,hb]
theorem dw.at_{D body:Bs}{at_ n:Nat}(h:ce (D.drop at_)=some (1,body,n))(hle:at_<=D.length):n=body.length+9/\at_+n<=D.length/\body.length<=65535/\dw (D.take (at_+n)) at_ body:=by
 obtain⟨-,h2,h3,h4,h5⟩:=eD h;rw[length_drop]at h3;refine⟨h2,by omega,by omega,by rw[length_take];omega,?_⟩;rw[drop_take,take_take,show min (body.length+9) (at_+n-at_)=n by omega,<- h2];have:=kK (c:=(D.drop at_).take n) h (by rw[take_take,Nat.min_self]);rw[this]
theorem dw.grow{D body:Bs}{a b q:Nat}(h:dw (D.take a) q body)(hab:a<=b):dw (D.take b) q body:=by
 have:D.take b=D.take a++(D.drop a).take (b-a):=by
  rw[<- take_append_drop a (D.take b),take_take,Nat.min_eq_left hab,drop_take]
 rw[this];exact h.more
theorem AM(sl:Option Addr)(cap:Nat)(ns:List Int)(x:Int)(w:World)(h:ak w sl (ns.map di))(hl:ns.length<=1099511627776):
  Calls Tryz.prog 150 #[.slice sl ns.length cap,.int .i64 x] w (fun e w'=>(∃i:Int,e=.returned (.int .i64 i)/\decide (0<=i)=ns.contains x)/\w'=w):=by
 have HH:=qqH h;clear h;go_enter Tryz.func150,Tryz.ntmps150;go_wp2_with fail;go_loopw [8] (fun v wr=>∃k:Nat,k<=ns.length/\v=.int .i64 k/\wr=w/\x∉ns.take k) (fun v _=>ns.length-(intOf v).toNat)
 case atStart=>exact⟨0,Nat.zero_le _,rfl,by first|rfl|trivial,by simp⟩
 case round =>
  obtain⟨k,hk,rfl,rfl,hn⟩:=hrel;by_cases hlt:k<ns.length
  ·obtain⟨g,off,hg,hcell⟩:=HH.out (by rw[length_map];omega);subst hg;obtain⟨y,hy⟩:∃y,y=ns[k]:=⟨_,rfl⟩;have hck:wr.cell? ⟨g,off+k,none⟩=some (.int .i64 y):=by rw[hcell k (by simpa using hlt)];simp[hy,di]
   have HR:=Hq2 hn hy;clear hn hy hcell;by_cases c1:x=y
   ·go_wp2_with fail;go_ret;refine⟨⟨k,rfl,?_⟩,by first|rfl|trivial⟩;have:x∈ns:=by rw[c1,HR.z];exact getElem_mem hlt
    simp[this]
   ·have hrel:x∉ns.take (k+1):=by rw[QH hlt,mem_append,mem_singleton,<- HR.z];exact fun h=>h.elim HR.a c1
    have HREL:=qqH hrel;clear hrel;go_wp2_with fail;go_roundw
    case rel=>exact⟨k+1,by omega,by go_num,by first|rfl|trivial,HREL.out⟩
    case measure=>simp[intOf];omega
  ·obtain rfl:k=ns.length:=by omega
   rw[take_length]at hn;go_wp2_with fail;go_ret;exact⟨⟨-1,rfl,by simp[hn]⟩,by first|rfl|trivial⟩
theorem tG(sl:Option Addr)(cap:Nat)(ns:List Int)(x:Int)(w:World)(h:ak w sl (ns.map di))(hl:ns.length<=1099511627776):
  Calls Tryz.prog 128 #[.slice sl ns.length cap,.int .i64 x] w (fun e w'=>e=.returned (.bool (ns.contains x))/\w'=w):=by
 have HI:=qqH (AM sl cap ns x w h hl);clear h;go_enter Tryz.func128,Tryz.ntmps128;go_wp2_with fail;refine HI.out.mono ?_;rintro e w1 ⟨⟨i,rfl,hi⟩,rfl⟩;have HC:=qqH hi;clear hi;by_cases c1:0<=i
 ·go_wp2_with fail;go_ret;rw[<- HC.out];simp[c1]
 ·go_wp2_with fail;go_ret;rw[<- HC.out];simp[]
def i7(X:ArchL)(u:Int):ArchL:={ X with used:=u }
def goB(ns:List Int)(V:VerL):Bool:=ns.contains (V.num:Int)
def gO(ns:List Int)(V:VerL):Bool:=!goB ns V
def bO(ns:List Int)(vs:List VerL):Nat:=((vs.filter (goB ns)).map (·.size)).sum
structure DelEnv (a g nb cb:Nat) (sl:Option Addr) (cap2:Nat) (ns:List Int) (vs:List VerL) (W:World):Prop where
 ag:a≠g
 vs:∀V∈vs,V.blk≠a/\V.blk≠g/\W.heap[V.blk]?=some (dt V)
 nb:nb≠a/\nb≠g/\W.heap[nb]?=some (.cells #[.slice sl ns.length cap2] 96 (0,0))
 cb:cb≠a/\cb≠g/\W.heap[cb]?=some (.cells #[.pointer (some ⟨a,0,none⟩)] 204 (0,0))
 ns:ak W sl (ns.map di)
 nsb:∀x,sl=some x->x.block≠a/\x.block≠g
theorem DelEnv.keep{a g nb cb:Nat}{sl:Option Addr}{cap2:Nat}{ns:List Int}{vs:List VerL}{W W':World}(h:DelEnv a g nb cb sl cap2 ns vs W)(hm:Mods (fun k=>k=a\/k=g) W W'):DelEnv a g nb cb sl cap2 ns vs W' where
 ag:=h.ag
 vs:=fun V hV=>by
  obtain⟨h1,h2,h3⟩:=h.vs V hV
  exact⟨h1,h2,hm.at h3 (by rintro(h|h);exact h1 h;exact h2 h)⟩
 nb:=⟨h.nb.1,h.nb.2.1,hm.at h.nb.2.2 (by rintro(k|k);exact h.nb.1 k;exact h.nb.2.1 k)⟩
 cb:=⟨h.cb.1,h.cb.2.1,hm.at h.cb.2.2 (by rintro(k|k);exact h.cb.1 k;exact h.cb.2.1 k)⟩
 ns:=h.ns.keep hm (fun g' off e=>by
  have:=h.nsb _ e
  rintro(k|k);exact this.1 k;exact this.2 k)
 nsb:=h.nsb
def JB(a:Nat)(X:ArchL)(u:Int)(ns:List Int)(V:VerL)(w:World)(e:Ending)(w':World):Prop :=
 e=.returned (.bool (goB ns V))/\Mods (fun k=>k=a) w w'/\w'.heap[a]?=some (aJ (i7 X (u-(if goB ns V then V.size else 0:Nat))))
theorem Au(a nb cb:Nat)(X:ArchL)(u:Int)(V:VerL)(sl:Option Addr)(cap2:Nat)(ns:List Int)(w:World)(ha:w.heap[a]?=some (aJ (i7 X u)))(hv:w.heap[V.blk]?=some (dt V))(hn:w.heap[nb]?=some (.cells #[.slice sl ns.length cap2] 96 (0,0)))(hc:w.heap[cb]?=some (.cells #[.pointer (some ⟨a,0,none⟩)] 204 (0,0)))(hs:ak w sl (ns.map di))(hl:ns.length<=1099511627776)(hu : -2305843009213693952<=u/\u<=2305843009213693952)(hsz:V.size<=2305843009213693952):
  Calls Tryz.prog 127 #[.pointer (some ⟨V.blk,0,none⟩),.pointer (some ⟨nb,0,none⟩),.pointer (some ⟨cb,0,none⟩)] w (JB a X u ns V w):=by
 have n0:w.cell? ⟨nb,0,none⟩=some (.slice sl ns.length cap2):=aa hn 0 rfl;have v0:w.cell? ⟨V.blk,0,none⟩=some (.int .i64 V.num):=aa hv 0 rfl;have HW:=qqH (show IntKind.i64.wrap (u-V.size)=u-V.size from IntWalk.i64_in _ (by omega));obtain⟨gb,hgb⟩:∃gb,gb=goB ns V:=⟨_,rfl⟩;have HCo:=qqH (fun n=>(show Calls Tryz.prog 128 #[.slice sl ns.length cap2,.int .i64 V.num] (w.drewN n) (fun e w'=>e=.returned (.bool gb)/\w'=w.drewN n) by rw[hgb];exact tG sl cap2 ns V.num _ hs hl));have HH:=Hq5 ha hv hc hs hgb;clear ha hv hn hc hs hgb;go_enter Tryz.func127,Tryz.ntmps127;go_wp2_with fail;go_quiet ((go_at_call 128;exact(HCo.out _).mono (fun e w' ⟨he,hw⟩=>⟨he,_,hw⟩)))
 cases gb with
 | false =>
  go_wp2_with fail;go_ret;refine⟨by rw[<- HH.w];rfl,(Mods.refl _ w).drewN _,?_⟩;rw[<- HH.w];simpa using HH.a
 | true =>
  go_wp2_with fail;generalize hw1:w.drewN nq=w1;have a5:w1.cell? ⟨a,5,none⟩=some (.int .i64 u):=by rw[<- hw1];exact aa (w:=w) HH.a 5 rfl
  have f5:w1.frozen? ⟨a,5,none⟩=false:=by rw[<- hw1];exact bc (w:=w) HH.a 5
  have v1:w1.cell? ⟨V.blk,1,none⟩=some (.int .i64 V.size):=by rw[<- hw1];exact aa (w:=w) HH.b 1 rfl
  have c0:w1.cell? ⟨cb,0,none⟩=some (.pointer (some ⟨a,0,none⟩)):=by rw[<- hw1];exact aa (w:=w) HH.c 0 rfl
  have H1:=qqH hw1;clear hw1;refine wp_region_still_tail 11 HM.out (by kernel_rfl) ?_;simp only[QE,take_zero,QD,drop_zero];repeat still_step
  refine wpStill_nil ?_;change wpList _ _ _ _ _ w1.drew;go_wp2_with fail;go_ret;have ho:w1.heap[a]?=some (aJ (i7 X u)):=by rw[<- H1.out];exact HH.a
  refine⟨by rw[<- HH.w];rfl,?_,?_⟩
  ·refine(Mods.set1 ?_ _).drew;rw[<- H1.out];exact(Mods.refl _ w).drewN _
  ·refine(bn ho 5 _).trans ?_;rw[<- HH.w];rfl
theorem yz(ns:List Int)(vs:List VerL)(V:VerL):bO ns (vs++[V])=bO ns vs+(if goB ns V then V.size else 0):=by
 unfold bO;rw[filter_append]
 cases h:goB ns V<;>simp[h]
theorem Dg(ns:List Int)(vs:List VerL):bO ns vs<=(vs.map (·.size)).sum:=by
 induction vs with
 | nil=>simp[bO]
 | cons V r ih =>
  unfold bO at ih ⊢;rw[filter_cons];split<;>simp only[map_cons,sum_cons]<;>omega
theorem uO(vs:List VerL)(k:Nat):((vs.take k).map (·.size)).sum<=(vs.map (·.size)).sum:=by
 conv=>rhs;rw[<- take_append_drop k vs,map_append,sum_append]
 omega
def rC(u:Int)(vs:List VerL):Prop:=-1152921504606846976<=u/\u<=1152921504606846976/\(vs.map (·.size)).sum<=1152921504606846976/\vs.length<=1099511627776
theorem rC.at_{u:Int}{vs:List VerL}(h:rC u vs)(ns:List Int)(k:Nat)(hk:k<vs.length):(-2305843009213693952<=u-(bO ns (vs.take k):Nat)/\u-(bO ns (vs.take k):Nat)<=2305843009213693952)/\vs[k].size<=2305843009213693952:=by
 have h1:=Dg ns (vs.take k);have h2:=uO vs k;have h3:=uO vs (k+1);rw[QH hk,map_append,sum_append]at h3;simp only[map_cons,map_nil,sum_cons,sum_nil]at h3;obtain⟨a,b,c,d⟩:=h;omega
theorem DelEnv.call{a g nb cb:Nat}{sl:Option Addr}{cap2:Nat}{ns:List Int}{vs:List VerL}{W:World}(h:DelEnv a g nb cb sl cap2 ns vs W){X:ArchL}{u:Int}(hu:rC u vs)(hl:ns.length<=1099511627776){k:Nat}(hk:k<vs.length)(ha:W.heap[a]?=some (aJ (i7 X (u-(bO ns (vs.take k):Nat))))):
  Calls Tryz.prog 127 #[.pointer (some ⟨vs[k].blk,0,none⟩),.pointer (some ⟨nb,0,none⟩),.pointer (some ⟨cb,0,none⟩)] W (fun e w'=>e=.returned (.bool (goB ns vs[k]))/\Mods (fun k=>k=a) W w'/\w'.heap[a]?=some (aJ (i7 X (u-(bO ns (vs.take (k+1)):Nat))))):=by
 obtain⟨h1,h2⟩:=hu.at_ ns k hk;refine(Au a nb cb X _ vs[k] sl cap2 ns W ha (h.vs _ (getElem_mem hk)).2.2 h.nb.2.2 h.cb.2.2 h.ns hl h1 h2).mono ?_;rintro e w' ⟨rfl,hm,hh⟩;refine⟨rfl,hm,?_⟩;rw[hh,QH hk,yz];congr 3;omega
def JD(a:Nat)(X:ArchL)(u:Int)(ns:List Int)(vs:List VerL)(w:World)(e:Ending)(w':World):Prop :=
 ∃k,k<=vs.length/\(∀V∈vs.take k,goB ns V=false)/\((∃h:k<vs.length,goB ns vs[k]=true/\e=.returned (.int .i64 (k:Nat)))\/(k=vs.length/\e=.returned (.int .i64 (-1))))/\Mods (fun k=>k=a) w w'/\w'.heap[a]?=some (aJ (i7 X (u-(bO ns (vs.take (k+1)):Nat))))
theorem su(a g nb cb:Nat)(X:ArchL)(u:Int)(vs:List VerL)(pl:Option Addr)(cap:Nat)(sl:Option Addr)(cap2:Nat)(ns:List Int)(w:World)(hE:DelEnv a g nb cb sl cap2 ns vs w)(ha:w.heap[a]?=some (aJ (i7 X u)))(hp:ak w pl (vs.map dH))(hpb:∀x,pl=some x->x.block≠a)(hu:rC u vs)(hl:ns.length<=1099511627776):
  Calls Tryz.prog 149 #[.slice pl vs.length cap,.func (.func 127) #[] #[.pointer (some ⟨nb,0,none⟩),.pointer (some ⟨cb,0,none⟩)]] w (JD a X u ns vs w):=by
 have hvl:=hu.2.2.2;have HH:=Hq5 hE ha hp hpb hu;clear hE ha hp hpb hu;go_enter Tryz.func149,Tryz.ntmps149;go_wp2_with fail;go_loopw [8] (fun v wr=>∃k:Nat,k<=vs.length/\v=.int .i64 k/\Mods (fun k=>k=a) w wr/\wr.heap[a]?=some (aJ (i7 X (u-(bO ns (vs.take k):Nat))))/\∀V∈vs.take k,goB ns V=false) (fun v _=>vs.length-(intOf v).toNat)
 case atStart=>exact⟨0,Nat.zero_le _,rfl,Mods.refl _ _,by rw[HH.b,take_zero];simp[bO],by simp⟩
 case round =>
  obtain⟨k,hk,rfl,hm,hh,hn⟩:=hrel;by_cases hlt:k<vs.length
  ·obtain⟨g',off,hg,hcell⟩:=HH.c.keep hm (fun g off e=>HH.d _ e) (by rw[length_map];omega);subst hg;have hck:wr.cell? ⟨g',off+k,none⟩=some (dH vs[k]):=by rw[hcell k (by simpa using hlt)];simp
   unfold dH at hck;obtain⟨V,hV⟩:∃V,V=vs[k]:=⟨_,rfl⟩;obtain⟨gb,hgb⟩:∃gb,gb=goB ns V:=⟨_,rfl⟩;have hc:=(HH.a.keep (hm.mono (fun _ h=>.inl (.inl h)))).call HH.w hl hlt hh;rw[<- hV]at hc hck;rw[<- hgb]at hc;have HC:=qqH hc;have HR:=Hq4 hm hn hV hgb;clear hm hh hn hcell hc hV hgb;go_wp2_with fail;refine HC.out.mono ?_;rintro e w2 ⟨rfl,hm2,hh2⟩;have hm3:Mods (fun k=>k=a) w w2:=HR.a.trans hm2;have H2:=Hq2 hm3 hh2;clear hm2 hh2 hm3
   cases gb with
   | true =>
    go_wp2_with fail;go_ret;exact⟨k,by omega,HR.b,.inl ⟨hlt,by rw[<- HR.c,<- HR.x],rfl⟩,H2.a,H2.z⟩
   | false =>
    go_wp2_with fail;go_roundw
    case rel =>
     refine⟨k+1,by omega,by go_num,H2.a,H2.z,?_⟩;rw[QH hlt];intro V hV;rcases mem_append.1 hV with hV|hV
     ·exact HR.b V hV
     ·rw[mem_singleton.1 hV,<- HR.c,<- HR.x]
    case measure=>simp[intOf];omega
  ·obtain rfl:k=vs.length:=by omega
   have HR:=Hq3 hm hh hn;clear hm hh hn;go_wp2_with fail;go_ret;have h2:=HR.b;rw[take_length]at h2;exact⟨vs.length,by omega,HR.y,.inr ⟨rfl,rfl⟩,HR.a,by rw[take_of_length_le (by omega)];exact h2⟩
theorem Jy(w:World):(zeroValue 114).run Tryz.prog w=.ok (.pointer none) w:=by kernel_rfl
def GZ(a g:Nat)(X:ArchL)(u:Int)(vs:List VerL)(cap:Nat)(ns:List Int)(w:World)(e:Ending)(w':World):Prop :=
 ∃cur:List Value,e=.returned (.slice (some ⟨g,0,none⟩) (vs.filter (gO ns)).length cap)/\Mods (fun k=>k=a\/k=g) w w'/\w'.heap[a]?=some (aJ (i7 X (u-(bO ns vs:Nat))))/\w'.heap[g]?=some (.cells cur.toArray 114 (0,0))/\cur.length=cap/\cur.take (vs.filter (gO ns)).length=(vs.filter (gO ns)).map dH
def G0(a g:Nat)(X:ArchL)(u:Int)(vs:List VerL)(cap:Nat)(ns:List Int)(w:World)(s5 s6 _s7:Value)(W:World):Prop :=
 ∃(i j:Nat) (cur:List Value),s5=.int .i64 i/\s6=.int .i64 j/\i=((vs.take j).filter (gO ns)).length/\i<j/\j<=vs.length/\Mods (fun k=>k=a\/k=g) w W/\W.heap[a]?=some (aJ (i7 X (u-(bO ns (vs.take j):Nat))))/\W.heap[g]?=some (.cells cur.toArray 114 (0,0))/\cur.length=cap/\cur.take i=((vs.take j).filter (gO ns)).map dH/\∀m (h:m<vs.length),j<=m->cur[m]?=some (dH vs[m])
theorem qQ(a g nb cb:Nat)(X:ArchL)(u:Int)(vs:List VerL)(cap:Nat)(cur:List Value)(sl:Option Addr)(cap2:Nat)(ns:List Int)(w:World)(hE:DelEnv a g nb cb sl cap2 ns vs w)(ha:w.heap[a]?=some (aJ (i7 X u)))(hg:w.heap[g]?=some (.cells cur.toArray 114 (0,0)))(hcl:cur.length=cap)(hct:cur.take vs.length=vs.map dH)(hcap:vs.length<=cap)(hu:rC u vs)(hl:ns.length<=1099511627776):
  Calls Tryz.prog 126 #[.slice (some ⟨g,0,none⟩) vs.length cap,.func (.func 127) #[] #[.pointer (some ⟨nb,0,none⟩),.pointer (some ⟨cb,0,none⟩)]] w (GZ a g X u vs cap ns w):=by
 have hvl:=hu.2.2.2
 have hcu:∀m (h:m<vs.length),cur[m]?=some (dH vs[m]):=fun m h=>by
  have:=congrArg (fun l=>l[m]?) hct;simpa[getElem?_take_of_lt h,h]using this
 have hI:=su a g nb cb X u vs (some ⟨g,0,none⟩) cap sl cap2 ns w hE ha (fun hp=>⟨g,0,rfl,fun j hj=>by
  rw[length_map]at hj;have:=aa hg j (v:=dH vs[j]) (by simpa using hcu j hj);simpa using this⟩) (fun x hx=>by simp only[Option.some.injEq]at hx;subst hx;exact fun e=>hE.ag e.symm) hu hl
 have HI:=qqH hI;have HH:=Hq7 hE ha hg hcl hct hu hcu;clear hE ha hg hct hcl hu hI hcu;go_enter Tryz.func126,Tryz.ntmps126;go_wp2_with fail;refine HI.out.mono ?_;rintro e w1 ⟨k,hk,hn,hres,hm1,hh1⟩;have hg1:=hm1.at HH.c (fun e=>HH.a.ag e.symm);rcases hres with⟨hlt,hgk,rfl⟩|⟨rfl,rfl⟩
 ·have hkeep:(vs.take k).filter (gO ns)=vs.take k:=filter_eq_self.2 (fun V hV=>by simp[gO,hn V hV]);have hk1:(vs.take (k+1)).filter (gO ns)=vs.take k:=by rw[QH hlt,filter_append,hkeep];simp[gO,hgk]
  have hst:G0 a g X u vs cap ns w (.int .i64 k) (.int .i64 (k+1:Nat)) undef w1:=⟨k,k+1,cur,rfl,rfl,by rw[hk1,length_take];omega,by omega,hlt,hm1.mono (fun _ h=>.inl (.inl h)),hh1,hg1,HH.d,by
   rw[hk1,map_take,<- HH.e,take_take];congr 1;omega,fun m h _=>HH.u m h⟩
  have H1:=qqH hst;have hk1m:((k:Int) == -1)=false:=by simp
  have hkm:¬(k:Int)=-1:=by omega
  clear hst hk1 hkeep hgk hn hm1 hh1 hg1;go_wp2_with fail;go_loopw [5,6,7] (fun s5 s6 s7 wr=>G0 a g X u vs cap ns w s5 s6 s7 wr) (fun _ s6 _ _=>vs.length-(intOf s6).toNat)
  case atStart=>exact H1.out
  case round =>
   obtain⟨i,j,cu,rfl,rfl,hi,hij,hj,hm,hh,hg,hcl,hct,hcu⟩:=hrel;by_cases hjl:j<vs.length
   ·obtain⟨V,hV⟩:∃V,V=vs[j]:=⟨_,rfl⟩;have hck:wr.cell? ⟨g,j,none⟩=some (dH V):=aa hg j (by rw[hV];simpa using hcu j hjl (Nat.le_refl _));unfold dH at hck;obtain⟨old,hold⟩:∃old,wr.cell? ⟨g,i,none⟩=some old:=⟨cu[i],aa hg i (by simp)⟩;have hfr:=bc hg i;have hc:=(HH.a.keep hm).call HH.f hl hjl hh;obtain⟨gb,hgb⟩:∃gb,gb=goB ns V:=⟨_,rfl⟩;rw[<- hV]at hc;rw[<- hgb]at hc;have HC:=qqH hc;have HR:=Hq8 hm hg hcl hct hcu hV hgb hi;clear hm hh hg hcl hct hcu hc hV hgb hi;go_wp2_with fail;refine HC.out.mono ?_;rintro e w2 ⟨rfl,hm2,hh2⟩;have hg2:=hm2.at HR.b (fun e=>HH.a.ag e.symm);have hold2:w2.cell? ⟨g,i,none⟩=some old:=by rw[<- hold];exact World.cell?_of_block (hm2.block g (ae HR.b) (fun e=>HH.a.ag e.symm))
    have hfr2:=bc hg2 i;have hm3:Mods (fun k=>k=a\/k=g) w w2:=HR.a.trans (hm2.mono (fun _ h=>.inl (.inl h)));have H2:=Hq3 hg2 hm3 hh2;clear hg2 hm3 hh2 hm2 hck hold hfr
    cases gb with
    | true =>
     go_wp2_with fail;go_roundw
     case rel =>
      refine⟨i,j+1,cu,rfl,by go_num,?_,by omega,hjl,H2.b,H2.y,H2.a,HR.c,?_,fun m h hjm=>HR.e m h (by omega)⟩
      all_goals
       rw[QH hjl,filter_append,<- HR.f];simp only[filter_cons,filter_nil,gO,<- HR.g,Bool.not_true,Bool.false_eq_true,if_false,append_nil]
      ·exact HR.t
      ·exact HR.d
     case measure=>simp[intOf];omega
    | false =>
     go_wp2_with fail;go_roundw
     case rel =>
      have hkV:gO ns V=true:=by simp[gO,<- HR.g]
      have hf:(vs.take (j+1)).filter (gO ns)=(vs.take j).filter (gO ns)++[V]:=by
       rw[QH hjl,filter_append,<- HR.f];simp[hkV]
      have hs:=bn H2.a i (dH V);rw[QA]at hs;have hil:i<cu.length:=by rw[HR.c];omega
      refine⟨i+1,j+1,cu.set i (dH V),by go_num,by go_num,?_,by omega,hjl,H2.b.setCell (.inl (.inr rfl)) _,?_,hs,by rw[length_set];exact HR.c,?_,fun m h hjm=>?_⟩
      ·rw[hf,length_append,<- HR.t];rfl
      ·refine Eq.trans ?_ H2.y;exact((Mods.refl (fun k=>k=g) w2).set1 (i:=i) (dH V)).block a (ae H2.y) HH.a.ag
      ·rw[hf,map_append,<- HR.d,QH (by rw[length_set];exact hil),take_set_of_le (Nat.le_refl i)];simp
      ·rw[getElem?_set_ne (by omega)];exact HR.e m h (by omega)
     case measure=>simp[intOf];omega
   ·obtain rfl:j=vs.length:=by omega
    rw[take_length]at hh hi hct;have hilc:i<cap:=by omega
    have hCl:∀ty,(Builtin.clear_ #[118] ty #[.slice (some ⟨g,i,none⟩) (vs.length-i) (cap-i)]).run Tryz.prog wr=.ok (.tuple #[]) (wr.setCells g i (replicate (vs.length-i) (.pointer none))):=fun ty =>
     Lib.run_clear_slice wr _ _ ty _ Tryz.underlying118 (fun w=>Jy w) rfl rfl g i _ _ (by omega) (fun t ht=>by rw[aa hg (i+t) (v:=cu[i+t]'(by omega)) (by simp)];rfl) (fun t ht=>bc hg _)
    obtain⟨h1,h2⟩:=fq hg i (replicate (vs.length-i) (.pointer none)) (by rw[length_replicate];omega);have HR:=Hq7 hm hh h1 h2 hcl hct hi;clear hm hh hg hcl hct hcu h1 h2 hi;go_wp2_with fail;go_ret;refine⟨_,?_,HR.a.trans (HR.d.mono (fun _ h=>.inl (.inr h))),?_,HR.c,?_,?_⟩
    ·rw[<- HR.u];rfl
    ·refine Eq.trans ?_ HR.b;exact HR.d.block a (ae HR.b) HH.a.ag
    ·unfold spl;have:=HR.e;simp only[length_append,length_take,length_replicate,length_drop];omega
    ·unfold spl;have:=HR.e;rw[<- HR.u,append_assoc,take_append_of_le_length (by rw[length_take];omega),take_take,Nat.min_self];exact HR.f
 ·have hf:vs.filter (gO ns)=vs:=filter_eq_self.2 (fun V hV=>by simp[gO,hn V (by rw[take_length];exact hV)]);have h2:=hh1;rw[take_of_length_le (by omega)]at h2;have HX:=Hq4 hf h2 hg1 hm1;clear hf h2 hn hm1 hh1 hg1;go_wp2_with fail;go_ret;refine⟨cur,?_,HX.x.mono (fun _ h=>.inl (.inl h)),HX.b,HX.c,HH.d,?_⟩
  ·rw[HX.a];rfl
  ·rw[HX.a];exact HH.e
end
end Go.Proofs.YtdhobpbngkainabGreatDoor
