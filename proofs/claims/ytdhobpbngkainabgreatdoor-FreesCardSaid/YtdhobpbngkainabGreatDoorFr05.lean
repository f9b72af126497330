/- Ours. A part of the proof, made small by a program. -/
import Derived.Test.YtdhobpbngkainabGreatDoorFr04
set_option maxRecDepth 100000
set_option maxHeartbeats 4000000
namespace Go.Proofs.YtdhobpbngkainabGreatDoor
open List
section
open Go.RowKit Go.Maps Go.Shelf
attribute [local go_sem] Oper.semAt_some
theorem DK(S:AS)(hok:ArOk S)(D:Bs)(d off n lb:Nat)(B3 B6 B7 B9 B11 B12 B13 Bm Bv num i:Nat)(R0 F:HF)(A:World)(hD:eN A d off D)(hdF:d∉dom F)(hi:i<(aE D).length)(hDl:D.length<=4000)(hKl:S.K.length<=500000)(hJ:Hh S D B9 B11 B12 B13 Bm Bv num ((B3,Is (dh S.a))::R0) i F)(hF:Sat A F)(a0:Nat)(l:Bs){dv:Value}{u4 u5 u8 aS aT ad ag aj ar ax a1 a2 a4 a5 a6 a7 a8 a9 bY bg bj bk bo bs bx b0 b1 b2 b3 b4 b6 b7 b9 ca cb ch ci cj cl cp ct cu cx c0 c1 c2 c3 c4 c5 c6 c7 c8 dO dT df dn dp ds d0 d1 d2 d3 d4 d5 d6 d7 d8 eA eC eQ eR eU eW eX ea eb eg el em en ep es ev e0 e4 e5 e6 e7 e9 fl fn fr fs fz f0 f1 f2 f3 f4 f5 f6 f7 f8 f9 gD gb gg gp gq gs gu gv gx g1 g2 g3 g4 g5 g6 g7 g9 hA hB hC hE hG hH hI hK hL hM hN hO hP hQ hS hT hU hV hW hX hZ ha hb hd hf hh hj hl hn ho hq ht hu hw hy hz h9 iF iN iS id ih ii i0:Value}:
  Kw.wpIn (Fence.wide.inRound lb) n Tryz.prog (K6 (Hh S D B9 B11 B12 B13 Bm Bv num ((B3,Is (dh S.a))::R0)) i F A) { tmps:=#[.pointer (some ⟨a0,0,none⟩),str l,dv,.pointer (some ⟨B3,0,none⟩),u4,u5,.pointer (some ⟨B6,0,none⟩),.pointer (some ⟨B7,0,none⟩),u8,.pointer (some ⟨B9,0,none⟩),aS,.pointer (some ⟨B11,0,none⟩),.pointer (some ⟨B12,0,none⟩),.pointer (some ⟨B13,0,none⟩),fX d off D i,aT,ad,ag,aj,ar,ax,a1,a2,a4,a5,a6,a7,a8,a9,bY,bg,bj,bk,bo,bs,bx,b0,b1,b2,b3,b4,b6,b7,b9,ca,cb,ch,ci,cj,cl,cp,ct,cu,cx,c0,c1,c2,c3,c4,c5,c6,c7,c8,dO,dT,df,dn,dp,ds,d0,d1,d2,d3,d4,d5,d6,d7,d8,eA,eC,eQ,eR,eU,eW,eX,fX d off D i,ea,eb,eg,el,em,en,ep,es,ev,e0,e4,e5,e6,e7,e9,fl,fn,fr,fs,fz,f0,f1,f2,f3,f4,f5,f6,f7,f8,f9,gD,gb,gg,gp,gq,gs,gu,gv,gx,g1,g2,g3,g4,g5,g6,g7,g9,hA,hB,hC,hE,hG,hH,hI,hK,hL,hM,hN,hO,hP,hQ,hS,hT,hU,hV,hW,hX,hZ,ha,hb,hd,hf,hh,hj,hl,hn,ho,hq,ht,hu,hw,hy,hz,h9,iF,iN,iS,id,ih,ii,i0],defers:=[] } A:=by
 obtain⟨sp,acc,fv,rv,chs,recs,hacc,hAo,hrb,hro,hpo,hcl,hin,hFe⟩:=hJ;obtain⟨c,hc⟩:∃c,c=oW D i:=⟨_,rfl⟩;have hcl2:=tC hi;rw[<- hc]at hcl2;have hcc:=yi hD hi;rw[<- hc]at hcc;obtain⟨o2,ho2⟩:∃o2,o2=off+((aE D).take i).sum:=⟨_,rfl⟩;have harg:fX d off D i=.slice (some ⟨d,o2,none⟩) c.length c.length:=by unfold fX;rw[<- hcl2,<- ho2]
 rw[<- ho2]at hcc;rw[harg];have a3:A.cell? ⟨B3,0,none⟩=some (.pointer (some ⟨S.a,0,none⟩)):=aa (hF.Q7 (b:=B3) (o:=dh S.a) (by rw[hFe];simp)) 0 rfl
 have hs:Sat A (ap S.X.ab S.X.d { S.A with spare:=sp }++((B13,Is (cq ((S.data.length+bm acc:Nat):Int)))::(B12,Is (dX Bm))::(Bm,Is (aO str (bt S.data.length 0 acc) acc.length))::(B11,Is (cT rv)) ::
   (fp rv recs++((B9,Is (cU Bv))::(bL ⟨Bv,num,D.length,fv,chs,0⟩++(((B3,Is (dh S.a))::R0)++((S.a,Is (aJ S.X))::(aD S.X.d S.L++(aF S.X.pm S.ps S.pc++(bU S.X.tm S.ts S.tc++aP S.X.cm S.cs S.cc)))))))))):=by
  refine hF.perm ?_;rw[hFe];unfold arF;exact ac
 obtain⟨R,hR⟩:∃R,R=((B13,Is (cq ((S.data.length+bm acc:Nat):Int)))::(B12,Is (dX Bm))::(Bm,Is (aO str (bt S.data.length 0 acc) acc.length))::(B11,Is (cT rv)) ::
   (fp rv recs++((B9,Is (cU Bv))::(bL ⟨Bv,num,D.length,fv,chs,0⟩++(((B3,Is (dh S.a))::R0)++((S.a,Is (aJ S.X))::(aD S.X.d S.L++(aF S.X.pm S.ps S.pc++(bU S.X.tm S.ts S.tc++aP S.X.cm S.cs S.cc))))))))):=⟨_,rfl⟩
 rw[<- hR]at hs;have hdR:d∉dom (ap S.X.ab S.X.d { S.A with spare:=sp }++R):=fun h=>hdF (((mN (show(ap S.X.ab S.X.d { S.A with spare:=sp }++R).Perm F by rw[hFe,hR];unfold arF;exact ac)).mem_iff).1 h)
 have HKn:=qqH (AW S.a S.X S.X.ab S.X.d rfl { S.A with spare:=sp } S.L S.cs S.cc c (some ⟨d,o2,none⟩) c.length R A hs (fun x=>by rw[hR];simp only[ao,ai];omega) hok.dev hAo hok.fits hok.nmax hok.chunks hcc
  (fun x hx=>by obtain rfl:=Option.some.inj hx;exact hdR) (by have:=gY D;have:=nl (aE D) i hi;rw[hcl2];simp only[getD_eq_getElem?_getD,getElem?_eq_getElem hi,Option.getD_some];omega)
  (by have:=DE hok (be (dq 1 c) 4);omega) (Bg hok))
 have HH:=qqH (And.intro hok (And.intro hD (And.intro hdF (And.intro hF (And.intro hacc (And.intro hAo (And.intro hrb (And.intro hro (And.intro hpo (And.intro hcl (And.intro hin (And.intro hFe (And.intro hc (And.intro hcl2 (And.intro hcc (And.intro ho2 (And.intro hs (And.intro hR hdR))))))))))))))))));clear hok hD hdF hF hacc hAo hrb hro hpo hcl hin hFe hc hcl2 hcc ho2 harg hs hR hdR;conv=>arg 4;whnf
 gi_wp2_with fail;refine⟨trivial,fun h=>by simp[Fence.wide]at h,(Ab HKn.out).mono ?_⟩;rintro e w4 ⟨⟨sp2,hAo2,hT2⟩,hres⟩
 obtain⟨q,okb,rfl,hq1,hq2⟩:∃(q:Nat×Nat) (okb:Bool),e=.returned (.tuple #[.agg #[.int .i64 q.1,.int .i64 q.2],.bool okb,.nilIface])/\(okb=true->(c,q)∈S.K)/\(okb=false->c∉S.K.map (·.1)):=by
  rcases hres with⟨p,hp,hc,rfl⟩|⟨hno,rfl⟩
  ·exact⟨p,true,rfl,fun _=>Ly HH.a hp hc,fun h=>by cases h⟩
  ·refine⟨(0,0),false,rfl,(fun h=>by cases h),fun _ hm=>?_⟩;obtain⟨e,he,h1⟩:=mem_map.1 hm;obtain⟨p1,p2⟩:=Lz HH.a (b:=c) (q:=e.2) (by rw[<- h1];exact he);exact hno _ p1 p2
 clear hres;obtain⟨F1,hF1⟩:∃F1,F1=ap S.X.ab S.X.d { S.A with spare:=sp }++R:=⟨_,rfl⟩;obtain⟨Y,hY⟩:∃Y,Y=ap S.X.ab S.X.d { S.A with spare:=sp2 }++(R0++((S.a,Is (aJ S.X))::(aD S.X.d S.L++(aF S.X.pm S.ps S.pc++(bU S.X.tm S.ts S.tc++aP S.X.cm S.cs S.cc))))):=⟨_,rfl⟩;obtain⟨VV,hVV⟩:∃VV:VerL,VV=⟨Bv,num,D.length,fv,chs,0⟩:=⟨_,rfl⟩;obtain⟨fE,hfE⟩:∃fE,fE=bt S.data.length 0 acc:=⟨_,rfl⟩;obtain⟨nE,hnE⟩:∃nE,nE=acc.length:=⟨_,rfl⟩;obtain⟨e13,he13⟩:∃e13:Nat,e13=S.data.length+bm acc:=⟨_,rfl⟩
 have hT4:Turns F1 ((B13,Is (cq e13))::(B12,Is (dX Bm))::(Bm,Is (aO str fE nE))::(B11,Is (cT rv))::(B9,Is (cU Bv))::(Bv,Is (dt VV))::(B3,Is (dh S.a))::(fp rv recs++(aY fv chs++Y))) A w4:=by
  rw[hF1];refine hT2.to ?_;rw[HH.out.2.2.2.2.2.2.2.2.2.2.2.2.2.2.2.2.2.1,hY,hVV,hfE,hnE,he13];unfold bL;exact ac
 have hdF1:d∉dom F1:=by rw[hF1];exact HH.out.2.2.2.2.2.2.2.2.2.2.2.2.2.2.2.2.2.2
 have hm0:MapOk OkS fE nE:=by
  rw[hfE,hnE];refine wT (by rw[HH.e];exact jg _ _ _ nodup_nil) (by rw[HH.e];exact Ll hDl) _
 obtain⟨f,th,hg1,hg2,hg3,hg4⟩:∃(f:Nat×Nat) (th:Bool),(dz fE c).getD (.agg #[.int .i64 0,.int .i64 0])=.agg #[.int .i64 f.1,.int .i64 f.2]/\iv fE c=th/\(th=true->(c,f)∈b8 S.data.length acc/\c∈acc)/\(th=false->c∉acc):=by
  rw[hfE,lS];by_cases hm:c∈acc
  ·obtain⟨f,h1,h2⟩:=Db (at_:=S.data.length) (b:=0) hm;exact⟨f,true,by rw[h2];rfl,decide_eq_true hm,fun _=>⟨h1,hm⟩,fun h=>by cases h⟩
  ·refine⟨(0,0),false,?_,decide_eq_false hm,(fun h=>by cases h),fun _=>hm⟩;have:=lS acc S.data.length 0 c;rw[decide_eq_false hm,gM]at this
   cases hg:dz (bt S.data.length 0 acc) c with
   | none=>rfl
   | some v=>rw[hg]at this;cases this
 have hl4:∀k,k∈dom ((B13,Is (cq e13))::(B12,Is (dX Bm))::(Bm,Is (aO str fE nE))::(B11,Is (cT rv))::(B9,Is (cU Bv))::(Bv,Is (dt VV))::(B3,Is (dh S.a))::(fp rv recs++(aY fv chs++Y)))->k<w4.heap.size:=fun k hk=>hT4.sat.lt hk
 have l9:=hl4 B9 (by simp);have l11:=hl4 B11 (by simp);have l12:=hl4 B12 (by simp);have l13:=hl4 B13 (by simp);have lv:=hl4 Bv (by simp);have b12:w4.cell? ⟨B12,0,none⟩=some (.map (some Bm)):=aa (hT4.sat.Q7 (b:=B12) (o:=dX Bm) (by simp)) 0 rfl;have b13:w4.cell? ⟨B13,0,none⟩=some (.int .i64 e13):=aa (hT4.sat.Q7 (b:=B13) (o:=cq e13) (by simp)) 0 rfl;have hT5:Turns F1 ((w4.heap.size,Is (aB q))::((B13,Is (cq e13))::(B12,Is (dX Bm))::(Bm,Is (aO str fE nE))::(B11,Is (cT rv))::(B9,Is (cU Bv))::(Bv,Is (dt VV))::(B3,Is (dh S.a))::(fp rv recs++(aY fv chs++Y)))) A (w4.alloc (.cells #[.int .i64 q.1,.int .i64 q.2] 128)):=hT4.Q8 (aB q);have hbm5:=hT5.sat.Q7 (b:=Bm) (o:=aO str fE nE) (by simp);have hcv:=jQ c.length (HH.out.2.2.2.2.2.2.2.2.2.2.2.2.2.2.1.Qc hT5 (fun x hx=>by obtain rfl:=Option.some.inj hx;exact hdF1));have hzp:(zeroValue 128).run Tryz.prog (w4.alloc (.cells #[.int .i64 q.1,.int .i64 q.2] 128))=.ok (.agg #[.int .i64 0,.int .i64 0]) (w4.alloc (.cells #[.int .i64 q.1,.int .i64 q.2] 128)):=by kernel_rfl
 have hT6:∀x:Nat×Nat,Turns F1 ((w4.heap.size+1,Is (aB f))::(w4.heap.size,Is (aB x))::((B13,Is (cq e13))::(B12,Is (dX Bm))::(Bm,Is (aO str fE nE))::(B11,Is (cT rv))::(B9,Is (cU Bv))::(Bv,Is (dt VV))::(B3,Is (dh S.a))::(fp rv recs++(aY fv chs++Y)))) A ((w4.alloc (.cells #[.int .i64 x.1,.int .i64 x.2] 128)).alloc (.cells #[.int .i64 f.1,.int .i64 f.2] 128)):=fun x=>by
  have:=(hT4.Q8 (aB x)).Q8 (aB f);rw[World.size_alloc]at this;exact this
 have hcm:c∈au D:=by
  have:=fG hi;rw[<- HH.out.2.2.2.2.2.2.2.2.2.2.2.2.1]at this;exact mem_of_mem_take (i:=i+1) (by rw[this];simp)
 have hOkc:OkS c:=by have:=dD hcm;unfold OkS;omega
 have hcv2:=jQ c.length (HH.out.2.2.2.2.2.2.2.2.2.2.2.2.2.2.1.Qc (hT6 (e13,c.length)) (fun x hx=>by obtain rfl:=Option.some.inj hx;exact hdF1));have hFp:F1.Perm F:=by rw[hF1,HH.out.2.2.2.2.2.2.2.2.2.2.2.1,HH.out.2.2.2.2.2.2.2.2.2.2.2.2.2.2.2.2.2.1];unfold arF;exact ac
 have hlt:((au D).take i).length=chs.length:=by
  rw[length_take,bS,HH.out.2.2.2.2.2.2.2.2.2.1];omega
 have hcl:chs.length<=4000:=by
  rw[HH.out.2.2.2.2.2.2.2.2.2.1];have:=cK D;omega
 have hal2:acc.length<=4000:=by
  rw[HH.e];have h1:=kI (S.K.map (·.1)) ((au D).take i) [];rw[length_take,bS]at h1;have:=cK D;simp at h1;omega
 have hrl:(recs.map (·.val)).length=acc.length:=by
  have:=congrArg length HH.g;simpa using this
 have hdl:=HH.a.dat.2;have hnn:=HH.a.nmax;have hfit:=HH.a.fits
 have he13b:e13<=1099511627776:=by
  rw[he13]
  have h2:=qb acc 4000 (fun x hx=>by
   rw[HH.e]at hx;rcases jq _ _ _ x hx with h|⟨h,_⟩
   ·simp at h
   ·have:=dD (mem_of_mem_take h);omega)
  have h3:acc.length*(4000+9)<=4000*(4000+9):=Nat.mul_le_mul_right _ hal2;omega
 have HB:=Hq8 hT6 hdF1 hm0 hg1 hg2 hbm5 hzp hOkc;have HE:=qqH (And.intro hF1 (And.intro hY (And.intro hVV (And.intro hfE (And.intro hnE (And.intro he13 (And.intro hAo2 (And.intro hq1 (And.intro hq2 (And.intro hg3 hg4))))))))));have HF2:=Hq7 hFp hlt hcl hal2 hrl he13b hcm;clear hF1 hY hVV hfE hnE he13 hAo2 hq1 hq2 hg3 hg4 hT4 hT5 hT6 hdF1 hm0 hg1 hg2 hT2 hbm5 hzp hl4 hOkc hFp hlt hcl hal2 hrl he13b hcm hdl hnn hfit
 have FIN:∀(w6:World) (q6:Nat×Nat) (acc':List Bs) (rv' y:Value) (recs':List RecL) (Z:HF),acc'=bX (S.K.map (·.1)) [] ((au D).take (i+1))->(∀e∈b8 S.data.length acc,e∈b8 S.data.length acc')->(c,q6)∈S.K++b8 S.data.length acc'->recs'.map (·.bytes)=acc'.map (frame 1)->K7 rv' recs' ->
   bP y (chs++[q6])->Turns F1 ((Bv,Is (.cells ((fD VV).setIfInBounds 2 y) 117 (0,0)))::(w4.heap.size,Is (aB q6))::(B9,Is (cU Bv))::(aY y (chs++[q6])++Z)) A w6 ->
   (∀x,cnt x ((B13,Is (cq ((S.data.length+bm acc':Nat):Int)))::(B12,Is (dX Bm))::(Bm,Is (aO str (bt S.data.length 0 acc') acc'.length))::(B11,Is (cT rv'))::(B3,Is (dh S.a))::(fp rv' recs'++Y))<=cnt x Z) ->
   ∃F',Hh S D B9 B11 B12 B13 Bm Bv num ((B3,Is (dh S.a))::R0) (i+1) F'/\Turns F F' A w6:=by
  intro w6 q6 acc' rv' y recs' Z h1 h2 h3 h4 h5 h6 h7 h8;refine⟨_,⟨sp2,acc',y,rv',chs++[q6],recs',h1,HE.g,h4,h5,h6,by rw[length_append,HH.out.2.2.2.2.2.2.2.2.2.1];rfl,?_,rfl⟩,?_⟩
  ·rw[fG hi,<- HH.out.2.2.2.2.2.2.2.2.2.2.2.2.1]
   exact LI HF2.b HH.out.2.2.2.2.2.2.2.2.2.2.1 (fun e he=>by
    rcases mem_append.1 he with h|h
    ·exact mem_append_left _ h
    ·exact mem_append_right _ (h2 e h)) h3
  ·refine(h7.drop (fun x=>?_)).perm HF2.a (Perm.refl _);have:=h8 x;rw[HE.b]at this;have e:dt ⟨Bv,num,D.length,y,chs++[q6],0⟩=.cells ((fD VV).setIfInBounds 2 y) 117 (0,0):=by rw[HE.c];rfl
   unfold bL arF;rw[e];simp only[ao,ai]at this ⊢;omega
 have HFIN:=qqH FIN;clear FIN
 gi_wp2_with (first
  | (refine nz rfl rfl (iJ dK (.tmp 97) (.tmp 99) rfl Tryz.underlying119 HB.f HB.c HB.g c rfl rfl HB.t ?_);rw[HB.d,HB.e])
  | (refine nz rfl rfl (lF dK (.tmp 115) (.tmp 117) (.tmp 118) rfl Tryz.underlying119 Bm fE nE ((HB.a (e13,c.length)).to (H:=(Bm,Is (aO str fE nE))::((w4.heap.size+1,Is (aB f))::(w4.heap.size,Is (aB (e13,c.length)))::(B13,Is (cq e13))::(B12,Is (dX Bm))::(B11,Is (cT rv))::(B9,Is (cU Bv))::(Bv,Is (dt VV))::(B3,Is (dh S.a))::(fp rv recs++(aY fv chs++Y)))) ac) HB.c c (ge (e13,c.length)) rfl rfl rfl HB.t ?_);intro w6 hT7;simp only[Act.put]))
 ·rename_i h1 h2;refine ER F1 ((w4.heap.size+1,Is (aB f))::(B13,Is (cq e13))::(B12,Is (dX Bm))::(Bm,Is (aO str fE nE))::(B11,Is (cT rv))::(B3,Is (dh S.a))::(fp rv recs++Y)) A w4.heap.size B9 Bv VV f fv chs ((HB.a f).to ac) HH.out.2.2.2.2.2.2.2.2.1 (by rw[HE.c]) (by have:=HF2.c;omega) (fun⟨_,_,h⟩=>h) ?_;intro _ _ _ _ _ _ _ _ _ _ w7 hpo7 hT7;refine HFIN.out w7 f acc rv _ recs _ ?_ (fun _ h=>h) (mem_append_right _ (HE.out.2.2.2.2.2.2.2.2.2.1 h1).1) HH.g HH.h hpo7 hT7 (fun x=>by rw[<- HE.d,<- HE.e,<- HE.f];simp only[ao,ai];omega);rw[fG hi,it,<- HH.out.2.2.2.2.2.2.2.2.2.2.2.2.1,<- HH.e,if_pos (.inr (HE.out.2.2.2.2.2.2.2.2.2.1 h1).2)]
 ·rename_i h1 h2;refine ER F1 ((w4.heap.size+1,Is (aB f))::(B13,Is (cq e13))::(B12,Is (dX Bm))::(Bm,Is (aO str fE nE))::(B11,Is (cT rv))::(B3,Is (dh S.a))::(fp rv recs++Y)) A w4.heap.size B9 Bv VV q fv chs ((HB.a q).to ac) HH.out.2.2.2.2.2.2.2.2.1 (by rw[HE.c]) (by have:=HF2.c;omega) (fun⟨_,_,h⟩=>h) ?_;intro _ _ _ _ _ _ _ _ _ _ w7 hpo7 hT7;refine HFIN.out w7 q acc rv _ recs _ ?_ (fun _ h=>h) (mem_append_left _ (HE.h (by simpa using h2))) HH.g HH.h hpo7 hT7 (fun x=>by rw[<- HE.d,<- HE.e,<- HE.f];simp only[ao,ai];omega);rw[fG hi,it,<- HH.out.2.2.2.2.2.2.2.2.2.2.2.2.1,<- HH.e,if_pos (.inl (mem_map.2 ⟨_,HE.h (by simpa using h2),rfl⟩))]
 ·rename_i h1 K1 k1 h2 K2 k2;have hn1:=HE.out.2.2.2.2.2.2.2.2.2.2 (by simpa using h1);have hn2:=HE.out.2.2.2.2.2.2.2.2.1 (by simpa using h2);have hput:=Dc (at_:=S.data.length) hn1;have hT8:=hT7.to (H:=bK 35 1 rv (recs.map (·.val)).length (recs.map (·.val))++((B11,Is (cT rv))::((w4.heap.size+1,Is (aB f))::(w4.heap.size,Is (aB (e13,c.length)))::(B13,Is (cq e13))::(B12,Is (dX Bm))::(Bm,Is (aO str (gF fE nE c (ge (e13,c.length))) (cf fE nE c)))::(B9,Is (cU Bv))::(Bv,Is (dt VV))::(B3,Is (dh S.a))::((recs.flatMap fun r=>aA r.val r.bytes)++(aY fv chs++Y))))) (by unfold fp;exact ac);obtain⟨Z8,hZ8⟩:∃Z8,Z8=((w4.heap.size+1,Is (aB f))::(w4.heap.size,Is (aB (e13,c.length)))::(B13,Is (cq e13))::(B12,Is (dX Bm))::(Bm,Is (aO str (gF fE nE c (ge (e13,c.length))) (cf fE nE c)))::(B9,Is (cU Bv))::(Bv,Is (dt VV))::(B3,Is (dh S.a))::((recs.flatMap fun r=>aA r.val r.bytes)++(aY fv chs++Y))):=⟨_,rfl⟩;obtain⟨l8,hl8⟩:∃l8,l8=recs.map (·.val):=⟨_,rfl⟩;rw[<- hZ8,<- hl8]at hT8;have hro8:=HH.h.1;rw[<- hl8]at hro8;have HZ:=qqH hZ8;have HX:=Hq7 hZ8 hl8 hro8 hT8 hn1 hn2 hput;clear hZ8 hl8 hro8 hT8 hn1 hn2 hput hT7;refine vi [([0,1],2,[0]),([],3,[0]),([],4,[]),([],5,[])] [] HM.out (by kernel_rfl) (fun⟨_,_,h⟩=>h) (by kernel_rfl) fun W tW=>?_
  simp only[Mix,map_cons,map_nil,nth,QG,QF];have k0:=tW HX.d;clear tW;have g:∀{W:World},W.heap[B11]?=some (cT rv)->W.cell? ⟨B11,0,none⟩=some rv:=fun h=>aa h 0 rfl
  have g0:=g (k0.sat.Q7 (by simp));repeat still_step
  refine wpStill_nil (aU (by kernel_rfl) (g8 1 (some ⟨d,o2,none⟩) c.length c W (HH.out.2.2.2.2.2.2.2.2.2.2.2.2.2.2.1.Qc k0 (fun x hx=>by obtain rfl:=Option.some.inj hx;exact HB.b)) (by have:=dD HF2.u;omega)) ?_);rintro e w5 ⟨fv2,rfl,hb8,hT5⟩;have k1:=Turns.Qb k0 hT5;refine⟨_,rfl,by(have g0:=g (k1.sat.Q7 (by simp));(repeat still_step);exact rfl),wpStill_nil ?_⟩;have o8:=(nN hb8 k1.sat.left).1;refine i8 (xu fv2) (fun n=>.slice (some ⟨n,0,none⟩) 1 1) (by obtain⟨-,-,av,cv,hv⟩:=nN hb8 k1.sat.left;rw[hv];kernel_rfl) k1 fun n W2 k2=>⟨by(have g0:=g (k2.sat.Q7 (by simp));(repeat still_step);exact rfl),wpStill_nil ?_⟩
  refine mr (.tmp 119) (.tmp 122) rfl rv l8 rfl (k2.to (H:=bK 35 1 rv l8.length l8++((n,Is (xu fv2))::(B11,Is (cT rv))::(aA fv2 (frame 1 c)++Z8))) ac) HX.c n fv2 rfl o8 (aa k2.sat.Q5 0 rfl) (by rw[HX.b];have:=HF2.e;have:=HF2.d;omega) fun rv2 W3 hr8 k3=>⟨rfl,wpStill_nil ?_⟩
  have p8:=EU k3.sat.left hr8;refine bb 36 (.tmp 11) (.tmp 123) rfl B11 0 #[rv] 36 rv2 (k3.to (H:=(B11,Is (cT rv))::(bK 35 1 rv2 (l8++[fv2]).length (l8++[fv2])++((n,Is (xu fv2))::(aA fv2 (frame 1 c)++Z8)))) ac) rfl rfl (by simp) (by kernel_rfl) p8.1 p8.2 fun w8 k4=>⟨rfl,?_⟩
  simp only[Act.put,QA,QB,QC];refine wpStill_nil ?_;have hT8:Turns F1 ((B11,Is (cT rv2))::(bK 35 1 rv2 (l8++[fv2]).length (l8++[fv2])++(aA fv2 (frame 1 c)++Z8))) A w8:=(show Turns F1 ((B11,Is (cT rv2))::_) A w8 from k4).drop bB;rw[HX.b]at hr8 hT8;have HR8:=Hq4 hb8 hr8 hT8 HX.w;clear HX k0 g g0 hb8 hT5 k1 o8 k2 hr8 k3 p8 k4 hT8;gi_wp2_with fail;obtain⟨Z9,hZ9⟩:∃Z9,Z9=((w4.heap.size+1,Is (aB f))::(w4.heap.size,Is (aB (e13,c.length)))::(B12,Is (dX Bm))::(Bm,Is (aO str (gF fE nE c (ge (e13,c.length))) (cf fE nE c)))::(B11,Is (cT rv2))::(B9,Is (cU Bv))::(Bv,Is (dt VV))::(B3,Is (dh S.a))::(bK 35 1 rv2 (recs.map (·.val)++[fv2]).length (recs.map (·.val)++[fv2])++(aA fv2 (frame 1 c)++((recs.flatMap fun r=>aA r.val r.bytes)++(aY fv chs++Y))))):=⟨_,rfl⟩;have hT9:Turns F1 ((B13,Is (cq e13))::Z9) A w8:=HR8.c.to (by rw[hZ9,HZ.out];exact ac);have hs9:IntKind.i64.wrap ((e13:Int)+(c.length+9))=(e13:Int)+(c.length+9):=IntWalk.i64_in _ (by have:=dD HF2.u;have:=HF2.f;omega);have HZ9:=qqH hZ9;clear hZ9;refine vi [([0,1,2,3,4],5,[])] [] HM.out (by kernel_rfl) (fun⟨_,_,h⟩=>h) (by kernel_rfl) fun W tW=>?_
  simp only[Mix,map_cons,map_nil,nth,QG,QF];have k0:=tW hT9;clear tW hT9;have g0:W.cell? ⟨B13,0,none⟩=some (.int .i64 e13):=aa k0.sat.Q5 0 rfl;repeat still_step
  still_call ((gU c.length (by omega) (by have:=dD HF2.u;omega) W).mono fun e w2 ⟨h1,h2⟩=>⟨h1,h2.symm⟩);repeat still_step
  refine wpStill_nil (bb 3 (.tmp 13) (.tmp 128) rfl B13 0 #[.int .i64 e13] 3 (.int .i64 (e13+(c.length+9))) k0 rfl rfl (by simp) (by kernel_rfl) rfl rfl fun w9 hT9=>⟨rfl,?_⟩);simp only[Act.put];refine wpStill_nil ?_;have hT9:Turns F1 ((B13,Is (cq (e13+(c.length+9))))::Z9) A w9:=hT9;rw[HZ9.out]at hT9;clear k0 g0 hs9;have HR9:=qqH hT9;clear hT9;gi_wp2_with fail;refine ER F1 ((w4.heap.size+1,Is (aB f))::(B13,Is (cq (e13+(c.length+9))))::(B12,Is (dX Bm))::(Bm,Is (aO str (gF fE nE c (ge (e13,c.length))) (cf fE nE c)))::(B11,Is (cT rv2))::(B3,Is (dh S.a))::(bK 35 1 rv2 (recs.map (·.val)++[fv2]).length (recs.map (·.val)++[fv2])++(aA fv2 (frame 1 c)++((recs.flatMap fun r=>aA r.val r.bytes)++Y)))) A w4.heap.size B9 Bv VV (e13,c.length) fv chs (HR9.out.to ac) HH.out.2.2.2.2.2.2.2.2.1 (by rw[HE.c]) (by have:=HF2.c;omega) (fun⟨_,_,h⟩=>h) ?_;intro _ _ _ _ _ _ _ _ _ _ w7 hpo7 hT7;refine HFIN.out w7 (e13,c.length) (acc++[c]) rv2 _ (recs++[⟨fv2,frame 1 c⟩]) _ ?_ (fun e h=>by rw[rY];exact mem_append_left _ h) ?_ ?_ ?_ hpo7 hT7 (fun x=>?_)
  ·rw[fG hi,it,<- HH.out.2.2.2.2.2.2.2.2.2.2.2.2.1,<- HH.e,if_neg (fun h=>h.elim HR8.e HR8.d)]
  ·rw[rY,HE.f];exact mem_append_right _ (mem_append_right _ (by simp))
  ·rw[map_append,map_append,HH.g];rfl
  ·refine⟨by rw[map_append];exact HR8.b,fun r hr=>?_⟩;rcases mem_append.1 hr with h|h
   ·exact HH.h.2 r h
   ·simp only[mem_singleton]at h;subst h;exact HR8.a
  ·have e1:=HR8.f;have e2:=HR8.u;rw[<- HE.f,<- HE.d,<- HE.e]at e1;rw[<- HE.d,<- HE.e]at e2;have e3:((S.data.length+bm (acc++[c]):Nat):Int)=(e13:Int)+(c.length+9):=by rw[tU,HE.f];omega
   rw[e1,e2,e3];unfold fp;simp only[map_append,flatMap_append,flatMap_cons,flatMap_nil,append_nil,map_cons,map_nil,ao,ai];omega
 ·rename_i h1 h2;refine ER F1 ((w4.heap.size+1,Is (aB f))::(B13,Is (cq e13))::(B12,Is (dX Bm))::(Bm,Is (aO str fE nE))::(B11,Is (cT rv))::(B3,Is (dh S.a))::(fp rv recs++Y)) A w4.heap.size B9 Bv VV q fv chs ((HB.a q).to ac) HH.out.2.2.2.2.2.2.2.2.1 (by rw[HE.c]) (by have:=HF2.c;omega) (fun⟨_,_,h⟩=>h) ?_;intro _ _ _ _ _ _ _ _ _ _ w7 hpo7 hT7;refine HFIN.out w7 q acc rv _ recs _ ?_ (fun _ h=>h) (mem_append_left _ (HE.h (by simpa using h2))) HH.g HH.h hpo7 hT7 (fun x=>by rw[<- HE.d,<- HE.e,<- HE.f];simp only[ao,ai];omega);rw[fG hi,it,<- HH.out.2.2.2.2.2.2.2.2.2.2.2.2.1,<- HH.e,if_pos (.inl (mem_map.2 ⟨_,HE.h (by simpa using h2),rfl⟩))]
end
section
open Go.RowKit Go.Maps
theorem GG(w:World)(l:Bs):∃cap w',(convert 9 35 (str l)).run Tryz.prog w=.ok (.slice (some ⟨w.heap.size,0,none⟩) l.length cap) w'/\aQ w w'/\ak w' (some ⟨w.heap.size,0,none⟩) (l.map al):=by
 refine⟨_,_,Go.Lib.run_convert_string_bytes w 9 35 5 ⟨l.toArray⟩ Tryz.underlying9 Tryz.underlying35 Tryz.underlying5,⟨rfl,rfl,rfl,?_,fun k hk _=>?_⟩,fun _=>⟨_,_,rfl,fun j hj=>?_⟩⟩
 ·rw[Go.Lib.bytesWorld_size];omega
 ·exact Go.Lib.bytesWorld_at_old w _ _ k hk
 ·have hj':j<l.length:=by simpa using hj
  rw[Nat.zero_add,Go.Lib.bytesWorld_cell w _ _ j (by simpa[ByteArray.size]using hj')];simp[al,getD,hj']
theorem Ed{o:Oper}{a:Act}{w:World}{K:Act->World->Prop}{Q:Exit->Act->World->Prop}(x:Operand)(ho:o.op=.convert 9 35 x)(l:Bs)(hx:a.eval x=str l)(hk:∀n cap w',aQ w w'->ak w' (some ⟨n,0,none⟩) (l.map al)->w.heap.size<=n->K (a.put o.dst (.slice (some ⟨n,0,none⟩) l.length cap)) w'):o.wp Tryz.prog a w K Q:=by
 obtain⟨cap,w',h1,h2,h3⟩:=GG w l;refine nA (v:=.slice (some ⟨w.heap.size,0,none⟩) l.length cap) (w':=w') ?_ (hk _ cap w' h2 h3 (Nat.le_refl _));simp[execOp,ho,hx,h1,Result.andThen]
theorem mS(c:Bs)(r:List Bs):dY (c::r)=frame 1 c++dY r:=by simp[dY]
theorem gL:∀l:List Bs,(dY l).length=bm l
 | []=>rfl
 | c::r=>by rw[mS,length_append,aX,ir,gL r]
theorem rf(rest:Bs):∀(l:List Bs) (data:Bs),(∀c∈l,c.length<65536)->∀e∈b8 data.length l,e.2.2=e.1.length/\dw (data++dY l++rest) e.2.1 e.1
 | [],_,_,e,h=>by simp[b8]at h
 | c::r,data,hl,e,h=>by
  simp only[b8,mem_cons]at h
  rcases h with rfl|h
  ·refine⟨rfl,?_⟩
   have:=dw.frame (data:=data) (body:=c) (rest:=dY r++rest) (hl c (by simp))
   rw[mS]
   simpa[append_assoc]using this
  ·have h2:=rf rest r (data++frame 1 c) (fun x hx=>hl x (by simp[hx])) e (by rw[length_append,aX,<- Nat.add_assoc];exact h)
   rw[mS]
   simpa[append_assoc]using h2
theorem rX{ps:List ba}{pc:Nat}(hok:PathsOk ps pc){l:Bs}(hl:OkS l){v:Value}{V:VerL}(hv:eT v (af ps l++[V]))(hV:bP V.cv V.chs):PathsOk (kw ps pc l v V) (cf (ps.map aN) pc l) where
 map:=by unfold kw;rw[iG];exact hok.map.put hl v
 rows:=fun p hp=>by
  rcases fA hp with⟨h1,_⟩|⟨_,h2,h3⟩
  ·exact hok.rows p h1
  ·refine⟨by rw[h2,h3];exact hv,fun U hU=>?_⟩
   rw[h3]at hU
   rcases mem_append.1 hU with h|h
   ·unfold af gOf at h
    cases hf:ps.find? (fun p=>decide (p.key=l))with
    | none=>rw[hf]at h;simp at h
    | some p'=>rw[hf]at h;exact(hok.rows p' (mem_of_find?_eq_some hf)).2 U h
   ·simp only[mem_singleton]at h;subst h;exact hV
theorem bD{ps:List ba}{l:Bs}(h:af ps l≠[]):∃p∈ps,p.key=l/\p.g=af ps l:=by
 unfold af gOf at h ⊢
 cases hf:ps.find? (fun p=>decide (p.key=l))with
 | none=>rw[hf]at h;exact absurd rfl h
 | some p=>exact⟨p,mem_of_find?_eq_some hf,by simpa using find?_some hf,rfl⟩
theorem Jj{γ:Type}(ps:List (GE γ))(c:Nat)(l:Bs)(v:Value)(g:γ):(eh ps c l v g).length<=ps.length+1:=by
 unfold eh;split<;>simp
theorem lk{α β:Type}:∀{l:List α} {m:List β},l.length=m.length->∀b∈m,∃a∈l,(a,b)∈l.zip m
 | [],[],_,b,hb=>by simp at hb
 | a::l,x::m,h,b,hb=>by
  rcases mem_cons.1 hb with rfl|hb
  ·exact⟨a,by simp,by simp⟩
  ·obtain⟨a',h1,h2⟩:=lk (by simpa using h) b hb
   exact⟨a',by simp[h1],by simp[h2]⟩
theorem Et:∀{l:List Bs} {m:List (Nat×Nat)},l.length=m.length->(∀e∈l.zip m,e.2.2=e.1.length)->(m.map (·.2)).sum=(l.map length).sum
 | [],[],_,_=>rfl
 | c::l,q::m,h,hz=>by
  have h1:=hz (c,q) (by simp)
  have h2:=Et (l:=l) (m:=m) (by simpa using h) (fun e he=>hz e (by simp[he]))
  simp only[map_cons,sum_cons]
  rw[h2]
  simp only at h1
  rw[h1]
theorem mK:∀(l:List Nat) (d:Bs),l.sum=d.length->((da l d).map length).sum=d.length
 | [],d,h=>by simpa[da]using h
 | n::r,d,h=>by
  simp only[sum_cons]at h
  simp only[da,map_cons,sum_cons,length_take]
  rw[mK r (d.drop n) (by rw[length_drop];omega),length_drop]
  omega
theorem pS(D:Bs):((au D).map length).sum=D.length:=mK _ _ (gY D)
theorem rq(has:List Bs):∀(l acc:List Bs),((bX has acc l).map length).sum<=(acc.map length).sum+(l.map length).sum
 | [],acc=>by simp[bX]
 | c::l,acc=>by
  simp only[bX]
  split
  ·have:=rq has l acc;simp;omega
  ·have:=rq has l (acc++[c]);simp at this ⊢;omega
theorem jG(l:List Bs):bm l=(l.map length).sum+9*l.length:=by
 induction l with
 | nil=>rfl
 | cons c r ih=>rw[ir,ih];simp;omega
theorem iY(S:AS)(D:Bs):((bC S D).map length).sum<=D.length:=by
 have:=rq (S.K.map (·.1)) (au D) [];rw[pS]at this;unfold bC;simpa using this
theorem ph(S:AS)(D:Bs):(bC S D).length<=D.length:=by
 have h1:=kI (S.K.map (·.1)) (au D) [];have h2:=cK D;rw[bS]at h1;unfold bC;simp at h1;omega
theorem pi{S:AS}{D c:Bs}(h:c∈bC S D):c∈au D/\c∉S.K.map (·.1):=by
 rcases jq _ _ _ c h with h|h
 ·simp at h
 ·exact h
theorem pv(data:Bs):(bF data).length=128:=by
 unfold bF;have:=fJ data;simp[am];omega
theorem uc{S:AS}{b:Nat}(hB:ArB S b)(l:Bs):eM (af S.ps l)<=4294967296+b:=by
 unfold eM
 cases hg:(af S.ps l).getLast? with
 | none=>simp
 | some V =>
  have hV:=mem_of_getLast? hg;obtain⟨p,hp,_,h2⟩:=bD (ps:=S.ps) (l:=l) (fun e=>by rw[e]at hV;simp at hV);rw[<- h2]at hV;exact((hB.vers p hp).2.2 V hV).1
theorem ga(l:Bs)(n s:Int)(chs:List (Nat×Nat)):(frame 2 (eF l n s (br chs))).length=l.length+16+4*chs.length:=by
 simp only[aX,eF,length_append,bw,bM,cr,br,length_map];omega
theorem I7{S:AS}{l D:Bs}{b:Nat}(hok:ArOk S)(hB:ArB S b)(hl:l.length<=20)(hD:D.length<=4000){sp:List (Nat×Nat×Nat)}(hA:AreaOk { S.A with spare:=sp }){V:VerL}(hnum:V.num=eM (af S.ps l)+1)(hsize:V.size=D.length)(hheld:V.held=0)(hnc:V.chs.length=(au D).length)(hchs:∀e∈(au D).zip V.chs,e∈S.K++b8 S.data.length (bC S D))(hV:bP V.cv V.chs){L':DevL}(hL:DevOk L')(hLn:L'.n=S.L.n)(hdat:ez L'.now S.A.first S.A.count (S.data++dY (bC S D)++frame 2 (eF l V.num V.size (br V.chs))))(hoth:∀f2 c2,(f2+c2<=S.A.first\/S.A.first+S.A.count<=f2)->aC L'.now f2 c2=aC S.L.now f2 c2)(hLc:L'.chs.length<=S.L.chs.length+(dY (bC S D)++frame 2 (eF l V.num V.size (br V.chs))).length){cs':List kT}{cc':Nat}(hcs:ChunksOk cs' cc')(hkin:∀k,(bd cs' k).Perm (((S.K++b8 S.data.length (bC S D)).filter (fun e=>decide (ef e.1=k))).map (·.2))){v':Value}(hv:eT v' (af S.ps l++[V])):
  ∀S',S'={ S with X:={ S.X with sc:=S.X.sc+(bC S D).length,sb:=S.X.sb+((bC S D).map length).sum,used:=S.X.used+D.length },A:={ S.A with spare:=sp,end_:=(S.data++dY (bC S D)++frame 2 (eF l V.num V.size (br V.chs))).length,tail:=bF (S.data++dY (bC S D)++frame 2 (eF l V.num V.size (br V.chs))) },L:=L',ps:=kw S.ps S.pc l v' V,pc:=cf (S.ps.map aN) S.pc l,cs:=cs',cc:=cc',data:=S.data++dY (bC S D)++frame 2 (eF l V.num V.size (br V.chs)),K:=S.K++b8 S.data.length (bC S D) } ->
  PutStep S S' l D V/\ArOk S'/\Cr S D b S':=by
 rintro S' rfl;have hfl:=ph S D;have hfs:=iY S D
 have hkat:∀e∈S.K++b8 S.data.length (bC S D),e.2.2=e.1.length/\dw (S.data++dY (bC S D)++frame 2 (eF l V.num V.size (br V.chs))) e.2.1 e.1:=fun e he=>by
  rcases mem_append.1 he with h|h
  ·refine⟨(hok.kat e h).1,?_⟩;rw[append_assoc];exact(hok.kat e h).2.more
  ·exact rf _ _ _ (fun c hc=>by have:=dD (pi hc).1;omega) e h
 have hpl:(b8 S.data.length (bC S D)).length=(bC S D).length:=by
  have:=congrArg length (tV (bC S D) S.data.length 0);simp only[length_map]at this;rw[<- this,pf]
 have hln:=uc hB l;have hcn:=cK D;rw[bS]at hnc
 have hvers:∀p∈kw S.ps S.pc l v' V,(p∈S.ps/\p.key≠l)\/(p.key=l/\p.g=af S.ps l++[V]):=fun p hp=>by
  rcases fA hp with h|⟨h1,_,h3⟩
  ·exact .inl h
  ·exact .inr ⟨h1,h3⟩
 refine⟨⟨rfl,rfl,rfl,rfl,rfl,hLn,rfl,rfl,rfl,rfl,rfl,fun m=>?_,hnum,hsize,hheld,by rw[hnc,bS],hchs,rfl,hoth⟩,?_,?_⟩
 ·simp only[af,kw,qd]
 ·exact {
   dev:=hL,n16:=by rw[hLn];exact hok.n16,nmax:=by rw[hLn];exact hok.nmax,area:=⟨pv _,hA.few,hA.caps⟩,first:=by rw[hLn];exact hok.first,count:=by rw[hLn];exact hok.count
   end_:=rfl,tail:=rfl,dat:=hdat,paths:=rX hok.paths (by unfold OkS;omega) hv hV,tags:=hok.tags,chunks:=hcs,kin:=hkin,kat:=hkat
   vers:=fun p hp U hU=>by
    have old:∀p∈S.ps,∀U∈p.g,(∀q∈U.chs,∃e∈S.K++b8 S.data.length (bC S D),e.2=q)/\U.size=(U.chs.map (·.2)).sum:=fun p hp U hU =>
     ⟨fun q hq=>by obtain⟨e,he,h⟩:=(hok.vers p hp U hU).1 q hq;exact⟨e,mem_append_left _ he,h⟩,(hok.vers p hp U hU).2⟩
    rcases hvers p hp with⟨h1,_⟩|⟨_,h3⟩
    ·exact old p h1 U hU
    ·rw[h3]at hU
     rcases mem_append.1 hU with h|h
     ·obtain⟨p',hp',_,h2⟩:=bD (ps:=S.ps) (l:=l) (fun e=>by rw[e]at h;simp at h)
      rw[<- h2]at h
      exact old p' hp' U h
     ·simp only[mem_singleton]at h
      subst h
      have hll:(au D).length=U.chs.length:=by rw[hnc,bS]
      refine⟨fun q hq=>?_,?_⟩
      ·obtain⟨c,_,h2⟩:=lk hll q hq
       exact⟨(c,q),hchs _ h2,rfl⟩
      ·rw[hsize,Et hll (fun e he=>(hkat e (hchs e he)).1),pS]
   some:=fun p hp=>by
    rcases hvers p hp with⟨h1,_⟩|⟨_,h3⟩
    ·exact hok.some p h1
    ·rw[h3];simp
   sound:=hok.sound,ep:=hok.ep }
 ·intro b' hb1 hb3;rw[bS]at hb3
  have hfr:(dY (bC S D)++frame 2 (eF l V.num V.size (br V.chs))).length<=262144*2:=by
   rw[length_append,gL,jG,ga];omega
  have hb2:b<=b':=by omega
  exact {
   K:=by have:=hB.K;simp only[length_append,hpl];omega
   np:=by have h1:=Jj S.ps S.pc l v' (af S.ps l++[V]);have:=hB.np;show(eh S.ps S.pc l v' (af S.ps l++[V])).length<=_;omega
   nt:=by have:=hB.nt;show S.ts.length<=_;omega
   vers:=fun p hp=>by
    have old:∀U:VerL,U.num<=4294967296+b/\U.chs.length<=b/\U.size<=65536*b/\U.held.natAbs<=b->U.num<=4294967296+b'/\U.chs.length<=b'/\U.size<=65536*b'/\U.held.natAbs<=b':=fun U h=>by omega
    rcases hvers p hp with⟨h1,_⟩|⟨h0,h3⟩
    ·obtain⟨k1,k2,k3⟩:=hB.vers p h1
     exact⟨k1,by omega,fun U hU=>old U (k3 U hU)⟩
    ·rw[h0,h3]
     have hlen:(af S.ps l).length<=b/\∀U∈af S.ps l,U.num<=4294967296+b/\U.chs.length<=b/\U.size<=65536*b/\U.held.natAbs<=b:=by
      by_cases hn:af S.ps l=[]
      ·rw[hn];exact⟨by simp,fun U hU=>by simp at hU⟩
      ·obtain⟨p',hp',_,h2⟩:=bD hn
       rw[<- h2];exact⟨(hB.vers p' hp').2.1,(hB.vers p' hp').2.2⟩
     refine⟨by omega,by simp;omega,fun U hU=>?_⟩
     rcases mem_append.1 hU with h|h
     ·exact old U (hlen.2 U h)
     ·simp only[mem_singleton]at h
      subst h
      rw[hnum,hsize,hheld,hnc]
      exact⟨by omega,by omega,by omega,by simp⟩
   tags:=fun p hp=>by obtain⟨k1,k2,k3⟩:=hB.tags p hp;exact⟨k1,k2,by omega⟩
   used:=by have:=hB.used;simp only;omega
   sc:=by have:=hB.sc;simp only;omega
   sb:=by have:=hB.sb;simp only;omega
   quota:=hB.quota
   chs:=by have:=hB.chs;simp only at hLc ⊢;omega }
def Cs(S:AS)(l D:Bs)(b num:Nat)(B6 B7:Nat)(F:HF)(B w':World)(n:Int)(ev:Value):Prop :=
 (∃sp chs J,n=0/\ev=ck 8/\AreaOk { S.A with spare:=sp }/\Turns F ((B6,Is (cq 0))::(B7,Is (e8 (ck 8)))::(arF { S with A:={ S.A with spare:=sp } }++J)) B w' /\
  128*S.A.count<S.data.length+(dY (bC S D)).length+(frame 2 (eF l num D.length (br chs))).length/\chs.length=(au D).length) \/
 (∃S' V J,n=num/\ev=.nilIface/\PutStep S S' l D V/\ArOk S'/\Cr S D b S'/\Turns F ((B6,Is (cq num))::(B7,Is (e8 (.nilIface)))::(arF S'++J)) B w')
theorem EO{w:World}{b e n:Nat}{v:Value}{xs:List Value}{a:Option Addr}{cap:Nat}(h:w.ownsRow b e 1 v n xs)(hv:v=.slice a n cap):cap<=9223372036854775807:=by
 obtain⟨a',c',h1,_,_,h2,_⟩:=po h;rw[hv]at h1;simp only[Value.slice.injEq]at h1;omega
def LQ:Value->Nat
 | .int _ a=>a.toNat
 | _=>0
def KY(i:Nat):Value->Value
 | .agg c=>c.getD i undef
 | _=>undef
def C6(e:Ent Bs):Bs×Nat×Nat:=(e.key,LQ (KY 0 e.val),LQ (KY 1 e.val))
theorem tP:∀(l:List Bs) (at_ b:Nat),(bt at_ b l).map C6=b8 at_ l
 | [],_,_=>rfl
 | c::r,at_,b=>by
  simp only[bt,b8,map_cons,tP r]
  congr 1
def XK(X:ArchL)(done:List (Ent Bs)):ArchL:={ X with sc:=X.sc+done.length,sb:=X.sb+(done.map (fun e=>e.key.length)).sum }
def Ej(S:AS)(S1:HF)(acc:List Bs)(F Z:HF)(B:World)(Bm r:Nat)(w:World):Prop :=
 ∃(done todo:List (Ent Bs)) (cs:List kT) (cc:Nat) (J:HF),(done++todo).Perm (bt S.data.length 0 acc)/\ChunksOk cs cc /\
  (∀k,(bd cs k).Perm (((S.K++done.map C6).filter (fun e=>decide (ef e.1=k))).map (·.2))) /\
  Turns F ((r,Is (dB Bm acc.length done))::(Bm,Is (aO str (bt S.data.length 0 acc) acc.length))::(S.a,Is (aJ (XK S.X done)))::(aP S.X.cm cs cc++(S1++(J++Z)))) B w
def mV(r n:Nat)(w:World):Nat:=match w.heap[r]? with
 | some (.mapIter _ _ seen _)=>n-seen.size
 | _=>0
theorem JQ(X:ArchL)(done:List (Ent Bs))(e:Ent Bs):(.cells (((bl (XK X done)).setIfInBounds 3 (.int .i64 ((XK X done).sc+1))).setIfInBounds 4 (.int .i64 ((XK X done).sb+e.key.length))) 59 (0,0):Obj)=aJ (XK X (done++[e])):=by
 have h1:X.sc+(done.length:Int)+1=X.sc+((done++[e]).length:Nat):=by simp;omega
 have h2:X.sb+((done.map (fun e=>e.key.length)).sum:Nat)+(e.key.length:Int)=X.sb+(((done++[e]).map (fun e=>e.key.length)).sum:Nat):=by simp;omega
 unfold aJ;congr 1;simp only[bl,XK];rw[h1,h2];rfl
theorem Lk(X:ArchL){done fE:List (Ent Bs)}{acc:List Bs}{at_:Nat}(size n:Nat)(hs:size=n)(h:done.Perm fE)(hf:fE=bt at_ 0 acc):(.cells ((bl (XK X done)).setIfInBounds 5 (.int .i64 ((XK X done).used+size))) 59 (0,0):Obj)=aJ { X with sc:=X.sc+acc.length,sb:=X.sb+(acc.map length).sum,used:=X.used+n }:=by
 have h1:done.length=acc.length:=by rw[h.length_eq,hf,pf]
 have h2:(done.map (fun e=>e.key.length)).sum=(acc.map length).sum:=by
  rw[((h.map (fun e=>e.key.length)).sum_nat),hf];conv=>rhs;rw[<- gc acc at_ 0,map_map]
  rfl
 subst hs;unfold aJ;congr 1;simp only[bl,XK];rw[h1,h2];rfl
theorem pT{cs:List kT}{cc:Nat}(h:ChunksOk cs cc){k:Bs}(hk:Ok4 k){v:Value}{g:List (Nat×Nat)}(hv:bP v g):ChunksOk (eh cs cc k v g) (cf (cs.map aN) cc k) where
 map:=by rw[iG];exact h.map.put hk v
 rows:=fun p hp=>by
  rcases fA hp with⟨h1,_⟩|⟨_,h2,h3⟩
  ·exact h.rows p h1
  ·rw[h2,h3];exact hv
theorem It{done todo fE:List (Ent Bs)}{acc:List Bs}{at_ m:Nat}(h:(done++todo).Perm fE)(hf:fE=bt at_ 0 acc)(hm:(acc.map length).sum<=m):(done.map (fun e=>e.key.length)).sum<=m:=by
 have h1:=((h.map (fun e=>e.key.length)).sum_nat)
 have h2:fE.map (fun e=>e.key.length)=acc.map length:=by
  rw[hf];conv=>rhs;rw[<- gc acc at_ 0,map_map]
  rfl
 rw[h2,map_append,sum_append]at h1;omega
theorem AV{cs:List kT}{cc:Nat}{T:List (Bs×Nat×Nat)}(h:∀k,(bd cs k).Perm ((T.filter (fun e=>decide (ef e.1=k))).map (·.2)))(c:Bs)(q:Nat×Nat)(v:Value):
  ∀k,(bd (eh cs cc (ef c) v (bd cs (ef c)++[q])) k).Perm (((T++[(c,q)]).filter (fun e=>decide (ef e.1=k))).map (·.2)):=by
 intro k;rw[filter_append,map_append];have e1:bd (eh cs cc (ef c) v (bd cs (ef c)++[q])) k=if k=ef c then bd cs (ef c)++[q]else bd cs k:=qd [] cs cc (ef c) k v _
 rw[e1];by_cases hk:k=ef c
 ·subst hk;simp only[if_true,filter_cons,decide_true,filter_nil,map_cons,map_nil];exact(h _).append_right _
 ·have hk2:¬ef c=k:=fun e=>hk e.symm
  simp only[hk,if_false,filter_cons,hk2,decide_false,Bool.false_eq_true,filter_nil,map_nil,append_nil];exact h k
theorem DL(S:AS)(hok:ArOk S)(b:Nat)(hB:ArB S b)(hb:b<=90000)(l D:Bs)(_:aq l=true)(hll:l.length<=20)(hDl:D.length<=4000)(B3 B6 B7 B9 B11 B12 B13 Bm Bv num:Nat)(hnum:num=eM (af S.ps l)+1)(F:HF)(B:World)(hJ:Hh S D B9 B11 B12 B13 Bm Bv num ((B3,Is (dh S.a))::[(B6,Is (cq 0)),(B7,Is (e8 .nilIface))]) (aE D).length F)(hF:Sat B F){u0 u2 u4 u5 u8 aS aT ad ag aj ar ax a0 a1 a2 a3 a4 a5 a6 a7 a8 a9 bY bg bj bk bo bs bx b0 b1 b2 b4 b6 b7 ca cb ch ci cj cl cp ct cu cx c0 c1 c2 c3 c4 c5 c8 dO dT df dn dp dv d0 d1 d2 d3 d4 d5 d6 d7 d8 eA eC eQ eR eU eW eX ea eb eg el em en ep es e3 e4 e5 e7 e9 fl fn fr fs fz f0 f1 f2 f3 f4 f5 f8 f9 gD gb gg gp gs gu gv gx g1 g2 g3 g4 g5 g6 g7 hA hC hD hE hG hH hI hK hL hM hN hO hP hR hS hU hW hX ha hf hg hh hi hj hk hl hm ho hu hw hy h5 h6 h7 h8 h9 iF iN iS id ih ii i0 i1 i2 i3 j1 j2 j3 j4 kM kU kd kk kl:Value}{ds:List Deferred}{Q:Exit->Act->World->Prop}(hQ:∀(tmps:Array Value) (w':World) (n:Int) (ev:Value),tmps.getD 6 undef=.pointer (some ⟨B6,0,none⟩)->tmps.getD 7 undef=.pointer (some ⟨B7,0,none⟩)->Cs S l D b num B6 B7 F B w' n ev->Q .ret { tmps:=tmps,defers:=ds } w'):
  Ky.wp Tryz.prog Q { tmps:=#[u0,str l,u2,.pointer (some ⟨B3,0,none⟩),u4,u5,.pointer (some ⟨B6,0,none⟩),.pointer (some ⟨B7,0,none⟩),u8,.pointer (some ⟨B9,0,none⟩),aS,.pointer (some ⟨B11,0,none⟩),.pointer (some ⟨B12,0,none⟩),aT,ad,ag,aj,ar,ax,a0,a1,a2,a3,a4,a5,a6,a7,a8,a9,bY,bg,bj,bk,bo,bs,bx,b0,b1,b2,b4,b6,b7,ca,cb,ch,ci,cj,cl,cp,ct,cu,cx,c0,c1,c2,c3,c4,c5,c8,dO,dT,df,dn,dp,dv,d0,d1,d2,d3,d4,d5,d6,d7,d8,eA,eC,eQ,eR,eU,eW,eX,ea,eb,eg,el,em,en,ep,es,e3,e4,e5,e7,e9,fl,fn,fr,fs,fz,f0,f1,f2,f3,f4,f5,f8,f9,gD,gb,gg,gp,gs,gu,gv,gx,g1,g2,g3,g4,g5,g6,g7,hA,hC,hD,hE,hG,hH,hI,hK,hL,hM,hN,hO,hP,hR,hS,hU,hW,hX,ha,hf,hg,hh,hi,hj,hk,hl,hm,ho,hu,hw,hy,h5,h6,h7,h8,h9,iF,iN,iS,id,ih,ii,i0,i1,i2,i3,j1,j2,j3,j4,kM,kU,kd,kk,kl],defers:=ds } B:=by
 obtain⟨sp,acc,fv,rv,chs,recs,hacc,hAo,hrb,hro,hpo,hcl,hin,hFe⟩:=hJ;have hacc2:acc=bC S D:=by rw[hacc,<- bS,take_length];rfl
 rw[<- bS,take_length]at hin;obtain⟨V,hV⟩:∃V:VerL,V=⟨Bv,num,D.length,fv,chs,0⟩:=⟨_,rfl⟩;have hchl:chs.length<=4000:=by have:=cK D;omega
 obtain⟨Y,hY⟩:∃Y,Y=(B3,Is (dh S.a))::(B6,Is (cq 0))::(B7,Is (e8 .nilIface))::(S.a,Is (aJ S.X))::(ap S.X.ab S.X.d { S.A with spare:=sp }++(aD S.X.d S.L++(aF S.X.pm S.ps S.pc++(bU S.X.tm S.ts S.tc++aP S.X.cm S.cs S.cc)))):=⟨_,rfl⟩;obtain⟨Z,hZ⟩:∃Z,Z=(B13,Is (cq ((S.data.length+bm acc:Nat):Int)))::(B12,Is (dX Bm))::(Bm,Is (aO str (bt S.data.length 0 acc) acc.length))::((recs.flatMap fun r=>aA r.val r.bytes)++Y):=⟨_,rfl⟩
 have hT:Turns F (bK 35 1 rv (recs.map (·.val)).length (recs.map (·.val))++((B11,Is (cT rv))::(B9,Is (cU V.blk))::(bL V++Z))) B B:=by
  refine(Turns.refl hF).to ?_;rw[hFe,hZ,hY,hV];unfold fp arF;exact ac
 have hrl:(recs.map (·.val)).length=acc.length:=by
  have:=congrArg length hrb;simpa using this
 have hal:=ph S D;rw[<- hacc2]at hal
 have hKat:∀e∈S.K,e.2.1<=137438953472:=fun e he=>by
  have h1:=(hok.kat e he).2.1;have h2:=hok.dat.2;have h3:=hok.fits;have h4:=hok.nmax;omega
 have hln:=uc hB l;have hdl:=hok.dat.2;have hnn:=hok.nmax;have hfit:=hok.fits
 have hat:∀n∈br chs,I64 n:=fun n hn=>by
  obtain⟨q,hq,rfl⟩:=mem_map.1 hn;obtain⟨c,hc,hz⟩:=lk (l:=au D) (by rw[hcl,bS]) q hq
  have hbig:q.1<=1099511627776:=by
   rcases mem_append.1 (hin _ hz)with h|h
   ·have:=hKat _ h;simp only at this;omega
   ·rw[hacc2]at h;have h2:=rf [] (bC S D) S.data (fun x hx=>by have:=dD (pi hx).1;omega) _ h;have h3:=h2.2.1;have h4:=iY S D;rw[<- hacc2]at h3 h4;simp only[append_nil,length_append,gL,jG]at h3;omega
  unfold I64;omega
 have HH:=qqH (And.intro hok (And.intro hB (And.intro hF (And.intro hacc2 (And.intro hAo (And.intro hrb (And.intro hro (And.intro hpo (And.intro hcl (And.intro hin (And.intro hFe (And.intro hV (And.intro hY (And.intro hZ (And.intro hT (And.intro hrl (And.intro hat hQ)))))))))))))))));have HN:=Hq7 hnum hln hal hdl hnn hfit hchl;clear hok hB hF hacc hacc2 hAo hrb hro hpo hcl hin hFe hV hY hZ hT hrl hat hQ hnum hln hal hdl hnn hfit hKat hchl;conv=>arg 2;whnf
 go_wp2_with fail;obtain⟨rl,hrl⟩:∃rl,rl=recs.map (·.val):=⟨_,rfl⟩;have k0:=HH.out.2.2.2.2.2.2.2.2.2.2.2.2.2.2.1;have hro:=HH.g.1;have hl9:rl.length<=1000000:=by rw[hrl];have:=HH.out.2.2.2.2.2.2.2.2.2.2.2.2.2.2.2.1;have:=HN.c;omega
 rw[<- hrl]at k0 hro
 have hcv:bP V.cv V.chs/\V.chs.length<=100000/\I64 V.num/\I64 V.size/\∀n∈br V.chs,I64 n:=by
  rw[HH.out.2.2.2.2.2.2.2.2.2.2.2.1];have h1:=HN.a;have h2:=HN.b;have h3:=HN.u;refine⟨HH.h,by show chs.length<=_;omega,by show I64 (num:Int);unfold I64;omega,by show I64 (D.length:Int);unfold I64;omega,HH.out.2.2.2.2.2.2.2.2.2.2.2.2.2.2.2.2.1⟩
 have HP:=Hq5 k0 hrl hro hl9 hcv;clear k0 hrl hro hl9 hcv;refine db [([0,1,2],3,[0]),([4],5,[0]),([],6,[0]),([],7,[]),([],8,[])] [] HM.out (by kernel_rfl) fun W tW=>?_
 simp only[Mix,map_cons,map_nil,nth,QG,QF];have k0:=tW HP.a;clear tW;have g:∀{W:World},W.heap[B11]?=some (cT rv)->W.cell? ⟨B11,0,none⟩=some rv:=fun h=>aa h 0 rfl
 have g0:=g (k0.sat.Q7 (by simp));have g9:W.cell? ⟨B9,0,none⟩=some (.pointer (some ⟨V.blk,0,none⟩)):=aa (k0.sat.Q7 (b:=B9) (o:=cU V.blk) (by simp)) 0 rfl;repeat still_step
 refine wpStill_nil (aU (by kernel_rfl) (jA l V W (k0.sat.sub bB) HP.e HP.f) ?_);rintro e w3 ⟨av,cv,rfl,hc,hs⟩;have k1:=k0.Q9 hs;refine⟨_,rfl,by(have g0:=g (k1.sat.Q7 (by simp));(repeat still_step);exact rfl),?_⟩;refine eG rfl (v:=.iface 139 (.agg #[.int .u8 2,str l,.int .i64 V.num,.int .i64 V.size,.slice av (br V.chs).length cv])) (by kernel_rfl) (wpStill_nil ?_);refine aU (by kernel_rfl) (nB 2 l V.num V.size av cv (br V.chs) w3 hc (by omega) HP.g HP.h HP.out.2.2.2.2.2.2.2.2 (by unfold br;rw[length_map];exact HP.f)) ?_;rintro e w4 ⟨vb,rfl,hb1,hT3⟩;have k2:=Turns.Qb k1 hT3;refine⟨_,rfl,by(have g0:=g (k2.sat.Q7 (by simp));(repeat still_step);exact rfl),?_⟩;simp only[Act.put,QA,QB,QC];refine wpStill_nil ?_;have o1:=(nN hb1 k2.sat.left).1;refine i8 (xu vb) (fun n=>.slice (some ⟨n,0,none⟩) 1 1) (by obtain⟨-,-,av2,cv2,hv⟩:=nN hb1 k2.sat.left;rw[hv];kernel_rfl) k2 fun n W2 k3=>⟨by(have g0:=g (k3.sat.Q7 (by simp));(repeat still_step);exact rfl),?_⟩
 simp only[Act.put,QA,QB,QC];refine wpStill_nil ?_;refine mr (.tmp 139) (.tmp 145) rfl rv rl rfl (k3.to (H:=bK 35 1 rv rl.length rl++((n,Is (xu vb))::(aA vb (frame 2 (eF l V.num V.size (br V.chs)))++((B11,Is (cT rv))::(B9,Is (cU V.blk))::(bL V++Z))))) ac) HP.c n vb rfl o1 (aa k3.sat.Q5 0 rfl) HP.d fun rv2 W3 hr1 k4=>⟨rfl,?_⟩
 simp only[Act.put,QA,QB,QC];refine wpStill_nil ?_;have p1:=EU k4.sat.left hr1;refine bb 36 (.tmp 11) (.tmp 146) rfl B11 0 #[rv] 36 rv2 (k4.to (H:=(B11,Is (cT rv))::(bK 35 1 rv2 (rl++[vb]).length (rl++[vb])++((n,Is (xu vb))::(aA vb (frame 2 (eF l V.num V.size (br V.chs)))++((B9,Is (cU V.blk))::(bL V++Z)))))) ac) rfl rfl (by simp) (by kernel_rfl) p1.1 p1.2 fun w1 k5=>⟨rfl,?_⟩
 simp only[Act.put];refine wpStill_nil ?_;have hT1:Turns F ((B11,Is (cT rv2))::(bK 35 1 rv2 (rl++[vb]).length (rl++[vb])++(aA vb (frame 2 (eF l V.num V.size (br V.chs)))++((B9,Is (cU V.blk))::(bL V++Z))))) B w1:=(show Turns F ((B11,Is (cT rv2))::_) B w1 from k5).drop bB;rw[HP.b]at hr1 hT1;clear HP k0 g g0 g9 hc hs k1 hT3 k2 o1 k3 k4 p1 k5;obtain⟨recs2,hrecs2⟩:∃recs2:List RecL,recs2=recs++[⟨vb,frame 2 (eF l V.num V.size (br V.chs))⟩]:=⟨_,rfl⟩;have hrm:recs.map (·.val)++[vb]=recs2.map (·.val):=by rw[hrecs2,map_append];rfl
 rw[hrm]at hr1 hT1
 have hrb2:∀r∈recs2,bOk r.val r.bytes:=fun r hr=>by
  rw[hrecs2]at hr;rcases mem_append.1 hr with h|h
  ·exact HH.g.2 r h
  ·simp only[mem_singleton]at h;subst h;exact hb1
 obtain⟨sl2,cap2,rfl,-,-,hrc,hrow⟩:=aL (aR hT1.sat.tail.left hr1);obtain⟨RB,hRB⟩:∃RB,RB=recs2.flatMap fun r=>aA r.val r.bytes:=⟨_,rfl⟩
 obtain⟨G1,hG1⟩:∃G1,G1=(B9,Is (cU V.blk))::(bL V++((B13,Is (cq ((S.data.length+bm acc:Nat):Int)))::(B12,Is (dX Bm))::(Bm,Is (aO str (bt S.data.length 0 acc) acc.length))::(B3,Is (dh S.a))::(B6,Is (cq 0))::(B7,Is (e8 .nilIface))::(aF S.X.pm S.ps S.pc++(bU S.X.tm S.ts S.tc++aP S.X.cm S.cs S.cc)))):=⟨_,rfl⟩
 have hT2:Turns F (((S.a,Is (aJ S.X))::(ap S.X.ab S.X.d { S.A with spare:=sp }++aD S.X.d S.L))++((B11,Is (cT (.slice sl2 (recs2.map (·.val)).length cap2)))::(bK 35 1 (.slice sl2 (recs2.map (·.val)).length cap2) (recs2.map (·.val)).length (recs2.map (·.val))++(RB++G1)))) B w1:=by
  refine hT1.to ?_;rw[HH.out.2.2.2.2.2.2.2.2.2.2.2.2.2.1,HH.out.2.2.2.2.2.2.2.2.2.2.2.2.1,hRB,hG1,hrecs2];simp only[flatMap_append,flatMap_cons,flatMap_nil,append_nil];exact ac
 obtain⟨rs,hrs⟩:∃rs,rs=recs2.map (·.bytes):=⟨_,rfl⟩;have hrsl:(recs2.map (·.val)).length=rs.length:=by rw[hrs,length_map,length_map]
 have hflat:rs.flatten=dY (bC S D)++frame 2 (eF l V.num V.size (br V.chs)):=by
  rw[hrs,hrecs2,map_append,HH.f,<- HH.d];simp[dY]
 have hrb3:RB=recs2.flatMap fun r=>aA r.val r.bytes:=hRB
 have hsum:fR rs<=200000:=by
  rw[<- kP,hflat,length_append,gL,jG,ga];have h1:=iY S D;have h2:=ph S D;have h3:=HN.u;have h4:V.chs.length=chs.length:=by rw[HH.out.2.2.2.2.2.2.2.2.2.2.2.1]
  omega
 have hlen5:rs.length<=5000:=by
  rw[<- hrsl,<- hrm,length_append];have:=HH.out.2.2.2.2.2.2.2.2.2.2.2.2.2.2.2.1;have:=HN.c;simp at *;omega
 have HCh:=qqH (pR S.a S.X S.X.ab S.X.d rfl { S.A with spare:=sp } S.L S.data rs (recs2.map (·.val)) sl2 cap2 w1 hT2.sat.left HH.a.sound HH.a.dev HH.a.fits HH.a.nmax HH.a.end_ HH.a.tail HH.a.dat hrsl (by omega) (by omega) (by have:=HH.b.chs;omega)
  hrc (fun x hx=>?hx1) (fun k h1 h2=>?hx2))
 case hx1 =>
  have hb:=hrow x hx;have hin:x.block∈dom (bK 35 1 (.slice sl2 (recs2.map (·.val)).length cap2) (recs2.map (·.val)).length (recs2.map (·.val))):=(eK _ _ _ _ _ _).2 hb;intro hd;exact hT2.sat.Qh (b:=x.block) (by rw[gI];exact mem_cons_of_mem _ hd) (by rw[gI,cF];exact mem_cons_of_mem _ (mem_append_left _ hin))
 case hx2 =>
  have hk2:k<recs2.length:=by simpa using h1
  have hmem:recs2[k]∈recs2:=getElem_mem hk2;have hsub:Sat w1 (aA recs2[k].val recs2[k].bytes):=Sat.flat (f:=fun r:RecL=>aA r.val r.bytes) (by rw[<- hrb3];exact hT2.sat.right.tail.right.left) hmem;obtain⟨ka,kc,ke,-,kcap,kcells,kown⟩:=aL (cZ hsub (hrb2 _ hmem));have e2:rs[k]=recs2[k].bytes:=by simp[hrs]
  refine⟨ka,kc,?_,by rw[e2];exact kcap,EO (cZ hsub (hrb2 _ hmem)) ke,?_,fun x hx=>?_⟩
  ·rw[getElem_map,ke,e2]
  ·rw[e2];exact kcells
  ·have hin:x.block∈dom (aA recs2[k].val recs2[k].bytes):=(eK _ _ _ _ _ _).2 (kown x hx)
   have hin2:x.block∈dom RB:=by
    obtain⟨p,hp,hpe⟩:=mem_map.1 hin;rw[hrb3];exact mem_map.2 ⟨p,mem_flatMap.2 ⟨_,hmem,hp⟩,hpe⟩
   exact⟨fun hd=>hT2.sat.Qh (b:=x.block) (by rw[gI];exact mem_cons_of_mem _ hd) (by simp only[gI,cF];exact mem_cons_of_mem _ (mem_append_right _ (mem_append_left _ hin2))),hsub.lt hin⟩
 have HR1:=Hq6 hT2 hrs hflat hsum hG1 hrsl;have b3:w1.cell? ⟨B3,0,none⟩=some (.pointer (some ⟨S.a,0,none⟩)):=aa (hT2.sat.Q7 (b:=B3) (o:=dh S.a) (by rw[hG1];simp)) 0 rfl;have b11:w1.cell? ⟨B11,0,none⟩=some (.slice sl2 (recs2.map (·.val)).length cap2):=aa (hT2.sat.Q7 (b:=B11) (o:=cT (.slice sl2 (recs2.map (·.val)).length cap2)) (by simp)) 0 rfl;rw[hrsl]at b11;clear hb1 hr1 hT1 hrc hrow hRB hG1 hT2 hrs hflat hrb3 hrb2 hrm;go_wp2_with fail;refine HCh.out.mono ?_;rintro e w2 (⟨hfull,rfl,hs2⟩|⟨hfit,rfl,hch⟩)
 ·have HR2:=Hq2 hfull (HR1.a.Q9 hs2);have hb6:=HR2.z.sat.Q7 (b:=B6) (o:=cq 0) (by rw[HR1.e];simp);have hb7:=HR2.z.sat.Q7 (b:=B7) (o:=e8 .nilIface) (by rw[HR1.e];simp);have c6:w2.cell? ⟨B6,0,none⟩=some (.int .i64 0):=aa hb6 0 rfl;have c7:w2.cell? ⟨B7,0,none⟩=some .nilIface:=aa hb7 0 rfl;have f6:=bc hb6 0;have f7:=bc hb7 0;have hnd:(dom [(B6,Is (cq 0)),(B7,Is (e8 .nilIface))]).Nodup:=(HR2.z.sat.sub (G:=[(B6,Is (cq 0)),(B7,Is (e8 .nilIface))]) (by rw[HR1.e];exact(fun _=>by simp only[ao,ai,ee]<;>omega))).nodup;have h67:¬B6=B7:=by simpa using hnd
  have h76:¬B7=B6:=fun h=>h67 h.symm
  clear hfull hs2 hb6 hb7 hnd;unfold ck;go_wp2_with fail;refine HH.out.2.2.2.2.2.2.2.2.2.2.2.2.2.2.2.2.2 _ _ 0 (ck 8) rfl rfl (.inl ⟨sp,chs,((B11,Is (cT (.slice sl2 (recs2.map (·.val)).length cap2)))::(bK 35 1 (.slice sl2 (recs2.map (·.val)).length cap2) (recs2.map (·.val)).length (recs2.map (·.val))++(RB++((B9,Is (cU V.blk))::(bL V++[(B13,Is (cq ((S.data.length+bm acc:Nat):Int))),(B12,Is (dX Bm)),(Bm,Is (aO str (bt S.data.length 0 acc) acc.length)),(B3,Is (dh S.a))]))))),rfl,rfl,HH.e,?_,?_,by rw[bS];exact HH.out.2.2.2.2.2.2.2.2.1⟩)
  ·have hq:=HR2.z;rw[HR1.e]at hq;have q1:=hq.to (H:=(B6,Is (cq 0))::(B7,Is (e8 .nilIface))::(arF { S with A:={ S.A with spare:=sp } }++((B11,Is (cT (.slice sl2 (recs2.map (·.val)).length cap2)))::(bK 35 1 (.slice sl2 (recs2.map (·.val)).length cap2) (recs2.map (·.val)).length (recs2.map (·.val))++(RB++((B9,Is (cU V.blk))::(bL V++[(B13,Is (cq ((S.data.length+bm acc:Nat):Int))),(B12,Is (dX Bm)),(Bm,Is (aO str (bt S.data.length 0 acc) acc.length)),(B3,Is (dh S.a))]))))))) (by unfold arF;exact ac);have q2:=q1.Qa (o:=cq 0) ((Mods.refl (fun k=>k=B6) w2).set1 (i:=0) (.int .i64 0)) (bn q1.sat.Q5 0 (.int .i64 0));have q3:=q2.to (H:=(B7,Is (e8 .nilIface))::(B6,Is (cq 0))::_) (Perm.swap _ _ _);have q4:=q3.Qa (o:=e8 (ck 8)) ((Mods.refl (fun k=>k=B7) _).set1 (i:=0) (ck 8)) (bn q3.sat.Q5 0 (ck 8));exact q4.to (Perm.swap _ _ _)
  ·have h1:=HR2.a;rw[<- kP,HR1.c,length_append,HH.out.2.2.2.2.2.2.2.2.2.2.2.1]at h1;have h2:=ga l num D.length chs;have h3:=ga l (num:Int) ((⟨Bv,num,D.length,fv,chs,0⟩:VerL).size) chs;simp only at h1 h2 h3 ⊢;omega
 ·obtain⟨L',hTc,hDv,hLn,hdat,hoth,hlc⟩:=hch;obtain⟨S1,hS1⟩:∃S1,S1=ap S.X.ab S.X.d { S.A with spare:=sp,end_:=(S.data++rs.flatten).length,tail:=bF (S.data++rs.flatten) }++(aD S.X.d L'++(aF S.X.pm S.ps S.pc++bU S.X.tm S.ts S.tc)):=⟨_,rfl⟩;obtain⟨Z0,hZ0⟩:∃Z0,Z0=(B3,Is (dh S.a))::(B6,Is (cq 0))::(B7,Is (e8 .nilIface))::(B9,Is (cU V.blk))::(B12,Is (dX Bm))::bL V:=⟨_,rfl⟩
  have hT3:Turns F ((Bm,Is (aO str (bt S.data.length 0 acc) acc.length))::(S.a,Is (aJ S.X))::(aP S.X.cm S.cs S.cc++(S1++(((B11,Is (cT (.slice sl2 (recs2.map (·.val)).length cap2)))::(bK 35 1 (.slice sl2 (recs2.map (·.val)).length cap2) (recs2.map (·.val)).length (recs2.map (·.val))++(RB++[(B13,Is (cq ((S.data.length+bm acc:Nat):Int)))])))++Z0)))) B w2:=by
   have q:=HR1.a.step (R:=(S.a,Is (aJ S.X))::((B11,Is (cT (.slice sl2 (recs2.map (·.val)).length cap2)))::(bK 35 1 (.slice sl2 (recs2.map (·.val)).length cap2) (recs2.map (·.val)).length (recs2.map (·.val))++(RB++G1)))) ac hTc;refine q.to ?_;rw[HR1.e,hS1,hZ0];exact ac
  have hmk:MapOk OkS (bt S.data.length 0 acc) acc.length:=by
   rw[HH.d];exact wT (jg _ _ _ nodup_nil) (fun c hc=>by have:=dD (pi hc).1;unfold OkS;omega) _
  obtain⟨fE,hfE⟩:∃fE,fE=bt S.data.length 0 acc:=⟨_,rfl⟩;rw[<- hfE]at hmk hT3;have hbm:=hT3.sat.Q5;have b12:w2.cell? ⟨B12,0,none⟩=some (.map (some Bm)):=aa (hT3.sat.Q7 (b:=B12) (o:=dX Bm) (by rw[hZ0];simp)) 0 rfl;obtain⟨r,hr⟩:∃r,r=w2.heap.size:=⟨_,rfl⟩
  have hrel0:Ej S S1 acc F Z0 B Bm r (w2.alloc (dB Bm acc.length ([]:List (Ent Bs)))):=by
   refine⟨[],fE,S.cs,S.cc,((B11,Is (cT (.slice sl2 (recs2.map (·.val)).length cap2)))::(bK 35 1 (.slice sl2 (recs2.map (·.val)).length cap2) (recs2.map (·.val)).length (recs2.map (·.val))++(RB++[(B13,Is (cq ((S.data.length+bm acc:Nat):Int)))]))),by rw[hfE];exact Perm.refl _,HH.a.chunks,fun k=>by simpa using HH.a.kin k,?_⟩;rw[<- hfE];have hx:aJ (XK S.X [])=aJ S.X:=by simp[XK]
   rw[hx,hr];exact(hT3.Q8 _).to ac
  have HR3:=qqH (And.intro hDv (And.intro hLn (And.intro hdat (And.intro hoth (And.intro hlc (And.intro hS1 (And.intro hZ0 (And.intro hmk (And.intro hfE (And.intro hr (And.intro hrel0 hbm)))))))))));clear hfit hTc hDv hLn hdat hoth hlc hS1 hZ0 hT3 hmk hfE hbm hrel0 hr;go_wp2_with ((refine ah rfl (E4 (.tmp 153) rfl Tryz.underlying119 HR3.out.2.2.2.2.2.2.2.2.2.2.2 rfl ?_);rw[<- HR3.out.2.2.2.2.2.2.2.2.2.1]));go_frame;go_loopw [155] (fun _ wr=>Ej S S1 acc F Z0 B Bm r wr) (fun _ wr=>mV r acc.length wr)
  case atStart=>exact HR3.out.2.2.2.2.2.2.2.2.2.2.1
  case round =>
   obtain⟨done,todo,cs,cc,J,hperm,hcsok,hkin,hTr⟩:=hrel;rw[<- HR3.out.2.2.2.2.2.2.2.2.1]at hperm hTr;have hri:=hTr.sat.Q5;have hrm:=hTr.sat.Q7 (b:=Bm) (o:=aO str fE acc.length) (by simp);have hal2:acc.length<=4000:=by have:=HN.c;omega
   have hfl:fE.length=acc.length:=by rw[HR3.out.2.2.2.2.2.2.2.2.1,pf]
   have hdl:done.length+todo.length=acc.length:=by rw[<- hfl,<- hperm.length_eq,length_append]
   rcases xA (P:=Tryz.prog) (ty:=0) hri hrm HR3.h hperm with⟨ht,hnx⟩|⟨e,rest,w4,ht,hw4,hnx⟩
   ·have hte:done.Perm fE:=by rw[ht,append_nil]at hperm;exact hperm
    have HD:=Hq6 hte hcsok hkin hTr hfl hdl;clear hte hcsok hkin hTr hfl hdl hperm hri hrm ht;go_wp2_with fail;have h:=HD.d;rw[HR3.g,HR3.f]at h;have h:=h.to (H:=((S.a,Is (aJ (XK S.X done)))::(aF S.X.pm S.ps S.pc++bL V))++((B3,Is (dh S.a))::(B9,Is (cU V.blk))::((r,Is (dB Bm acc.length done))::(Bm,Is (aO str fE acc.length))::(aP S.X.cm cs cc++(J++((B6,Is (cq 0))::(B7,Is (e8 .nilIface))::(B12,Is (dX Bm))::(ap S.X.ab S.X.d { S.A with spare:=sp,end_:=(S.data++rs.flatten).length,tail:=bF (S.data++rs.flatten) }++(aD S.X.d L'++bU S.X.tm S.ts S.tc)))))))) ac;have k3:=aa (h.sat.Q7 (b:=B3) (o:=dh S.a) (by simp)) 0 (v:=.pointer (some ⟨S.a,0,none⟩)) rfl;have k9:=aa (h.sat.Q7 (b:=B9) (o:=cU V.blk) (by simp)) 0 (v:=.pointer (some ⟨V.blk,0,none⟩)) rfl
    have HA:=qqH (qK S.a (XK S.X done).pm (XK S.X done).tm (XK S.X done).cm S.pc (XK S.X done).sc (XK S.X done).sb (XK S.X done).used S.ps l V (bl (XK S.X done)) 59 wr.drew h.drew.sat.left ⟨rfl,rfl,rfl,rfl,rfl,rfl⟩ HH.a.paths (by unfold OkS;omega) (by
     by_cases hn:af S.ps l=[]
     ·rw[hn];simp
     ·obtain⟨p',hp',_,h2⟩:=bD hn;rw[<- h2];have:=(HH.b.vers p' hp').2.1;omega) (by
     have h1:=HH.b.used;rw[HH.out.2.2.2.2.2.2.2.2.2.2.2.1];simp only[XK];omega) (by
     rw[HH.out.2.2.2.2.2.2.2.2.2.2.2.1];simp only;omega))
    have H0:=qqH h;clear h;refine wp_region_still_tail 5 HM.out (by kernel_rfl) ?_;simp only[QE,take_zero,QD,drop_zero];repeat still_step
    refine wpStill_nil ?_;change wpList _ _ _ _ _ wr.drew;go_wp2_with fail;refine HA.out.mono ?_;rintro e w6 ⟨v',rfl,hv',hT6⟩;have hT6:=H0.out.drew.step (Perm.refl _) hT6;clear k3 k9;have hps:Sat w6 (aF S.X.pm (kw S.ps S.pc l v' V) (cf (S.ps.map aN) S.pc l)):=hT6.sat.left.tail;have hver:w6.heap[V.blk]?=some (dt V):=((hps.tail.perm (q7 S.pc l v' V (by rw[<- cy];exact HH.a.paths.map.nodup))).right.right).Q5
    have hT7:Turns F ((B6,Is (cq 0))::(B7,Is (e8 .nilIface))::((S.a,Is (.cells ((bl (XK S.X done)).setIfInBounds 5 (.int .i64 ((XK S.X done).used+V.size))) 59 (0,0)))::(ap S.X.ab S.X.d { S.A with spare:=sp,end_:=(S.data++rs.flatten).length,tail:=bF (S.data++rs.flatten) }++(aD S.X.d L'++(aF S.X.pm (kw S.ps S.pc l v' V) (cf (S.ps.map aN) S.pc l)++(bU S.X.tm S.ts S.tc++aP S.X.cm cs cc))))++((r,Is (dB Bm acc.length done))::(Bm,Is (aO str fE acc.length))::(J++((B3,Is (dh S.a))::(B9,Is (cU V.blk))::(B12,Is (dX Bm))::[]))))) B w6:=by
     have e0:(XK S.X done).pm=S.X.pm:=rfl;rw[e0]at hT6;exact hT6.to ac
    have hb6:=hT7.sat.Q5;have hb7:=hT7.sat.tail.Q5;have hnd:=(hT7.sat.sub (G:=[(B6,Is (cq 0)),(B7,Is (e8 .nilIface))]) (fun _=>by simp only[ao,ai,ee]<;>omega)).nodup;have h67:¬B6=B7:=by simpa using hnd
    have h76:¬B7=B6:=fun h=>h67 h.symm
    have c6:w6.cell? ⟨B6,0,none⟩=some (.int .i64 0):=aa hb6 0 rfl;have c7:w6.cell? ⟨B7,0,none⟩=some .nilIface:=aa hb7 0 rfl;have f6:=bc hb6 0;have f7:=bc hb7 0;have b9:w6.cell? ⟨B9,0,none⟩=some (.pointer (some ⟨V.blk,0,none⟩)):=aa (hT7.sat.Q7 (b:=B9) (o:=cU V.blk) (by simp)) 0 rfl;have bv0:w6.cell? ⟨V.blk,0,none⟩=some (.int .i64 V.num):=aa hver 0 rfl;have HG:=Hq2 hT7 hv';clear hT6 hps hver hT7 hb6 hb7 hnd hv';go_wp2_with fail;have hT8:=HG.a.Qa (o:=cq V.num) ((Mods.refl (fun k=>k=B6) w6).set1 (i:=0) (.int .i64 V.num)) (bn HG.a.sat.Q5 0 (.int .i64 V.num));have hT9:=hT8.to (H:=(B7,Is (e8 .nilIface))::(B6,Is (cq V.num))::_) (Perm.swap _ _ _);have hT10:=hT9.Qa (o:=e8 .nilIface) ((Mods.refl (fun k=>k=B7) _).set1 (i:=0) .nilIface) (bn hT9.sat.Q5 0 .nilIface)
    have hfin:∃S',PutStep S S' l D V/\ArOk S'/\Cr S D b S'/\arF S'=((S.a,Is (.cells ((bl (XK S.X done)).setIfInBounds 5 (.int .i64 ((XK S.X done).used+V.size))) 59 (0,0)))::(ap S.X.ab S.X.d { S.A with spare:=sp,end_:=(S.data++rs.flatten).length,tail:=bF (S.data++rs.flatten) }++(aD S.X.d L'++(aF S.X.pm (kw S.ps S.pc l v' V) (cf (S.ps.map aN) S.pc l)++(bU S.X.tm S.ts S.tc++aP S.X.cm cs cc))))):=by
     have hVe:=HH.out.2.2.2.2.2.2.2.2.2.2.2.1;have hfl:=HR1.c;have hap:S.data++rs.flatten=S.data++dY (bC S D)++frame 2 (eF l V.num V.size (br V.chs)):=by rw[hfl,append_assoc]
     have hdk:(done.map C6).Perm (b8 S.data.length (bC S D)):=by
      have:=HD.a.map C6;rw[HR3.out.2.2.2.2.2.2.2.2.1,tP,HH.d]at this;exact this
     obtain⟨p1,p2,p3⟩:=I7 HH.a HH.b (by omega) hDl (V:=V) HH.e (by rw[hVe];exact HN.a) (by rw[hVe]) (by rw[hVe]) (by rw[hVe,bS];exact HH.out.2.2.2.2.2.2.2.2.1) (by rw[hVe,<- HH.d];exact HH.out.2.2.2.2.2.2.2.2.2.1) (by rw[hVe];exact HH.h)
      HR3.a HR3.b (by rw[<- hap];exact HR3.c) HR3.d (by rw[<- hfl];exact HR3.e) HD.b (fun k=>(HD.c k).trans (((hdk.append_left S.K).filter _).map _)) HG.z _ rfl
     refine⟨_,p1,p2,p3,?_⟩;unfold arF;simp only;rw[hap];have hx:=Lk S.X V.size D.length (by rw[hVe]) HD.a (HR3.out.2.2.2.2.2.2.2.2.1.trans (by rw[HH.d]));rw[hx]
    obtain⟨S',p1,p2,p3,p4⟩:=hfin;refine HH.out.2.2.2.2.2.2.2.2.2.2.2.2.2.2.2.2.2 _ _ num .nilIface rfl rfl (.inr ⟨S',V,((r,Is (dB Bm acc.length done))::(Bm,Is (aO str fE acc.length))::(J++((B3,Is (dh S.a))::(B9,Is (cU V.blk))::(B12,Is (dX Bm))::[]))),rfl,rfl,p1,p2,p3,?_⟩);have hnv:(V.num:Int)=num:=by rw[HH.out.2.2.2.2.2.2.2.2.2.2.2.1]
    rw[p4,<- hnv];exact hT10.to (Perm.swap _ _ _)
   ·obtain⟨w5,hw5⟩:∃w5,w5=Go.ChangeMaps.setBlock w4 r (dB Bm acc.length (done++[e])):=⟨_,rfl⟩;rw[<- hw5]at hnx
    have hT5:Turns F ((r,Is (dB Bm acc.length (done++[e])))::(Bm,Is (aO str fE acc.length))::(S.a,Is (aJ (XK S.X done)))::(aP S.X.cm cs cc++(S1++(J++Z0)))) B w5:=by
     rw[hw5];rcases hw4 with rfl|rfl
     ·exact hTr.Qa (dg _ _ _) (ey hri)
     ·exact(hTr.drew).Qa (dg _ _ _) (ey (by exact hri))
    have heE:e∈fE:=hperm.mem_iff.1 (mem_append_right _ (ht.mem_iff.2 (by simp)));have hri5:=hT5.sat.Q5;have hrm5:=hT5.sat.Q7 (b:=Bm) (o:=aO str fE acc.length) (by simp);have hen:=uH (P:=Tryz.prog) hri5 hrm5 HR3.h heE;obtain⟨q,hq,hev⟩:=pg acc S.data.length 0 e (by rw[<- HR3.out.2.2.2.2.2.2.2.2.1];exact heE);obtain⟨c,hc⟩:∃c,c=e.key:=⟨_,rfl⟩;rw[hev,<- hc]at hnx hen;simp only[ge]at hnx hen;have b3':w5.cell? ⟨B3,0,none⟩=some (.pointer (some ⟨S.a,0,none⟩)):=aa (hT5.sat.Q7 (b:=B3) (o:=dh S.a) (by rw[HR3.g];simp)) 0 rfl;have HD:=qqH (And.intro hperm (And.intro hcsok (And.intro hkin (And.intro hT5 (And.intro heE (And.intro hev (And.intro hc (And.intro hq (And.intro ht (And.intro hdl (And.intro hri hri5)))))))))));clear hperm hcsok hkin hTr hrm hw5 hw4 heE hri5 hrm5 hev hc hq ht hT5 hri;go_wp2_with fail;obtain⟨Z6,hZ6⟩:∃Z6,Z6=((r,Is (dB Bm acc.length (done++[e])))::(Bm,Is (aO str fE acc.length))::(S1++(J++((B6,Is (cq 0))::(B7,Is (e8 .nilIface))::(B9,Is (cU V.blk))::(B12,Is (dX Bm))::bL V)))):=⟨_,rfl⟩
    have k0:Turns F (((S.a,Is (.cells (bl (XK S.X done)) 59 (0,0)))::aP S.X.cm cs cc)++((B3,Is (dh S.a))::(w5.heap.size,Is (aB q))::Z6)) B (w5.alloc (.cells #[.int .i64 q.1,.int .i64 q.2] 128)):=by
     have h:=Turns.Q8 HD.d (aB q);rw[HR3.g]at h;rw[hZ6];show Turns F (((S.a,Is (aJ (XK S.X done)))::aP S.X.cm cs cc)++_) B _;exact h.to ac
    have HZ6:=Hq2 hZ6 k0;clear hZ6 k0;refine db [([0,1,2,3,5],4,[0,1,2,5]),([],6,[])] [] HM.out (by kernel_rfl) fun W tW=>?_
    simp only[Mix,map_cons,map_nil,nth,QG,QF];have k0:=tW HZ6.z;clear tW;have g:∀{W:World},W.heap[B3]?=some (dh S.a)->W.cell? ⟨B3,0,none⟩=some (.pointer (some ⟨S.a,0,none⟩)):=fun h=>aa h 0 rfl
    have gq:∀{W:World},W.heap[w5.heap.size]?=some (aB q)->W.rangeAt w5.heap.size 0 [.int .i64 q.1,.int .i64 q.2]:=fun h j v hv=>aa h (0+j) (by rw[Nat.zero_add,<- Array.getElem?_toList];exact hv)
    have g0:=g (k0.sat.Q7 (by simp));repeat still_step
    refine iL 128 (.tmp 22) rfl rfl w5.heap.size 0 rfl [.int .i64 q.1,.int .i64 q.2] _ (gq (k0.sat.Q7 (by simp))) Tryz.underlying128 rfl (by kernel_rfl) (wpStill_nil ?_);refine Ed (.tmp 163) rfl c rfl fun n cap w1 h1 h2 _=>⟨?_,?_⟩
    ·have k1:=k0.Q9 h1;have g0:=g (k1.sat.Q7 (by simp));repeat still_step
     exact iL 128 (.tmp 22) rfl rfl w5.heap.size 0 rfl [.int .i64 q.1,.int .i64 q.2] _ (gq (k1.sat.Q7 (by simp))) Tryz.underlying128 rfl (by kernel_rfl) rfl
    have k1:=k0.Q9 h1;simp only[Act.put,QA,QB,QC];refine wpStill_nil ?_;refine aU (by kernel_rfl) (pn S.a (XK S.X done).pm (XK S.X done).tm (XK S.X done).cm cc (XK S.X done).sc (XK S.X done).sb (XK S.X done).used cs c (some ⟨n,0,none⟩) cap q (bl (XK S.X done)) 59 w1 k1.sat.left ⟨rfl,rfl,rfl,rfl,rfl,rfl⟩ HD.b h2 ?l1 ?l2 ?l3 ?l4) ?_
    case l1 =>
     have h:=(HD.c (ef c)).length_eq;have h2:=length_filter_le (fun e=>decide (ef e.1=ef c)) (S.K++done.map C6);have h3:=HH.b.K;rw[length_map]at h;rw[length_append,length_map]at h2;unfold ef at h h2;omega
    case l2 =>
     rw[HD.g];have:=HR3.h.ok e HD.e;exact this
    case l3 =>
     have:=HH.b.sc;simp only[XK];omega
    case l4 =>
     have h1:=HH.b.sb;have h2:(done.map (fun e=>e.key.length)).sum<=4000:=It HD.a HR3.out.2.2.2.2.2.2.2.2.1 (by rw[HH.d];exact Nat.le_trans (iY S D) hDl);simp only[XK];omega
    rintro e6 w6 ⟨v',rfl,hv',hT3⟩;have hT6:=k1.step (Perm.refl _) hT3;refine⟨_,rfl,rfl,wpStill_nil ?_⟩;rw[HZ6.a]at hT6;go_frame;go_roundw
    case rel =>
     refine⟨_,_,_,_,_,_,_,_,_,_,_,_,_,_,?_,rfl⟩;have hwho:=HD.g;refine⟨done++[e],rest,eh cs cc (ef c) v' (bd cs (ef c)++[q]),cf (cs.map aN) cc (ef c),(w5.heap.size,Is (aB q))::J,by rw[<- HR3.out.2.2.2.2.2.2.2.2.1];exact F6 HD.a HD.out.2.2.2.2.2.2.2.2.1,pT HD.b (cd _ _) hv',?_,?_⟩
     ·rw[map_append,<- append_assoc]
      have he:[e].map C6=[(c,q)]:=by
       simp only[map_cons,map_nil,C6,HD.f,<- hwho];rfl
      rw[he];exact AV HD.c c q v'
     ·have hx:=JQ S.X done e;rw[<- hwho]at hx;have e0:(XK S.X done).cm=S.X.cm:=rfl;rw[hx,e0]at hT6;refine hT6.to ?_;rw[HR3.g,HR3.out.2.2.2.2.2.2.2.2.1];unfold ef;exact ac
    case measure =>
     have e1:mV r acc.length wr=acc.length-done.length:=by unfold mV;rw[HD.out.2.2.2.2.2.2.2.2.2.2.1];simp[dB]
     have e2:mV r acc.length w6=acc.length-(done.length+1):=by unfold mV;rw[hT6.sat.Q7 (b:=r) (o:=dB Bm acc.length (done++[e])) (by simp)];simp[dB]
     rw[e1,e2];have h3:=HD.out.2.2.2.2.2.2.2.2.2.1;have h4:=HD.out.2.2.2.2.2.2.2.2.1.length_eq;simp only[length_cons]at h4;omega
end
section
open Go.RowKit Go.Maps Go.Shelf
attribute [local go_sem] Oper.semAt_some
def E9(a:Option Addr)(len cap:Nat)(w:World)(e:Ending)(w':World):Prop :=
 e=.returned (.func (.func 90) #[] #[.pointer (some ⟨w.heap.size,0,none⟩)])/\w'=w.alloc (.cells #[.slice a len cap] 35)
theorem zq(a:Option Addr)(len cap:Nat)(w:World):Calls Tryz.prog 50 #[.slice a len cap] w (E9 a len cap w):=by
 go_enter Tryz.func50,Tryz.ntmps50;go_wp2;go_ret;exact⟨rfl,rfl⟩
theorem Turns.putNew{F G:HF}{a w:World}{r:Nat}(h:Turns F G a w)(hr:a.heap.size<=r)(hn:r∉dom G)(o:Obj):Turns F G a (w.putObj r o) :=
 ⟨h.mods.putObj (.inr hr) o,h.sat.frame ((Mods.refl (fun k=>k=r) w).putObj (.inl rfl) o) (fun _ hb e=>hn (e ▸ hb)),h.fresh⟩
def yv(id:Nat):Code->Option Code
 | .seq (.region i ops d) b=>if i=id then some (.seq (.region i ops d) b)else yv id b
 | .seq _ b=>yv id b
 | _=>none
noncomputable def Gm:Code:=(Tryz.f13.body.bind (yv 14)).getD .skip
def El(S:AS)(l D:Bs)(w:World)(e:Ending)(w':World)(b num:Nat):Prop :=
 ((∃sp chs,e=.returned (.tuple #[.int .i64 0,ck 8])/\AreaOk { S.A with spare:=sp }/\Turns (arF S) (arF { S with A:={ S.A with spare:=sp } }) w w' /\
    128*S.A.count<S.data.length+(dY (bC S D)).length+(frame 2 (eF l num D.length (br chs))).length/\chs.length=(au D).length) \/
   (∃S' V,e=.returned (.tuple #[.int .i64 num,.nilIface])/\PutStep S S' l D V/\ArOk S'/\Cr S D b S'/\Turns (arF S) (arF S') w w'))
theorem Bi(S:AS)(l D:Bs)(sl:Option Addr)(cap b:Nat)(hok:ArOk S)(hB:ArB S b)(hb:b<=90000)(hl:aq l=true)(hll:l.length<=20)(hDl:D.length<=4000)(hcap:D.length<=cap)(B3 B6 B7 B9 B11 Bv num:Nat)(hnum:num=eM (af S.ps l)+1)(w0 w:World)(hT:Turns (arF S) ((B11,Is (cT (.slice none 0 0)))::(Bv,Is (dt ⟨Bv,num,D.length,.slice none 0 0,[],0⟩))::(B9,Is (cU Bv))::(B7,Is (e8 .nilIface))::(B6,Is (cq 0))::(B3,Is (dh S.a))::arF S) w0 w)(hD:ak w0 sl (D.map al))(hsl:∀x,sl=some x->x.block∉dom (arF S))(R:Ending->World->Prop)(hR:∀e w',El S l D w0 e w' b num->R e w'){u4 u5 u8 aS aT ad ag aj ar av ax a0 a2 a3 a4 a5 a6 a8 a9 bY bg bj bk bo bs b0 b1 b2 b4 b6 b7 b9 ca cb cc ch ci cj cl cm cp cs ct cu cv cx c0 c1 c2 c3 c4 c5 c6 c7 c8 dO dT df dn dp ds dv d0 d1 d2 d3 d4 d5 d6 d7 d8 eA eC eQ eR eU eW eX ea eb eg el em en ep es e0 e1 e2 e3 e4 e5 e6 e7 e9 fE fl fn fr fs fv fz f0 f1 f2 f3 f4 f5 f6 f7 f8 f9 gD gb gg gp gq gs gu gv gx g1 g2 g3 g4 g5 g6 g7 g9 hA hC hE hG hH hI hL hM hN hO hP hQ hS hU hV hX hY hZ ha hf hg hh hk hm hn ho hq hs ht hu hv hw hx hy hz h5 h8 h9 iF iN:Value}{K:Act->World->Prop}(hK:∀a w,Gm.wp Tryz.prog (bodyPostM Fence.wide 3 Tryz.prog Tryz.f13 R) a w->K a w):
  (Jd 13 Tryz.f13).wp Tryz.prog (Exit.then K (bodyPostM Fence.wide 3 Tryz.prog Tryz.f13 R)) { tmps:=#[.pointer (some ⟨S.a,0,none⟩),str l,.slice sl D.length cap,.pointer (some ⟨B3,0,none⟩),u4,u5,.pointer (some ⟨B6,0,none⟩),.pointer (some ⟨B7,0,none⟩),u8,.pointer (some ⟨B9,0,none⟩),aS,.pointer (some ⟨B11,0,none⟩),aT,ad,ag,aj,ar,av,ax,a0,a2,a3,a4,a5,a6,a8,a9,bY,bg,bj,bk,bo,bs,b0,b1,b2,b4,b6,b7,b9,ca,cb,cc,ch,ci,cj,cl,cm,cp,cs,ct,cu,cv,cx,c0,c1,c2,c3,c4,c5,c6,c7,c8,dO,dT,df,dn,dp,ds,dv,d0,d1,d2,d3,d4,d5,d6,d7,d8,eA,eC,eQ,eR,eU,eW,eX,ea,eb,eg,el,em,en,ep,es,e0,e1,e2,e3,e4,e5,e6,e7,e9,fE,fl,fn,fr,fs,fv,fz,f0,f1,f2,f3,f4,f5,f6,f7,f8,f9,gD,gb,gg,gp,gq,gs,gu,gv,gx,g1,g2,g3,g4,g5,g6,g7,g9,hA,hC,hE,hG,hH,hI,hL,hM,hN,hO,hP,hQ,hS,hU,hV,hX,hY,hZ,ha,hf,hg,hh,hk,hm,hn,ho,hq,hs,ht,hu,hv,hw,hx,hy,hz,h5,h8,h9,iF,iN],defers:=[] } w:=by
 have HH:=Hq9 hok hB hb hT hD hsl hnum hcap hR;clear hok hB hb hT hD hsl hnum hcap hR;conv=>arg 2;whnf
 go_wp2_with ((refine ah rfl (vg 119 rfl HH.d ?_);intro Bm w1 hT1;have a7:w1.cell? ⟨S.a,7,none⟩=some (.pointer (some ⟨S.X.ab,0,none⟩)):=aa (hT1.sat.Q7 (b:=S.a) (o:=aJ S.X) (by simp[arF])) 7 rfl;have ab3:w1.cell? ⟨S.X.ab,3,none⟩=some (.int .i64 S.A.end_):=aa (hT1.sat.Q7 (b:=S.X.ab) (o:=.cells (aG S.X.d S.A) 124 (0,0)) (by simp[arF,ap])) 3 (nJ _ _);have b3:w1.cell? ⟨B3,0,none⟩=some (.pointer (some ⟨S.a,0,none⟩)):=aa (hT1.sat.Q7 (b:=B3) (o:=dh S.a) (by simp)) 0 rfl;have hal:S.a<w1.heap.size:=hT1.sat.lt (by simp[arF]);have habl:S.X.ab<w1.heap.size:=hT1.sat.lt (by simp[arF,ap]);have hb3l:B3<w1.heap.size:=hT1.sat.lt (by simp);have HT1:=qqH hT1;clear hT1));conv=>arg 2;whnf
 go_wp2_with fail;refine(zq _ _ _ _).mono ?_;rintro e w2 ⟨rfl,rfl⟩;go_wp2_with fail;obtain⟨B12,hB12⟩:∃B12,B12=w1.heap.size:=⟨_,rfl⟩;obtain⟨B13,hB13⟩:∃B13,B13=w1.heap.size+1:=⟨_,rfl⟩;obtain⟨bx,hbx⟩:∃bx,bx=w1.heap.size+1+1:=⟨_,rfl⟩
 have hT2:Turns (arF S) ((B13,Is (cq ((S.data.length+bm []:Nat):Int)))::(B12,Is (dX Bm))::(Bm,Is (aO str (bt S.data.length 0 []) 0))::(B11,Is (cT (.slice none 0 0)))::(fp (.slice none 0 0) []++((B9,Is (cU Bv))::(bL ⟨Bv,num,D.length,.slice none 0 0,[],0⟩++(((B3,Is (dh S.a))::[(B6,Is (cq 0)),(B7,Is (e8 .nilIface))])++arF S))))) w0 ((w1.alloc (.cells #[.map (some Bm)] 119)).alloc (.cells #[.int .i64 S.A.end_] 3)):=by
  have h:=(HT1.out.Q8 (dX Bm)).Q8 (cq S.A.end_);rw[World.size_alloc,<- hB13,<- hB12]at h;refine h.to ?_;unfold fp bL aY;simp only[bK,Value.ownBlock,flatMap_nil,map_nil,nil_append,bm,sum_nil,Nat.add_zero,bt,aO];rw[<- HH.a.end_];exact ac
 have hbxx:=aK ((w1.alloc (.cells #[.map (some Bm)] 119)).alloc (.cells #[.int .i64 S.A.end_] 3)) (.cells #[.slice sl D.length cap] 35);have hT3:=hT2.alloc (.cells #[.slice sl D.length cap] 35);simp only[World.size_alloc]at hbxx;have hnb:bx∉dom ((B13,Is (cq ((S.data.length+bm []:Nat):Int)))::(B12,Is (dX Bm))::(Bm,Is (aO str (bt S.data.length 0 []) 0))::(B11,Is (cT (.slice none 0 0)))::(fp (.slice none 0 0) []++((B9,Is (cU Bv))::(bL ⟨Bv,num,D.length,.slice none 0 0,[],0⟩++(((B3,Is (dh S.a))::[(B6,Is (cq 0)),(B7,Is (e8 .nilIface))])++arF S))))):=fun h=>by have:=hT2.sat.lt h;simp only[World.size_alloc]at this;omega
 rw[<- hbx]at hbxx;have hsz:(((w1.alloc (.cells #[.map (some Bm)] 119)).alloc (.cells #[.int .i64 S.A.end_] 3)).alloc (.cells #[.slice sl D.length cap] 35)).heap.size=bx+1:=by simp only[World.size_alloc];omega
 rw[<- hbx,<- hB13,<- hB12];generalize ((w1.alloc (.cells #[.map (some Bm)] 119)).alloc (.cells #[.int .i64 S.A.end_] 3)).alloc (.cells #[.slice sl D.length cap] 35)=W2 at hbxx hT3 hsz ⊢;clear a7 ab3 b3 hal habl hb3l hT2 hB12 hB13 hbx;obtain⟨F0,hF0⟩:∃F0,F0=(B13,Is (cq ((S.data.length+bm []:Nat):Int)))::(B12,Is (dX Bm))::(Bm,Is (aO str (bt S.data.length 0 []) 0))::(B11,Is (cT (.slice none 0 0)))::(fp (.slice none 0 0) []++((B9,Is (cU Bv))::(bL ⟨Bv,num,D.length,.slice none 0 0,[],0⟩++(((B3,Is (dh S.a))::[(B6,Is (cq 0)),(B7,Is (e8 .nilIface))])++arF S)))):=⟨_,rfl⟩;rw[<- hF0]at hT3 hnb;have hDW:ak W2 sl (D.map al):=HH.e.Qc hT3 HH.f
 obtain⟨d,off,hda,hdb,hdF,hdw⟩:∃d off,(0<D.length->sl=some ⟨d,off,none⟩)/\eN W2 d off D/\d∉dom F0/\(d≠W2.heap.size/\d≠W2.heap.size+1):=by
  by_cases hd:D=[]
  ·subst hd;exact⟨W2.heap.size+2,0,fun h=>by simp at h,fun j hj=>by simp at hj,fun h=>by have:=hT3.sat.lt h;omega,by omega⟩
  ·have hp:0<D.length:=length_pos_iff.2 hd;obtain⟨g,off,rfl,hc⟩:=hDW (by simpa using hp);obtain⟨g0,off0,he0,hc0⟩:=HH.e (by simpa using hp);simp only[Option.some.injEq,Addr.mk.injEq,and_true]at he0;obtain⟨rfl,rfl⟩:=he0;have hlt0:g<w0.heap.size:=World.block_lt_of_cell? w0 _ (hc0 0 (by simpa using hp));have hlt:g<W2.heap.size:=Nat.lt_of_lt_of_le hlt0 hT3.mods.size;refine⟨g,off,fun _=>rfl,fun j hj=>by rw[hc j (by simpa using hj)];simp[al],fun h=>?_,by omega⟩;rcases hT3.fresh g h with h'|h'
   ·exact HH.f _ rfl h'
   ·omega
 have HL:=Hq6 hF0 hT3 hnb hdb hdF hsz;refine(wpIn_wide (n:=3)).1 ?_;refine Ee (n:=1) bx d off cap sl D rfl hda HH.h (by omega) hbxx HL.d hdw (Hh S D B9 B11 B12 B13 Bm Bv num ((B3,Is (dh S.a))::[(B6,Is (cq 0)),(B7,Is (e8 .nilIface))])) F0 ?h0 HL.b.sat HL.c HL.e ?a1 ?assign ?body ?done
 case assign =>
  intro l i W K hK;gi_wp2;exact hK
 case h0 =>
  refine⟨S.A.spare,[],.slice none 0 0,.slice none 0 0,[],[],rfl,HH.a.area,rfl,⟨⟨rfl,fun _=>⟨rfl,rfl⟩⟩,fun r hr=>by simp at hr⟩,⟨rfl,fun _=>⟨rfl,rfl⟩⟩,rfl,fun e he=>by simp at he,?_⟩;rw[HL.a];rfl
 case body =>
  intro l2 i F A hi hJ hF hdA hdF2 hle;exact DK S HH.a D d off 1 l2 B3 B6 B7 B9 B11 B12 B13 Bm Bv num i _ F A hdA hdF2 hi hDl (by have:=HH.b.K;have:=HH.c;omega) hJ hF S.a l
 case done =>
  intro Dd F B hDd hJ hT4 hDF hDB;rename_i hK;have hT5:=HL.b.trans hT4;have HG:=Hq5 hJ hT4 hDF hDB hT5;refine hK _ _ ?_;refine DL S HH.a b HH.b HH.c l D hl hll hDl B3 B6 B7 B9 B11 B12 B13 Bm Bv num HH.g F B hJ hT4.sat ?_;intro tmps w' n ev h6 h7 hres
  have fin:∀(G J:HF) (v:Int) (u:Value),Turns F ((B6,Is (cq v))::(B7,Is (e8 u))::(G++J)) B w'->(∀W,Turns (arF S) G w0 W->El S l D w0 (.returned (.tuple #[.int .i64 v,u])) W b num) ->
    bodyPostM Fence.wide 3 Tryz.prog Tryz.f13 R .ret { tmps:=tmps,defers:=[{ target:=.collected Dd,args:=#[] }] } w':=by
   intro G J v u hTt hPF;have hDlt:Dd<B.heap.size:=ae HG.d
   have hDn:Dd∉dom ((B6,Is (cq v))::(B7,Is (e8 u))::(G++J)):=fun h=>by
    rcases hTt.fresh _ h with h'|h'
    ·exact HG.c h'
    ·omega
   have hDw:w'.heap[Dd]?=some (.deferred (some [])):=hTt.mods.at HG.d HG.c;have hT6:=(HG.w.trans hTt).putNew (Nat.le_trans HL.b.mods.size hDd) hDn (.deferred none);refine⟨by simp,.inl ⟨_,_,rfl,run_takeDeferred hDw,?_⟩⟩;exact⟨_,nf rfl tmps _ B6 B7 (.int .i64 v) u Tryz.underlying3 rfl Tryz.underlying30 rfl h6 h7 (aa (hT6.sat.Q5) 0 rfl) (aa (hT6.sat.tail.Q5) 0 rfl),HH.out.2.2.2.2.2.2.2.2 _ _ (hPF _ (hT6.drop bB))⟩
  rcases hres with⟨sp,chs,J,rfl,rfl,h1,h2,h3,h4⟩|⟨S',V,J,rfl,rfl,h1,h2,h3,h4⟩
  ·exact fin _ J 0 (ck 8) h2 (fun W hW=>.inl ⟨sp,chs,rfl,h1,hW,h3,h4⟩)
  ·exact fin _ J num .nilIface h4 (fun W hW=>.inr ⟨S',V,rfl,h1,h2,h3,hW⟩)
theorem KB(S:AS)(l D:Bs)(b:Nat)(w W:World)(B6 B7 B3 a:Nat)(n:Int)(tmps:Array Value)(h6:tmps.getD 6 undef=.pointer (some ⟨B6,0,none⟩))(h7:tmps.getD 7 undef=.pointer (some ⟨B7,0,none⟩))(ev:Value)(hev:ev=ck n)(hT:Turns (arF S) ((B7,Is (e8 .nilIface))::(B6,Is (cq 0))::(B3,Is (dh a))::arF S) w W)(
   hp:((S.X.closed=true/\n=9)\/(S.X.closed=false/\aq l=false/\n=1)\/(S.X.closed=false/\aq l=true/\4000<D.length/\n=2) \/
   (S.X.closed=false/\aq l=true/\D.length<=4000/\S.X.quota<S.X.used+D.length/\n=7))):
  bodyPostM Fence.wide 3 Tryz.prog Tryz.f13 (Em S l D b w) .ret { tmps:=tmps,defers:=[] } ((W.setCell ⟨B6,0,none⟩ (.int .i64 0)).setCell ⟨B7,0,none⟩ ev):=by
 subst hev;have q1:=hT.to (H:=(B6,Is (cq 0))::(B7,Is (e8 .nilIface))::(B3,Is (dh a))::arF S) (Perm.swap _ _ _);have q2:=q1.Qa (o:=cq 0) ((Mods.refl (fun k=>k=B6) W).set1 (i:=0) (.int .i64 0)) (bn q1.sat.Q5 0 (.int .i64 0));have q3:=q2.to (H:=(B7,Is (e8 .nilIface))::(B6,Is (cq 0))::(B3,Is (dh a))::arF S) (Perm.swap _ _ _);have q4:=q3.Qa (o:=e8 (ck n)) ((Mods.refl (fun k=>k=B7) _).set1 (i:=0) (ck n)) (bn q3.sat.Q5 0 (ck n));have c6:=q4.sat.Q7 (b:=B6) (o:=cq 0) (by simp);refine⟨_,nf rfl tmps _ B6 B7 (.int .i64 0) (ck n) Tryz.underlying3 rfl Tryz.underlying30 rfl h6 h7 (aa c6 0 rfl) (aa q4.sat.Q5 0 rfl),.inl ⟨n,rfl,q4.drop bB,hp⟩⟩
theorem Ff(S:AS)(l D:Bs)(sl:Option Addr)(cap b:Nat)(w:World)(h:Sat w (arF S))(hok:ArOk S)(hB:ArB S b)(hb:b<=90000)(hD:ak w sl (D.map al))(hcap:D.length<=cap)(hdl:D.length<=1099511627776)(hsl:∀x,sl=some x->x.block∉dom (arF S))(hl:l.length<=9223372036854775807)(hq : -4611686018427387904<=S.X.quota):
  Calls Tryz.prog 13 #[.pointer (some ⟨S.a,0,none⟩),str l,.slice sl D.length cap] w (Em S l D b w):=by
 obtain⟨a,ha⟩:∃a,a=S.a:=⟨_,rfl⟩;obtain⟨X,hX⟩:∃X,X=S.X:=⟨_,rfl⟩;have hao:w.heap[a]?=some (aJ X):=by rw[ha,hX];exact h.Q5
 have hal:=ae hao;obtain⟨B3,hB3⟩:∃B3,B3=w.heap.size:=⟨_,rfl⟩;obtain⟨B6,hB6⟩:∃B6,B6=w.heap.size+1:=⟨_,rfl⟩;obtain⟨B7,hB7⟩:∃B7,B7=w.heap.size+2:=⟨_,rfl⟩
 have HB:=qqH (fun W (hW:aQ w W) (hc:W.cell? ⟨w.heap.size+3,0,none⟩=some (str l))=>kB a X (some ⟨w.heap.size+3,0,none⟩) 1 [l] W (hW.at hao id) (fun _=>⟨_,_,rfl,fun j hj=>by
  obtain rfl:j=0:=by simp at hj;omega
  exact hc⟩) (by simp))
 obtain⟨w0,hw0⟩:∃w0,w0=((w.alloc (dh a)).alloc (cq 0)).alloc (e8 .nilIface):=⟨_,rfl⟩
 have hT0:Turns (arF S) ((B7,Is (e8 .nilIface))::(B6,Is (cq 0))::(B3,Is (dh a))::arF S) w w0:=by
  have:=(((Turns.refl h).Q8 (dh a)).Q8 (cq 0)).Q8 (e8 .nilIface);simp only[World.size_alloc]at this;rw[hB3,hB6,hB7,hw0];exact this
 rw[<- ha];have HH:=qqH (And.intro h (And.intro hok (And.intro hB (And.intro hb (And.intro hD (And.intro hcap (And.intro hdl (And.intro hsl (And.intro hl (And.intro hT0 (And.intro ha (And.intro hX (And.intro hao (And.intro hq hw0))))))))))))));clear h hok hB hb hD hcap hsl hl hT0 ha hX hao hq;refine(callsIn_wide (n:=3)).1 ?_;refine callsIn_of_wp_marks Tryz.func13 rfl trivial ?_ rfl;simp only[Tryz.ntmps13,size_toArray,length_cons,length_nil,Nat.reduceAdd,Nat.reduceSub,Array.replicate_succ,Array.replicate_zero,push_toArray,append_toArray,nil_append,cons_append];refine wpIn_wide.2 ?_;go_wp2_with fail
 refine(HB.out _ ((((Mods.refl _ w).alloc _).alloc _).alloc _ |>.alloc _) (by
  have:=aa (aK (((w.alloc (dh a)).alloc (cq 0)).alloc (e8 .nilIface)) (.cells #[str l] 9)) 0 (v:=str l) rfl;simp only[World.size_alloc]at this;exact this)).mono ?_
 rintro e w1 ⟨rfl,hs1⟩;obtain⟨cl,hcl⟩:∃cl,cl=X.closed:=⟨_,rfl⟩;obtain⟨pb,hpb⟩:∃pb,pb=aq l:=⟨_,rfl⟩;have e1:([l].all aq)=pb:=by simp[hpb]
 rw[e1,<- hcl]
 have hT1:Turns (arF S) ((B7,Is (e8 .nilIface))::(B6,Is (cq 0))::(B3,Is (dh a))::arF S) w w1:=by
  have:=(HH.out.2.2.2.2.2.2.2.2.2.1.alloc (.cells #[str l] 9));rw[HH.out.2.2.2.2.2.2.2.2.2.2.2.2.2.2]at this;exact this.Q9 hs1
 have hb6:=hT1.sat.Q7 (b:=B6) (o:=cq 0) (by simp);have hb7:=hT1.sat.Q7 (b:=B7) (o:=e8 .nilIface) (by simp);have c6:w1.cell? ⟨B6,0,none⟩=some (.int .i64 0):=aa hb6 0 rfl;have c7:w1.cell? ⟨B7,0,none⟩=some .nilIface:=aa hb7 0 rfl;have f6:=bc hb6 0;have f7:=bc hb7 0;rw[show w.heap.size+1+1=w.heap.size+2 from rfl,<- hB7,<- hB6,<- hB3];have h67:¬B6=B7:=by omega
 have h76:¬B7=B6:=by omega
 have HE:=qqH (fun(W:World) (n:Int) (tmps:Array Value) (h6:tmps.getD 6 undef=.pointer (some ⟨B6,0,none⟩)) (h7:tmps.getD 7 undef=.pointer (some ⟨B7,0,none⟩)) (ev:Value) (hev:ev=ck n) (hT:Turns (arF S) ((B7,Is (e8 .nilIface))::(B6,Is (cq 0))::(B3,Is (dh a))::arF S) w W)
   (hp:((S.X.closed=true/\n=9)\/(S.X.closed=false/\aq l=false/\n=1)\/(S.X.closed=false/\aq l=true/\4000<D.length/\n=2) \/
   (S.X.closed=false/\aq l=true/\D.length<=4000/\S.X.quota<S.X.used+D.length/\n=7)))=>KB S l D b w W B6 B7 B3 a n tmps h6 h7 ev hev hT hp)
 have HD:=Hq3 hcl hpb hT1;clear hcl hpb hT1 hb6 hb7 hs1 e1 hw0 hB3 hB6 hB7 hal
 cases cl with
 | true =>
  simp only[if_true];unfold ck;go_wp2_with fail;refine HE.out _ 9 _ rfl rfl _ rfl HD.y (.inl ⟨?_,rfl⟩);rw[<- HH.out.2.2.2.2.2.2.2.2.2.2.2.1];exact HD.a.symm
 | false =>
  cases pb with
  | false =>
   simp only[Bool.false_eq_true,if_false];unfold ck;go_wp2_with fail;refine HE.out _ 1 _ rfl rfl _ rfl HD.y (.inr (.inl ⟨?_,HD.b.symm,rfl⟩));rw[<- HH.out.2.2.2.2.2.2.2.2.2.2.2.1];exact HD.a.symm
  | true =>
   simp only[Bool.false_eq_true,if_false,if_true];have hcl2:S.X.closed=false:=by rw[<- HH.out.2.2.2.2.2.2.2.2.2.2.2.1];exact HD.a.symm
   have hll:l.length<=20:=by
    have h2:=HD.b.symm;unfold aq at h2;simp only[Bool.and_eq_true,decide_eq_true_eq]at h2;exact h2.1.2
   by_cases hbig:4000<D.length
   ·have HG:=qqH hcl2;clear hcl2;go_wp2_with fail;refine HE.out _ 2 _ rfl rfl _ rfl HD.y (.inr (.inr (.inl ⟨HG.out,HD.b.symm,hbig,rfl⟩)))
   ·have HG:=qqH hcl2;clear hcl2;go_wp2_with fail;obtain⟨w2,hw2⟩:∃w2,w2=w1.drew:=⟨_,rfl⟩;have hT:=HD.y;have hT2':Turns (arF S) ((B7,Is (e8 .nilIface))::(B6,Is (cq 0))::(B3,Is (dh a))::arF S) w w2:=by rw[hw2];exact hT.drew
    have k3:w1.cell? ⟨B3,0,none⟩=some (.pointer (some ⟨a,0,none⟩)):=aa (hT.sat.Q7 (b:=B3) (o:=dh a) (by simp)) 0 rfl;have ka:=hT.sat.Q7 (b:=S.a) (o:=aJ S.X) (by simp[arF]);rw[<- HH.out.2.2.2.2.2.2.2.2.2.2.1,<- HH.out.2.2.2.2.2.2.2.2.2.2.2.1]at ka;have k5:w1.cell? ⟨a,5,none⟩=some (.int .i64 X.used):=aa ka 5 rfl;have k9:w1.cell? ⟨a,9,none⟩=some (.int .i64 X.quota):=aa ka 9 rfl
    have hwr:IntKind.i64.wrap (X.used+D.length)=X.used+D.length:=by
     have h1:=HH.c.used;have h2:=HH.d;rw[<- HH.out.2.2.2.2.2.2.2.2.2.2.2.1]at h1;exact IntWalk.i64_in _ (by omega)
    clear ka;refine wp_region_still_lit HM.out (by kernel_rfl) ?_;repeat still_step
    refine wpStill_nil ?_;rw[show({ w1 with drawn:=w1.drawn+1 }:World)=w2 from hw2.symm];clear hT k3 k5 k9 hwr hw2;have hb6:=hT2'.sat.Q7 (b:=B6) (o:=cq 0) (by simp);have hb7:=hT2'.sat.Q7 (b:=B7) (o:=e8 .nilIface) (by simp);have c62:w2.cell? ⟨B6,0,none⟩=some (.int .i64 0):=aa hb6 0 rfl;have c72:w2.cell? ⟨B7,0,none⟩=some .nilIface:=aa hb7 0 rfl;have f62:=bc hb6 0;have f72:=bc hb7 0;have HT2:=qqH hT2';clear hT2' hb6 hb7 c6 c7 f6 f7;by_cases hqu:X.quota<X.used+D.length
    ·rw[decide_eq_true hqu];have HQ:=qqH hqu;clear hqu;go_wp2_with fail;refine HE.out _ 7 _ rfl rfl _ rfl HT2.out (.inr (.inr (.inr ⟨HG.out,HD.b.symm,by omega,?_,rfl⟩)));rw[<- HH.out.2.2.2.2.2.2.2.2.2.2.2.1];exact HQ.out
    ·rw[decide_eq_false hqu];have HQ:=qqH hqu;obtain⟨psl,pcap,e1,e2,e3,e4,e5,e6⟩:=fo (w:=w2) (pm:=S.X.pm) (c:=S.pc) (ps:=S.ps) (HT2.out.sat.tail.tail.tail.tail.right.right.left) HH.b.paths l;obtain⟨vs,hvs⟩:∃vs,vs=af S.ps l:=⟨_,rfl⟩;rw[<- hvs]at e1 e2 e4 e5 e6;have hOl:OkS l:=by unfold OkS;omega
     have ha0:=HT2.out.sat.Q7 (b:=S.a) (o:=aJ S.X) (by simp[arF]);rw[<- HH.out.2.2.2.2.2.2.2.2.2.2.1]at ha0;have a0c:w2.cell? ⟨a,0,none⟩=some (.map (some S.X.pm)):=aa ha0 0 rfl;have b3c:w2.cell? ⟨B3,0,none⟩=some (.pointer (some ⟨a,0,none⟩)):=aa (HT2.out.sat.Q7 (b:=B3) (o:=dh a) (by simp)) 0 rfl;have hal2:=ae ha0;have hb3l:B3<w2.heap.size:=HT2.out.sat.lt (by simp);have hpm:=HT2.out.sat.Q7 (b:=S.X.pm) (o:=aO str (S.ps.map aN) S.pc) (by simp[arF,aF]);have HV:=Hq9 hvs e1 e2 e3 e4 e5 hOl ha0 hpm;clear hqu e1 e2 e3 e4 e5 e6 hvs hOl ha0 hpm;obtain⟨Bv,hBv⟩:∃Bv,Bv=w2.heap.size:=⟨_,rfl⟩;obtain⟨B9,hB9⟩:∃B9,B9=w2.heap.size+1:=⟨_,rfl⟩;have hpm4:=(((Mods.refl (fun _=>False) w2).alloc (.cells #[.int .i64 1,.int .i64 D.length,.slice none 0 0,.int .i64 0] 117)).alloc (.cells #[.pointer (some ⟨w2.heap.size,0,none⟩)] 114)).at HV.out.2.2.2.2.2.2.2.2 id
     have hT4:Turns (arF S) ((Bv,Is (dt ⟨Bv,1,D.length,.slice none 0 0,[],0⟩))::(B9,Is (cU Bv))::(B7,Is (e8 .nilIface))::(B6,Is (cq 0))::(B3,Is (dh S.a))::arF S) w ((w2.alloc (.cells #[.int .i64 1,.int .i64 D.length,.slice none 0 0,.int .i64 0] 117)).alloc (.cells #[.pointer (some ⟨w2.heap.size,0,none⟩)] 114)):=by
      have h:=(HT2.out.Q8 (dt ⟨Bv,1,D.length,.slice none 0 0,[],0⟩)).Q8 (cU Bv);rw[World.size_alloc,<- hB9,HH.out.2.2.2.2.2.2.2.2.2.2.1]at h;have h2:=h.to (Perm.swap _ _ _);rw[<- hBv]at h2 ⊢;exact h2
     have hP4:=HV.b;have HW:=Hq4 hpm4 hT4 hBv hB9;clear hpm4 hT4 hP4;by_cases hvn:vs=[]
     ·subst hvn;have hvs0:af S.ps l=[]:=HV.a.symm;have HN0:=qqH hvs0;clear hvs0 hBv hB9;go_upto_region 13 with(first|(refine dQ dK rfl _ _ rfl Tryz.underlying51 HW.a HH.b.paths.map (fN _) l rfl rfl HV.g ?_;rw[cP,HV.b])|fail);have HNUM:Hid (1=eM (af S.ps l)+1):=qqH (by rw[HN0.out];rfl);have hT5:=HW.b.Q8 (cT (.slice none 0 0));simp only[World.size_alloc]at hT5;rw[<- HW.x,<- HW.c]at hT5 ⊢;rw[HH.out.2.2.2.2.2.2.2.2.2.2.1];refine Bi S l D sl cap b HH.b HH.c HH.d HD.b.symm hll (by omega) HH.f B3 B6 B7 B9 (B9+1) Bv 1 HNUM.out w _ hT5 HH.e HH.h _ (fun e w' hp=>?_) (by assumption);refine .inr ⟨HG.out,HD.b.symm,by omega,?_,?_⟩
      ·have:=HQ.out;rw[HH.out.2.2.2.2.2.2.2.2.2.2.2.1]at this;omega
      ·have hnum:=HNUM.out;have hnum2:((1:Nat):Int)=(eM (af S.ps l):Int)+1:=by omega
       rcases hp with⟨sp,chs,h1,h2,h3,h4,h5⟩|⟨S',V,h1,h2,h3,h4,h5⟩
       ·exact .inl ⟨sp,chs,h1,h2,h3,by rw[<- hnum2];exact h4,h5⟩
       ·exact .inr ⟨S',V,by rw[<- hnum2];exact h1,h2,h3,h4,h5⟩
     ·obtain⟨g,off,hg,hcell⟩:=HV.e (by rw[length_map];exact length_pos_iff.2 hvn);subst hg;obtain⟨U,hU⟩:∃U,vs.getLast?=some U:=⟨_,getLast?_eq_some_getLast hvn⟩;have hvl:0<vs.length:=length_pos_iff.2 hvn
      have hUe:U=vs[vs.length-1]:=by
       rw[getLast?_eq_getElem?,getElem?_eq_getElem (by omega)]at hU;exact(Option.some.inj hU).symm
      have hUm:U∈vs:=by rw[hUe];exact getElem_mem _
      have hc1:w2.cell? ⟨g,off+(vs.length-1),none⟩=some (dH U):=by rw[hcell (vs.length-1) (by rw[length_map];omega),getElem_map,hUe]
      have hc2:=HV.f U hUm
      have hvb:vs.length<=90000/\U.num<=4294967296+90000:=by
       obtain⟨p',hp',_,h2⟩:=bD (ps:=S.ps) (l:=l) (by rw[<- HV.a];exact hvn);rw[<- HV.a]at h2;have h3:=HH.c.vers p' hp';have h4:=HH.d;rw[h2]at h3;have h5:=(h3.2.2 U hUm).1;omega
      have hs4:=((Mods.refl (fun _=>False) w2).alloc (.cells #[.int .i64 1,.int .i64 D.length,.slice none 0 0,.int .i64 0] 117)).alloc (.cells #[.pointer (some ⟨w2.heap.size,0,none⟩)] 114);have hc1':=ib hs4 hc1;have hc2':=hs4.at hc2 id;have HNUM:Hid (U.num+1=eM (af S.ps l)+1):=qqH (by rw[<- HV.a];unfold eM;rw[hU];rfl);obtain⟨m,hm⟩:∃m,m=vs.length:=⟨_,rfl⟩;rw[<- hm]at hc1 hc1' hvl hvb;have hvl2:(0:Int)<(m:Int):=by omega
      have HU:=Hq4 hc1' hc2' hvb hm;clear hcell hU hUe hUm hc2 hs4 hc1 hc1' hc2' hvb hBv hB9;have HV2:=HV.b;rw[<- hm]at HV2;have HVV:=qqH HV2;clear HV2 hm;go_upto_region 11 with(first|(refine dQ dK rfl _ _ rfl Tryz.underlying51 HW.a HH.b.paths.map (fN _) l rfl rfl HV.g ?_;rw[cP,HVV.out])|fail);rw[<- HW.x,<- HW.c];have h:=HW.b;have q1:=HU.a;have q2:=HU.b;rw[<- HW.c]at h q1 q2;generalize (w2.alloc _).alloc _=W at h q1 q2 ⊢;have k9:=aa h.sat.tail.Q5 0 (v:=.pointer (some ⟨Bv,0,none⟩)) rfl;have kU:=aa q2 0 (v:=.int .i64 U.num) rfl;unfold dH at q1;have hm1:1<=m:=by omega
      have hnu:=HU.c;have g1:IntKind.i64.wrap ((m:Int)-1)=(m:Int)-1:=IntWalk.i64_in _ (by omega);have g2:(0:Int)<=(m:Int)-1:=by omega
      have g3:(m:Int)-1<m:=by omega
      have g4:((m:Int)-1).toNat=m-1:=by omega
      have g6:(1:Int)<=(m:Int):=by omega
      have g7:(0:Int)<(m:Int):=by omega
      have g5:IntKind.i64.wrap ((U.num:Int)+1)=(U.num:Int)+1:=IntWalk.i64_in _ (by omega);have H0:=qqH h;clear h q2;refine wp_region_still_tail 13 HM.out (by kernel_rfl) ?_;simp only[QE,take_zero,QD,drop_zero];repeat still_step
      refine wpStill_nil ?_;refine ah rfl (bb 3 (.tmp 74) (.tmp 72) rfl Bv 0 (fD ⟨Bv,1,D.length,.slice none 0 0,[],0⟩) 117 (.int .i64 (U.num+1)) H0.out.drew rfl rfl (by simp[fD]) (by kernel_rfl) rfl rfl ?_);intro w5 hT5;have HT5:=qqH (show Turns (arF S) ((Bv,Is (dt ⟨Bv,U.num+1,D.length,.slice none 0 0,[],0⟩))::(B9,Is (cU Bv))::(B7,Is (e8 .nilIface))::(B6,Is (cq 0))::(B3,Is (dh S.a))::arF S) w w5 from hT5);clear hT5 k9 kU q1 g1 g2 g3 g4 g5 hnu;simp only[Act.put];go_upto_region 13 with(fail);have hT6:=HT5.out.Q8 (cT (.slice none 0 0));rw[HH.out.2.2.2.2.2.2.2.2.2.2.1];refine Bi S l D sl cap b HH.b HH.c HH.d HD.b.symm hll (by omega) HH.f B3 B6 B7 B9 w5.heap.size Bv (U.num+1) HNUM.out w _ hT6 HH.e HH.h _ (fun e w' hp=>?_) (by assumption);refine .inr ⟨HG.out,HD.b.symm,by omega,?_,?_⟩
      ·have:=HQ.out;rw[HH.out.2.2.2.2.2.2.2.2.2.2.2.1]at this;omega
      ·have hnum:=HNUM.out;have hnum2:(((U.num+1):Nat):Int)=(eM (af S.ps l):Int)+1:=by omega
       rcases hp with⟨sp,chs,h1,h2,h3,h4,h5⟩|⟨S',V,h1,h2,h3,h4,h5⟩
       ·exact .inl ⟨sp,chs,h1,h2,h3,by rw[<- hnum2];exact h4,h5⟩
       ·exact .inr ⟨S',V,by rw[<- hnum2];exact h1,h2,h3,h4,h5⟩
end
section
open Go.RowKit
theorem Cp(d:Nat)(L:DevL)(q:Int)(w:World)(h:Sat w (aD d L))(hL:DevOk L)(hn:16<=L.n)(hn2:L.n<=1073741824)(hch:L.chs.length<=137438953472)(hz:∀k,k<2->aM L.now k=am 128):
  Calls Tryz.prog 34 #[.pointer (some ⟨d,0,none⟩),.int .i64 q] w (qH d L q w):=by
 have HS:=qqH (kV d L w h);have hzt:cD L.now 2=true:=by unfold cD;exact decide_eq_true hz
 have hu:=GO d L w h hL hn (fun k hk=>by rw[hz k hk];exact rU);rw[hzt]at hu;have HU:=qqH hu;have HF:Hid (∀W,Sat W (aD d L)->Calls Tryz.prog 81 #[.pointer (some ⟨d,0,none⟩),.int .i64 q] W (qH d L q W)):=qqH (fun W hW=>Az d L q W hW hL hn hn2 hch);have HH:=qqH h;clear h hL hn2 hch hz hzt hu;have hn':¬(L.n:Int)<16:=by omega
 go_enter Tryz.func34,Tryz.ntmps34;go_wp2_with fail;refine HS.out.mono ?_;rintro e w' ⟨rfl,rfl⟩;go_wp2_with fail;refine HU.out.mono ?_;rintro e w1 ⟨rfl,hs1⟩;have H1:=qqH hs1;clear hs1;go_wp2_with fail;refine(HF.out _ (HH.out.same H1.out)).mono ?_;rintro e w2 ⟨a,ab,pm,tm,cm,ch,L',rfl,hT,hr⟩;have H2:=Hq2 hT hr;clear hT hr;go_wp2_with fail;go_ret2;exact⟨a,ab,pm,tm,cm,ch,L',rfl,Turns.Qg HH.out H1.out H2.a,H2.z⟩
end
section
open Go.RowKit Go.Maps
structure WorldL where
 blk:Nat
 d:Nat
 a:Option Nat
 r:Nat
 out:Value
 want:Value
 most:Value
def l7:Option Nat->Value
 | none=>.pointer none
 | some b=>.pointer (some ⟨b,0,none⟩)
def bf(U:WorldL):Array Value:=#[.pointer (some ⟨U.d,0,none⟩),l7 U.a,.pointer (some ⟨U.r,0,none⟩),U.out,U.want,U.most]
def az(U:WorldL):Obj:=.cells (bf U) 38 (0,0)
def Fq(Φ:AS->Prop)(U:WorldL)(R:RefL)(L:DevL)(q:Int)(w:World)(e:Ending)(w':World):Prop :=
 ∃S b' vv' tv',e=.returned (.bool true)/\Φ S/\RefOk { R with blk:=b',vv:=vv',tv:=tv',quota:=cW q,closed:=false } /\
  Turns ((U.blk,Is (az U))::(aI R++aD U.d L)) ((U.blk,Is (az { U with a:=some S.a,r:=b' }))::(arF S++(aI { R with blk:=b',vv:=vv',tv:=tv',quota:=cW q,closed:=false }++aI R))) w w'
theorem sh(Φ:AS->Prop)(U:WorldL)(R:RefL)(L:DevL)(q:Int)(w:World)(hr:U.r=R.blk)(h:Sat w ((U.blk,Is (az U))::(aI R++aD U.d L)))(hok:RefOk R)(h1:∀v∈R.vs,v.cv.oneCell'=true)(hl:R.vs.length<=1000000/\R.ts.length<=1000000)(hE:aW w)(h0:0∉dom ((U.blk,Is (az U))::(aI R++aD U.d L)))(hO:∀W,Sat W (aD U.d L)->Calls Tryz.prog 34 #[.pointer (some ⟨U.d,0,none⟩),.int .i64 q] W (fun e W'=>∃S,e=.returned (.tuple #[.pointer (some ⟨S.a,0,none⟩),.nilIface])/\Φ S/\Turns (aD U.d L) (arF S) W W')):
  Calls Tryz.prog 10 #[.pointer (some ⟨U.blk,0,none⟩),.int .i64 q] w (Fq Φ U R L q w):=by
 have c0:w.cell? ⟨U.blk,0,none⟩=some (.pointer (some ⟨U.d,0,none⟩)):=aa h.Q5 0 rfl;have HO:=qqH (hO w h.tail.right);have HH:=Hq7 h hok h1 hl hE h0 hr;clear h hok h1 hl hE h0 hO hr;go_enter Tryz.func10,Tryz.ntmps10;go_wp2_with fail;refine HO.out.mono ?_;rintro e w1 ⟨S,rfl,hΦ,hT⟩
 have hT1:Turns ((U.blk,Is (az U))::(aI R++aD U.d L)) ((U.blk,Is (az U))::(arF S++aI R)) w w1:=by
  exact((Turns.refl HH.a).step (R:=(U.blk,Is (az U))::aI R) ac hT).to ac
 have HT1:=qqH (cz .nilIface 0 w1 (HH.e.keep hT1.mods HH.f) (.inl ⟨rfl,rfl⟩));have H1:=Hq2 hΦ hT1;clear hΦ hT hT1;go_wp2_with fail;refine HT1.out.mono ?_;rintro e w2 ⟨rfl,hs2⟩;have hT2:=H1.z.Q9 hs2;have HT2:=qqH hT2;clear hs2 hT2;have hne:∀W,(binOp .eql 33 (.pointer (some ⟨S.a,0,none⟩)) (.pointer none)).run Tryz.prog W=.ok (.bool false) W:=fun W=>by kernel_rfl
 go_wp2_with ((refine ah rfl (bb 33 (.tmp 28) (.tmp 26) rfl U.blk 1 (bf U) 38 (.pointer (some ⟨S.a,0,none⟩)) HT2.out rfl rfl (by simp[bf]) (by kernel_rfl) rfl rfl ?_);intro w3 hT3;have c2:w3.cell? ⟨U.blk,2,none⟩=some (.pointer (some ⟨U.r,0,none⟩)):=aa hT3.sat.Q5 2 rfl;have HT3:=qqH hT3;clear hT3;simp only[Act.put]));have hrb:U.r=R.blk:=HH.u;rw[hrb]at c2 ⊢;refine(vy R w3 HT3.out.sat.tail.right HH.b HH.c HH.d).mono ?_;rintro e w4 ⟨b',vv',tv',rfl,hok4,hT4⟩;obtain⟨R2,hR2⟩:∃R2:RefL,R2={ R with blk:=b',vv:=vv',tv:=tv',closed:=false }:=⟨_,rfl⟩;rw[<- hR2]at hok4 hT4;have hb2:R2.blk=b':=by rw[hR2]
 have hT5:Turns ((U.blk,Is (az U))::(aI R++aD U.d L)) ((U.blk,Is (.cells ((bf U).setIfInBounds 1 (.pointer (some ⟨S.a,0,none⟩))) 38 (0,0)))::(arF S++(aI R2++aI R))) w w4 :=
  (HT3.out.step (R:=(U.blk,Is (.cells ((bf U).setIfInBounds 1 (.pointer (some ⟨S.a,0,none⟩))) 38 (0,0)))::arF S) ac hT4).to ac
 have HT5:=Hq3 hok4 hR2 hT5;clear hok4 hR2 hT4 hT5;subst hb2
 go_wp2_with (first
  | (refine ah rfl (bb 34 (.tmp 36) (.tmp 34) rfl U.blk 2 ((bf U).setIfInBounds 1 (.pointer (some ⟨S.a,0,none⟩))) 38 (.pointer (some ⟨R2.blk,0,none⟩)) HT5.y rfl rfl (by simp[bf]) (by kernel_rfl) rfl rfl ?_);intro w5 hT6;have d2:w5.cell? ⟨U.blk,2,none⟩=some (.pointer (some ⟨R2.blk,0,none⟩)):=aa hT6.sat.Q5 2 rfl;have HT6:=qqH hT6;clear hT6;simp only[Act.put])
  | (refine ah rfl (bb 3 (.tmp 43) (.tmp 41) rfl R2.blk 2 (bJ R2) 46 (.int .i64 q) (HT6.out.to (H:=(R2.blk,Is (fQ R2))::((U.blk,Is (.cells (((bf U).setIfInBounds 1 (.pointer (some ⟨S.a,0,none⟩))).setIfInBounds 2 (.pointer (some ⟨R2.blk,0,none⟩))) 38 (0,0)))::(arF S++(dm R2.vv R2.vs++(dP R2.tv R2.ts++aI R))))) (by unfold aI;exact ac)) rfl rfl (by simp[bJ]) (by kernel_rfl) rfl rfl ?_);intro w6 hT7;have d3:w6.cell? ⟨U.blk,2,none⟩=some (.pointer (some ⟨R2.blk,0,none⟩)):=aa (hT7.sat.Q7 (b:=U.blk) (o:=.cells (((bf U).setIfInBounds 1 (.pointer (some ⟨S.a,0,none⟩))).setIfInBounds 2 (.pointer (some ⟨R2.blk,0,none⟩))) 38 (0,0)) (by simp)) 2 rfl;have HT7:=qqH hT7;clear hT7;simp only[Act.put])
  | (refine ah rfl (bb 3 (.tmp 51) (.const (.int .i64 0)) rfl R2.blk 2 ((bJ R2).setIfInBounds 2 (.int .i64 q)) 46 (.int .i64 0) HT7.out rfl rfl (by simp[bJ]) (by kernel_rfl) rfl rfl ?_);intro w7 hT8;have HT8:=qqH hT8;clear hT8;simp only[Act.put]))
 ·rename_i hq;have e1:R2.vv=vv':=by rw[HT5.b]
  have e2:R2.vs=R.vs:=by rw[HT5.b]
  have e3:R2.tv=tv':=by rw[HT5.b]
  have e4:R2.ts=R.ts:=by rw[HT5.b]
  have e5:R2.closed=false:=by rw[HT5.b]
  have eC:((bJ R2).setIfInBounds 2 (.int .i64 q)).setIfInBounds 2 (.int .i64 0)=bJ { R with blk:=R2.blk,vv:=vv',tv:=tv',quota:=cW q,closed:=false }:=by
   have hc:cW q=0:=by unfold cW;split<;>omega
   unfold bJ;rw[e1,e3,e5,hc];rfl
  have eW:((bf U).setIfInBounds 1 (.pointer (some ⟨S.a,0,none⟩))).setIfInBounds 2 (.pointer (some ⟨R2.blk,0,none⟩))=bf { U with a:=some S.a,r:=R2.blk }:=rfl;have hT9:=HT8.out;rw[eC,eW,e1,e2,e3,e4]at hT9;have hok5:=HT5.a;go_ret;refine ⟨S,R2.blk,vv',tv',rfl,H1.a,⟨by have:=hok5.vs;rw[e1,e2]at this;exact this,by have:=hok5.ts;rw[e3,e4]at this;exact this⟩,?_⟩;exact hT9.to (by unfold aI fQ az;exact ac)
 ·rename_i hq;have e1:R2.vv=vv':=by rw[HT5.b]
  have e2:R2.vs=R.vs:=by rw[HT5.b]
  have e3:R2.tv=tv':=by rw[HT5.b]
  have e4:R2.ts=R.ts:=by rw[HT5.b]
  have e5:R2.closed=false:=by rw[HT5.b]
  have eC:(bJ R2).setIfInBounds 2 (.int .i64 q)=bJ { R with blk:=R2.blk,vv:=vv',tv:=tv',quota:=cW q,closed:=false }:=by
   have hc:cW q=q:=by unfold cW;split<;>omega
   unfold bJ;rw[e1,e3,e5,hc];rfl
  have eW:((bf U).setIfInBounds 1 (.pointer (some ⟨S.a,0,none⟩))).setIfInBounds 2 (.pointer (some ⟨R2.blk,0,none⟩))=bf { U with a:=some S.a,r:=R2.blk }:=rfl;have hT9:=HT7.out;rw[eC,eW,e1,e2,e3,e4]at hT9;have hok5:=HT5.a;go_ret;refine ⟨S,R2.blk,vv',tv',rfl,H1.a,⟨by have:=hok5.vs;rw[e1,e2]at this;exact this,by have:=hok5.ts;rw[e3,e4]at this;exact this⟩,?_⟩;exact hT9.to (by unfold aI fQ az;exact ac)
end
section
open Go.RowKit
theorem Gl{l s x:Bs}{a:Nat}(h:a<=l.length):aZ (aZ l a s) (a+s.length) x=aZ l a (s++x):=by
 have h1:(l.take a++s).length=a+s.length:=by rw[length_append,length_take];omega
 have e0:aZ l a s=(l.take a++s)++l.drop (a+s.length):=rfl;have e1:(aZ l a s).take (a+s.length)=l.take a++s:=by rw[e0];exact take_left' h1
 have e2:(aZ l a s).drop (a+s.length+x.length)=l.drop (a+(s.length+x.length)):=by
  have h2:(aZ l a s).drop (a+s.length)=l.drop (a+s.length):=by rw[e0];exact drop_left' h1
  rw[<- drop_drop,h2,drop_drop,Nat.add_assoc]
 show(aZ l a s).take (a+s.length)++x++(aZ l a s).drop (a+s.length+x.length)=l.take a++(s++x)++l.drop (a+(s++x).length);rw[e1,e2,length_append,append_assoc (l.take a)]
def kb(t:Bs):Nat->Bs
 | 0=>[]
 | m+1=>kb t m++(if m=0 then t else am 128)
theorem kX{t:Bs}(ht:t.length=128):∀m,(kb t m).length=128*m
 | 0=>rfl
 | m+1=>by
  rw[kb,length_append,kX ht m]
  split
  ·omega
  ·simp[am];omega
theorem wK{t:Bs}(ht:t.length=128):∀m,kb t (m+1)=t++am (128*m)
 | 0=>by simp[kb,am]
 | m+1=>by
  rw[kb,wK ht m,if_neg (by omega),append_assoc,mt]
  congr 2
theorem tK{l t:Bs}{first q:Nat}(ht:t.length=128)(h:128*(first+q)<=l.length):∀m,fY l first q t m=aZ l (128*(first+q)) (kb t m)
 | 0=>by simp[fY,kb,aZ]
 | m+1=>by
  rw[fY,tK ht h m,kb]
  have:=Gl (l:=l) (s:=kb t m) (x:=if m=0 then t else am 128) h
  rw[kX ht,<- Nat.mul_add]at this
  exact this
theorem tL{l ws:Bs}{first count end_:Nat}(hl:128*(first+count)<=l.length)(hw:(aC l first count).take end_=ws.take end_)(hwl:ws.length=128*count)(he:end_<=128*count):
  ez (fY l first (end_ / 128) ((ws.take end_).drop (128*(end_ / 128))++am (128-end_%128)) (count-end_ / 128)) first count (ws.take end_) /\
  ∀f2 c2,(f2+c2<=first\/first+count<=f2)->aC (fY l first (end_ / 128) ((ws.take end_).drop (128*(end_ / 128))++am (128-end_%128)) (count-end_ / 128)) f2 c2=aC l f2 c2:=by
 have hdl:(ws.take end_).length=end_:=by rw[length_take];omega
 obtain⟨t,ht⟩:∃t,t=(ws.take end_).drop (128*(end_ / 128))++am (128-end_%128):=⟨_,rfl⟩;have htl:t.length=128:=by rw[ht,length_append,length_drop,hdl,an];omega
 rw[<- ht,tK htl (by omega)];have hrl:=kX htl (count-end_ / 128);have hhl:(aC l first count).length=128*count:=by unfold aC;rw[length_take,length_drop];omega
 refine⟨⟨?_,by rw[hdl];exact he⟩,fun f2 c2 hd=>kh (by omega) (by omega) hd⟩;rw[qh (by omega) (by omega),hdl];rcases Nat.lt_or_ge (end_ / 128) count with hlt|hge
 ·obtain⟨m,hm⟩:∃m,count-end_ / 128=m+1:=⟨count-end_ / 128-1,by omega⟩;rw[hm,wK htl];unfold aZ
  have e1:(aC l first count).take (128*(end_ / 128))=(ws.take end_).take (128*(end_ / 128)):=by
   rw[<- hw,take_take,Nat.min_eq_left (by omega)]
  rw[e1,ht,append_assoc ((ws.take end_).drop _),mt,<- append_assoc,take_append_drop,drop_of_length_le (by rw[hhl];simp only[length_append,length_drop,hdl,an];omega),append_nil];congr 2;omega
 ·have h0:count-end_ / 128=0:=by omega
  have he2:end_=128*count:=by omega
  rw[h0];simp only[kb,aZ,append_nil,length_nil,Nat.add_zero,take_append_drop];rw[<- hw,take_of_length_le (by omega),he2];simp[am]
end
section
open Go.RowKit Go.Maps
theorem EW{l s:Bs}{o k:Nat}(h:128*(k+1)<=o)(hl:o<=l.length):aM (aZ l o s) k=aM l k:=by
 unfold aM aZ;have h1:(l.take o).length=o:=by rw[length_take];omega
 rw[append_assoc,drop_append_of_le_length (by omega),take_append_of_le_length (by rw[length_drop,h1];omega),drop_take,take_take,Nat.min_eq_left (by omega)]
def li(a pm tm cm d ab ch:Nat)(q:Int)(L:DevL):AS where
 a:=a
 X:=⟨pm,tm,cm,0,0,0,d,ab,1,cW q,false,.nilIface⟩
 A:=⟨2+ay L.n,ay L.n,0,am 128,ch,[]⟩
 L:=L
 ps:=[]
 pc:=0
 cs:=[]
 cc:=0
 ts:=[]
 tc:=0
 data:=[]
 K:=[]
theorem GD{L L':DevL}(hL:DevOk L)(hn:16<=L.n)(hnow:L'.now=aZ (fY L.now (2+ay L.n) 0 (am 128) (ay L.n)) 128 (cH 1 0)):ez L'.now (2+ay L.n) (ay L.n) []:=by
 have hh:2+ay L.n+ay L.n<=L.n:=by unfold ay;omega
 have hll:=hL.nowL;have h1:=tL (l:=L.now) (ws:=am (128*ay L.n)) (first:=2+ay L.n) (count:=ay L.n) (end_:=0) (by omega) rfl (an _) (by omega);simp only[take_zero,Nat.zero_div,Nat.mul_zero,List.drop_nil,nil_append,Nat.zero_mod,Nat.sub_zero]at h1;have hcl:(fY L.now (2+ay L.n) 0 (am 128) (ay L.n)).length=128*L.n:=jF hll (an _) _ (by omega);have h2:=kh (l:=fY L.now (2+ay L.n) 0 (am 128) (ay L.n)) (s:=cH 1 0) (first:=1) (count:=1) (q:=0) (f2:=2+ay L.n) (c2:=ay L.n) (by rw[co];omega) (by rw[hcl];omega) (by omega);refine⟨?_,by simp⟩;rw[hnow,h2];exact h1.1.1
theorem Jl{L L':DevL}(hL:DevOk L)(hL':DevOk L')(hn:16<=L.n)(hn2:L.n<=1073741824)(hnn:L'.n=L.n)(hnow:L'.now=aZ (fY L.now (2+ay L.n) 0 (am 128) (ay L.n)) 128 (cH 1 0))(a pm tm cm d ab ch:Nat)(q:Int):
  ArOk (li a pm tm cm d ab ch q L') where
 dev:=hL'
 n16:=by show 16<=L'.n;omega
 nmax:=by show L'.n<=_;omega
 area:=⟨an _,by show([]:List (Nat×Nat×Nat)).length<=2;simp,fun s hs=>by cases hs⟩
 first:=by show 2+ay L'.n=2+1%2*ay L'.n;omega
 count:=rfl
 end_:=rfl
 tail:=by show am 128=bF [];unfold bF dk;simp
 dat:=by
  show ez L'.now (2+ay L'.n) (ay L'.n) []
  rw[hnn];exact GD hL hn hnow
 paths:=⟨⟨nodup_nil,nodup_nil,(fun e he=>by cases he),(fun e he=>by cases he)⟩,(fun p hp=>by cases hp)⟩
 tags:=⟨⟨nodup_nil,nodup_nil,(fun e he=>by cases he),(fun e he=>by cases he)⟩,(fun p hp=>by cases hp)⟩
 chunks:=⟨⟨nodup_nil,nodup_nil,(fun e he=>by cases he),(fun e he=>by cases he)⟩,(fun p hp=>by cases hp)⟩
 kin:=fun k=>Perm.refl _
 kat:=fun e he=>by cases he
 vers:=fun p hp=>by cases hp
 some:=fun p hp=>by cases hp
 sound:=rfl
 ep:=by show(1:Nat)<4294967296;omega
theorem KJ{L':DevL}(hch:L'.chs=[])(a pm tm cm d ab ch:Nat)(q:Int)(hq:q<=9223372036854775807):ArB (li a pm tm cm d ab ch q L') 0 where
 K:=by simp[li]
 np:=by simp[li]
 nt:=by simp[li]
 vers:=fun p hp=>by cases hp
 tags:=fun p hp=>by cases hp
 used:=by simp[li]
 sc:=by simp[li]
 sb:=by simp[li]
 quota:=by show(cW q).natAbs<=_;unfold cW;split<;>omega
 chs:=by show L'.chs.length<=_;rw[hch];simp
def lJ(n:Nat)(q:Int)(d:Nat)(S:AS):Prop :=
 ArOk S/\ArB S 0/\S.X.closed=false/\S.X.quota=cW q/\S.X.used=0/\S.X.sc=0/\S.X.sb=0/\S.ps=[]/\S.ts=[]/\S.K=[]/\S.data=[]/\S.L.n=n/\S.X.d=d/\S.X.ep=1/\S.L.chs=[]/\aM S.L.now 1=cH 1 0/\aM S.L.now 0=am 128
theorem Cq(d:Nat)(L:DevL)(q:Int)(w:World)(h:Sat w (aD d L))(hL:DevOk L)(hn:16<=L.n)(hn2:L.n<=1073741824)(hch:L.chs.length<=137438953472)(hz:∀k,k<2->aM L.now k=am 128)(hq:q<=9223372036854775807):
  Calls Tryz.prog 34 #[.pointer (some ⟨d,0,none⟩),.int .i64 q] w (fun e w'=>∃S,e=.returned (.tuple #[.pointer (some ⟨S.a,0,none⟩),.nilIface])/\lJ L.n q d S/\Turns (aD d L) (arF S) w w'):=by
 refine(Cp d L q w h hL hn hn2 hch hz).mono ?_;rintro e w' ⟨a,ab,pm,tm,cm,ch,L',rfl,hT,hL',hLn,hnow,_,hchs⟩;have hh:2+ay L.n+ay L.n<=L.n:=by unfold ay;omega
 have hcl:(fY L.now (2+ay L.n) 0 (am 128) (ay L.n)).length=128*L.n:=jF hL.nowL (an _) _ (by omega);refine⟨li a pm tm cm d ab ch q L',rfl,⟨Jl hL hL' hn hn2 hLn hnow a pm tm cm d ab ch q,KJ hchs a pm tm cm d ab ch q hq,rfl,rfl,rfl,rfl,rfl,rfl,rfl,rfl,rfl,hLn,rfl,rfl,hchs,?_,?_⟩,?_⟩
 ·show aM L'.now 1=_;rw[hnow];unfold aM aZ;have h1:((fY L.now (2+ay L.n) 0 (am 128) (ay L.n)).take 128).length=128*1:=by rw[length_take,hcl];omega
  rw[append_assoc,drop_left' h1,take_left' (co _ _)]
 ·show aM L'.now 0=_;rw[hnow,EW (by omega) (by rw[hcl];omega),tK (an _) (by rw[hL.nowL];omega),EW (by omega) (by rw[hL.nowL];omega)];exact hz 0 (by omega)
 ·refine hT.to ?_;unfold arF li aF bU aP gj;rw[<- hLn];simp only[map_nil,aO,flatMap_nil];exact ac
def zE(q:Int)(R:RefL):Prop:=RefOk R/\R.vs=[]/\R.ts=[]/\R.quota=cW q/\R.closed=false
def Cj(n:Nat)(q:Int)(w:World)(e:Ending)(w':World):Prop :=
 ∃(U:WorldL) (S:AS) (R:RefL),e=.returned (.tuple #[.pointer (some ⟨U.blk,0,none⟩),.bool true])/\lJ n q U.d S/\U.a=some S.a/\U.r=R.blk/\zE q R/\U.out=.slice none 0 0/\U.want=.slice none 0 0/\U.most=.slice none 0 0 /\
  Turns [] ((U.blk,Is (az U))::(arF S++aI R)) w w'
theorem ye(n:Nat)(q:Int)(w:World)(hn:16<=n)(hn2:n<=1073741824)(hE:aW w)(hq:q<=9223372036854775807):
  Calls Tryz.prog 5 #[.int .i64 n,.int .i64 q] w (Cj n q w):=by
 have HN:=qqH (mu n (by omega) w);have HE:=qqH hE;clear hE;go_enter Tryz.func5,Tryz.ntmps5;go_wp2_with fail;refine HN.out.mono ?_;rintro e w1 ⟨d,L,rfl,hT,hL,hLn,hnow,hch⟩;have H1:=Hq4 hT hL hnow hch;clear hT hL hnow hch;go_wp2_with fail;obtain⟨U,hU⟩:∃U:WorldL,U=⟨w1.heap.size+1,d,none,w1.heap.size,.slice none 0 0,.slice none 0 0,.slice none 0 0⟩:=⟨_,rfl⟩;obtain⟨R,hR⟩:∃R:RefL,R=⟨w1.heap.size,.slice none 0 0,[],.slice none 0 0,[],0,false⟩:=⟨_,rfl⟩;have hUb:U.blk=w1.heap.size+1:=by rw[hU]
 have hUd:U.d=d:=by rw[hU]
 have hRo:fQ R=.cells #[.slice none 0 0,.slice none 0 0,.int .i64 0,.bool false] 46 (0,0):=by rw[hR];rfl
 have hUo:az U=.cells #[.pointer (some ⟨d,0,none⟩),.pointer none,.pointer (some ⟨w1.heap.size,0,none⟩),.slice none 0 0,.slice none 0 0,.slice none 0 0] 38 (0,0):=by rw[hU];rfl
 have hT2:Turns [] ((U.blk,Is (az U))::(aI R++aD U.d L)) w ((w1.alloc (.cells #[.slice none 0 0,.slice none 0 0,.int .i64 0,.bool false] 46)).alloc (.cells #[.pointer (some ⟨d,0,none⟩),.pointer none,.pointer (some ⟨w1.heap.size,0,none⟩),.slice none 0 0,.slice none 0 0,.slice none 0 0] 38)):=by
  have h:=(H1.a.Q8 (fQ R)).Q8 (az U);rw[World.size_alloc,<- hUb]at h;rw[hUd,<- hRo,<- hUo]
  have h2:Turns [] ((U.blk,Is (az U))::(aI R++aD d L)) w ((w1.alloc (fQ R)).alloc (az U)):=by
   refine h.to ?_;rw[hR];unfold aI dm dP;simp only[bK,Value.ownBlock];exact ac
  exact h2
 have h0:0∉dom ((U.blk,Is (az U))::(aI R++aD U.d L)):=fun h=>by
  have h3:=hT2.Qs h;have h4:=World.block_lt_of_cell? w _ HE.out;simp only at h4;omega
 have HW:=qqH (sh (lJ n q U.d) U R L q _ (by rw[hU,hR]) hT2.sat (by rw[hR];exact⟨⟨rfl,fun _=>⟨rfl,rfl⟩⟩,⟨rfl,fun _=>⟨rfl,rfl⟩⟩⟩) (by rw[hR];intro v hv;cases hv) (by rw[hR];simp) (HE.out.keep hT2.mods (fun h=>by simp at h)) h0
  (fun W hW=>by
   have:=Cq U.d L q W hW H1.b (by omega) (by omega) (by rw[H1.x];simp) (fun k hk=>by rw[H1.c];simp only[aM,am,drop_replicate,take_replicate];congr 1;omega) hq;rw[hLn]at this;exact this))
 rw[hUb]at HW;have HT2:=Hq3 hT2 hU hR;clear hT2 h0 hU hR hUb hUd hRo hUo;refine HW.out.mono ?_;rintro e w2 ⟨S,b',vv',tv',rfl,hΦ,hok,hT3⟩;have HT3:=Hq3 hΦ hok hT3;clear hΦ hok hT3;go_wp2_with fail;have eb:U.blk=w1.heap.size+1:=by rw[HT2.b]
 have eR:R.vs=[]/\R.ts=[]:=by rw[HT2.y];exact⟨rfl,rfl⟩
 have eU:U.out=.slice none 0 0/\U.want=.slice none 0 0/\U.most=.slice none 0 0:=by rw[HT2.b];exact⟨rfl,rfl,rfl⟩
 go_ret2;refine ⟨{ U with a:=some S.a,r:=b' },S,{ R with blk:=b',vv:=vv',tv:=tv',quota:=cW q,closed:=false },by rw[<- eb];rfl,HT3.a,rfl,rfl,⟨HT3.b,eR.1,eR.2,rfl,rfl⟩,eU.1,eU.2.1,eU.2.2,?_⟩;exact(HT2.a.trans HT3.y).drop bB
theorem Jm:∀(l:List Nat),(∀i (h:i<l.length),i+1<l.length->16<=l[i])->16*(l.length-1)<=l.sum
 | [],_=>by simp
 | [a],_=>by simp
 | a::b::r,h=>by
  have h1:=h 0 (by simp) (by simp)
  have h2:=Jm (b::r) (fun i hi hj=>by have:=h (i+1) (by simpa using hi) (by simpa using hj);simpa using this)
  simp only[length_cons,sum_cons,getElem_cons_zero]at h1 h2 ⊢
  omega
theorem ue(D:Bs):(aE D).length<=D.length / 16+1:=by
 have h:=Jm (aE D) (fun i hi hj=>(oA D i hi).2.2 hj);rw[gY]at h;omega
theorem mx:∀(l:List Nat) (d:Bs),(da l d).flatten=d.take l.sum
 | [],d=>by simp[da]
 | n::r,d=>by
  simp only[da,flatten_cons,sum_cons,mx r]
  rw[take_add]
theorem vB(D:Bs):(au D).flatten=D:=by
 unfold au;rw[mx,gY,take_length]
theorem wJ{S:AS}(hok:ArOk S):∀{l:List Bs} {m:List (Nat×Nat)},m.length=l.length->(∀e∈l.zip m,e∈S.K)->m.flatMap (bq S.K)=l.flatten
 | [],[],_,_=>rfl
 | c::l,q::m,h,hz=>by
  rw[flatMap_cons,flatten_cons,pM hok (hz (c,q) (by simp)),wJ hok (by simpa using h) (fun e he=>hz e (by simp[he]))]
theorem Ah{S:AS}(hok:ArOk S){D:Bs}{V:VerL}(hl:V.chs.length=(au D).length)(hz:∀e∈(au D).zip V.chs,e∈S.K):cE S V=D:=by
 unfold cE;rw[wJ hok hl hz,vB]
abbrev ku:=Int×Bs×Int
def cX(S:AS)(V:VerL):ku:=((V.num:Int),cE S V,V.held)
def gn(v:RVer):ku:=(v.num,v.cont,v.held)
def aH(vs:List RVer)(p:Bs):List RVer:=vs.filter (fun v=>decide (v.path=p))
def jL(p:fO):Bs×Bs×Int:=(p.key,p.g.1,p.g.2)
def rt(t:RTag):Bs×Bs×Int:=(t.name,t.path,t.num)
def iQ(ts:List RTag)(p:Bs)(n:Int):Int:=(ts.countP (fun t=>decide (t.path=p/\t.num=n)):Nat)
structure Link (S:AS) (R:RefL):Prop where
 closed:R.closed=S.X.closed
 quota:R.quota=S.X.quota
 used:S.X.used=(fS R.vs:Nat)
 vers:∀p,(af S.ps p).map (cX S)=(aH R.vs p).map gn
 sorted:R.vs.Pairwise (fun a b=>bH b.path a.path=false)
 asc:∀p,((aH R.vs p).map (·.num)).Pairwise (·<·)
 each:∀v∈R.vs,1<=v.num/\aq v.path=true/\v.cont.length<=4000
 tags:(S.ts.map jL).Perm (R.ts.map rt)
 tsort:R.ts.Pairwise (fun a b=>bH a.name b.name=true)
 teach:∀t∈R.ts,aq t.name=true/\∃v∈R.vs,v.path=t.path/\v.num=t.num
 held:∀v∈R.vs,v.held=iQ R.ts v.path v.num
def Ay:List ku->Int->Option ku
 | [],_=>none
 | v::r,n=>if v.1=n\/(n=0/\r=[])then some v else Ay r n
theorem wR(S:AS)(n:Int):∀l:List VerL,Ay (l.map (cX S)) n=(iq l n).map (cX S)
 | []=>rfl
 | V::r=>by
  simp only[map_cons,Ay,iq,wR S n r,map_eq_nil_iff]
  have e:(cX S V).1=(V.num:Int):=rfl
  rw[e]
  split<;>rfl
def AY(l:List ku)(n:Int):Option ku:=(l.filter (fun t=>decide (t.1=n\/n=0))).getLast?
theorem wQ{n:Int}:∀{l:List ku},(∀t∈l,n<t.1)->n≠0->l.filter (fun t=>decide (t.1=n\/n=0))=[]
 | [],_,_=>rfl
 | t::r,h,h0=>by
  rw[filter_cons_of_neg (by have:=h t (by simp);simp;omega)]
  exact wQ (fun x hx=>h x (by simp[hx])) h0
theorem pd{n:Int}:∀{l:List ku},(l.map (·.1)).Pairwise (·<·)->(∀t∈l,1<=t.1)->Ay l n=AY l n
 | [],_,_=>rfl
 | t::r,hp,h1=>by
  rw[map_cons,pairwise_cons]at hp
  have ht:=h1 t (by simp)
  simp only[Ay,AY]
  by_cases h0:n=0
  ·subst h0
   have hne:¬t.1=0:=by omega
   have hall:∀(x:List ku),x.filter (fun t=>decide (t.1=0\/(0:Int)=0))=x:=fun x=>by rw[filter_eq_self];simp
   rw[hall]
   cases r with
   | nil=>simp
   | cons a r' =>
    rw[if_neg (by simp[hne])]
    rw[pd (l:=a::r') hp.2 (fun x hx=>h1 x (by simp[hx]))]
    unfold AY
    rw[hall,getLast?_cons_cons]
  ·by_cases hn:t.1=n
   ·rw[if_pos (.inl hn),filter_cons_of_pos (by simp[hn])]
    rw[wQ (fun x hx=>by rw[<- hn];exact hp.1 x.1 (mem_map.2 ⟨x,hx,rfl⟩)) h0]
    rfl
   ·rw[if_neg (by simp[hn,h0]),filter_cons_of_neg (by simp[hn,h0])]
    exact pd (n:=n) hp.2 (fun x hx=>h1 x (by simp[hx]))
theorem mI(vs:List RVer)(p:Bs)(n:Int):∀k,k<=vs.length->(if 0<=bQ vs p n k then vs[(bQ vs p n k).toNat]? else none)=((vs.take k).filter (kj p n)).getLast?
 | 0,_=>by simp[bQ]
 | k+1,hk=>by
  rw[rG (by omega),QH (by omega),filter_append]
  by_cases h:kj p n vs[k]=true
  ·rw[if_pos h,if_pos (by omega),filter_cons_of_pos h]
   simp
  ·rw[if_neg h,filter_cons_of_neg h,filter_nil,append_nil]
   exact mI vs p n k (by omega)
theorem uv(R:RefL)(p:Bs)(n:Int):oE R p n=(R.vs.filter (kj p n)).getLast?:=by
 unfold oE;rw[mI R.vs p n _ (Nat.le_refl _),take_length]
theorem yG(vs:List RVer)(p:Bs)(n:Int):vs.filter (kj p n)=(aH vs p).filter (fun v=>decide (v.num=n\/n=0)):=by
 unfold aH;rw[filter_filter];congr 1;funext v;unfold kj;by_cases h1:v.path=p<;>by_cases h2:v.num=n<;>by_cases h3:n=0<;>simp[h1,h2,h3]
theorem F9(l:List RVer)(n:Int):AY (l.map gn) n=((l.filter (fun v=>decide (v.num=n\/n=0))).getLast?).map gn:=by
 unfold AY;rw[filter_map,getLast?_map];rfl
theorem Link.find{S:AS}{R:RefL}(L:Link S R)(p:Bs)(n:Int):(iq (af S.ps p) n).map (cX S)=(oE R p n).map gn:=by
 rw[<- wR,L.vers,pd,F9,uv,yG]
 ·have:=L.asc p;rw[map_map];exact this
 ·intro t ht;obtain⟨v,hv,rfl⟩:=mem_map.1 ht;exact(L.each v (mem_filter.1 hv).1).1
theorem Link.err{S:AS}{R:RefL}(L:Link S R){l:Bs}{n k:Int}(h:jb S l n k):cL R l n=.error k:=by
 unfold cL;rw[L.closed];rcases h with⟨h1,rfl⟩|⟨h1,h2,rfl⟩|⟨h1,h2,h3,rfl⟩
 ·rw[if_pos h1]
 ·rw[h1,if_neg (by simp),h2,if_neg (by simp)]
 ·rw[h1,if_neg (by simp),h2,if_pos rfl];have:=L.find l n;rw[h3,Option.map_none]at this;rw[Option.map_eq_none_iff.1 this.symm]
theorem Link.found{S:AS}{R:RefL}(L:Link S R){l:Bs}{n:Int}{V:VerL}(h:iP S l n V):∃v,cL R l n=.ok v/\gn v=cX S V/\v∈R.vs/\v.path=l:=by
 unfold cL;rw[L.closed,h.1,if_neg (by simp),h.2.1,if_pos rfl];have h1:=L.find l n;rw[h.2.2,Option.map_some]at h1;obtain⟨v,hv,hv2⟩:=Option.map_eq_some_iff.1 h1.symm;have h3:=hv;rw[uv]at h3;have h4:=mem_filter.1 (mem_of_getLast? h3);refine⟨v,by rw[hv],hv2,h4.1,?_⟩;have:=h4.2;unfold kj at this;simp only[Bool.and_eq_true,decide_eq_true_eq]at this;exact this.1
def ed(S:AS)(sp:List (Nat×Nat×Nat)):AS:={ S with A:={ S.A with spare:=sp } }
theorem ArOk.spare{S:AS}(h:ArOk S){sp:List (Nat×Nat×Nat)}(ha:AreaOk { S.A with spare:=sp }):ArOk (ed S sp) where
 dev:=h.dev
 n16:=h.n16
 nmax:=h.nmax
 area:=ha
 first:=h.first
 count:=h.count
 end_:=h.end_
 tail:=h.tail
 dat:=h.dat
 paths:=h.paths
 tags:=h.tags
 chunks:=h.chunks
 kin:=h.kin
 kat:=h.kat
 vers:=h.vers
 some:=h.some
 sound:=h.sound
 ep:=h.ep
theorem ArB.spare{S:AS}{b:Nat}(h:ArB S b)(sp:List (Nat×Nat×Nat)):ArB (ed S sp) b where
 K:=h.K
 np:=h.np
 nt:=h.nt
 vers:=h.vers
 tags:=h.tags
 used:=h.used
 sc:=h.sc
 sb:=h.sb
 quota:=h.quota
 chs:=h.chs
theorem Link.spare{S:AS}{R:RefL}(L:Link S R)(sp:List (Nat×Nat×Nat)):Link (ed S sp) R where
 closed:=L.closed
 quota:=L.quota
 used:=L.used
 vers:=L.vers
 sorted:=L.sorted
 asc:=L.asc
 each:=L.each
 tags:=L.tags
 tsort:=L.tsort
 teach:=L.teach
 held:=L.held
structure OpL where
 kind:Int
 a:Int
 b:Int
 c:Int
 s:Bs
 t:Bs
 dv:Value
 d:Bs
def opV(o:OpL):List Value:=[.int .i64 o.kind,.int .i64 o.a,.int .i64 o.b,.int .i64 o.c,str o.s,str o.t,o.dv]
def vG(l:List OpL):List Value:=l.flatMap opV
def I63(n:Int):Prop:=-9223372036854775808<=n/\n<=9223372036854775807
structure OpOk (w:World) (o:OpL):Prop where
 a:I63 o.a
 b:I63 o.b
 c:I63 o.c
 s:o.s.length<=1125899906842624
 t:o.t.length<=1125899906842624
 d:o.d.length<=1125899906842624
 dv:∃sl cap,o.dv=.slice sl o.d.length cap/\o.d.length<=cap/\cap<=9223372036854775807/\ak w sl (o.d.map al)
theorem ju(l:List OpL):(vG l).length=l.length*7:=by
 induction l with
 | nil=>rfl
 | cons a r ih=>simp only[vG,flatMap_cons,length_append,length_cons]at ih ⊢;rw[ih];simp[opV];omega
theorem yK:∀(l:List OpL) (i:Nat) (h:i<l.length) (j:Nat) (_:j<7),(vG l)[i*7+j]?=(opV l[i])[j]?
 | [],i,h,_,_=>by simp at h
 | a::r,0,_,j,hj=>by
  simp only[vG,flatMap_cons,Nat.zero_mul,Nat.zero_add,getElem_cons_zero]
  rw[getElem?_append_left (by simpa[opV]using hj)]
 | a::r,i+1,h,j,hj=>by
  simp only[vG,flatMap_cons,getElem_cons_succ]
  rw[getElem?_append_right (by simp[opV];omega),show(i+1)*7+j-(opV a).length=i*7+j by simp[opV];omega]
  exact yK r i (by simpa using h) j hj
theorem K3{w:World}{sl:Option Addr}{l:List OpL}(h:ak w sl (vG l)){i:Nat}(hi:i<l.length):∃g off,sl=some ⟨g,off,none⟩ /\
  w.cell? ⟨g,off+i*7,none⟩=some (.int .i64 l[i].kind)/\w.cell? ⟨g,off+i*7+1,none⟩=some (.int .i64 l[i].a)/\w.cell? ⟨g,off+i*7+2,none⟩=some (.int .i64 l[i].b)/\w.cell? ⟨g,off+i*7+3,none⟩=some (.int .i64 l[i].c) /\
  w.cell? ⟨g,off+i*7+4,none⟩=some (str l[i].s)/\w.cell? ⟨g,off+i*7+5,none⟩=some (str l[i].t)/\w.cell? ⟨g,off+i*7+6,none⟩=some l[i].dv:=by
 obtain⟨g,off,e,hc⟩:=h (by rw[ju];omega)
 have key:∀j (hj:j<7) (v:Value),(opV l[i])[j]?=some v->w.cell? ⟨g,off+i*7+j,none⟩=some v:=by
  intro j hj v hv;have h1:=hc (i*7+j) (by rw[ju];omega);rw[<- Nat.add_assoc]at h1;rw[h1];have h2:=yK l i hi j hj;rw[hv,getElem?_eq_getElem (by rw[ju];omega)]at h2;exact h2
 exact⟨g,off,e,key 0 (by omega) _ rfl,key 1 (by omega) _ rfl,key 2 (by omega) _ rfl,key 3 (by omega) _ rfl,key 4 (by omega) _ rfl,key 5 (by omega) _ rfl,key 6 (by omega) _ rfl⟩
def uk(o:OpL):Nat:=o.s.length+o.t.length+o.d.length
def eE(l:List OpL):Nat:=(l.map uk).sum
def mi(l:List OpL):Bool:=decide (l.length<=400)&&decide (eE l<=60000)
theorem rV{l:List OpL}{k:Nat}(h:k<l.length):eE (l.take (k+1))=eE (l.take k)+uk l[k]:=by
 unfold eE;rw[QH h,map_append,sum_append];simp
theorem xi(l:List OpL)(k:Nat):eE (l.take k)<=eE l:=by
 unfold eE;have:(l.map uk).sum=((l.take k).map uk).sum+((l.drop k).map uk).sum:=by rw[<- sum_append,<- map_append,take_append_drop]
 omega
theorem BO(l:List OpL)(sl:Option Addr)(cap:Nat)(w:World)(h:ak w sl (vG l))(hok:∀o∈l,OpOk w o)(hcap:l.length<=1125899906842624):
  Calls Tryz.prog 4 #[.slice sl l.length cap] w (fun e w'=>e=.returned (.bool (mi l))/\aQ w w'):=by
 have HH:=Hq2 h hok;clear h hok;go_enter Tryz.func4,Tryz.ntmps4;by_cases h4:400<l.length
 ·have hfin:mi l=false:=by unfold mi;rw[decide_eq_false (by omega)];rfl
  have HF:=qqH hfin;clear hfin;go_wp2_with fail;go_ret;exact ⟨by rw[HF.out];rfl,Mods.refl _ _⟩
 ·go_wp2_with fail;go_loopw [3,4] (fun n i wr=>∃k:Nat,k<=l.length/\i=.int .i64 k/\n=.int .i64 (eE (l.take k):Nat)/\eE (l.take k)<=60000/\aQ w wr) (fun _ i _=>l.length-(intOf i).toNat)
  case atStart=>exact⟨0,Nat.zero_le _,rfl,rfl,by simp[eE],Mods.refl _ _⟩
  case round =>
   obtain⟨k,hk,rfl,rfl,hle,hs⟩:=hrel;by_cases hlt:k<l.length
   ·obtain⟨g,off,hg,-,-,-,-,h5,h6,h7⟩:=K3 (HH.a.keep hs (fun _ _ _=>id)) hlt;have hoo:=HH.z l[k] (getElem_mem hlt);obtain⟨dsl,dcap,hdv,-,-,-⟩:=hoo.dv;rw[hdv]at h7;have hnx:=rV hlt;have hb1:=hoo.s;have hb2:=hoo.t;have hb3:=hoo.d;unfold uk at hnx;subst hg;obtain⟨os,hos⟩:∃os,os=l[k].s:=⟨_,rfl⟩;obtain⟨ot,hot⟩:∃ot,ot=l[k].t:=⟨_,rfl⟩;obtain⟨od,hod⟩:∃od,od=l[k].d:=⟨_,rfl⟩;rw[<- hos]at h5 hnx hb1;rw[<- hot]at h6 hnx hb2;rw[<- hod]at h7 hnx hb3;obtain⟨n,hn⟩:∃n,n=eE (l.take k):=⟨_,rfl⟩;rw[<- hn]at hnx hle ⊢;have hw1:wrap64 ((n:Int)+os.length)=(n:Int)+os.length:=IntWalk.wrap64_in _ (by omega);have hw2:wrap64 ((n:Int)+os.length+ot.length)=(n:Int)+os.length+ot.length:=IntWalk.wrap64_in _ (by omega);have hw3:wrap64 ((n:Int)+os.length+ot.length+od.length)=(n:Int)+os.length+ot.length+od.length:=IntWalk.wrap64_in _ (by omega);have HX:=Hq2 hnx hs;have hk4:k<=400:=by omega
    clear hnx hs hoo hdv hos hot hod hn;by_cases hbig:(60000:Int)<(n:Int)+os.length+ot.length+od.length
    ·have hfin:mi l=false:=by
      unfold mi;have h1:=xi l (k+1);rw[HX.a]at h1;rw[decide_eq_false (p:=eE l<=60000) (by omega),Bool.and_false]
     have HF:=qqH hfin;clear hfin;go_upto_region 7 with(fail);go_quiet (fail);go_wp2_with fail;go_ret;exact ⟨by rw[HF.out];rfl,HX.z.drewN _⟩
    ·have hbig':¬(n:Int)+os.length+ot.length+od.length>60000:=hbig;go_upto_region 7 with(fail);go_quiet (fail);go_wp2_with fail;go_roundw
     case rel=>exact⟨k+1,by omega,by go_num,by rw[HX.a];go_num,by rw[HX.a];omega,HX.z.drewN _⟩
     case measure=>simp[intOf];omega
   ·obtain rfl:k=l.length:=by omega
    rw[take_length]at hle;have hfin:mi l=true:=by unfold mi;rw[decide_eq_true (by omega),decide_eq_true hle];rfl
    have HF:=qqH hfin;clear hfin;go_wp2_with fail;go_ret;exact ⟨by rw[HF.out];rfl,hs⟩
theorem IB{w:World}{sl:Option Addr}{l:List EntL}(h:ak w sl (l.flatMap cg)){i:Nat}(hi:i<l.length):∃g off,sl=some ⟨g,off,none⟩ /\
  w.cell? ⟨g,off+i*4,none⟩=some (str l[i].p)/\w.cell? ⟨g,off+i*4+1,none⟩=some (.int .i64 l[i].latest)/\w.cell? ⟨g,off+i*4+2,none⟩=some (.int .i64 l[i].size)/\w.cell? ⟨g,off+i*4+3,none⟩=some (.int .i64 l[i].n):=by
 obtain⟨g,off,e,hc⟩:=h (by rw[gJ];omega)
 have key:∀j (hj:j<4) (v:Value),(cg l[i])[j]?=some v->w.cell? ⟨g,off+i*4+j,none⟩=some v:=by
  intro j hj v hv;have h1:=hc (i*4+j) (by rw[gJ];omega);rw[<- Nat.add_assoc]at h1;rw[h1];have h2:=qa l (i*4+j) (by omega);rw[show(i*4+j) / 4=i by omega,show(i*4+j)%4=j by omega]at h2;simp only[getElem!_toArray,getElem!_pos l i hi]at h2;rw[getElem?_eq_getElem (by rw[gJ];omega)]at h2;rw[h2]
  have:(cg l[i])[j]! = v := by
   rw[getElem!_eq_getElem?_getD,hv];rfl
  rw[this]
 exact⟨g,off,e,key 0 (by omega) _ rfl,key 1 (by omega) _ rfl,key 2 (by omega) _ rfl,key 3 (by omega) _ rfl⟩
def rz(es rs:List EntL)(w:World)(e:Ending)(w':World):Prop:=∃b,e=.returned (.bool b)/\(es=rs->b=true)/\aQ w w'
theorem qq(es rs:List EntL)(a1 a2:Option Addr)(c1 c2:Nat)(w:World)(h1:ak w a1 (es.flatMap cg))(h2:ak w a2 (rs.flatMap cg))(hx:es.length<=1000000)(hy:rs.length<=1000000):
  Calls Tryz.prog 46 #[.slice a1 es.length c1,.slice a2 rs.length c2] w (rz es rs w):=by
 have HH:=Hq2 h1 h2;clear h1 h2;go_enter Tryz.func46,Tryz.ntmps46;by_cases hl:es.length=rs.length
 ·have hlI:((es.length:Int) != (rs.length:Int))=false:=by simp[hl]
  have HL:=qqH hl;clear hl;go_wp2_with fail;go_loopw [5] (fun i wr=>∃k:Nat,k<=es.length/\i=.int .i64 k/\aQ w wr) (fun i _=>es.length-(intOf i).toNat)
  case atStart=>exact⟨0,Nat.zero_le _,rfl,Mods.refl _ _⟩
  case round =>
   obtain⟨k,hk,rfl,hs⟩:=hrel;by_cases hlt:k<es.length
   ·obtain⟨g,off,hg,p0,p1,p2,p3⟩:=IB (HH.a.keep hs (fun _ _ _=>id)) hlt;obtain⟨g',off',hg',q0,q1,q2,q3⟩:=IB (HH.z.keep hs (fun _ _ _=>id)) (i:=k) (by rw[<- HL.out];exact hlt);have hkr:k<rs.length:=by rw[<- HL.out];exact hlt
    subst hg;subst hg';obtain⟨x,hxd⟩:∃x,x=es[k]:=⟨_,rfl⟩;obtain⟨y,hyd⟩:∃y,y=rs[k]:=⟨_,rfl⟩;rw[<- hxd]at p0 p1 p2 p3;rw[<- hyd]at q0 q1 q2 q3;obtain⟨xp,xl,xs,xn⟩:=x;obtain⟨yp,yl,ys,yn⟩:=y;simp only at p0 p1 p2 p3 q0 q1 q2 q3;have HX:=Hq3 hxd hyd hs;clear hxd hyd hs
    have hno:∀(h:¬(⟨xp,xl,xs,xn⟩:EntL)=⟨yp,yl,ys,yn⟩) (W:World),aQ w W->rz es rs w (.returned (.bool false)) W:=fun h W hW=>⟨false,rfl,fun he=>by
     exfalso;apply h;have e1:=HX.a;have e2:=HX.b;subst he;rw[e1,e2],hW⟩
    have HNO:=qqH hno;clear hno;by_cases c1:xp=yp
    ·have c1':=c1.symm;clear c1;subst c1';by_cases c2:xl=yl
     ·subst c2;by_cases c3:xs=ys
      ·subst c3;by_cases c4:xn=yn
       ·subst c4;go_upto_region 6 with(fail);go_quiet (fail);go_wp2_with fail;go_roundw
        case rel=>exact⟨k+1,by omega,by go_num,HX.y.drewN _⟩
        case measure=>simp[intOf];omega
       ·have d4:(xn != yn)=true:=by simp[c4]
        go_upto_region 6 with(fail);go_quiet (fail);go_wp2_with fail;go_ret;exact HNO.out (by simp[c4]) _ (HX.y.drewN _)
      ·have d3:(xs != ys)=true:=by simp[c3]
       go_upto_region 6 with(fail);go_quiet (fail);go_wp2_with fail;go_ret;exact HNO.out (by simp[c3]) _ (HX.y.drewN _)
     ·have d2:(xl != yl)=true:=by simp[c2]
      go_upto_region 6 with(fail);go_quiet (fail);go_wp2_with fail;go_ret;exact HNO.out (by simp[c2]) _ (HX.y.drewN _)
    ·have d1:(xp==yp)=false:=by simp[c1]
     go_upto_region 6 with(fail);go_quiet (fail);go_wp2_with fail;go_ret;exact HNO.out (by simp[c1]) _ (HX.y.drewN _)
   ·obtain rfl:k=es.length:=by omega
    go_wp2_with fail;go_ret;exact ⟨true,rfl,fun _=>rfl,hs⟩
 ·have hlI:((es.length:Int) != (rs.length:Int))=true:=by simp;omega
  go_wp2_with fail;go_ret;exact ⟨false,rfl,fun he=>by subst he;exact absurd rfl hl,Mods.refl _ _⟩
structure WS where
 U:WorldL
 S:AS
 R:RefL
 P:eO
 M:List SlB
 O:Bs
 J:HF:=[]
def aV(X:WS):HF:=bi X.P++(cN X.U.most X.M++(aA X.U.out X.O++X.J))
def wsF(X:WS):HF:=(X.U.blk,Is (az X.U))::(arF X.S++(aI X.R++aV X))
def Fk(w0:World)(P:eO)(x:SlB):Prop:=Cx w0 x\/∃p∈P,∃sl cap,p.1=.slice sl p.2.length cap/\p.2.length<=cap/\cap<=9223372036854775807/\mH sl cap p.2 x
def j6(P:eO)(v:Value)(b:Bs):Prop:=∃sl cap,v=.slice sl b.length cap/\(b=[]\/∃p∈P,∃g off c k,p.1=.slice (some ⟨g,off,none⟩) p.2.length c/\sl=some ⟨g,off+k,none⟩/\b=(p.2.drop k).take b.length)
theorem Fk.at{w0 W:World}{P:eO}{G:HF}{x:SlB}(h:Fk w0 P x)(hT:Turns [] G w0 W)(hp:Sat W (bi P))(hok:qI P):Cx W x:=by
 rcases h with⟨sl,cap,e,h1,h2,hc⟩|⟨p,hm,sl,cap,e,h1,h2,h3⟩
 ·exact⟨sl,cap,e,h1,h2,hc.turns (by exact hT)⟩
 ·obtain⟨sl',cap',e',h1',hc,-⟩:=kn hok hp (v:=p.1) (l:=p.2) hm;rw[e]at e';simp only[Value.slice.injEq,true_and]at e';obtain⟨rfl,rfl⟩:=e';exact h3.at hc h1 h2
theorem j6.at{W:World}{P:eO}{v:Value}{b:Bs}(h:j6 P v b)(hp:Sat W (bi P))(hok:qI P):∃sl cap,v=.slice sl b.length cap/\ak W sl (b.map al):=by
 obtain⟨sl,cap,e,h1⟩:=h;refine⟨sl,cap,e,?_⟩;rcases h1 with rfl|⟨p,hm,g,off,c,k,e1,e2,e3⟩
 ·exact eu _ _
 ·obtain⟨sl',cap',e',h1',hc,-⟩:=kn hok hp (v:=p.1) (l:=p.2) hm;rw[e1]at e';simp only[Value.slice.injEq,true_and]at e';obtain⟨rfl,rfl⟩:=e'
  have hle:b.length<=p.2.length-k:=by
   have:=congrArg length e3;rw[length_take,length_drop]at this;omega
  intro hpos;rw[length_map]at hpos;have hpart:mH (some ⟨g,off,none⟩) (b.length+k) p.2 ⟨.slice (some ⟨g,off+k,none⟩) b.length b.length,b⟩:=⟨g,off,k,rfl,by simp,e3,by simp only;omega⟩;subst e2;refine⟨g,off+k,rfl,fun j hj=>?_⟩;rw[length_map]at hj;obtain⟨g',off',e5,h5⟩:=hc (by rw[length_map];omega);simp only[Option.some.injEq,Addr.mk.injEq,and_true]at e5;obtain⟨rfl,rfl⟩:=e5;rw[Nat.add_assoc,h5 (k+j) (by rw[length_map];omega)];simp only[getElem_map];congr 2;have:b[j]?=p.2[k+j]?:=by rw[e3,getElem?_take,if_pos hj,getElem?_drop]
  rw[getElem?_eq_getElem hj,getElem?_eq_getElem (by omega)]at this;exact(Option.some.inj this).symm
theorem Fk.grow{w0:World}{P P':eO}{x:SlB}(h:Fk w0 P x)(hp:∀x∈P,x∈P'):Fk w0 P' x:=h.imp id (fun⟨p,hm,r⟩=>⟨p,hp p hm,r⟩)
theorem j6.grow{P P':eO}{v:Value}{b:Bs}(h:j6 P v b)(hp:∀x∈P,x∈P'):j6 P' v b:=by
 obtain⟨sl,cap,e,h1⟩:=h;exact⟨sl,cap,e,h1.imp id (fun⟨p,hm,r⟩=>⟨p,hp p hm,r⟩)⟩
theorem qz(P:eO):j6 P (.slice none 0 0) []:=⟨none,0,rfl,.inl rfl⟩
structure WsOk (w0 W:World) (X:WS):Prop where
 turns:Turns [] (wsF X) w0 W
 a:X.U.a=some X.S.a
 r:X.U.r=X.R.blk
 d:X.U.d=X.S.X.d
 ar:ArOk X.S
 ref:RefOk X.R
 pok:qI X.P
 inp:ry X.P X.R
 out:bOk X.U.out X.O
 want:j6 X.P X.U.want X.O
 most:uP X.U.most X.M
 ms:∀x∈X.M,Fk w0 X.P x
 link:Link X.S X.R
 olen:X.O.length<=4000
theorem WsOk.pool{w0 W:World}{X:WS}(h:WsOk w0 W X):Sat W (bi X.P):=h.turns.sat.tail.right.right.left
theorem WsOk.Qm{w0 W:World}{X:WS}(h:WsOk w0 W X):Sat W (aI X.R):=h.turns.sat.tail.right.left
theorem WsOk.Qq{w0 W:World}{X:WS}(h:WsOk w0 W X):Sat W (arF X.S):=h.turns.sat.tail.left
theorem WsOk.refAt{w0 W:World}{X:WS}(h:WsOk w0 W X)(hl:X.R.vs.length<=100000):RefAt X.R X.P W :=
 ⟨h.Qm,h.ref,h.pool,h.pok,h.inp,hl,fun v hv=>by have:=(h.link.each v hv).2.2;omega⟩
theorem WsOk.refAt'{w0 W W':World}{X:WS}(h:WsOk w0 W X)(hl:X.R.vs.length<=100000)(hs:Sat W' (aI X.R++aV X)):RefAt X.R X.P W' :=
 ⟨hs.left,h.ref,hs.right.left,h.pok,h.inp,hl,fun v hv=>by have:=(h.link.each v hv).2.2;omega⟩
def oO(o:OpL):Obj:=.cells (opV o).toArray 41 (0,0)
def opA(o:OpL):Value:=.agg (opV o).toArray
def Gi(X:WS)(sp:List (Nat×Nat×Nat))(ov wv:Value)(D:Bs):WS:={ X with U:={ X.U with out:=ov,want:=wv },S:=ed X.S sp,O:=D }
theorem GR{W:World}{P:eO}(hp:Sat W (bi P))(hok:qI P){v:Value}{l:Bs}(hm:(v,l)∈P):j6 P v l:=by
 obtain⟨sl,cap,e,-,hc,-⟩:=kn hok hp hm;refine⟨sl,cap,e,?_⟩;by_cases hl:l=[]
 ·exact .inl hl
 ·obtain⟨g,off,e2,-⟩:=hc (by rw[length_map];exact length_pos_iff.2 hl);exact .inr ⟨_,hm,g,off,cap,0,by rw[e,e2],by rw[e2];rfl,by simp⟩
def GU(n:Nat)(o:Obj):Prop:=∃cs:Array Value,o=.cells cs 5 (0,0)/\n<=cs.size/\∀j,j<n->∃x:Int,cs[j]?=some (.int .u8 x)
theorem JR{F G:HF}{a w:World}{v:Value}{D:Bs}(h:Turns F (aA v D++G) a w)(hok:bOk v D)(hne:D≠[]):∃g cap,v=.slice (some ⟨g,0,none⟩) D.length cap/\Turns F ((g,GU D.length)::G) a w:=by
 rcases(cZ h.sat.left hok).2 with⟨_,h2⟩|⟨g,cap,cur,rfl,-⟩
 ·exact absurd (length_eq_zero_iff.1 h2) hne
 ·have hT':Turns F ((g,fun o=>∃cap' cur,(.slice (some ⟨g,0,none⟩) D.length cap:Value)=.slice (some ⟨g,0,none⟩) D.length cap'/\o=.cells cur 5 (0,0)/\D.length<=cap'/\cap'<=maxLen/\cur.size=cap'*1/\cur.toList.take (D.length*1)=D.map al)::G) a w:=h;obtain⟨o',⟨cap',cur,hv,rfl,h3,h4,h5,h6⟩,hp⟩:=hT'.pin;refine⟨g,cap,rfl,hp.Qo ⟨cur,rfl,by omega,fun j hj=>?_⟩⟩;have e1:cur[j]?=(D.map al)[j]?:=by rw[<- h6,getElem?_take,if_pos (by omega),Array.getElem?_toList]
  rw[e1,getElem?_map,getElem?_eq_getElem hj];exact⟨_,rfl⟩
theorem JT{F G:HF}{a w:World}{g n:Nat}(h:Turns F ((g,GU n)::G) a w)(k:Nat)(y:Int):Turns F ((g,GU n)::G) a (w.setCell ⟨g,k,none⟩ (.int .u8 y)):=by
 obtain⟨o,⟨cs,rfl,h1,h2⟩,hp⟩:=h.pin;refine(hp.Qa ((Mods.refl (fun k=>k=g) w).set1 _) (bn hp.sat.Q5 k _)).Qo ⟨_,rfl,by simpa using h1,fun j hj=>?_⟩;obtain⟨x,hx⟩:=h2 j hj;by_cases hjk:j=k
 ·subst hjk;exact⟨y,by rw[Array.getElem?_setIfInBounds_self_of_lt (by omega)]⟩
 ·exact⟨x,by rw[Array.getElem?_setIfInBounds_ne (by omega)];exact hx⟩
theorem Ib{F G:HF}{a w:World}{g n:Nat}(h:Turns F ((g,GU n)::G) a w){k:Nat}(hk:k<n):∃x:Int,w.cell? ⟨g,k,none⟩=some (.int .u8 x)/\w.frozen? ⟨g,k,none⟩=false/\g<w.heap.size:=by
 obtain⟨o,⟨cs,rfl,h1,h2⟩,hp⟩:=h.pin;obtain⟨x,hx⟩:=h2 k hk;exact⟨x,aa hp.sat.Q5 k hx,bc hp.sat.Q5 k,ae hp.sat.Q5⟩
theorem WsOk.outTo{w0 W W':World}{X:WS}(h:WsOk w0 W X){sp:List (Nat×Nat×Nat)}(hA:AreaOk { X.S.A with spare:=sp }){ov wv:Value}{D:Bs}(hov:bOk ov D)(hwv:j6 X.P wv D)(hD:D.length<=4000)(hT:Turns [] (wsF (Gi X sp ov wv D)) w0 W'):WsOk w0 W' (Gi X sp ov wv D) where
 turns:=hT
 a:=h.a
 r:=h.r
 d:=h.d
 ar:=h.ar.spare hA
 ref:=h.ref
 pok:=h.pok
 inp:=h.inp
 out:=hov
 want:=hwv
 most:=h.most
 ms:=h.ms
 link:=h.link.spare sp
 olen:=hD
theorem fK(n:Int)(w:World):Calls Tryz.prog 18 #[.int .i64 n] w (fun e w'=>e=.returned (.int .i64 n)/\w'=w):=by
 go_enter Tryz.func18,Tryz.ntmps18;go_wp2_with fail;go_ret;exact ⟨rfl,rfl⟩
end
section
section
variable {P:Program} {w:World}
def Ii(ops:Array Oper)(n:Nat):Bool:=(range ops.size).all fun t=>decide (t<=n) || (range t).any fun j=>decide (n<=j)&&Region.waitsFor .any ops t j
def KZ(l:List Oper)(n:Nat):Bool :=
 (l.take (n+1)).all (fun o=>o.guard.isNone)&&(range (n+1)).all (fun i=>(l[i]?).all fun o=>o.after.toList.all fun e => !Region.binds .any e || decide (e.on<i))&&decide (n<l.length)&&Ii l.toArray n &&
 Region.lexTailB .any (l.take (n+1)).toArray n&&Region.noSelect l.toArray&&Region.lexFrom .any l.toArray (l.length-(n+1)) (n+1) (Array.replicate (n+1) true++Array.replicate (l.length-(n+1)) false)
theorem AF(c:Array Bool)(m k:Nat):(c++Array.replicate m false).getD k false=c.getD k false:=by
 rcases Nat.lt_or_ge k c.size with h|h
 ·simp[Array.getElem?_append,h]
 ·rcases Nat.lt_or_ge (k-c.size) m with h2|h2
  ·simp[Array.getElem?_append,Nat.not_lt.2 h,h2]
  ·have:¬k<c.size+m:=by omega
   simp[Array.getElem?_append,Nat.not_lt.2 h,Nat.not_lt.2 h2]
theorem Id{c:Array Bool}{m k:Nat}{x:Bool}(h:k<c.size):(c++Array.replicate m false).getD k x=c.getD k x:=by simp[Array.getElem?_append,h]
theorem nU{l:List Oper}{n m:Nat}(_:n<l.length){c:Array Bool}(hc:c.size=n+1){i:Nat}(hi:i<=n):i∈Region.ready .any l.toArray (c++Array.replicate m false)↔i∈Region.ready .any (l.take (n+1)).toArray c:=by
 have e:(l.take (n+1)).toArray[i]?=l.toArray[i]?:=by simp[Nat.lt_succ_of_le hi]
 rw[mem_ready,mem_ready,e,Id (by omega)];simp only[AF]
theorem xt{l:List Oper}{n m:Nat}{c:Array Bool}(hc:c.size=n+1)(hb:Ii l.toArray n=true){i:Nat}(hi:n<i)(h:i∈Region.ready .any l.toArray (c++Array.replicate m false)):c.getD n false=true:=by
 obtain⟨-,o,h2,h3⟩:=mem_ready.1 h;have hil:i<l.toArray.size:=(Array.getElem?_eq_some_iff.1 h2).1;have h4:=all_eq_true.1 hb i (mem_range.2 hil);simp only[Bool.or_eq_true,decide_eq_true_eq,Nat.not_le.2 hi,false_or]at h4;obtain⟨j,hj,hj2⟩:=any_eq_true.1 h4;simp only[Bool.and_eq_true,decide_eq_true_eq]at hj2;obtain⟨o',ho',e,he,hbi,rfl⟩:=Region.waitsFor_spec hj2.2;obtain rfl:=Option.some.inj (h2.symm.trans ho');have h5:=h3 e he hbi;rw[AF]at h5
 have:e.on<c.size:=by
  rcases Nat.lt_or_ge e.on c.size with h|h
  ·exact h
  ·simp[Array.getElem?_eq_none h]at h5
 have:e.on=n:=by omega
 rw[<- this];exact h5
theorem EY{c r:Array Bool}{i:Nat}(h:i<c.size):(c++r).setIfInBounds i true=c.setIfInBounds i true++r:=by rw[Array.setIfInBounds_append_left h]
theorem GC{l:List Oper}{n i:Nat}{K:Act->Prop}{a:Act}(hi:i<=n)(hg:∀o∈l.take (n+1),o.guard=none)(h:stOp P (l.take (n+1)).toArray w i K a):stOp P l.toArray w i K a:=by
 have e:(l.take (n+1)).toArray[i]?=l.toArray[i]?:=by simp[Nat.lt_succ_of_le hi]
 unfold stOp at h ⊢;rw[<- e];split at h
 ·exact h
 ·rename_i o ho
  have hm:o∈l.take (n+1):=by
   have:(l.take (n+1))[i]?=some o:=by simpa using ho
   exact mem_of_getElem? this
  have hw:∀y,Region.wanted o y=true:=fun y=>by simp[Region.wanted,hg o hm]
  rw[hw]at h ⊢;exact h
theorem EB{l:List Oper}{n m g:Nat}{Q:Exit->Act->World->Prop}{L:Array Bool->Act->Prop}(hn:n<l.length)(hb:Ii l.toArray n=true)(hg:∀o∈l.take (n+1),o.guard=none)(hL:∀c a,c.size=n+1->c.getD n false=false->L c a->wpAny P .any l.toArray Q g (c++Array.replicate m false) a w):∀(f:Nat) (c:Array Bool) (a:Act),c.size=n+1->c.getD n false=false->wpAnyL P .any (l.take (n+1)).toArray w n L f c a->wpAny P .any l.toArray Q (f+g) (c++Array.replicate m false) a w
 | 0,c,a,hc,hu,h=>by rw[Nat.zero_add];exact hL c a hc hu h
 | f+1,c,a,hc,hu,h=>by
  rw[show f+1+g=(f+g)+1 by omega]
  obtain⟨i0,hi0⟩:=exists_mem_of_ne_nil _ h.1
  refine⟨fun h0=>?_,fun i hi=>?_⟩
  ·have h1:=(nU (m:=m) hn hc (by have:=(h.2 i0 hi0).1;omega)).2 hi0
   rw[h0]at h1;cases h1
  ·rcases Nat.lt_or_ge n i with hlt|hle
   ·have:=xt hc hb hlt hi
    rw[hu]at this;cases this
   ·obtain⟨h1,h2⟩:=h.2 i ((nU hn hc hle).1 hi)
    refine wpOp_of_stOp (fun a' h'=>?_) (GC hle hg h2)
    rw[EY (by omega)]
    exact EB hn hb hg hL f _ a' (by simp[hc]) (by rw[getD_set_ne false (by omega)];exact hu) h'
theorem CF{ops:Array Oper}{c:Array Bool}(hb:∀i o,ops[i]?=some o->∀e∈o.after,Region.binds .any e=true->e.on<i)(h:Region.ready .any ops c=[])(hc:c.size=ops.size):∀i,i<c.size->c.getD i false=true:=by
 intro i;induction i using Nat.strongRecOn with
 | _ i ih =>
  intro hi
  cases hl:c.getD i false with
  | true=>rfl
  | false =>
   exfalso;have ho:ops[i]?=some ops[i]:=Array.getElem?_eq_getElem (by omega);have:i∈Region.ready .any ops c:=mem_ready.2 ⟨getD_in hi hl,_,ho,fun e he hbi=>ih e.on (hb i _ ho e he hbi) (by have:=hb i _ ho e he hbi;omega)⟩;rw[h]at this;cases this
theorem bh{id:Nat}{Q:Exit->Act->World->Prop}{a:Act}{l:List Oper}{o:Oper}(n:Nat)(hm:P.follows .mixedOrders=true)(hB:KZ l n=true)(ho:l[n]?=some o)(h:wpStill P (l.take (n+1)).toArray w.drew (fun a'=>o.wp P a' w.drew (fun a2 w2=>wpStill P l.toArray w2 (fun a3=>Q .normal a3 w2) (l.drop (n+1)) a2) Q) (l.take n) a):(Code.region id l.toArray true).wp P Q a w:=by
 simp only[KZ,Bool.and_eq_true,decide_eq_true_eq]at hB;obtain⟨⟨⟨⟨⟨⟨hgu,hba⟩,hn⟩,hbk⟩,hlt⟩,hns⟩,hlf⟩:=hB;have hg:∀o∈l.take (n+1),o.guard=none:=fun o ho=>by simpa using all_eq_true.1 hgu o ho
 simp only[Region.lexTailB,Bool.and_eq_true,decide_eq_true_eq]at hlt;obtain⟨⟨⟨⟨hsel,hn1⟩,hs⟩,hch⟩,hlex⟩:=hlt;have hsz:(l.take (n+1)).toArray.size=n+1:=by simp;omega
 have htl:(l.take n).length=n:=by simp;omega
 rw[hsz]at hlex hn1
 have inv0:HeadInv .any (l.take (n+1)).toArray n (Array.replicate (n+1) false) :=
  ⟨by rw[hsz];simp,fun j oj _ hl=>(by rw[getD_replicate_false]at hl;cases hl),fun t _ ht=>getD_in (by rw[hsz]at ht;simpa using ht) (getD_replicate_false _ _)⟩
 have H:=wpAnyL_lex (P:=P) (md:=.any) (w:=w.drew) (g:=n+1-n) hsel hs hch (by omega) (l.take n) 0 (Array.replicate (n+1) false) a (fun j hj=>by
  rw[htl]at hj;simp[hj,Nat.lt_succ_of_lt hj]) (by simpa using htl) inv0 (by rw[htl];exact hlex) h
 rw[htl,show n+1-n=1 by omega]at H;obtain⟨m,hmm⟩:∃m,m=l.length-(n+1):=⟨_,rfl⟩
 have hrep:Array.replicate l.toArray.size false=Array.replicate (n+1) false++Array.replicate m false:=by
  rw[Array.replicate_append_replicate];congr 1;simp;omega
 refine wp_region_any hm ?_;rw[hrep,show l.toArray.size=n+(1+m) by simp;omega];refine EB hn hbk hg (fun c a' hc hu hL=>?_) n _ a (by simp) (getD_replicate_false _ _) H;obtain⟨hq,hw⟩:=hL;simp only[Region.seqB,Bool.and_eq_true,decide_eq_true_eq,isEmpty_iff]at hq
 have hall:c.setIfInBounds n true=Array.replicate (n+1) true:=by
  have h1:=CF (ops:=(l.take (n+1)).toArray) (c:=c.setIfInBounds n true) (fun i o' ho' e he hbi=>by
   have hi:i<n+1:=by have:=(Array.getElem?_eq_some_iff.1 ho').1;omega
   have h2:=all_eq_true.1 hba i (mem_range.2 hi);have h3:l[i]?=some o':=by simpa[getElem?_take,hi]using ho'
   rw[h3]at h2;simp only[Option.all_some]at h2;have h4:=all_eq_true.1 h2 e (by simpa using he);simpa[hbi]using h4) hq.2 (by rw[hsz];simpa using hc)
  refine Array.ext (by simp[hc]) fun i hi1 hi2=>?_
  have h2:=h1 i hi1;rw[Array.getElem_replicate];rw[Array.getD_eq_getD_getElem?,Array.getElem?_eq_getElem hi1]at h2;exact h2
 have hwn:∀y,Region.wanted o y=true:=fun y=>by
  have:o∈l.take (n+1):=by
   have h1:(l.take (n+1))[n]?=some o:=by simpa[getElem?_take]using ho
   exact mem_of_getElem? h1
  simp[Region.wanted,hg o this]
 have hon:l.toArray[n]?=some o:=by simpa using ho
 rw[Nat.add_comm 1 m];refine⟨fun h0=>?_,fun i hi=>?_⟩
 ·have:n∈Region.ready .any l.toArray (c++Array.replicate m false):=(nU hn hc (Nat.le_refl n)).2 (by rw[hq.1];simp);rw[h0]at this;cases this
 ·have hin:i=n:=by
   rcases Nat.lt_or_ge n i with hlt|hle
   ·have:=xt hc hbk hlt hi;rw[hu]at this;cases this
   ·have:=(nU hn hc hle).1 hi;rw[hq.1]at this;simpa using this
  subst hin;unfold wpOp;simp only[hon,hwn,if_true];refine .inl (Oper.wp_mono (fun a2 w2 h2=>?_) hw);rw[EY (by omega),hall];have h3:=wpAnyS_lex (P:=P) (md:=.any) (w:=w2) hns (l.drop (i+1)) (i+1) (Array.replicate (i+1) true++Array.replicate m false) a2 (fun j=>by simp[getElem?_drop]) (by rw[length_drop,<- hmm];rw[<- hmm]at hlf;exact hlf) h2;rw[length_drop,<- hmm]at h3;exact wpAny_of_still (fun _ h=>h) _ _ _ h3
end
end
section
open Go.RowKit Go.Maps
theorem mX(vs:List RVer)(v:RVer)(p:Bs):aH (vs++[v]) p=aH vs p++(if v.path=p then[v]else[]):=by
 unfold aH;rw[filter_append];congr 1;by_cases h:v.path=p<;>simp[h]
def rK(vs:List RVer)(p:Bs):EntL:=⟨p,((aH vs p).getLast?.map (·.num)).getD 0,((aH vs p).getLast?.map (fun v=>(v.cont.length:Int))).getD 0,(aH vs p).length⟩
structure EntInv (pre:Bs) (vs:List RVer) (es:List EntL):Prop where
 asc:es.Pairwise (fun a b=>bH a.p b.p=true)
 ent:∀e∈es,pre.isPrefixOf e.p=true/\(∃v∈vs,v.path=e.p)/\e=rK vs e.p
 all:∀v∈vs,pre.isPrefixOf v.path=true->∃e∈es,e.p=v.path
theorem mP{vs:List RVer}{v:RVer}{p:Bs}(h:¬v.path=p):rK (vs++[v]) p=rK vs p:=by
 unfold rK;rw[mX,if_neg h,append_nil]
theorem pa{vs:List RVer}{v:RVer}:rK (vs++[v]) v.path=⟨v.path,v.num,v.cont.length,(aH vs v.path).length+1⟩:=by
 unfold rK;rw[mX,if_pos rfl];simp
theorem EntInv.step{pre:Bs}{vs:List RVer}{es:List EntL}(h:EntInv pre vs es){v:RVer}(hs:∀u∈vs,bH v.path u.path=false):EntInv pre (vs++[v]) (gS pre es v):=by
 unfold gS;by_cases hp:pre.isPrefixOf v.path=true
 ·rw[if_pos hp]
  have hle:∀e∈es,bH v.path e.p=false:=fun e he=>by
   obtain⟨u,hu,e1⟩:=(h.ent e he).2.1;rw[<- e1];exact hs u hu
  rcases eq_nil_or_concat es with rfl|⟨es0,e,rfl⟩
  ·have hno:aH vs v.path=[]:=by
    unfold aH;rw[filter_eq_nil_iff];intro u hu;simp only[decide_eq_true_eq];intro e1;obtain⟨x,hx,-⟩:=h.all u hu (by rw[e1];exact hp)
    cases hx
   have e1:mQ (eL [] v.path) v.num v.cont.length=[⟨v.path,v.num,v.cont.length,0+1⟩]:=rfl;rw[e1];refine⟨pairwise_singleton _ _,fun e he=>?_,fun u hu hpu=>?_⟩
   ·obtain rfl:=mem_singleton.1 he;refine⟨hp,⟨v,by simp,rfl⟩,?_⟩;simp only;rw[pa,hno];rfl
   ·rcases mem_append.1 hu with hu|hu
    ·obtain⟨x,hx,-⟩:=h.all u hu hpu;cases hx
    ·obtain rfl:=mem_singleton.1 hu;exact⟨_,mem_singleton.2 rfl,rfl⟩
  ·rw[concat_eq_append]at h hle ⊢;have hpw:=pairwise_append.1 h.asc;by_cases hep:e.p=v.path
   ·have e1:eL (es0++[e]) v.path=es0++[e]:=by unfold eL;rw[if_pos (by simp[hep])]
    rw[e1,kG];have hn:=(h.ent e (by simp)).2.2;have hen:e.n=((aH vs v.path).length:Nat):=by rw[hn,<- hep];rfl
    have hlt:∀x∈es0,bH x.p v.path=true:=fun x hx=>by have:=hpw.2.2 x hx e (by simp);rw[hep]at this;exact this
    refine⟨pairwise_append.2 ⟨hpw.1,pairwise_singleton _ _,fun x hx y hy=>?_⟩,fun x hx=>?_,fun u hu hpu=>?_⟩
    ·obtain rfl:=mem_singleton.1 hy;simp only;rw[hep];exact hlt x hx
    ·rcases mem_append.1 hx with hx|hx
     ·obtain⟨a1,⟨u,hu,a2⟩,a3⟩:=h.ent x (by simp[hx]);refine⟨a1,⟨u,by simp[hu],a2⟩,?_⟩;rw[mP]
      ·exact a3
      ·intro e2;have:=hlt x hx;rw[e2,bR]at this;cases this
     ·obtain rfl:=mem_singleton.1 hx;refine⟨by simp only;rw[hep];exact hp,⟨v,by simp,hep.symm⟩,?_⟩;simp only;rw[hep,pa,hen]
    ·rcases mem_append.1 hu with hu|hu
     ·obtain⟨x,hx,a1⟩:=h.all u hu hpu;rcases mem_append.1 hx with hx|hx
      ·exact⟨x,by simp[hx],a1⟩
      ·obtain rfl:=mem_singleton.1 hx;exact⟨_,mem_append_right _ (mem_singleton.2 rfl),a1⟩
     ·obtain rfl:=mem_singleton.1 hu;exact⟨_,mem_append_right _ (mem_singleton.2 rfl),hep⟩
   ·have e1:eL (es0++[e]) v.path=es0++[e]++[⟨v.path,0,0,0⟩]:=by unfold eL;rw[if_neg (by simp[hep])]
    rw[e1,kG]
    have hlt:∀x∈es0++[e],bH x.p v.path=true:=fun x hx=>by
     cases hb:bH x.p v.path with
     | true=>rfl
     | false =>
      have hxe:=j8 _ _ hb (hle x hx);exfalso;rcases mem_append.1 hx with hx2|hx2
      ·have h2:=hpw.2.2 x hx2 e (by simp);rw[hxe]at h2;have:=hle e (by simp);rw[h2]at this;cases this
      ·obtain rfl:=mem_singleton.1 hx2;exact hep hxe
    have hno:aH vs v.path=[]:=by
     unfold aH;rw[filter_eq_nil_iff];intro u hu;simp only[decide_eq_true_eq];intro e2;obtain⟨x,hx,e3⟩:=h.all u hu (by rw[e2];exact hp);have:=hlt x hx;rw[e3,e2,bR]at this;cases this
    refine⟨pairwise_append.2 ⟨h.asc,pairwise_singleton _ _,fun x hx y hy=>?_⟩,fun x hx=>?_,fun u hu hpu=>?_⟩
    ·obtain rfl:=mem_singleton.1 hy;exact hlt x hx
    ·rcases mem_append.1 hx with hx|hx
     ·obtain⟨a1,⟨u,hu,a2⟩,a3⟩:=h.ent x hx;refine⟨a1,⟨u,by simp[hu],a2⟩,?_⟩;rw[mP]
      ·exact a3
      ·intro e2;have:=hlt x hx;rw[e2,bR]at this;cases this
     ·obtain rfl:=mem_singleton.1 hx;refine⟨hp,⟨v,by simp,rfl⟩,?_⟩;simp only;rw[pa,hno];rfl
    ·rcases mem_append.1 hu with hu|hu
     ·obtain⟨x,hx,a1⟩:=h.all u hu hpu;exact⟨x,mem_append_left _ hx,a1⟩
     ·obtain rfl:=mem_singleton.1 hu;exact⟨_,mem_append_right _ (mem_singleton.2 rfl),rfl⟩
 ·rw[if_neg hp];refine⟨h.asc,fun e he=>?_,fun u hu hpu=>?_⟩
  ·obtain⟨a1,⟨u,hu,a2⟩,a3⟩:=h.ent e he;refine⟨a1,⟨u,by simp[hu],a2⟩,?_⟩;rw[mP]
   ·exact a3
   ·intro e2;rw[e2]at hp;exact hp a1
  ·rcases mem_append.1 hu with hu|hu
   ·exact h.all u hu hpu
   ·obtain rfl:=mem_singleton.1 hu;exact absurd hpu hp
theorem wO(pre:Bs){vs:List RVer}(hs:vs.Pairwise (fun a b=>bH b.path a.path=false)):∀k,k<=vs.length->EntInv pre (vs.take k) (gK pre (vs.take k))
 | 0,_=>⟨Pairwise.nil,(fun e he=>by cases he),(fun v hv=>by cases hv)⟩
 | k+1,hk=>by
  rw[tQ (by omega),QH (by omega)]
  refine(wO pre hs k (by omega)).step (fun u hu=>?_)
  have h1:=pairwise_iff_getElem.1 hs
  obtain⟨i,hi,rfl⟩:=getElem_of_mem hu
  rw[length_take]at hi
  rw[getElem_take]
  exact h1 i k (by omega) (by omega) (by omega)
theorem FN(pre:Bs){vs:List RVer}(hs:vs.Pairwise (fun a b=>bH b.path a.path=false)):EntInv pre vs (gK pre vs):=by
 have:=wO pre hs vs.length (Nat.le_refl _);rwa [take_length]at this
theorem xv:∀{l m:List EntL},l.Pairwise (fun a b=>bH a.p b.p=true)->m.Pairwise (fun a b=>bH a.p b.p=true)->(∀x,x∈l↔x∈m)->l=m
 | [],[],_,_,_=>rfl
 | [],b::m,_,_,h=>by have:=(h b).2 (by simp);cases this
 | a::l,[],_,_,h=>by have:=(h a).1 (by simp);cases this
 | a::l,b::m,hl,hm,h=>by
  rw[pairwise_cons]at hl hm
  have hirr:∀x y:EntL,bH x.p y.p=true->x≠y:=fun x y hxy e=>by rw[e,bR]at hxy;cases hxy
  have hab:a=b:=by
   rcases mem_cons.1 ((h a).1 (by simp))with h1|h1
   ·exact h1
   ·rcases mem_cons.1 ((h b).2 (by simp))with h2|h2
    ·exact h2.symm
    ·have h3:=hm.1 a h1;have h4:=hl.1 b h2;rw[lN h3]at h4;cases h4
  subst hab;congr 1;refine xv hl.2 hm.2 (fun x=>⟨fun hx=>?_,fun hx=>?_⟩)
  ·rcases mem_cons.1 ((h x).1 (by simp[hx]))with h1|h1
   ·exact absurd h1.symm (hirr _ _ (hl.1 x hx))
   ·exact h1
  ·rcases mem_cons.1 ((h x).2 (by simp[hx]))with h1|h1
   ·exact absurd h1.symm (hirr _ _ (hm.1 x hx))
   ·exact h1
theorem IC{ps:List ba}(hn:(ps.map (·.key)).Nodup):∀{p:ba},p∈ps->ps.find? (fun q=>decide (q.key=p.key))=some p:=by
 induction ps with
 | nil=>intro p hp;cases hp
 | cons a r ih =>
  intro p hp;rw[map_cons,nodup_cons]at hn;rcases mem_cons.1 hp with rfl|hp
  ·rw[find?_cons_of_pos (by simp)]
  ·rw[find?_cons_of_neg (by
    simp only[decide_eq_true_eq];intro e;exact hn.1 (e ▸ mem_map.2 ⟨p,hp,rfl⟩))]
   exact ih hn.2 hp
theorem lW{ps:List ba}{c:Nat}(h:PathsOk ps c):(ps.map (·.key)).Nodup:=by
 have:=h.map.nodup;rw[map_map]at this;exact this
theorem go{ps:List ba}{c:Nat}(h:PathsOk ps c){p:ba}(hp:p∈ps):af ps p.key=p.g:=by
 unfold af gOf;rw[IC (lW h) hp]
theorem Link.pEnt{S:AS}{R:RefL}(L:Link S R)(hok:ArOk S){p:ba}(hp:p∈S.ps):pEnt p=rK R.vs p.key/\aH R.vs p.key≠[]:=by
 have hv:=L.vers p.key;rw[go hok.paths hp]at hv;have hne:=hok.some p hp;have hlen:=congrArg length hv;rw[length_map,length_map]at hlen;have hne2:aH R.vs p.key≠[]:=fun e=>by rw[e]at hlen;exact hne (length_eq_zero_iff.1 hlen)
 refine⟨?_,hne2⟩;have hl:=congrArg getLast? hv;rw[getLast?_map,getLast?_map]at hl;unfold Go.Proofs.YtdhobpbngkainabGreatDoor.pEnt rK AZ
 obtain⟨V,hV⟩:∃V,p.g.getLast?=some V:=by
  cases h:p.g.getLast? with
  | none=>exact absurd (getLast?_eq_none_iff.1 h) hne
  | some V=>exact⟨V,rfl⟩
 obtain⟨v,hv2⟩:∃v,(aH R.vs p.key).getLast?=some v:=by
  cases h:(aH R.vs p.key).getLast? with
  | none=>exact absurd (getLast?_eq_none_iff.1 h) hne2
  | some v=>exact⟨v,rfl⟩
 rw[hV,hv2]at hl;simp only[Option.map_some,Option.some.injEq]at hl;rw[hV,hv2];have h1:(V.num:Int)=v.num:=congrArg (fun t:ku=>t.1) hl;have h2:cE S V=v.cont:=congrArg (fun t:ku=>t.2.1) hl;have h3:(cE S V).length=V.size:=jR hok hp (mem_of_getLast? hV);simp only[Option.getD_some,Option.map_some,h1,EntL.mk.injEq,true_and];exact⟨by rw[<- h3,h2],by rw[hlen]⟩
theorem Link.list{S:AS}{R:RefL}(L:Link S R)(hok:ArOk S)(pre:Bs){es:List EntL}(h:Cy (fa pre S.ps) es):es=gK pre R.vs:=by
 have hI:=FN pre L.sorted
 have hmem:∀x,x∈es↔∃p∈S.ps,pre.isPrefixOf p.key=true/\x=Go.Proofs.YtdhobpbngkainabGreatDoor.pEnt p:=fun x=>by
  rw[h.1.mem_iff];unfold fa;simp only[mem_map,mem_filter];exact⟨fun⟨p,⟨h1,h2⟩,h3⟩=>⟨p,h1,h2,h3.symm⟩,fun⟨p,h1,h2,h3⟩=>⟨p,⟨h1,h2⟩,h3.symm⟩⟩
 refine xv ?_ hI.asc (fun x=>?_)
 ·have hnd:(es.map (·.p)).Nodup:=by
   have h1:(es.map (·.p)).Perm ((fa pre S.ps).map (·.p)):=h.1.map _;rw[h1.nodup_iff];unfold fa;rw[map_map];have h2:=lW hok.paths;have h3:(S.ps.filter (fun p=>pre.isPrefixOf p.key)).map (fun p=>p.key)=((S.ps.filter (fun p=>pre.isPrefixOf p.key)).map ((·.p) ∘ Go.Proofs.YtdhobpbngkainabGreatDoor.pEnt)):=rfl;rw[<- h3];exact Nodup.sublist (filter_sublist.map _) h2
  rw[pairwise_iff_getElem];intro i j hi hj hij;have h2:=h.2 i j hij hj hi
  cases hb:bH es[i].p es[j].p with
  | true=>rfl
  | false =>
   exfalso;have he:=j8 _ _ hb h2;have h3:=(pairwise_iff_getElem.1 hnd) i j (by simpa using hi) (by simpa using hj) hij;simp only[getElem_map]at h3;exact h3 he
 ·rw[hmem];refine⟨fun⟨p,hp,hpre,he⟩=>?_,fun hx=>?_⟩
  ·obtain⟨h1,h2⟩:=L.pEnt hok hp;obtain⟨v,hv⟩:=exists_mem_of_ne_nil _ h2;obtain⟨hv1,hv2⟩:=mem_filter.1 hv;simp only[decide_eq_true_eq]at hv2;obtain⟨e,he2,he3⟩:=hI.all v hv1 (by rw[hv2];exact hpre);have h3:=(hI.ent e he2).2.2;rw[he3,hv2]at h3;rw[he,h1,<- h3];exact he2
  ·obtain⟨h1,⟨v,hv1,hv2⟩,h3⟩:=hI.ent x hx
   have hne:af S.ps x.p≠[]:=fun e=>by
    have h4:=L.vers x.p;rw[e]at h4;have h5:v∈aH R.vs x.p:=mem_filter.2 ⟨hv1,by simpa using hv2⟩;have h6:=congrArg length h4;rw[length_map,length_map]at h6;have:=length_pos_of_mem h5;simp only[length_nil]at h6;omega
   obtain⟨p,hp,hk,-⟩:=bD hne;refine⟨p,hp,by rw[hk];exact h1,?_⟩;rw[(L.pEnt hok hp).1,hk];exact h3
theorem kC{K K':List (Bs×Nat×Nat)}{q:Nat×Nat}(h:∃e∈K,e.2=q):bq (K++K') q=bq K q:=by
 unfold bq;rw[find?_append];obtain⟨e,he,hq⟩:=h
 cases hf:K.find? (fun e=>decide (e.2=q))with
 | some x=>simp
 | none=>exact absurd hq (by simpa using find?_eq_none.1 hf e he)
theorem gy{α β:Type}{f g:α->List β}:∀{l:List α},(∀x∈l,f x=g x)->l.flatMap f=l.flatMap g
 | [],_=>rfl
 | a::r,h=>by rw[flatMap_cons,flatMap_cons,h a (by simp),gy (fun x hx=>h x (by simp[hx]))]
theorem tF{S S':AS}{K':List (Bs×Nat×Nat)}(hK:S'.K=S.K++K'){V:VerL}(h:∀q∈V.chs,∃e∈S.K,e.2=q):cE S' V=cE S V:=by
 unfold cE;rw[hK];exact gy (fun q hq=>kC (h q hq))
theorem tx{vs:List RVer}(hs:vs.Pairwise (fun a b=>bH b.path a.path=false))(p:Bs):∀k,k<=vs.length->(∀i (h:i<vs.length),i<il vs p k->bH p vs[i].path=false)/\(∀i (h:i<vs.length),il vs p k<=i->i<k->bH p vs[i].path=true)
 | 0,_=>⟨fun i _ h=>by simp[il]at h,fun i _ _ h=>by omega⟩
 | k+1,hk=>by
  obtain⟨h1,h2⟩:=tx hs p k (by omega)
  rw[wB (by omega)]
  cases hb:bH p vs[k].path with
  | true =>
   rw[if_pos rfl]
   refine⟨h1,fun i hi h3 h4=>?_⟩
   by_cases hik:i=k
   ·subst hik;exact hb
   ·exact h2 i hi h3 (by omega)
  | false =>
   rw[if_neg (by simp)]
   refine⟨fun i hi h3=>?_,fun i hi h3 h4=>by omega⟩
   by_cases hik:i=k
   ·subst hik;exact hb
   ·have h5:=pairwise_iff_getElem.1 hs i k hi (by omega) (by omega)
    cases hb2:bH p vs[i].path with
    | false=>rfl
    | true =>
     exfalso
     cases h6:bH vs[k].path p with
     | true=>rw[gV h6 hb2]at h5;cases h5
     | false =>
      have:=j8 _ _ hb h6
      rw[this]at hb2
      rw[h5]at hb2;cases hb2
theorem AO{vs:List RVer}(hs:vs.Pairwise (fun a b=>bH b.path a.path=false))(p:Bs):(∀v∈vs.take (il vs p vs.length),bH p v.path=false)/\(∀v∈vs.drop (il vs p vs.length),bH p v.path=true):=by
 obtain⟨h1,h2⟩:=tx hs p vs.length (Nat.le_refl _);refine⟨fun v hv=>?_,fun v hv=>?_⟩
 ·obtain⟨i,hi,rfl⟩:=getElem_of_mem hv;rw[length_take]at hi;rw[getElem_take];exact h1 i (by omega) (by omega)
 ·obtain⟨i,hi,rfl⟩:=getElem_of_mem hv;rw[length_drop]at hi;rw[getElem_drop];exact h2 _ (by omega) (by omega) (by omega)
theorem Dm{vs:List RVer}(hs:vs.Pairwise (fun a b=>bH b.path a.path=false)){p:Bs}{x:RVer}(hx:x.path=p):(dd vs p x).Pairwise (fun a b=>bH b.path a.path=false):=by
 obtain⟨h1,h2⟩:=AO hs p;have h3:(vs.take (il vs p vs.length)++vs.drop (il vs p vs.length)).Pairwise (fun a b=>bH b.path a.path=false):=by rw[take_append_drop];exact hs
 rw[pairwise_append]at h3;unfold dd;rw[pairwise_append,pairwise_append];refine⟨⟨h3.1,pairwise_singleton _ _,fun a ha b hb=>?_⟩,h3.2.1,fun a ha b hb=>?_⟩
 ·obtain rfl:=mem_singleton.1 hb;rw[hx];exact h1 a ha
 ·rcases mem_append.1 ha with ha|ha
  ·exact h3.2.2 a ha b hb
  ·obtain rfl:=mem_singleton.1 ha;rw[hx];exact lN (h2 b hb)
theorem Dl{vs:List RVer}(hs:vs.Pairwise (fun a b=>bH b.path a.path=false)){p:Bs}{x:RVer}(hx:x.path=p)(q:Bs):aH (dd vs p x) q=if q=p then aH vs p++[x]else aH vs q:=by
 obtain⟨h1,h2⟩:=AO hs p
 have hsplit:∀q,aH vs q=aH (vs.take (il vs p vs.length)) q++aH (vs.drop (il vs p vs.length)) q:=fun q=>by
  unfold aH;rw[<- filter_append,take_append_drop]
 have hno:aH (vs.drop (il vs p vs.length)) p=[]:=by
  unfold aH;rw[filter_eq_nil_iff];intro v hv;simp only[decide_eq_true_eq];intro e;have:=h2 v hv;rw[e,bR]at this;cases this
 have e1:aH (dd vs p x) q=aH (vs.take (il vs p vs.length)) q++(if p=q then[x]else[])++aH (vs.drop (il vs p vs.length)) q:=by
  unfold dd aH;rw[filter_append,filter_append];congr 2;by_cases h:p=q<;>simp[hx,h]
 rw[e1];by_cases hq:q=p
 ·subst hq;rw[if_pos rfl,if_pos rfl,hsplit,hno,append_nil,append_nil]
 ·rw[if_neg (fun e=>hq e.symm),if_neg hq,append_nil,<- hsplit]
theorem nQ{vs:List RVer}{p:Bs}{x v:RVer}:v∈dd vs p x↔v∈vs\/v=x:=by
 unfold dd;rw[mem_append,mem_append,mem_singleton];constructor
 ·rintro((h|h)|h)
  ·exact .inl (mem_of_mem_take h)
  ·exact .inr h
  ·exact .inl (mem_of_mem_drop h)
 ·rintro(h|h)
  ·rw[<- take_append_drop (il vs p vs.length) vs]at h;rcases mem_append.1 h with h|h
   ·exact .inl (.inl h)
   ·exact .inr h
  ·exact .inl (.inr h)
theorem IR{vs:List RVer}{p:Bs}{x:RVer}:fS (dd vs p x)=fS vs+x.cont.length:=by
 unfold dd fS;rw[map_append,map_append,sum_append,sum_append]
 have:(vs.map (·.cont.length)).sum=((vs.take (il vs p vs.length)).map (·.cont.length)).sum+((vs.drop (il vs p vs.length)).map (·.cont.length)).sum:=by
  rw[<- sum_append,<- map_append,take_append_drop]
 simp only[map_cons,map_nil,sum_cons,sum_nil];omega
theorem EE{vs:List RVer}{p:Bs}{x:RVer}:(dd vs p x).length=vs.length+1:=by
 unfold dd;have:=yc vs p vs.length;simp;omega
theorem nT(vs:List RVer)(p:Bs):∀k,k<=vs.length->i5 vs p k=((aH (vs.take k) p).getLast?.map (·.num)).getD 0+1
 | 0,_=>by simp[i5,aH]
 | k+1,hk=>by
  rw[xf (by omega),QH (by omega),mX]
  by_cases h:vs[k].path=p
  ·rw[if_pos h,if_pos h];simp
  ·rw[if_neg h,if_neg h,append_nil]
   exact nT vs p k (by omega)
theorem Link.nr{S:AS}{R:RefL}(L:Link S R)(l:Bs):i5 R.vs l R.vs.length=(eM (af S.ps l):Nat)+1:=by
 rw[nT _ _ _ (Nat.le_refl _),take_length];have h:=congrArg getLast? (L.vers l);rw[getLast?_map,getLast?_map]at h;unfold eM
 cases h1:(af S.ps l).getLast? with
 | none =>
  rw[h1]at h
  cases h2:(aH R.vs l).getLast? with
  | none=>rfl
  | some v=>rw[h2]at h;cases h
 | some V =>
  rw[h1]at h
  cases h2:(aH R.vs l).getLast? with
  | none=>rw[h2]at h;cases h
  | some v =>
   rw[h2]at h;simp only[Option.map_some,Option.some.injEq]at h;have:(V.num:Int)=v.num:=congrArg (fun t:ku=>t.1) h;simp only[Option.map_some,Option.getD_some];omega
theorem Dj{ts:List RTag}{p:Bs}{n:Int}(h:∀t∈ts,¬(t.path=p/\t.num=n)):iQ ts p n=0:=by
 unfold iQ;rw[countP_eq_zero.2 (fun t ht=>by simpa using h t ht)];rfl
theorem Link.put{S S':AS}{R:RefL}(L:Link S R)(hok:ArOk S)(hok':ArOk S'){l D:Bs}{V:VerL}(h:PutStep S S' l D V)(hl:aq l=true)(hD:D.length<=4000){vv cv:Value}:
  Link S' { R with vv:=vv,vs:=dd R.vs l ⟨l,i5 R.vs l R.vs.length,D,cv,0⟩ }:=by
 have hnr:=L.nr l
 have hpos:∀v∈aH R.vs l,1<=v.num/\v.num<i5 R.vs l R.vs.length:=by
  intro v hv;refine⟨(L.each v (mem_filter.1 hv).1).1,?_⟩;rw[nT _ _ _ (Nat.le_refl _),take_length];have ha:=L.asc l;obtain⟨i,hi,rfl⟩:=getElem_of_mem hv;rw[getLast?_eq_getElem?,getElem?_eq_getElem (by omega)];simp only[Option.map_some,Option.getD_some];by_cases hlast:i=(aH R.vs l).length-1
  ·subst hlast;omega
  ·have:=pairwise_iff_getElem.1 ha i ((aH R.vs l).length-1) (by simpa using hi) (by simp;omega) (by omega);simp only[getElem_map]at this;omega
 obtain⟨x,hx⟩:∃x:RVer,x=⟨l,i5 R.vs l R.vs.length,D,cv,0⟩:=⟨_,rfl⟩;have hxp:x.path=l:=by rw[hx]
 have hins:=Dl L.sorted hxp;rw[hx]at hins;have hnr1:1<=i5 R.vs l R.vs.length:=by rw[hnr];omega
 refine⟨?_,?_,?_,fun p=>?_,Dm L.sorted rfl,fun p=>?_,fun v hv=>?_,?_,L.tsort,fun t ht=>?_,fun v hv=>?_⟩
 ·simp only;rw[h.closed];exact L.closed
 ·simp only;rw[h.quota];exact L.quota
 ·simp only;rw[h.used,L.used,IR];simp only;omega
 ·simp only;rw[h.vers,hins]
  have hold:∀q,(af S.ps q).map (cX S')=(af S.ps q).map (cX S):=fun q=>by
   refine map_congr_left (fun V' hV'=>?_);obtain⟨p',hp',hk,hg⟩:=bD (ne_nil_of_mem hV');unfold cX;rw[tF h.K (hok.vers p' hp' V' (hg ▸ hV')).1]
  by_cases hp:p=l
  ·subst hp;rw[if_pos rfl,if_pos rfl,map_append,map_append,hold,L.vers];congr 1;simp only[map_cons,map_nil,cX,gn];rw[Ah hok' h.nchs h.chs,h.held,h.num,hnr];simp
  ·rw[if_neg hp,if_neg hp,hold,L.vers]
 ·simp only;rw[hins];by_cases hp:p=l
  ·subst hp;rw[if_pos rfl,map_append,pairwise_append];refine⟨L.asc p,pairwise_singleton _ _,fun a ha b hb=>?_⟩;obtain⟨v,hv,rfl⟩:=mem_map.1 ha;simp only[map_cons,map_nil,mem_singleton]at hb;subst hb;exact(hpos v hv).2
  ·rw[if_neg hp];exact L.asc p
 ·rcases nQ.1 hv with hv|rfl
  ·exact L.each v hv
  ·exact⟨hnr1,hl,hD⟩
 ·simp only;rw[h.ts];exact L.tags
 ·obtain⟨h1,v,hv,h2⟩:=L.teach t ht;exact⟨h1,v,nQ.2 (.inl hv),h2⟩
 ·rcases nQ.1 hv with hv|rfl
  ·exact L.held v hv
  ·refine(Dj (fun t ht=>?_)).symm;rintro⟨e1,e2⟩;obtain⟨-,v,hv,e3,e4⟩:=L.teach t ht;simp only at e1 e2;have:=hpos v (mem_filter.2 ⟨hv,by simp[e3,e1]⟩);omega
def jY(w0:World)(X:WS)(e:Ending)(W':World):Prop:=∃sp ov wv D,e=.returned (.bool true)/\WsOk w0 W' (Gi X sp ov wv D)
theorem WsOk.back{w0 W W':World}{X:WS}(h:WsOk w0 W X)(hT:Turns [] (wsF X) w0 W'):WsOk w0 W' X:={ h with turns:=hT }
theorem bA{l:Bs}(h:aq l=true):l.length<=20:=by
 unfold aq at h;simp only[Bool.and_eq_true,decide_eq_true_eq]at h;exact h.1.2
def eB(l:List VerL):List Int:=l.map (fun V=>(V.num:Int))
def ya(S:AS)(l:Bs)(w:World)(e:Ending)(w':World):Prop :=
 (∃k,jb S l 0 k/\e=.returned (.tuple #[.slice none 0 0,ck k])/\Turns (arF S) (arF S) w w') \/
 (∃V v,iP S l 0 V/\e=.returned (.tuple #[v,.nilIface])/\iOk v (eB (af S.ps l))/\Turns (arF S) (bZ v (eB (af S.ps l))++arF S) w w')
def zL(S:AS)(vs:List VerL)(w:World)(out i:Value)(W:World):Prop :=
 ∃(j:Nat) (J:HF),j<=vs.length/\i=.int .i64 j/\iOk out (eB (vs.take j))/\Turns (arF S) (bZ out (eB (vs.take j))++(arF S++J)) w W
theorem zf{S:AS}{b:Nat}(hB:ArB S b)(l:Bs):(af S.ps l).length<=b:=by
 unfold af gOf
 cases hg:S.ps.find? (fun p=>decide (p.key=l))with
 | none=>simp
 | some p=>exact(hB.vers p (mem_of_find?_eq_some hg)).2.1
theorem tg(S:AS)(l:Bs)(b:Nat)(w:World)(h:Sat w (arF S))(hok:ArOk S)(hB:ArB S b)(hb:b<=90000):
  Calls Tryz.prog 41 #[.pointer (some ⟨S.a,0,none⟩),str l] w (ya S l w):=by
 have HF:=qqH (iV S.a S.X S.ps S.pc l 0 w h.Q5 (h.tail.right.right.left) hok.paths);have HH:=Hq4 h hok hB hb;clear h hok hB hb;go_enter Tryz.func41,Tryz.ntmps41;go_wp2_with fail;refine HF.out.mono ?_;intro e w1 hp;obtain⟨hs,⟨k,hk,rfl⟩|⟨V,hV,rfl⟩⟩:=iW hp
 ·have HK:=Hq2 hk hs;clear hp hs hk;unfold ck;go_wp2_with fail;exact bodyPost_ret (results_tmp2 rfl _ _ _) rfl (.inl ⟨k,HK.a,rfl,(Turns.same HH.a HK.z)⟩)
 ·have hT1:Turns (arF S) (arF S) w w1:=Turns.same HH.a hs;have ha1:=hT1.sat.Q5;have c0:w1.cell? ⟨S.a,0,none⟩=some (.map (some S.X.pm)):=aa ha1 0 rfl;have hpm:=hT1.sat.Q7 (b:=S.X.pm) (o:=aO str (S.ps.map aN) S.pc) (by simp[arF,aF]);have hal:=ae ha1;obtain⟨sl,cap,e1,e2,e3,e4,-,-⟩:=fo (hT1.sat.tail.right.right.left) HH.b.paths l;obtain⟨vs,hvs⟩:∃vs,vs=af S.ps l:=⟨_,rfl⟩;rw[<- hvs]at e1 e2 e4;have hvl:vs.length<=90000:=by rw[hvs];have:=zf HH.c l;have:=HH.x;omega
  have hOl:OkS l:=by have:=bA hV.2.1;unfold OkS;omega
  have HV:=Hq7 hV hT1 hpm e1 e4 hvs hOl;clear hp hs hV hT1 ha1 hpm e1 e4 hvs hOl;unfold dH;go_wp2_with ((refine dQ dK rfl _ _ rfl Tryz.underlying51 HV.c HH.b.paths.map (fN _) l rfl rfl HV.u ?_;rw[cP,HV.d]));go_loopw [8,28] (fun out i wr=>zL S vs w out i wr) (fun _ i _=>vs.length-(intOf i).toNat)
  case atStart=>exact⟨0,[],Nat.zero_le _,rfl,lV,by rw[append_nil];exact HV.b⟩
  case round =>
   obtain⟨j,J,hj,rfl,hio,hT⟩:=hrel;have HR:=Hq2 hio hT;clear hio hT;by_cases hlt:j<vs.length
   ·obtain⟨sl2,cap2,e1',-,-,e4',e5',-⟩:=fo (w:=wr) (HR.z.sat.sub (G:=aF S.X.pm S.ps S.pc) (fun x=>by simp only[arF,ao,ai]<;>omega)) HH.b.paths l;rw[HV.d]at e1';simp only[Value.slice.injEq]at e1';obtain⟨rfl,-,rfl⟩:=e1';rw[<- HV.f]at e4' e5';obtain⟨g,off,hg,hcell⟩:=e4' (by rw[length_map];omega);subst hg;have hc1:=hcell j (by rw[length_map];exact hlt);rw[getElem_map]at hc1;obtain⟨U,hU⟩:∃U,U=vs[j]:=⟨_,rfl⟩;rw[<- hU]at hc1;unfold dH at hc1;have hub:=e5' U (by rw[hU];exact getElem_mem hlt);have hc2:wr.cell? ⟨U.blk,0,none⟩=some (.int .i64 U.num):=aa hub 0 rfl
    have htk:eB (vs.take (j+1))=eB (vs.take j)++[(U.num:Int)]:=by
     unfold eB;rw[QH hlt,hU,map_append];rfl
    have hlen:(eB (vs.take j)).length<=90000:=by simp[eB];omega
    have HU:=Hq2 htk hlen;obtain⟨ns,hns⟩:∃ns,ns=eB (vs.take j):=⟨_,rfl⟩;rw[<- hns]at HR HU;clear e4' e5' hcell hU hub htk hlen hns;go_wp2_with ((at_builtin;refine ah rfl ?_;refine kq (.tmp 32) (.tmp 37) rfl _ ns rfl (HR.z.alloc _) HR.a _ 1 1 rfl [(U.num:Int)] rfl (fun _=>⟨_,rfl,fun j u hu=>ic _ _ _ j u hu⟩) (by have:=HU.z;simp;omega) ?_;intro av cv w5 hok5 hT5;have H5:=Hq2 hok5 hT5;clear hok5 hT5));go_roundw
    case rel =>
     refine⟨j+1,J,by omega,by go_num,?_,?_⟩
     ·rw[HU.a];have:=H5.a;rw[length_append]at this;exact this
     ·rw[HU.a];have:=H5.z;rw[length_append]at this;exact this
    case measure=>simp[intOf];omega
   ·obtain rfl:j=vs.length:=by omega
    rw[take_length]at HR;go_wp2_with fail;go_ret2;refine (.inr ⟨V,u8,HV.a,rfl,?_,?_⟩)
    ·rw[<- HV.f];exact HR.a
    ·rw[<- HV.f];exact HR.z.drop (fun x=>by simp only[ai];omega)
end
section
open Go.RowKit
def zG(b:Bool)(w:World)(e:Ending)(w':World):Prop:=e=.returned (.bool b)/\gE w w'
theorem qr(a1 a2:Option Addr)(c1 c2:Nat)(xs ys:List Int)(w:World)(h1:ak w a1 (xs.map di))(h2:ak w a2 (ys.map di))(hx:xs.length<=1099511627776)(hy:ys.length<=1099511627776):
  Calls Tryz.prog 43 #[.slice a1 xs.length c1,.slice a2 ys.length c2] w (zG (decide (xs=ys)) w):=by
 by_cases hl:xs.length=ys.length
 ·have hb:((xs.length:Int) != (ys.length:Int))=false:=by simp;omega
  have HL:=qqH hl;clear hl;go_enter Tryz.func43,Tryz.ntmps43;go_wp2;go_loopw [5] (fun i wr=>∃k:Nat,k<=xs.length/\i=.int .i64 k/\xs.take k=ys.take k/\gE w wr) (fun i _=>xs.length-(intOf i).toNat)
  case atStart=>exact⟨0,Nat.zero_le _,rfl,rfl,gE.refl _⟩
  case round =>
   obtain⟨k,hk,rfl,ht,n,rfl⟩:=hrel;have HT:=qqH ht;clear ht;by_cases hlt:k<xs.length
   ·have hlt2:k<ys.length:=by have:=HL.out;omega
    obtain⟨g1,o1,rfl,hc1⟩:=kE di h1 (by omega);obtain⟨g2,o2,rfl,hc2⟩:=kE di h2 (by omega);have k1:=hc1 k hlt;have k2:=hc2 k hlt2;unfold di at k1 k2;clear hc1 hc2 h1 h2;obtain⟨x,hxk⟩:∃x,x=xs[k]:=⟨_,rfl⟩;obtain⟨y,hyk⟩:∃y,y=ys[k]:=⟨_,rfl⟩;rw[<- hxk]at k1;rw[<- hyk]at k2;have HX:=Hq2 hxk hyk;clear hxk hyk;by_cases he:x=y
    ·have hq:(x != y)=false:=by simp[he]
     have HE:=qqH he;clear he;go_wp2;go_region;go_wp2;go_roundw
     case rel=>exact⟨k+1,by omega,by go_num,qv HT.out hlt hlt2 (by rw[<- HX.a,<- HX.z,HE.out]),(gE.drewN (gE.refl w) n).drew⟩
     case measure=>simp[intOf];omega
    ·have hq:(x != y)=true:=by simp[he]
     have hne:decide (xs=ys)=false:=by
      apply decide_eq_false;rintro rfl;exact he (HX.a.trans HX.z.symm)
     have HN:=qqH hne;clear he hne;go_wp2;go_region;go_wp2;go_ret;exact⟨lB HN.out.symm,(gE.drewN (gE.refl w) n).drew⟩
   ·have hkx:k=xs.length:=by omega
    have heq:decide (xs=ys)=true:=by
     apply decide_eq_true;have:=HT.out;rw[hkx,take_length,take_of_length_le (by have:=HL.out;omega)]at this;exact this
    have HN:=qqH heq;clear heq hkx;go_wp2;go_ret;exact⟨lB HN.out.symm,gE.drewN (gE.refl w) n⟩
 ·have hb:((xs.length:Int) != (ys.length:Int))=true:=by simp;omega
  have hne:decide (xs=ys)=false:=by apply decide_eq_false;rintro rfl;exact hl rfl
  have HN:=qqH hne;clear hne;go_enter Tryz.func43,Tryz.ntmps43;go_wp2;go_ret;exact⟨lB HN.out.symm,gE.refl w⟩
theorem uM(a1 a2:Option Addr)(c1 c2:Nat)(xs ys:List UInt8)(w:World)(h1:ak w a1 (xs.map al))(h2:ak w a2 (ys.map al))(hx:xs.length<=1099511627776)(hy:ys.length<=1099511627776):
  Calls Tryz.prog 40 #[.slice a1 xs.length c1,.slice a2 ys.length c2] w (zG (decide (xs=ys)) w):=by
 by_cases hl:xs.length=ys.length
 ·have hb:((xs.length:Int) != (ys.length:Int))=false:=by simp;omega
  have HL:=qqH hl;clear hl;go_enter Tryz.func40,Tryz.ntmps40;go_wp2;go_loopw [5] (fun i wr=>∃k:Nat,k<=xs.length/\i=.int .i64 k/\xs.take k=ys.take k/\gE w wr) (fun i _=>xs.length-(intOf i).toNat)
  case atStart=>exact⟨0,Nat.zero_le _,rfl,rfl,gE.refl _⟩
  case round =>
   obtain⟨k,hk,rfl,ht,n,rfl⟩:=hrel;have HT:=qqH ht;clear ht;by_cases hlt:k<xs.length
   ·have hlt2:k<ys.length:=by have:=HL.out;omega
    obtain⟨g1,o1,rfl,hc1⟩:=kE al h1 (by omega);obtain⟨g2,o2,rfl,hc2⟩:=kE al h2 (by omega);have k1:=hc1 k hlt;have k2:=hc2 k hlt2;unfold al at k1 k2;clear hc1 hc2 h1 h2;obtain⟨x,hxk⟩:∃x,x=xs[k]:=⟨_,rfl⟩;obtain⟨y,hyk⟩:∃y,y=ys[k]:=⟨_,rfl⟩;rw[<- hxk]at k1;rw[<- hyk]at k2;have HX:=Hq2 hxk hyk;clear hxk hyk;by_cases he:x=y
    ·have hq:(((x.toNat:Nat):Int) != ((y.toNat:Nat):Int))=false:=by simp[he]
     have HE:=qqH he;clear he;go_wp2;go_region;go_wp2;go_roundw
     case rel=>exact⟨k+1,by omega,by go_num,qv HT.out hlt hlt2 (by rw[<- HX.a,<- HX.z,HE.out]),(gE.drewN (gE.refl w) n).drew⟩
     case measure=>simp[intOf];omega
    ·have hq:(((x.toNat:Nat):Int) != ((y.toNat:Nat):Int))=true:=by
      simp only[bne_iff_ne];intro h;exact he (UInt8.toNat_inj.1 (by omega))
     have hne:decide (xs=ys)=false:=by
      apply decide_eq_false;rintro rfl;exact he (HX.a.trans HX.z.symm)
     have HN:=qqH hne;clear he hne;go_wp2;go_region;go_wp2;go_ret;exact⟨lB HN.out.symm,(gE.drewN (gE.refl w) n).drew⟩
   ·have hkx:k=xs.length:=by omega
    have heq:decide (xs=ys)=true:=by
     apply decide_eq_true;have:=HT.out;rw[hkx,take_length,take_of_length_le (by have:=HL.out;omega)]at this;exact this
    have HN:=qqH heq;clear heq hkx;go_wp2;go_ret;exact⟨lB HN.out.symm,gE.drewN (gE.refl w) n⟩
 ·have hb:((xs.length:Int) != (ys.length:Int))=true:=by simp;omega
  have hne:decide (xs=ys)=false:=by apply decide_eq_false;rintro rfl;exact hl rfl
  have HN:=qqH hne;clear hne;go_enter Tryz.func40,Tryz.ntmps40;go_wp2;go_ret;exact⟨lB HN.out.symm,gE.refl w⟩
def wl(l:List UInt8)(w:World)(e:Ending)(w':World):Prop :=
 e=.returned (.slice (some ⟨w.heap.size,0,none⟩) l.length (l.length+2))/\w'.heap[w.heap.size]?=some (.cells (aw (l++[71,72])) 5 (0,0))/\aQ w w'
theorem Gv(n:Nat)(hn:n<=1099511627776)(w:World):(Instr.makeSlice 35 (.int .i64 ((n:Int)+2)) (.int .i64 ((n:Int)+2))).run Tryz.prog w =
  .ok (.slice (some ⟨w.heap.size,0,none⟩) (n+2) (n+2)) (w.alloc (.cells (aw (replicate (n+2) 0)) 5)):=by
 obtain⟨i,hi,hz,hs,hb⟩:=info_parts ix;rw[run_make w 35 5 i (.int .u8 0) Tryz.underlying35 hi hz .i64 .i64 _ _ (by omega) (by omega) (by rw[hb];omega) (by omega)];have e1:((n:Int)+2).toNat=n+2:=by omega
 rw[e1,hs];congr 4;apply Array.ext';rw[Nat.mul_one];rw[show(Value.int IntKind.u8 0).cells=#[Value.int .u8 0]from rfl,toList_madeCells_one];simp[aw,al]
theorem BG(a:Option Addr)(cap:Nat)(l:List UInt8)(w:World)(hl:l.length<=1000000)(h:ak w a (l.map al)):
  Calls Tryz.prog 12 #[.slice a l.length cap] w (wl l w):=by
 have hmk:=Gv l.length (by omega);obtain⟨i0,hi0,hz1,hz2,hz3⟩:=info_parts ix;have hsz:(Tryz.prog.info? 5).map (·.size)=some 1:=by rw[hi0];simp[hz2]
 have hw1:=aK w (.cells (aw (replicate (l.length+2) 0)) 5)
 have hsrc:0<(l.map al).length->some (⟨w.heap.size,0,none⟩:Addr)=some ⟨w.heap.size,0,none⟩/\∃ad,a=some ad/\∀j v,(l.map al)[j]?=some v->(w.alloc (.cells (aw (replicate (l.length+2) 0)) 5)).cell? (ad.add j)=some v:=fun hp=>by
  obtain⟨g,off,ha,hc⟩:=h.keep ((Mods.refl (fun _=>False) w).alloc (.cells (aw (replicate (l.length+2) 0)) 5)) (fun _ _ _=>id) hp;refine⟨rfl,_,ha,fun j v hv=>?_⟩;obtain⟨hj,rfl⟩:=List.getElem?_eq_some_iff.1 hv;have:=hc j hj;simp only[getElem_map]at this ⊢;rw[Addr.add_lit];exact this
 have HS:=Hq2 hsrc hw1;clear hsrc hw1 h;go_enter Tryz.func12,Tryz.ntmps12;go_wp2_with (refine gr rfl (.tmp 10) (.tmp 11) 35 35 rfl 5 Tryz.underlying35 hsz _ _ _ _ _ _ rfl rfl w.heap.size 0 ((replicate (l.length+2) 0).map al) 5 HS.z (l.map al) ?c1 HS.a ?c2 ?c3 ?c4)
 case c3=>intro x _;rfl
 case c4 =>
  intro w2 hg2 hM2 hz2
  have e2:(splice (replicate (l.length+2) (al 0)) 0 (List.map al l)).toArray=aw (l++[0,0]):=by
   simp[splice,aw,drop_replicate]
  rw[e2]at hg2;have c71:=aa hg2 l.length (gi _ _ (by simp));have c72:=aa hg2 (l.length+1) (gi _ _ (by simp));have f71:=bc hg2 l.length;have f72:=bc hg2 (l.length+1);have HG:=Hq3 hg2 hM2 hz2;clear hg2 hM2 hz2;go_wp2;go_ret;obtain⟨hg2,hM2,hz2⟩:=HG.out;refine⟨rfl,?_,?_⟩
  ·have h3:=bn (bn hg2 l.length (al 71)) (l.length+1) (al 72);rw[uB,uB]at h3;refine h3.trans ?_;congr 2;simp
  ·exact(((((Mods.refl _ w).alloc _).trans' hM2 (fun i hi=>.inr (by omega))).Qj (Nat.le_refl _) _).Qj (Nat.le_refl _) _)
def Fl(B:Nat)(w:World)(e:Ending)(w':World):Prop:=e=.returned (.bool true)/\Mods (fun k=>k=B) w w'
def pA(w:World)(B n:Nat):Prop:=∃cs:Array Value,w.heap[B]?=some (.cells cs 5 (0,0))/\cs.size=n/\∀j,j<n->∃x:Int,cs[j]?=some (.int .u8 x)
theorem zM(w:World)(B:Nat)(l:List UInt8)(h:w.heap[B]?=some (.cells (aw l) 5 (0,0))):pA w B l.length :=
 ⟨_,h,by simp[aw],fun j hj=>⟨_,gi l j hj⟩⟩
theorem zN{w:World}{B n:Nat}(h:pA w B n)(i:Nat)(x:Int):pA (w.setCell ⟨B,i,none⟩ (.int .u8 x)) B n:=by
 obtain⟨cs,hc,hs,hx⟩:=h;refine⟨_,bn hc i _,by simpa using hs,fun j hj=>?_⟩;rw[Array.getElem?_setIfInBounds];split
 ·rw[if_pos (by omega)];exact⟨x,rfl⟩
 ·exact hx j hj
theorem se(B:Nat)(a:Option Addr)(cap:Nat)(l:List UInt8)(w:World)(hl:l.length<=1000000)(hB:w.heap[B]?=some (.cells (aw (l++[71,72])) 5 (0,0)))(h:ak w a (l.map al)):
  Calls Tryz.prog 14 #[.slice (some ⟨B,0,none⟩) l.length (l.length+2),.slice a l.length cap] w (Fl B w):=by
 have c71:=aa hB l.length (gi _ _ (by simp));have c72:=aa hB (l.length+1) (gi _ _ (by simp));simp[al]at c71 c72
 have hA:ak w (some ⟨B,0,none⟩) (l.map al):=fun hp=>⟨B,0,rfl,fun j hj=>by
  have hj':j<l.length:=by simpa using hj
  rw[Nat.zero_add,aa hB j (gi _ j (by simp;omega))];simp[getElem_append_left hj']⟩
 have HB:=Hq3 hB hA h;clear hB hA h;go_enter Tryz.func14,Tryz.ntmps14;go_wp2_with (first|(go_at_call 40;refine(uM _ _ _ _ l l w HB.b HB.y (by omega) (by omega)).mono ?_;rintro e w2 ⟨rfl,n,rfl⟩));go_loopw [8] (fun i wr=>∃k:Nat,k<=l.length+2/\i=.int .i64 k/\pA wr B (l.length+2)/\Mods (fun q=>q=B) w wr) (fun i _=>l.length+2-(intOf i).toNat)
 case atStart =>
  refine⟨0,by omega,rfl,?_,(Mods.refl _ w).drewN n⟩;have:=zM (w.drewN n) B (l++[71,72]) HB.a;simpa using this
 case round =>
  obtain⟨k,hk,rfl,hrow,hM⟩:=hrel;by_cases hlt:k<l.length+2
  ·obtain⟨cs,hc,hs,hx⟩:=hrow;obtain⟨x,hxk⟩:=hx k hlt;have hck:=aa hc k hxk;have hfk:=bc hc k;have HR:=Hq2 (show pA wr B (l.length+2)from⟨cs,hc,hs,hx⟩) hM;clear hc hs hx hxk hM;go_wp2;go_roundw
   case rel=>exact⟨k+1,by omega,by go_num,zN HR.a _ _,HR.z.set1 _⟩
   case measure=>simp[intOf];omega
  ·have HR:=qqH hM;clear hM hrow;go_wp2;go_ret;exact⟨by simp,HR.out⟩
end
end Go.Proofs.YtdhobpbngkainabGreatDoor
