/-
  'versionslaw.Kept' answers true at every input, and leaves its arguments as they were. Conditions: none of ours (the given statement's own: errors.errorType as the program's text lays it).
-/
import Derived.Test.YtdhobpbngkainaaGreatDoorKq08
set_option maxRecDepth 100000
set_option maxHeartbeats 4000000
namespace Go.Proofs.YtdhobpbngkainaaGreatDoor
section
open Go.RowKit Go.Maps
theorem we:∀(l:List RTag) (i:Nat) (h:i<l.length) (j:Nat) (_:j<3),(cK l)[i*3+j]?=(nW l[i])[j]?
 | [],i,h,_,_=>by simp at h
 | a::r,0,_,j,hj=>by
  simp only[cK,List.flatMap_cons,Nat.zero_mul,Nat.zero_add,List.getElem_cons_zero]
  rw[List.getElem?_append_left (by simpa[nW]using hj)]
 | a::r,i+1,h,j,hj=>by
  simp only[cK,List.flatMap_cons,List.getElem_cons_succ]
  rw[List.getElem?_append_right (by simp[nW];omega),show(i+1)*3+j-(nW a).length=i*3+j by simp[nW];omega]
  exact we r i (by simpa using h) j hj
theorem I6{w:World}{g off:Nat}{l:List RTag}(h:∀j (h:j<(cK l).length),w.cell? ⟨g,off+j,none⟩=some ((cK l)[j]'h)){i:Nat}(hi:i<l.length):
  w.cell? ⟨g,off+i*3,none⟩=some (str l[i].name)/\w.cell? ⟨g,off+i*3+1,none⟩=some (str l[i].path)/\w.cell? ⟨g,off+i*3+2,none⟩=some (.int .i64 l[i].num):=by
 have key:∀j (hj:j<3) (v:Value),(nW l[i])[j]?=some v->w.cell? ⟨g,off+i*3+j,none⟩=some v:=fun j hj v hv=>by
  have h1:=we l i hi j hj;rw[hv]at h1;obtain⟨p,e⟩:=List.getElem?_eq_some_iff.1 h1;have h2:=h (i*3+j) p;rw[<- Nat.add_assoc]at h2;rw[h2,e]
 exact⟨key 0 (by omega) _ rfl,key 1 (by omega) _ rfl,key 2 (by omega) _ rfl⟩
theorem wn{w:World}{v:Value}{l:List RTag}(hs:Sat w (cI v l))(h:tH v l):∃sl cap,v=.slice sl l.length cap/\l.length<=cap/\cap<=9223372036854775807/\(∀k,ak w sl (cK (l.take k)))/\(∀k,k<=l.length->ak w (if cap=k then sl else sl.map (·.add (k*3))) (cK (l.drop k))):=by
 obtain⟨sl,cap,e,h1,h2,h3,-⟩:=bV hs h (by decide);refine⟨sl,cap,e,h1,h2,fun k hp=>?_,fun k hk hp=>?_⟩
 ·rw[b8,List.length_take]at hp;obtain⟨g,off,he,hc⟩:=h3 (by rw[b8];omega);refine⟨g,off,he,fun j hj=>?_⟩;rw[b8,List.length_take]at hj;rw[hc j (by rw[b8];omega)];have:cK l=cK (l.take k)++cK (l.drop k):=by rw[<- jb,List.take_append_drop]
  congr 1;rw[List.getElem_of_eq this,List.getElem_append_left]
 ·rw[b8,List.length_drop]at hp;obtain⟨g,off,he,hc⟩:=h3 (by rw[b8];omega);rw[if_neg (by omega),he];refine⟨g,off+k*3,by simp[Addr.add],fun j hj=>?_⟩;rw[b8,List.length_drop]at hj;rw[Nat.add_assoc,hc (k*3+j) (by rw[b8];omega)];have:cK l=cK (l.take k)++cK (l.drop k):=by rw[<- jb,List.take_append_drop]
  congr 1;rw[List.getElem_of_eq this,List.getElem_append_right (by rw[b8,List.length_take];omega)];congr 1;rw[b8,List.length_take];omega
theorem RefAt.tags{R:RefL}{P:fc}{w:World}(h:RefAt R P w):∃sl cap,R.tv=.slice sl R.ts.length cap/\R.ts.length<=cap/\cap<=9223372036854775807/\w.heap[R.blk]?=some (iA R)/\(0<R.ts.length->∃g off,sl=some ⟨g,off,none⟩/\∀i (hi:i<R.ts.length),w.cell? ⟨g,off+i*3,none⟩=some (str R.ts[i].name)/\w.cell? ⟨g,off+i*3+1,none⟩=some (str R.ts[i].path)/\w.cell? ⟨g,off+i*3+2,none⟩=some (.int .i64 R.ts[i].num)):=by
 obtain⟨sl,cap,e1,e2,e3,hc,-⟩:=bV h.ref.tail.right h.ok.ts (by decide);refine⟨sl,cap,e1,e2,e3,h.ref.Q5,fun hp=>?_⟩;obtain⟨g,off,hg,hcc⟩:=hc (by rw[b8];omega);exact⟨g,off,hg,fun i hi=>I6 hcc hi⟩
def tAt(ts:List RTag)(m:Bs):Nat->Nat
 | 0=>0
 | k+1=>if(ts[k]?).elim false (fun t=>bO t.name m)then k+1 else tAt ts m k
theorem Ao{ts:List RTag}{m:Bs}{k:Nat}(h:k<ts.length):tAt ts m (k+1)=if bO ts[k].name m then k+1 else tAt ts m k:=by
 rw[tAt,List.getElem?_eq_getElem h];rfl
theorem Hd(ts:List RTag)(m:Bs):∀k,tAt ts m k<=k
 | 0=>Nat.le_refl _
 | k+1=>by
  have:=Hd ts m k
  unfold tAt
  split<;>omega
def rD(ts:List RTag)(m:Bs)(x:RTag):List RTag:=ts.take (tAt ts m ts.length)++[x]++ts.drop (tAt ts m ts.length)
def jW(vs:List RVer)(k:Nat)(d:Int):List RVer:=match vs[k]? with|some v=>vs.set k { v with held:=v.held+d }|none=>vs
def gG(R:RefL)(vs':List RVer)(tv':Value)(ts':List RTag):RefL:={ R with vs:=vs',tv:=tv',ts:=ts' }
theorem pD(vs:List RVer)(k:Nat)(d:Int):(jW vs k d).length=vs.length:=by
 unfold jW;split<;>simp
theorem vJ{vs:List RVer}{k:Nat}(hk:k<vs.length)(d:Int):(bB vs).set (k*4+3) (.int .i64 (vs[k].held+d))=bB (jW vs k d):=by
 unfold jW;rw[List.getElem?_eq_getElem hk];dsimp only
 have key:∀(l:List RVer) (k:Nat) (hk:k<l.length),(bB l).set (k*4+3) (.int .i64 (l[k].held+d))=bB (l.set k { l[k]with held:=l[k].held+d }):=by
  intro l;induction l with
  | nil=>intro k hk;cases hk
  | cons a r ih =>
   intro k hk
   cases k with
   | zero=>simp[bB,lj]
   | succ k =>
    simp only[bB,List.flatMap_cons,List.getElem_cons_succ,List.set_cons_succ];rw[List.set_append_right _ _ (by simp[lj];omega)];have:=ih k (by simpa using hk);unfold bB at this;rw[<- this];congr 2;simp[lj];omega
 exact key vs k hk
theorem II{vs:List RVer}{k:Nat}{d:Int}:∀v∈jW vs k d,∃v0∈vs,v.cv=v0.cv/\v.cont=v0.cont/\v.path=v0.path/\v.num=v0.num:=fun v hv=>by
 unfold jW at hv
 split at hv
 ·rename_i v0 h0
  rcases List.mem_or_eq_of_mem_set hv with h|rfl
  ·exact⟨v,h,rfl,rfl,rfl,rfl⟩
  ·exact⟨v0,List.mem_of_getElem? h0,rfl,rfl,rfl,rfl⟩
 ·exact⟨v,hv,rfl,rfl,rfl,rfl⟩
theorem zZ{R:RefL}{P:fc}{w:World}(h:RefAt R P w){k:Nat}(hk:k<R.vs.length):∃g cap,R.vv=.slice (some ⟨g,0,none⟩) R.vs.length cap/\R.vs.length<=cap/\cap<=9223372036854775807/\w.cell? ⟨R.blk,0,none⟩=some (.slice (some ⟨g,0,none⟩) R.vs.length cap)/\R.blk<w.heap.size/\g<w.heap.size /\
  w.cell? ⟨g,k*4+3,none⟩=some (.int .i64 R.vs[k].held)/\w.cell? ⟨g,k*4+1,none⟩=some (.int .i64 R.vs[k].num):=by
 obtain⟨sl,cap,e1,e2,e3,hb,hc⟩:=h.row;rcases(aW h.ref.tail.left h.ok.vs).2 with⟨h0,h1⟩|⟨g,cap',cur,hv,-⟩
 ·omega
 ·rw[e1]at hv;simp only[Value.slice.injEq]at hv;obtain⟨rfl,-,rfl⟩:=hv;obtain⟨g',off,he,hcc⟩:=hc (by omega);simp only[Option.some.injEq,Addr.mk.injEq,and_true]at he;obtain⟨rfl,rfl⟩:=he;obtain⟨-,h1,-,h3⟩:=hcc k hk;rw[Nat.zero_add]at h1 h3;exact⟨g,cap,e1,e2,e3,by rw[<- e1];exact aa hb 0 rfl,ah hb,World.block_lt_of_cell? w _ h3,h3,h1⟩
def FR(R:RefL)(P:fc)(m p:Bs)(n:Int)(w:World)(e:Ending)(w':World):Prop :=
 (∃k:Int,e=.returned (.int .i64 k)/\Turns (aI R) (aI R) w w'/\((R.closed=true/\k=9)\/(R.closed=false/\aA m=false/\k=1)\/(R.closed=false/\aA m=true/\cO R p n=.error k) \/
  (R.closed=false/\aA m=true/\(∃v,cO R p n=.ok v)/\(∃t∈R.ts,t.name=m)/\k=6))) \/
 (R.closed=false/\aA m=true/\(∀t∈R.ts,t.name≠m)/\∃k tv',∃hk:k<R.vs.length,cO R p n=.ok R.vs[k]/\bR R.vs p n R.vs.length=k/\e=.returned (.int .i64 0)/\RefOk (gG R (jW R.vs k 1) tv' (rD R.ts m ⟨m,p,R.vs[k].num⟩)) /\
  Turns (aI R++bc P) (aI (gG R (jW R.vs k 1) tv' (rD R.ts m ⟨m,p,R.vs[k].num⟩))++bc P) w w')
theorem Cr(R:RefL)(P:fc)(m p:Bs)(n:Int)(w:World)(h:RefAt R P w)(hJ:Sat w (aI R++bc P))(htl:R.ts.length<=100000)(hhl:∀v∈R.vs,v.held.natAbs<=1099511627776):
  Calls Tryz.prog 67 #[.pointer (some ⟨R.blk,0,none⟩),str m,str p,.int .i64 n] w (FR R P m p n w):=by
 have HI:=qqH (i9 m w);have hbl:=ah h.ref.Q5;have HH:=Hq3 h hJ hhl;clear h hJ hhl;go_enter Tryz.func67,Tryz.ntmps67;go_wp2_with fail;refine HI.out.mono ?_;rintro e w1 ⟨rfl,hs1⟩;have hA1:=HH.a.same hs1;have hb1:=hA1.ref.Q5;have c3:w1.cell? ⟨R.blk,3,none⟩=some (.bool R.closed):=aa hb1 3 rfl;have hbl1:=ah hb1;have HG:=qqH (j0 R P p n w1 hA1);have H1:=Hq2 hs1 hA1;clear hs1 hA1 hb1
 cases hc:R.closed with
 | true =>
  rw[hc]at c3;have HC:=qqH hc;clear hc;go_wp2_with fail;refine bodyPost_ret (results_tmp rfl _ _ _) rfl (.inl ⟨9,rfl,Turns.same HH.a.ref H1.a,.inl ⟨HC.out,rfl⟩⟩)
 | false =>
  rw[hc]at c3;have HC:=qqH hc;clear hc
  cases hp:aA m with
  | false =>
   have HP:=qqH hp;go_wp2_with fail;refine bodyPost_ret (results_tmp rfl _ _ _) rfl (.inl ⟨1,rfl,Turns.same HH.a.ref H1.a,.inr (.inl ⟨HC.out,HP.out,rfl⟩)⟩)
  | true =>
   have HP:=qqH hp;clear hp;go_wp2_with fail;refine HG.out.mono ?_;rintro e w2 ⟨hs,hm⟩
   cases hr:cO R p n with
   | error k =>
    rw[hr]at hm;subst hm;have hk0:=jI hr;have HR:=Hq2 hr (H1.a.trans hs);clear hr hs;go_wp2_with fail;refine bodyPost_ret (results_tmp rfl _ _ _) rfl (.inl ⟨k,rfl,Turns.same HH.a.ref HR.z,.inr (.inr (.inl ⟨HC.out,HP.out,HR.a⟩))⟩)
   | ok v =>
    rw[hr]at hm;obtain⟨rfl,-⟩:=hm;obtain⟨-,-,hf⟩:=fP hr;obtain⟨k,hb,hk,hv⟩:=lM hf;have hs2:aX w w2:=H1.a.trans hs;have hA2:=HH.a.same hs2;have hcv:=hA2.one v (hv ▸ List.getElem_mem hk);have HR:=Hq5 hr hs2 hb hv hA2;clear hr hs hf hb hA2 hcv hs2;go_wp2_with fail;go_loopw [12,13] (fun a i wr=>∃j:Nat,j<=R.ts.length/\i=.int .i64 j/\a=.int .i64 (tAt R.ts m j)/\aX w wr/\∀t∈R.ts.take j,t.name≠m) (fun _ i _=>R.ts.length-(intOf i).toNat)
    case atStart=>exact⟨0,Nat.zero_le _,rfl,rfl,HR.b,by simp⟩
    case round =>
     obtain⟨j,hj,rfl,rfl,hs,hnn⟩:=hrel;have hA:=HH.a.same hs;obtain⟨sl,cap,e1,e2,e3,hbo,hcell⟩:=hA.tags;have c1:wr.cell? ⟨R.blk,1,none⟩=some (.slice sl R.ts.length cap):=by rw[<- e1];exact aa hbo 1 rfl
     have hbl':=ah hbo;have HS:=Hq4 hs hA hnn e1;clear hs hbo hnn e1;by_cases hlt:j<R.ts.length
     ·obtain⟨g,off,hg,hcc⟩:=hcell (by omega);subst hg;obtain⟨h0,-,-⟩:=hcc j hlt;have hnx:=Ao (m:=m) hlt;obtain⟨tn,htn⟩:∃tn,tn=R.ts[j].name:=⟨_,rfl⟩;rw[<- htn]at h0 hnx;have hgl:=World.block_lt_of_cell? wr _ h0;have HX:=Hq2 hnx htn;clear hcc hcell hA hnx htn;by_cases hp:tn=m
      ·have hp':=hp.symm;clear hp;subst hp';go_wp2_with fail;refine bodyPost_ret (results_tmp rfl _ _ _) rfl (.inl ⟨6,rfl,Turns.same HH.a.ref HS.a,.inr (.inr (.inr ⟨HC.out,HP.out,⟨v,HR.a⟩,⟨R.ts[j],List.getElem_mem hlt,HX.z.symm⟩,rfl⟩))⟩)
      ·have hpq:(tn==m)=false:=by simp[hp]
       have hstep:∀t∈R.ts.take (j+1),t.name≠m:=fun t ht=>by
        rw[List.take_succ_eq_append_getElem hlt]at ht;rcases List.mem_append.1 ht with ht|ht
        ·exact HS.c t ht
        ·rw[List.mem_singleton.1 ht,<- HX.z];exact hp
       have HT:=qqH hstep;clear hstep
       cases hbl:bO tn m with
       | true =>
        have hbs:Op.bytesLess tn m=true:=by rw[iI,hbl]
        have hf1:tAt R.ts m (j+1)=j+1:=by rw[HX.a,if_pos hbl]
        have HF:=qqH hf1;clear hf1;go_wp2_with fail;go_roundw
        case rel=>exact⟨j+1,by omega,by go_num,by rw[HF.out];go_num,HS.a,HT.out⟩
        case measure=>simp[intOf];omega
       | false =>
        have hbs:Op.bytesLess tn m=false:=by rw[iI,hbl]
        have hf1:tAt R.ts m (j+1)=tAt R.ts m j:=by rw[HX.a,if_neg (by rw[hbl];simp)]
        have HF:=qqH hf1;clear hf1;go_wp2_with fail;go_roundw
        case rel=>exact⟨j+1,by omega,by go_num,by rw[HF.out],HS.a,HT.out⟩
        case measure=>simp[intOf];omega
     ·obtain rfl:j=R.ts.length:=by omega
      clear hcell hA;have HFi:=qqH (ky R P p n wr HS.b);obtain⟨at_,hat⟩:∃at_,at_=tAt R.ts m R.ts.length:=⟨_,rfl⟩;have hatl:at_<=R.ts.length:=by rw[hat];exact Hd _ _ _
      rw[<- hat];have HA:=qqH hat;clear hat;go_wp2_with fail;refine HFi.out.mono ?_;rintro e w3 ⟨rfl,hs3⟩;rw[HR.c];have hs4:aX w w3:=HS.a.trans hs3;have hA4:=HH.a.same hs4;obtain⟨g,vcap,ev,ev2,ev3,c0,hblk3,hg3,hh3,hn3⟩:=zZ hA4 hk;obtain⟨hd,hhd⟩:∃hd,hd=R.vs[k].held:=⟨_,rfl⟩;obtain⟨nk,hnk⟩:∃nk,nk=R.vs[k].num:=⟨_,rfl⟩;rw[<- hhd]at hh3;rw[<- hnk]at hn3;have hhb:=HH.y _ (List.getElem_mem hk);rw[<- hhd]at hhb;have hw:IntKind.i64.wrap (hd+1)=hd+1:=IntWalk.i64_in _ (by omega);have hT4:Turns (aI R++bc P) (cH (.slice (some ⟨g,0,none⟩) R.vs.length vcap) R.vs++((R.blk,Is (iA R))::(cI R.tv R.ts++bc P))) w w3:=(Turns.same HH.b hs4).to (by unfold aI;rw[ev];exact af);have hrvo:kK (.slice (some ⟨g,0,none⟩) R.vs.length vcap) R.vs:=by rw[<- ev];exact HH.a.ok.vs
      have HV:=Hq5 hT4 hrvo ev hhd hnk;have hkl:(k:Int)<(R.vs.length:Int):=by omega
      clear hs3 hs4 hA4 hT4 hrvo ev hhd hnk;obtain⟨F2,hF2⟩:∃F2,F2=aI R++bc P:=⟨_,rfl⟩;obtain⟨vs1,hvs1⟩:∃vs1,vs1=jW R.vs k 1:=⟨_,rfl⟩;have hv1l:vs1.length=R.vs.length:=by rw[hvs1,pD]
      have hrow1:(bB R.vs).set (k*4+3) (.int .i64 (hd+1))=bB vs1:=by rw[HV.d,hvs1];exact vJ hk 1
      have hn1:∀(h:k<vs1.length),vs1[k].num=nk:=fun h=>by
       have:vs1[k]?=some { R.vs[k]with held:=R.vs[k].held+1 }:=by rw[hvs1];unfold jW;rw[List.getElem?_eq_getElem hk];simp[hk]
       rw[List.getElem?_eq_getElem h]at this;rw[Option.some.inj this,HV.w]
      obtain⟨BF,hBF⟩:∃BF,BF=bN 193 4 (.slice (some ⟨g,0,none⟩) R.vs.length vcap) R.vs.length (bB vs1)++((R.blk,Is (iA R))::(cI R.tv R.ts++bc P)):=⟨_,rfl⟩
      have hRF:∀(W:World) (G:HF),Turns F2 (G++BF) w W->W.cell? ⟨R.blk,0,none⟩=some (.slice (some ⟨g,0,none⟩) R.vs.length vcap)/\W.cell? ⟨R.blk,1,none⟩=some (.slice sl R.ts.length cap)/\R.blk<W.heap.size/\W.cell? ⟨g,k*4+1,none⟩=some (.int .i64 nk)/\g<W.heap.size /\
        (∀k,ak W sl (cK (R.ts.take k)))/\(∀k,k<=R.ts.length->ak W (if cap=k then sl else sl.map (·.add (k*3))) (cK (R.ts.drop k))):=fun W G hT=>by
       have hs:=hT.sat.right;rw[hBF]at hs;obtain⟨sl',cap',e1',-,-,e4',e5'⟩:=wn (hs.right.tail.left) HH.a.ok.ts;rw[HS.x]at e1';simp only[Value.slice.injEq,true_and]at e1';obtain⟨rfl,rfl⟩:=e1';have hbo:=hs.right.Q5;have hrk:dj 4 (.slice (some ⟨g,0,none⟩) R.vs.length vcap) R.vs.length (bB vs1):=⟨by rw[bu,hv1l],fun h=>by cases h⟩;obtain⟨a',c',ea,-,-,hcc,-⟩:=bV hs.left hrk (by decide);simp only[Value.slice.injEq,true_and]at ea;obtain⟨rfl,-⟩:=ea;obtain⟨g',off',eg,hcc⟩:=hcc (by rw[bu];omega);simp only[Option.some.injEq,Addr.mk.injEq,and_true]at eg;obtain⟨rfl,rfl⟩:=eg;obtain⟨-,h1,-,-⟩:=xH hcc (show k<vs1.length by omega);rw[hn1,Nat.zero_add]at h1;exact⟨by rw[<- HV.c];exact aa hbo 0 rfl,by rw[<- HS.x];exact aa hbo 1 rfl,ah hbo,h1,World.block_lt_of_cell? W _ h1,e4',e5'⟩
      have HRF:=qqH hRF;have HX:=Hq5 hrow1 hF2 hvs1 hv1l hBF;have HV1:=qqH (show Turns F2 _ w w3 by rw[hF2];exact HV.a);clear hRF hrow1 hn1 hF2 hvs1 hv1l hBF
      go_wp2_with (first
       | (refine al rfl (oU 3 (.tmp 79) (.tmp 77) rfl 193 4 R.vs.length g vcap (bB R.vs) HV1.out HV.b (k*4+3) (by omega) (.int .i64 (hd+1)) rfl rfl (by kernel_rfl) (by simp[Value.oneCell']) rfl ?_);intro w5 hok5 hT5;rw[HX.a,<- HX.w]at hT5;obtain⟨d0,d1,d2,d3,d4,d5,d6⟩:=HRF.out _ [] hT5;have H5:=Hq3 hT5 d5 d6;clear hok5 hT5 d5 d6 c0 hh3 hn3;simp only[Act.put])
       | (at_builtin;refine al rfl ?_;refine g8 (.tmp 80) (.tmp 86) rfl (.slice none 0 0) [] rfl (G:=BF) (show Turns F2 (cI (.slice none 0 0) []++BF) w w5 from H5.a) ⟨rfl,fun _=>⟨rfl,rfl⟩⟩ _ _ _ rfl (R.ts.take at_) (by rw[List.length_take,Nat.min_eq_left hatl]) (H5.b at_) (by rw[List.length_take,Nat.min_eq_left hatl];simp;omega) ?_;intro v7 w7 hok7 hT7;simp only[List.nil_append]at hok7 hT7;obtain⟨d0,d1,d2,d3,d4,-,-⟩:=HRF.out _ _ hT7;have H7:=Hq2 hok7 hT7;clear hok7 hT7)
       | (at_builtin;refine al rfl ?_;refine g8 (.tmp 88) (.tmp 100) rfl v7 (R.ts.take at_) rfl (H7.z.alloc _) H7.a _ 1 1 rfl [⟨m,p,nk⟩] rfl (vO (xs:=nW ⟨m,p,nk⟩)) (by rw[List.length_take,Nat.min_eq_left hatl];simp;omega) ?_;intro v8 w8 hok8 hT8;obtain⟨d0,d1,d2,d3,d4,-,d6⟩:=HRF.out _ _ hT8;have H8:=Hq3 hok8 hT8 d6;clear hok8 hT8 d6)
       | (at_builtin;refine al rfl ?_;refine g8 (.tmp 102) (.tmp 108) rfl v8 (R.ts.take at_++[⟨m,p,nk⟩]) rfl H8.b H8.a _ _ _ rfl (R.ts.drop at_) (by rw[List.length_drop]) (H8.y at_ hatl) (by simp;omega) ?_;intro v9 w9 hok9 hT9;obtain⟨d0,d1,d2,d3,d4,-,-⟩:=HRF.out _ _ hT9;have hv9:=ew hT9.sat.left hok9;have H9:=Hq3 hok9 hT9 hv9;clear hok9 hT9 hv9)
       | (refine al rfl (bi 58 (.tmp 113) (.tmp 111) rfl R.blk 1 (bE R) 60 v9 (H9.b.to (H:=(R.blk,Is (iA R))::(cI v9 (R.ts.take at_++[⟨m,p,nk⟩]++R.ts.drop at_)++(bN 193 4 (.slice (some ⟨g,0,none⟩) R.vs.length vcap) R.vs.length (bB vs1)++(cI R.tv R.ts++bc P)))) (by rw[HX.w];exact af)) rfl rfl (by simp[bE]) (by kernel_rfl) H9.c H9.d ?_);intro w10 hT10;have H10:=qqH hT10;clear hT10;simp only[Act.put]))
      all_goals
       refine bodyPost_ret (results_tmp rfl _ _ _) rfl (.inr ⟨HC.out,HP.out,fun t ht=>HS.c t (by rw[List.take_length];exact ht),k,v9,hk,by rw[HR.d];exact HR.a,HR.c,rfl,⟨?_,?_⟩,?_⟩)
       ·show kK R.vv (jW R.vs k 1);rw[<- HX.c,HV.c];exact⟨by rw[bu],fun h=>by cases h⟩
       ·show tH v9 (rD R.ts m ⟨m,p,R.vs[k].num⟩);unfold rD;rw[<- HA.out,<- HV.w];exact H9.a
       ·rw[<- HX.b];refine H10.out.drop (fun x=>?_)
        have e1:aI (gG R (jW R.vs k 1) v9 (rD R.ts m ⟨m,p,R.vs[k].num⟩))=(R.blk,Is (.cells ((bE R).setIfInBounds 1 v9) 60 (0,0)))::(bN 193 4 (.slice (some ⟨g,0,none⟩) R.vs.length vcap) R.vs.length (bB vs1)++cI v9 (R.ts.take at_++[⟨m,p,nk⟩]++R.ts.drop at_)):=by
         unfold aI gG cH rD;dsimp only;rw[pD,<- HA.out,<- HV.w,<- HX.c,<- HV.c];rfl
        rw[e1];simp only[aB,an];omega
def tagT(t:RTag):Bs×Bs×Int:=(t.name,t.path,t.num)
theorem Ac(rs:List RTag):cK rs=gy (rs.map tagT):=by
 induction rs with
 | nil=>rfl
 | cons a r ih=>simp only[cK,gy,List.map_cons,List.flatMap_cons]at ih ⊢;rw[ih];rfl
theorem zI:∀(l:List (Bs×Bs×Int)) (i:Nat) (h:i<l.length) (j:Nat) (_:j<3),(gy l)[i*3+j]?=(xu l[i])[j]?
 | [],i,h,_,_=>by simp at h
 | a::r,0,_,j,hj=>by
  simp only[gy,List.flatMap_cons,Nat.zero_mul,Nat.zero_add,List.getElem_cons_zero]
  rw[List.getElem?_append_left (by simpa[xu]using hj)]
 | a::r,i+1,h,j,hj=>by
  simp only[gy,List.flatMap_cons,List.getElem_cons_succ]
  rw[List.getElem?_append_right (by simp[xu];omega),show(i+1)*3+j-(xu a).length=i*3+j by simp[xu];omega]
  exact zI r i (by simpa using h) j hj
theorem GS{w:World}{sl:Option Addr}{l:List (Bs×Bs×Int)}(h:ak w sl (gy l)){i:Nat}(hi:i<l.length):∃g off,sl=some ⟨g,off,none⟩ /\
  w.cell? ⟨g,off+i*3,none⟩=some (str l[i].1)/\w.cell? ⟨g,off+i*3+1,none⟩=some (str l[i].2.1)/\w.cell? ⟨g,off+i*3+2,none⟩=some (.int .i64 l[i].2.2):=by
 obtain⟨g,off,e,hc⟩:=h (by rw[lK];omega)
 have key:∀j (hj:j<3) (v:Value),(xu l[i])[j]?=some v->w.cell? ⟨g,off+i*3+j,none⟩=some v:=fun j hj v hv=>by
  have h1:=zI l i hi j hj;rw[hv]at h1;obtain⟨p,e⟩:=List.getElem?_eq_some_iff.1 h1;have h2:=hc (i*3+j) p;rw[<- Nat.add_assoc]at h2;rw[h2,e]
 exact⟨g,off,e,key 0 (by omega) _ rfl,key 1 (by omega) _ rfl,key 2 (by omega) _ rfl⟩
def qN(es rs:List (Bs×Bs×Int))(w:World)(e:Ending)(w':World):Prop:=∃b,e=.returned (.bool b)/\(es=rs->b=true)/\aX w w'
theorem tQ(es rs:List (Bs×Bs×Int))(a1 a2:Option Addr)(c1 c2:Nat)(w:World)(h1:ak w a1 (gy es))(h2:ak w a2 (gy rs))(hx:es.length<=1000000)(hy:rs.length<=1000000):
  Calls Tryz.prog 92 #[.slice a1 es.length c1,.slice a2 rs.length c2] w (qN es rs w):=by
 have HH:=Hq2 h1 h2;clear h1 h2;go_enter Tryz.func92,Tryz.ntmps92;by_cases hl:es.length=rs.length
 ·have hlI:((es.length:Int) != (rs.length:Int))=false:=by simp[hl]
  have HL:=qqH hl;clear hl;go_wp2_with fail;go_loopw [5] (fun i wr=>∃k:Nat,k<=es.length/\i=.int .i64 k/\aX w wr) (fun i _=>es.length-(intOf i).toNat)
  case atStart=>exact⟨0,Nat.zero_le _,rfl,Mods.refl _ _⟩
  case round =>
   obtain⟨k,hk,rfl,hs⟩:=hrel;by_cases hlt:k<es.length
   ·obtain⟨g,off,hg,p0,p1,p2⟩:=GS (HH.a.keep hs (fun _ _ _=>id)) hlt;obtain⟨g',off',hg',q0,q1,q2⟩:=GS (HH.z.keep hs (fun _ _ _=>id)) (i:=k) (by rw[<- HL.out];exact hlt);have hkr:k<rs.length:=by rw[<- HL.out];exact hlt
    subst hg;subst hg';obtain⟨x,hxd⟩:∃x,x=es[k]:=⟨_,rfl⟩;obtain⟨y,hyd⟩:∃y,y=rs[k]:=⟨_,rfl⟩;rw[<- hxd]at p0 p1 p2;rw[<- hyd]at q0 q1 q2;obtain⟨xp,xl,xs⟩:=x;obtain⟨yp,yl,ys⟩:=y;simp only at p0 p1 p2 q0 q1 q2;have HX:=Hq3 hxd hyd hs;clear hxd hyd hs
    have hno:∀(h:¬(xp,xl,xs)=(yp,yl,ys)) (W:World),aX w W->qN es rs w (.returned (.bool false)) W:=fun h W hW=>⟨false,rfl,fun he=>by
     exfalso;apply h;have e1:=HX.a;have e2:=HX.b;subst he;rw[e1,e2],hW⟩
    have HNO:=qqH hno;clear hno;by_cases c1:xp=yp
    ·have c1':=c1.symm;clear c1;subst c1';by_cases c2:xl=yl
     ·have c2':=c2.symm;clear c2;subst c2';by_cases c3:xs=ys
      ·subst c3;go_upto_region 6 with(fail);go_quiet (fail);go_wp2_with fail;go_roundw
       case rel=>exact⟨k+1,by omega,by go_num,HX.y.drewN _⟩
       case measure=>simp[intOf];omega
      ·have d3:(xs != ys)=true:=by simp[c3]
       go_upto_region 6 with(fail);go_quiet (fail);go_wp2_with fail;refine bodyPost_ret (results_tmp rfl _ _ _) rfl ?_;exact HNO.out (by simp[c3]) _ (HX.y.drewN _)
     ·have d2:(xl==yl)=false:=by simp[c2]
      go_upto_region 6 with(fail);go_quiet (fail);go_wp2_with fail;refine bodyPost_ret (results_tmp rfl _ _ _) rfl ?_;exact HNO.out (by simp[c2]) _ (HX.y.drewN _)
    ·have d1:(xp==yp)=false:=by simp[c1]
     go_upto_region 6 with(fail);go_quiet (fail);go_wp2_with fail;refine bodyPost_ret (results_tmp rfl _ _ _) rfl ?_;exact HNO.out (by simp[c1]) _ (HX.y.drewN _)
   ·obtain rfl:k=es.length:=by omega
    go_wp2_with fail;exact bodyPost_ret (results_tmp rfl _ _ _) rfl ⟨true,rfl,fun _=>rfl,hs⟩
 ·have hlI:((es.length:Int) != (rs.length:Int))=true:=by simp;omega
  go_wp2_with fail;exact bodyPost_ret (results_tmp rfl _ _ _) rfl ⟨false,rfl,fun he=>by subst he;exact absurd rfl hl,Mods.refl _ _⟩
def qk(ts:List RTag)(i:Nat):List RTag:=ts.take i++ts.drop (i+1)
def AP(R:RefL)(P:fc)(m:Bs)(w:World)(e:Ending)(w':World):Prop :=
 (∃k:Int,e=.returned (.int .i64 k)/\Turns (aI R) (aI R) w w'/\((R.closed=true/\k=9)\/(R.closed=false/\aA m=false/\k=1)\/(R.closed=false/\aA m=true/\(∀t∈R.ts,t.name≠m)/\k=3))) \/
 (R.closed=false/\aA m=true/\∃i k tv',∃hi:i<R.ts.length,R.ts[i].name=m/\k<R.vs.length/\bR R.vs R.ts[i].path R.ts[i].num R.vs.length=k/\e=.returned (.int .i64 0)/\RefOk (gG R (jW R.vs k (-1)) tv' (qk R.ts i)) /\
  Turns (aI R++bc P) (aI (gG R (jW R.vs k (-1)) tv' (qk R.ts i))++bc P) w w')
theorem xz(R:RefL)(P:fc)(m:Bs)(w:World)(h:RefAt R P w)(hJ:Sat w (aI R++bc P))(htl:R.ts.length<=100000)(hhl:∀v∈R.vs,v.held.natAbs<=1099511627776)(hte:∀t∈R.ts,∃k:Nat,k<R.vs.length/\bR R.vs t.path t.num R.vs.length=k):
  Calls Tryz.prog 69 #[.pointer (some ⟨R.blk,0,none⟩),str m] w (AP R P m w):=by
 have HI:=qqH (i9 m w);have hbl:=ah h.ref.Q5;have HM:=qqH (show Tryz.prog.follows .mixedOrders=true by kernel_rfl);have HH:=Hq4 h hJ hhl hte;clear h hJ hhl hte;go_enter Tryz.func69,Tryz.ntmps69;go_wp2_with fail;refine HI.out.mono ?_;rintro e w1 ⟨rfl,hs1⟩;have hA1:=HH.a.same hs1;have hb1:=hA1.ref.Q5;have c3:w1.cell? ⟨R.blk,3,none⟩=some (.bool R.closed):=aa hb1 3 rfl;have hbl1:=ah hb1;have H1:=Hq2 hs1 hA1;clear hs1 hA1 hb1
 cases hc:R.closed with
 | true =>
  rw[hc]at c3;have HC:=qqH hc;clear hc;go_wp2_with fail;refine bodyPost_ret (results_tmp rfl _ _ _) rfl (.inl ⟨9,rfl,Turns.same HH.a.ref H1.a,.inl ⟨HC.out,rfl⟩⟩)
 | false =>
  rw[hc]at c3;have HC:=qqH hc;clear hc
  cases hp:aA m with
  | false =>
   have HP:=qqH hp;go_wp2_with fail;refine bodyPost_ret (results_tmp rfl _ _ _) rfl (.inl ⟨1,rfl,Turns.same HH.a.ref H1.a,.inr (.inl ⟨HC.out,HP.out,rfl⟩)⟩)
  | true =>
   have HP:=qqH hp;clear hp;go_wp2_with fail;go_loopw [6] (fun i wr=>∃j:Nat,j<=R.ts.length/\i=.int .i64 j/\aX w wr/\∀t∈R.ts.take j,t.name≠m) (fun i _=>R.ts.length-(intOf i).toNat)
   case atStart=>exact⟨0,Nat.zero_le _,rfl,H1.a,by simp⟩
   case round =>
    obtain⟨j,hj,rfl,hs,hnn⟩:=hrel;have hA:=HH.a.same hs;obtain⟨sl,cap,e1,e2,e3,hbo,hcell⟩:=hA.tags;have c1:wr.cell? ⟨R.blk,1,none⟩=some (.slice sl R.ts.length cap):=by rw[<- e1];exact aa hbo 1 rfl
    have hbl':=ah hbo;have HS:=Hq4 hs hA hnn e1;clear hs hbo hnn e1;by_cases hlt:j<R.ts.length
    ·obtain⟨g0,off,hg,hcc⟩:=hcell (by omega);subst hg;obtain⟨h0,h1,h2⟩:=hcc j hlt;obtain⟨tn,htn⟩:∃tn,tn=R.ts[j].name:=⟨_,rfl⟩;obtain⟨tp,htp⟩:∃tp,tp=R.ts[j].path:=⟨_,rfl⟩;obtain⟨tk,htk⟩:∃tk,tk=R.ts[j].num:=⟨_,rfl⟩;rw[<- htn]at h0;rw[<- htp]at h1;rw[<- htk]at h2;have hgl:=World.block_lt_of_cell? wr _ h0;have HX0:=Hq3 htn htp htk;clear hcc hcell hA htn htp htk;by_cases hp:tn=m
     ·obtain⟨k,hk,hbt⟩:=HH.x _ (List.getElem_mem hlt);rw[<- HX0.b,<- HX0.y]at hbt;have HB:=Hq2 hbt hp;clear hbt;go_upto_region 10 with(fail);refine wp_region_still_tail 17 HM.out (by kernel_rfl) ?_;simp only[List.take_succ_cons,List.take_zero,List.drop_succ_cons,List.drop_zero];repeat still_step
      refine wpStill_nil ?_;change wpList _ _ _ _ _ wr.drew;have HFi:=qqH (ky R P tp tk wr.drew (HH.a.same HS.a.drew));go_wp2_with fail;refine HFi.out.mono ?_;rintro e w3 ⟨rfl,hs3⟩;rw[HB.a];have hs4:aX w w3:=HS.a.drew.trans hs3;have hA4:=HH.a.same hs4;obtain⟨g,vcap,ev,ev2,ev3,c0,hblk3,hg3,hh3,hn3⟩:=zZ hA4 hk;obtain⟨hd,hhd⟩:∃hd,hd=R.vs[k].held:=⟨_,rfl⟩;obtain⟨nk,hnk⟩:∃nk,nk=R.vs[k].num:=⟨_,rfl⟩;rw[<- hhd]at hh3;rw[<- hnk]at hn3;have hhb:=HH.c _ (List.getElem_mem hk);rw[<- hhd]at hhb;have hw:IntKind.i64.wrap (hd-1)=hd-1:=IntWalk.i64_in _ (by omega);have hT4:Turns (aI R++bc P) (cH (.slice (some ⟨g,0,none⟩) R.vs.length vcap) R.vs++((R.blk,Is (iA R))::(cI R.tv R.ts++bc P))) w w3:=(Turns.same HH.b hs4).to (by unfold aI;rw[ev];exact af);have hrvo:kK (.slice (some ⟨g,0,none⟩) R.vs.length vcap) R.vs:=by rw[<- ev];exact HH.a.ok.vs
      have HV:=Hq5 hT4 hrvo ev hhd hnk;have hkl:(k:Int)<(R.vs.length:Int):=by omega
      clear hs3 hs4 hA4 hT4 hrvo ev hhd hnk;obtain⟨F2,hF2⟩:∃F2,F2=aI R++bc P:=⟨_,rfl⟩;obtain⟨vs1,hvs1⟩:∃vs1,vs1=jW R.vs k (-1):=⟨_,rfl⟩;have hv1l:vs1.length=R.vs.length:=by rw[hvs1,pD]
      have hrow1:(bB R.vs).set (k*4+3) (.int .i64 (hd-1))=bB vs1:=by rw[HV.d,hvs1,Int.sub_eq_add_neg];exact vJ hk (-1)
      have hn1:∀(h:k<vs1.length),vs1[k].num=nk:=fun h=>by
       have:vs1[k]?=some { R.vs[k]with held:=R.vs[k].held+-1 }:=by rw[hvs1];unfold jW;rw[List.getElem?_eq_getElem hk];simp[hk]
       rw[List.getElem?_eq_getElem h]at this;rw[Option.some.inj this,HV.w]
      obtain⟨BF,hBF⟩:∃BF,BF=bN 193 4 (.slice (some ⟨g,0,none⟩) R.vs.length vcap) R.vs.length (bB vs1)++((R.blk,Is (iA R))::(cI R.tv R.ts++bc P)):=⟨_,rfl⟩
      have hRF:∀(W:World) (G:HF),Turns F2 (G++BF) w W->W.cell? ⟨R.blk,0,none⟩=some (.slice (some ⟨g,0,none⟩) R.vs.length vcap)/\W.cell? ⟨R.blk,1,none⟩=some (.slice (some ⟨g0,off,none⟩) R.ts.length cap)/\R.blk<W.heap.size/\W.cell? ⟨g,k*4+1,none⟩=some (.int .i64 nk)/\g<W.heap.size /\
        (∀k,ak W (some ⟨g0,off,none⟩) (cK (R.ts.take k)))/\(∀k,k<=R.ts.length->ak W (if cap=k then some ⟨g0,off,none⟩else some ⟨g0,off+k*3,none⟩) (cK (R.ts.drop k))):=fun W G hT=>by
       have hs:=hT.sat.right;rw[hBF]at hs;obtain⟨sl',cap',e1',-,-,e4',e5'⟩:=wn (hs.right.tail.left) HH.a.ok.ts;rw[HS.x]at e1';simp only[Value.slice.injEq,true_and]at e1';obtain⟨rfl,rfl⟩:=e1';have hbo:=hs.right.Q5;have hrk:dj 4 (.slice (some ⟨g,0,none⟩) R.vs.length vcap) R.vs.length (bB vs1):=⟨by rw[bu,hv1l],fun h=>by cases h⟩;obtain⟨a',c',ea,-,-,hcc,-⟩:=bV hs.left hrk (by decide);simp only[Value.slice.injEq,true_and]at ea;obtain⟨rfl,-⟩:=ea;obtain⟨g',off',eg,hcc⟩:=hcc (by rw[bu];omega);simp only[Option.some.injEq,Addr.mk.injEq,and_true]at eg;obtain⟨rfl,rfl⟩:=eg;obtain⟨-,h1,-,-⟩:=xH hcc (show k<vs1.length by omega);rw[hn1,Nat.zero_add]at h1
       exact⟨by rw[<- HV.c];exact aa hbo 0 rfl,by rw[<- HS.x];exact aa hbo 1 rfl,ah hbo,h1,World.block_lt_of_cell? W _ h1,e4',fun k hk=>by
        have h:=e5' k hk;have e:(some (⟨g0,off,none⟩:Addr)).map (·.add (k*3))=some ⟨g0,off+k*3,none⟩:=by by_cases h0:k=0<;>simp[Addr.add,h0];omega
        rwa [e]at h⟩
      have HRF:=qqH hRF;have HX:=Hq5 hrow1 hF2 hvs1 hv1l hBF;have HV1:=qqH (show Turns F2 _ w w3 by rw[hF2];exact HV.a);clear hRF hrow1 hn1 hF2 hvs1 hv1l hBF;obtain⟨j1,hj1⟩:∃j1,j1=j+1:=⟨_,rfl⟩;have hj1z:(j:Int)+1=(j1:Int):=by omega
      have hj1l:j1<=R.ts.length:=by omega
      have hj1c:j1<=cap:=by omega
      have hjl:j<=R.ts.length:=by omega
      have HJ:=qqH hj1;clear hj1
      go_wp2_with (first
       | (refine al rfl (oU 3 (.tmp 64) (.tmp 62) rfl 193 4 R.vs.length g vcap (bB R.vs) HV1.out HV.b (k*4+3) (by omega) (.int .i64 (hd-1)) rfl rfl (by kernel_rfl) (by simp[Value.oneCell']) rfl ?_);intro w5 hok5 hT5;rw[HX.a,<- HX.w]at hT5;obtain⟨d0,d1,d2,d3,d4,d5,d6⟩:=HRF.out _ [] hT5;have H5:=Hq3 hT5 d5 d6;clear hok5 hT5 d5 d6 c0 hh3 hn3;simp only[Act.put])
       | (at_builtin;refine al rfl ?_;refine g8 (.tmp 65) (.tmp 71) rfl (.slice none 0 0) [] rfl (G:=BF) (show Turns F2 (cI (.slice none 0 0) []++BF) w w5 from H5.a) ⟨rfl,fun _=>⟨rfl,rfl⟩⟩ _ _ _ rfl (R.ts.take j) (by rw[List.length_take,Nat.min_eq_left hjl]) (H5.b j) (by rw[List.length_take,Nat.min_eq_left hjl];simp;omega) ?_;intro v7 w7 hok7 hT7;simp only[List.nil_append]at hok7 hT7;obtain⟨d0,d1,d2,d3,d4,-,d6⟩:=HRF.out _ _ hT7;have H7:=Hq3 hok7 hT7 d6;clear hok7 hT7 d6)
       | (at_builtin;refine al rfl ?_;refine g8 (.tmp 73) (.tmp 80) rfl v7 (R.ts.take j) rfl H7.b H7.a _ _ _ rfl (R.ts.drop j1) (by rw[List.length_drop]) (H7.y j1 hj1l) (by simp;omega) ?_;intro v9 w9 hok9 hT9;obtain⟨d0,d1,d2,d3,d4,-,-⟩:=HRF.out _ _ hT9;have hv9:=ew hT9.sat.left hok9;have H9:=Hq3 hok9 hT9 hv9;clear hok9 hT9 hv9)
       | (refine al rfl (bi 58 (.tmp 85) (.tmp 83) rfl R.blk 1 (bE R) 60 v9 (H9.b.to (H:=(R.blk,Is (iA R))::(cI v9 (R.ts.take j++R.ts.drop j1)++(bN 193 4 (.slice (some ⟨g,0,none⟩) R.vs.length vcap) R.vs.length (bB vs1)++(cI R.tv R.ts++bc P)))) (by rw[HX.w];exact af)) rfl rfl (by simp[bE]) (by kernel_rfl) H9.c H9.d ?_);intro w10 hT10;have H10:=qqH hT10;clear hT10;simp only[Act.put]))
      all_goals
       refine bodyPost_ret (results_tmp rfl _ _ _) rfl (.inr ⟨HC.out,HP.out,j,k,v9,hlt,by rw[<- HX0.a];exact HB.z,hk,by rw[<- HX0.b,<- HX0.y];exact HB.a,rfl,⟨?_,?_⟩,?_⟩)
       ·show kK R.vv (jW R.vs k (-1));rw[<- HX.c,HV.c];exact⟨by rw[bu],fun h=>by cases h⟩
       ·show tH v9 (qk R.ts j);unfold qk;rw[<- HJ.out];exact H9.a
       ·rw[<- HX.b];refine H10.out.drop (fun x=>?_)
        have e1:aI (gG R (jW R.vs k (-1)) v9 (qk R.ts j))=(R.blk,Is (.cells ((bE R).setIfInBounds 1 v9) 60 (0,0)))::(bN 193 4 (.slice (some ⟨g,0,none⟩) R.vs.length vcap) R.vs.length (bB vs1)++cI v9 (R.ts.take j++R.ts.drop j1)):=by
         unfold aI gG cH qk;dsimp only;rw[pD,<- HJ.out,<- HX.c,<- HV.c];rfl
        rw[e1];simp only[aB,an];omega
     ·have hpq:(tn==m)=false:=by simp[hp]
      have hstep:∀t∈R.ts.take (j+1),t.name≠m:=fun t ht=>by
       rw[List.take_succ_eq_append_getElem hlt]at ht;rcases List.mem_append.1 ht with ht|ht
       ·exact HS.c t ht
       ·rw[List.mem_singleton.1 ht,<- HX0.a];exact hp
      have HT:=qqH hstep;clear hstep;go_wp2_with fail;go_roundw
      case rel=>exact⟨j+1,by omega,by go_num,HS.a,HT.out⟩
      case measure=>simp[intOf];omega
    ·obtain rfl:j=R.ts.length:=by omega
     clear hcell hA;go_wp2_with fail;refine bodyPost_ret (results_tmp rfl _ _ _) rfl (.inl ⟨3,rfl,Turns.same HH.a.ref HS.a,.inr (.inr ⟨HC.out,HP.out,fun t ht=>HS.c t (by rw[List.take_length];exact ht),rfl⟩)⟩)
def F6(S:AS)(m:Bs)(k:Int):Prop :=
 (S.X.closed=true/\k=9)\/(S.X.closed=false/\aA m=false/\k=1)\/(S.X.closed=false/\aA m=true/\gv S.ts m=false/\k=3) \/
 (∃q∈S.ts,q.key=m/\S.X.closed=false/\aA m=true/\128*S.A.count<S.data.length+(frame 5 (fN q.g.1 m q.g.2)).length/\k=8)
def DY(S:AS)(m:Bs)(w:World)(e:Ending)(w':World):Prop :=
 (∃k,F6 S m k/\e=.returned (cC k)/\Turns (arF S) (arF S) w w') \/
 (∃q∈S.ts,∃L',q.key=m/\S.X.closed=false/\aA m=true/\S.data.length+(frame 5 (fN q.g.1 m q.g.2)).length<=128*S.A.count/\e=.returned .nilIface/\RecIs S L' (frame 5 (fN q.g.1 m q.g.2))/\Turns (arF S) (arF (mV S m q.g.1 q.g.2 L')) w w')
theorem Hk{S:AS}{b:Nat}(hB:ArB S b)(hb:b<=90000)(l:Bs):(ai S.ps l).length<=1099511627776:=by have:=xP hB l;omega
theorem ym(S:AS)(m:Bs)(b:Nat)(w:World)(h:Sat w (arF S))(hok:ArOk S)(hB:ArB S b)(hb:b<=90000):
  Calls Tryz.prog 68 #[.pointer (some ⟨S.a,0,none⟩),str m] w (DY S m w):=by
 have HBg:=qqH (fun W (hW:aX w W) (h0:W.cell? ⟨w.heap.size,0,none⟩=some (str m))=>kh S.a S.X (some ⟨w.heap.size,0,none⟩) 1 [m] W (hW.at h.Q5 id) (fun _=>⟨_,_,rfl,fun j hj=>by
  obtain rfl:j=0:=by simp at hj;omega
  exact h0⟩) (by simp))
 have hal:=ah h.Q5;have HH:=Hq4 h hok hB hb;clear h hok hB hb;go_enter Tryz.func68,Tryz.ntmps68;go_wp2_with fail;have hal0:=aM w (.cells #[str m] 9);refine(HBg.out _ ((Mods.refl _ w).alloc _) (aa hal0 0 rfl)).mono ?_;rintro e w2 ⟨rfl,hs1⟩;have hs2:aX w w2:=((Mods.refl _ w).alloc _).trans hs1;obtain⟨cl,hcl⟩:∃cl,cl=S.X.closed:=⟨_,rfl⟩;obtain⟨pb,hpb⟩:∃pb,pb=aA m:=⟨_,rfl⟩;have e1:([m].all aA)=pb:=by simp[hpb]
 rw[e1,<- hcl];have hT1:Turns (arF S) (arF S) w w2:=Turns.same HH.a hs2;have HD:=Hq3 hcl.symm hpb.symm hT1;clear hcl hpb hs2 hs1 e1 hal0
 cases cl with
 | true =>
  simp only[if_true];unfold cC;go_wp2_with fail;refine bodyPost_ret (results_tmp rfl _ _ _) rfl (.inl ⟨9,.inl ⟨HD.a,rfl⟩,rfl,HD.y⟩)
 | false =>
  cases pb with
  | false =>
   simp only[Bool.false_eq_true,if_false];unfold cC;go_wp2_with fail;refine bodyPost_ret (results_tmp rfl _ _ _) rfl (.inl ⟨1,.inr (.inl ⟨HD.a,HD.b,rfl⟩),rfl,HD.y⟩)
  | true =>
   simp only[Bool.false_eq_true,if_false,if_true];have a1:w2.cell? ⟨S.a,1,none⟩=some (.map (some S.X.tm)):=aa hT1.sat.Q5 1 rfl;have hal2:=ah hT1.sat.Q5;have htm:=hT1.sat.Q7 (b:=S.X.tm) (o:=aR str (S.ts.map aN) S.tc) (by simp[arF,dm]);have hOm:OkS m:=by have:=bM HD.b;unfold OkS;omega
   have HV:=Hq2 htm hOm;clear htm hOm hT1
   cases hg:dW (S.ts.map aN) m with
   | none =>
    have hhb:jk (S.ts.map aN) m=false:=by rw[gt,hg];rfl
    have HG:=Hq2 hg hhb;clear hg hhb;go_wp2_with (at_lookup;refine al rfl (j9 eB (.tmp 21) (.tmp 22) rfl Tryz.underlying120 HV.a HH.b.tags.map (m8 _) m rfl rfl HV.z ?_);rw[HG.a,HG.z];simp only[Option.getD_none];unfold Jh);refine bodyPost_ret (results_tmp rfl _ _ _) rfl (.inl ⟨3,.inr (.inr (.inl ⟨HD.a,HD.b,by rw[<- pE];exact HG.z,rfl⟩)),rfl,HD.y.alloc _⟩)
   | some u =>
    obtain⟨e,he,hek,hev⟩:=kY hg;obtain⟨q,hq,rfl⟩:=List.mem_map.1 he;have hqk:q.key=m:=hek;have hqv:=HH.b.tags.val q hq;have hu:u=.agg #[str m,str q.g.1,.int .i64 q.g.2]:=by rw[<- hqk,<- hev];exact hqv
    have hhb:jk (S.ts.map aN) m=true:=by rw[gt,hg];rfl
    rw[hu]at hg;have hqb:=HH.c.tags q hq;have HG:=Hq5 hg hhb hq hqk hqb;clear hg hhb hu hqv hek hev he hq hqb;obtain⟨l,n,hgq⟩:∃l n,q.g=(l,n):=⟨_,_,rfl⟩;rw[hgq]at HG;dsimp only at HG;go_upto_region 7 with(at_lookup;refine al rfl (j9 eB (.tmp 21) (.tmp 22) rfl Tryz.underlying120 HV.a HH.b.tags.map (m8 _) m rfl rfl HV.z ?_);rw[HG.a,HG.b];simp only[Option.getD_some]);generalize hW:World.alloc w2 _=W
    have hT2:Turns (arF S) ((w2.heap.size,Is (.cells #[str m,str l,.int .i64 n] 230 (0,0)))::arF S) w W:=by
     rw[<- hW];exact HD.y.Q8 (.cells #[str m,str l,.int .i64 n] 230)
    have hbo:=hT2.sat.Q5;have d0:W.cell? ⟨w2.heap.size,0,none⟩=some (str m):=aa hbo 0 rfl;have d1:W.cell? ⟨w2.heap.size,1,none⟩=some (str l):=aa hbo 1 rfl;have d2:W.cell? ⟨w2.heap.size,2,none⟩=some (.int .i64 n):=aa hbo 2 rfl;obtain⟨pb,hpb⟩:∃pb,pb=w2.heap.size:=⟨_,rfl⟩;rw[<- hpb]at hT2 d0 d1 d2 ⊢;have H2:=qqH hT2;clear hW hT2 hbo hpb;go_wp2_with fail;refine(pH 5 m l n _).mono ?_;rintro e w3 ⟨rfl,hs3⟩;obtain⟨rec,hrec⟩:∃rec,rec=frame 5 (fN l m n):=⟨_,rfl⟩
    have hrl:rec.length<=70000:=by
     have:=bM HD.b;have:=HG.f;rw[hrec];simp only[bL,fN,List.length_append,bF,bW];omega
    have hWr:=mZ 5 l m n w3 HG.f (by have:=bM HD.b;omega) (by unfold I64;have:=HH.x;have:=HG.u;omega);rw[<- hrec]at hWr;have HW:=qqH hWr;have H3:=Hq3 (H2.out.Q9 hs3) hrec hrl;clear hs3 hrec hrl hWr d0 d1 d2;go_wp2_with fail;refine HW.out.mono ?_;rintro e w4 ⟨rv,rfl,hbo,hT4⟩;obtain⟨ra,rc,hrv,-⟩:=aV (dX hT4.sat hbo);subst hrv;have hT5:=((H3.a.Qb hT4).Q8 (.cells #[.slice ra rec.length rc] 38)).to (H:=(arF S++mf w4.heap.size (.slice ra rec.length rc) rec)++[(pb,Is (.cells #[str m,str l,.int .i64 n] 230 (0,0)))]) (by unfold mf;exact af);have HC:=qqH (kE S HH.b b HH.c HH.x (.slice ra rec.length rc) rec w4.heap.size _ hT5.sat.left hbo H3.y);have hal4:=ah (hT5.sat.Q7 (b:=S.a) (o:=aO S.X) (by simp[arF]));have H5:=qqH hT5;clear hT4 hT5 hbo;go_wp2_with fail;refine HC.out.mono ?_;rintro e w5 (⟨hful,rfl,hs⟩|⟨hfit,rfl,L',hR,hT6⟩)
    ·have H6:=Hq2 hful (H5.out.Q9 hs);clear hful hs;unfold cC;go_wp2_with fail;refine bodyPost_ret (results_tmp rfl _ _ _) rfl (.inl ⟨8,.inr (.inr (.inr ⟨q,HG.c,HG.d,HD.a,HD.b,by rw[hgq,<- H3.b];exact H6.a,rfl⟩)),rfl,?_⟩);exact H6.z.drop (fun x=>by simp only[an];omega)
    ·have hT7:=H5.out.step (List.Perm.refl _) hT6;have hT8:=hT7.to (H:=eM S.a S.X S.ps S.pc S.ts S.tc++((ay S.X.ab S.X.d (mP S L' rec).A++(aE S.X.d L'++bm S.X.cm S.cs S.cc))++(mf w4.heap.size (.slice ra rec.length rc) rec++[(pb,Is (.cells #[str m,str l,.int .i64 n] 230 (0,0)))]))) (by unfold arF mP eM;exact af);have hbo8:=hT8.sat.Q7 (b:=pb) (o:=.cells #[str m,str l,.int .i64 n] 230 (0,0)) (by simp);have d0:w5.cell? ⟨pb,0,none⟩=some (str m):=aa hbo8 0 rfl;have d1:w5.cell? ⟨pb,1,none⟩=some (str l):=aa hbo8 1 rfl;have d2:w5.cell? ⟨pb,2,none⟩=some (.int .i64 n):=aa hbo8 2 rfl;have hal5:S.a<w5.heap.size:=ah (hT8.sat.Q7 (b:=S.a) (o:=aO S.X) (by simp[eM]));have H8:=Hq3 hT8 hfit hR;clear hT6 hT7 hT8 hbo8 hfit hR;have HM:=qqH (show Tryz.prog.follows .mixedOrders=true by kernel_rfl);go_wp2_with fail;refine wp_region_still_tail 4 HM.out (by kernel_rfl) ?_;simp only[List.take_succ_cons,List.take_zero,List.drop_succ_cons,List.drop_zero];repeat still_step
     refine wpStill_nil ?_;change wpList _ _ _ _ _ w5.drew;have hT9:=H8.a.drew;have HPn:=qqH (ri S.a S.X S.ps S.pc S.ts S.tc m l n w5.drew ⟨hT9.sat.left,HH.b.paths,HH.b.tags,HV.z,by unfold OkS;have:=HG.f;omega,Hk HH.c HH.x l,Dh HH.c HH.x l⟩);have H9:=qqH hT9;clear hT9 d0 d1 d2;go_wp2_with fail;refine HPn.out.mono ?_;rintro e w6 ⟨rfl,hT10⟩;have H10:=qqH (H9.out.step (List.Perm.refl _) hT10);clear hT10;go_wp2_with fail;refine bodyPost_ret (results_tmp rfl _ _ _) rfl (.inr ⟨q,HG.c,L',HG.d,HD.a,HD.b,by rw[hgq,<- H3.b];exact H8.b,rfl,by rw[hgq,<- H3.b];exact H8.y,?_⟩);rw[hgq];refine H10.out.drop (fun x=>?_);unfold mV arF mP eM;rw[<- H3.b];simp only[aB,an];omega
def d8(p:Bs)(n d:Int)(v:RVer):RVer:=if v.path=p/\v.num=n then { v with held:=v.held+d } else v
theorem gk(p:Bs)(n d:Int)(v:RVer):(d8 p n d v).path=v.path/\(d8 p n d v).num=v.num/\(d8 p n d v).cont=v.cont/\(d8 p n d v).cv=v.cv:=by
 unfold d8;split<;>exact⟨rfl,rfl,rfl,rfl⟩
theorem lG{vs:List RVer}(h:pd vs){k:Nat}(hk:k<vs.length)(d:Int):jW vs k d=vs.map (d8 vs[k].path vs[k].num d):=by
 unfold jW;rw[List.getElem?_eq_getElem hk];dsimp only;refine List.ext_getElem (by simp) fun i h1 h2=>?_
 rw[List.getElem_set,List.getElem_map];rw[List.length_set]at h1;by_cases hi:k=i
 ·subst hi;rw[if_pos rfl];unfold d8;rw[if_pos ⟨rfl,rfl⟩]
 ·rw[if_neg hi];unfold d8;rw[if_neg (fun e=>hi (h.one hk h1 e.1.symm e.2.symm))]
theorem sn(vs:List RVer)(p:Bs)(n d:Int)(q:Bs):aL (vs.map (d8 p n d)) q=(aL vs q).map (d8 p n d):=by
 unfold aL;rw[List.filter_map];congr 1;refine List.filter_congr fun v _=>?_
 show decide ((d8 p n d v).path=q)=_;rw[(gk p n d v).1]
def tb(n d:Int)(t:kD):kD:=if t.1=n then(t.1,t.2.1,t.2.2+d)else t
theorem Link.hold{S S':AS}{R:RefL}(L:Link S R){p:Bs}{n d:Int}(hps:S'.ps=dZ S.ps p n d)(hK:S'.K=S.K)(q:Bs):(ai S'.ps q).map (ed S')=(aL (R.vs.map (d8 p n d)) q).map iG:=by
 rw[hps,lI,sn]
 have e1:∀V:VerL,ed S' (dJ n d V)=tb n d (ed S V):=fun V=>by
  have hc:∀U:VerL,U.chs=V.chs->dG S' U=dG S V:=fun U hU=>by unfold dG;rw[hK,hU]
  unfold ed tb dJ;by_cases h:(V.num:Int)=n
  ·rw[if_pos h,if_pos h];exact congrArg (fun c=>((V.num:Int),c,V.held+d)) (hc _ rfl)
  ·rw[if_neg h,if_neg h,hc _ rfl]
 have e2:∀V:VerL,ed S' V=ed S V:=fun V=>by unfold ed dG;rw[hK]
 by_cases h:q=p
 ·subst h;rw[if_pos rfl,List.map_map,List.map_map];have h1:=congrArg (List.map (tb n d)) (L.vers q);rw[List.map_map,List.map_map]at h1;have h2:(ai S.ps q).map (ed S' ∘ dJ n d)=(ai S.ps q).map (tb n d ∘ ed S):=List.map_congr_left fun V _=>e1 V
  rw[h2,h1];refine List.map_congr_left fun v hv=>?_
  have hv2:v.path=q:=by simpa using(List.mem_filter.1 hv).2
  show tb n d (iG v)=iG (d8 q n d v);unfold tb iG d8;by_cases h3:v.num=n
  ·rw[if_pos h3,if_pos ⟨hv2,h3⟩]
  ·rw[if_neg h3,if_neg (fun e=>h3 e.2)]
 ·rw[if_neg h,List.map_map];have h2:(ai S.ps q).map (ed S')=(ai S.ps q).map (ed S):=List.map_congr_left fun V _=>e2 V
  rw[h2,L.vers];refine List.map_congr_left fun v hv=>?_
  have hv2:v.path=q:=by simpa using(List.mem_filter.1 hv).2
  show iG v=iG (d8 p n d v);unfold d8;rw[if_neg (fun e=>h (hv2.symm.trans e.1))]
theorem Bk(vs:List RVer)(p:Bs)(n d:Int):fB (vs.map (d8 p n d))=fB vs:=by
 unfold fB;rw[List.map_map];congr 1;exact List.map_congr_left fun v _=>by show(d8 p n d v).cont.length=_;rw[(gk p n d v).2.2.1]
theorem Link.held'{S S':AS}{R:RefL}(L:Link S R){p:Bs}{n d:Int}{tv:Value}{ts':List RTag}(hX:S'.X=S.X)(hps:S'.ps=dZ S.ps p n d)(hK:S'.K=S.K)(h1:(S'.ts.map qH).Perm (ts'.map uS))(h2:ts'.Pairwise (fun a b=>bO a.name b.name=true))(h3:∀t∈ts',aA t.name=true/\∃v∈R.vs,v.path=t.path/\v.num=t.num)(h4:∀v∈R.vs,(d8 p n d v).held=jl ts' v.path v.num):Link S' (gG R (R.vs.map (d8 p n d)) tv ts') where
 closed:=by rw[hX];exact L.closed
 quota:=by rw[hX];exact L.quota
 used:=by rw[hX,L.used];show _=((fB (R.vs.map (d8 p n d)):Nat):Int);rw[Bk]
 vers:=fun q=>L.hold hps hK q
 sorted:=by
  show(R.vs.map (d8 p n d)).Pairwise _
  rw[List.pairwise_map]
  exact L.sorted.imp fun h=>by rw[(gk p n d _).1,(gk p n d _).1];exact h
 asc:=fun q=>by
  show((aL (R.vs.map (d8 p n d)) q).map (·.num)).Pairwise _
  rw[sn,List.map_map]
  have:(aL R.vs q).map ((·.num) ∘ d8 p n d)=(aL R.vs q).map (·.num):=List.map_congr_left fun v _=>(gk p n d v).2.1
  rw[this];exact L.asc q
 each:=fun v hv=>by
  obtain⟨u,hu,rfl⟩:=List.mem_map.1 (show v∈R.vs.map (d8 p n d)from hv)
  obtain⟨e1,e2,e3,-⟩:=gk p n d u
  rw[e1,e2,e3];exact L.each u hu
 tags:=h1
 tsort:=h2
 teach:=fun t ht=>by
  obtain⟨a,v,hv,b,c⟩:=h3 t ht
  refine⟨a,d8 p n d v,List.mem_map.2 ⟨v,hv,rfl⟩,?_,?_⟩
  ·rw[(gk p n d v).1];exact b
  ·rw[(gk p n d v).2.1];exact c
 held:=fun v hv=>by
  obtain⟨u,hu,rfl⟩:=List.mem_map.1 (show v∈R.vs.map (d8 p n d)from hv)
  obtain⟨e1,e2,-,-⟩:=gk p n d u
  rw[e1,e2];exact h4 u hu
theorem wl{ts:List RTag}(hs:ts.Pairwise (fun a b=>bO a.name b.name=true)){m:Bs}(hm:∀t∈ts,t.name≠m):∀k,k<=ts.length->(∀i (h:i<ts.length),i<tAt ts m k->bO ts[i].name m=true)/\(∀i (h:i<ts.length),tAt ts m k<=i->i<k->bO m ts[i].name=true)
 | 0,_=>⟨fun i _ h=>by simp[tAt]at h,fun i _ _ h=>by omega⟩
 | k+1,hk=>by
  obtain⟨h1,h2⟩:=wl hs hm k (by omega)
  have h5:=List.pairwise_iff_getElem.1 hs
  rw[Ao (by omega)]
  cases hb:bO ts[k].name m with
  | true =>
   rw[if_pos rfl]
   refine⟨fun i hi h3=>?_,fun i hi h3 h4=>by omega⟩
   by_cases hik:i=k
   ·subst hik;exact hb
   ·exact gI (h5 i k hi (by omega) (by omega)) hb
  | false =>
   rw[if_neg (by simp)]
   refine⟨h1,fun i hi h3 h4=>?_⟩
   by_cases hik:i=k
   ·subst hik
    cases hc:bO m ts[i].name with
    | true=>rfl
    | false=>exact absurd (jS _ _ hb hc) (hm _ (List.getElem_mem hi))
   ·exact h2 i hi h3 (by omega)
theorem wm(ts:List RTag)(m:Bs)(x:RTag):(rD ts m x).Perm (x::ts):=by
 unfold rD;refine(List.Perm.append_right _ List.perm_append_comm).trans ?_;rw[List.append_assoc,List.take_append_drop];exact List.Perm.refl _
theorem Ap{ts:List RTag}(hs:ts.Pairwise (fun a b=>bO a.name b.name=true)){m:Bs}(hm:∀t∈ts,t.name≠m){x:RTag}(hx:x.name=m):(rD ts m x).Pairwise (fun a b=>bO a.name b.name=true):=by
 obtain⟨h1,h2⟩:=wl hs hm ts.length (Nat.le_refl _);have h3:(ts.take (tAt ts m ts.length)++ts.drop (tAt ts m ts.length)).Pairwise (fun a b=>bO a.name b.name=true):=by rw[List.take_append_drop];exact hs
 rw[List.pairwise_append]at h3
 have ha:∀t∈ts.take (tAt ts m ts.length),bO t.name m=true:=fun t ht=>by
  obtain⟨i,hi,rfl⟩:=List.getElem_of_mem ht;rw[List.length_take]at hi;rw[List.getElem_take];exact h1 i (by omega) (by omega)
 have hb:∀t∈ts.drop (tAt ts m ts.length),bO m t.name=true:=fun t ht=>by
  obtain⟨i,hi,rfl⟩:=List.getElem_of_mem ht;rw[List.length_drop]at hi;rw[List.getElem_drop];exact h2 _ (by omega) (by omega) (by omega)
 unfold rD;rw[List.pairwise_append,List.pairwise_append];refine⟨⟨h3.1,List.pairwise_singleton _ _,fun a h b hb'=>?_⟩,h3.2.1,fun a h b h'=>?_⟩
 ·obtain rfl:=List.mem_singleton.1 hb';rw[hx];exact ha a h
 ·rcases List.mem_append.1 h with h|h
  ·exact gI (ha a h) (hb b h')
  ·obtain rfl:=List.mem_singleton.1 h;rw[hx];exact hb b h'
theorem sQ{a b:List RTag}(h:a.Perm b)(p:Bs)(n:Int):jl a p n=jl b p n:=by unfold jl;rw[h.countP_eq]
theorem sP(t:RTag)(ts:List RTag)(p:Bs)(n:Int):jl (t::ts) p n=jl ts p n+(if t.path=p/\t.num=n then 1 else 0):=by
 unfold jl;rw[List.countP_cons];by_cases h:t.path=p/\t.num=n<;>simp[h]
theorem Link.names{S:AS}{R:RefL}(L:Link S R)(m:Bs):gv S.ts m=true↔∃t∈R.ts,t.name=m:=by
 unfold gv;rw[List.any_eq_true];constructor
 ·rintro⟨q,hq,e⟩;have:qH q∈R.ts.map uS:=L.tags.mem_iff.1 (List.mem_map.2 ⟨q,hq,rfl⟩);obtain⟨t,ht,e2⟩:=List.mem_map.1 this;refine⟨t,ht,?_⟩;have:=congrArg (·.1) e2;simp only[decide_eq_true_eq]at e;exact(show t.name=q.key from this).trans e
 ·rintro⟨t,ht,e⟩;have:uS t∈S.ts.map qH:=L.tags.mem_iff.2 (List.mem_map.2 ⟨t,ht,rfl⟩);obtain⟨q,hq,e2⟩:=List.mem_map.1 this;refine⟨q,hq,?_⟩;have:=congrArg (·.1) e2;simp only[decide_eq_true_eq];exact(show q.key=t.name from this).trans e
theorem Link.tag{S:AS}{R:RefL}(L:Link S R){m p:Bs}{n:Int}{V:VerL}(hm:aA m=true)(h:iB S p n V)(hno:gv S.ts m=false){k:Nat}(hk:k<R.vs.length)(hg:cO R p n=.ok R.vs[k]){tv:Value}{L':DevL}:
  R.vs[k].num=V.num/\Link (xM S m p V.num L') (gG R (jW R.vs k 1) tv (rD R.ts m ⟨m,p,R.vs[k].num⟩)):=by
 obtain⟨h1,h2,-⟩:=L.at h hk hg
 have hnm:∀t∈R.ts,t.name≠m:=fun t ht e=>by
  have:=(L.names m).2 ⟨t,ht,e⟩;rw[hno]at this;cases this
 refine⟨h2,?_⟩;rw[lG L.uniq hk,h1,h2];have hpm:=wm R.ts m ⟨m,p,(V.num:Int)⟩;refine L.held' (S':=xM S m p V.num L') rfl rfl rfl ?_ (Ap L.tsort hnm rfl) (fun t ht=>?_) (fun v hv=>?_)
 ·have e:(xM S m p V.num L').ts=S.ts++[⟨m,S.tc,qI m (p,(V.num:Int)),(p,(V.num:Int))⟩]:=by
   show eO S.ts S.tc m _ _=_;unfold eO;rw[hno];rfl
  rw[e,List.map_append];refine(List.Perm.append_right _ L.tags).trans ?_;refine List.Perm.trans ?_ (hpm.map _).symm;rw[List.map_cons];exact List.perm_append_singleton _ _
 ·rcases List.mem_cons.1 (hpm.mem_iff.1 ht)with rfl|ht
  ·exact⟨hm,R.vs[k],List.getElem_mem hk,h1,h2⟩
  ·exact L.teach t ht
 ·rw[sQ hpm,sP,<- L.held v hv];unfold d8;by_cases hb:v.path=p/\v.num=V.num
  ·rw[if_pos hb,if_pos ⟨hb.1.symm,hb.2.symm⟩]
  ·rw[if_neg hb,if_neg (fun e=>hb ⟨e.1.symm,e.2.symm⟩),Int.add_zero]
theorem Jc{ts:List RTag}(hs:ts.Pairwise (fun a b=>bO a.name b.name=true)){i:Nat}(hi:i<ts.length):qk ts i=ts.filter (fun t => !decide (t.name=ts[i].name)):=by
 have h5:=List.pairwise_iff_getElem.1 hs
 have hne:∀j (hj:j<ts.length),j≠i->ts[j].name≠ts[i].name:=fun j hj h e=>by
  rcases Nat.lt_or_gt_of_ne h with hl|hl
  ·have:=h5 j i hj hi hl;rw[e,cd]at this;cases this
  ·have:=h5 i j hi hj hl;rw[e,cd]at this;cases this
 have e:ts=ts.take i++ts[i]::ts.drop (i+1):=by rw[<- List.drop_eq_getElem_cons hi,List.take_append_drop]
 have h1:(ts.take i).filter (fun t => !decide (t.name=ts[i].name))=ts.take i:=List.filter_eq_self.2 fun v hv=>by
  obtain⟨j,hj,rfl⟩:=List.getElem_of_mem hv;rw[List.length_take]at hj;rw[List.getElem_take];have:=hne j (by omega) (by omega);simp[this]
 have h2:(ts.drop (i+1)).filter (fun t => !decide (t.name=ts[i].name))=ts.drop (i+1):=List.filter_eq_self.2 fun v hv=>by
  obtain⟨j,hj,rfl⟩:=List.getElem_of_mem hv;rw[List.length_drop]at hj;rw[List.getElem_drop];have:=hne (i+1+j) (by omega) (by omega);simp[this]
 calc qk ts i=ts.take i++ts.drop (i+1):=rfl
  _=(ts.take i++ts[i]::ts.drop (i+1)).filter (fun t => !decide (t.name=ts[i].name)):=by rw[List.filter_append,List.filter_cons_of_neg (by simp),h1,h2]
  _=_:=by rw[<- e]
theorem Link.Qp{S:AS}{R:RefL}(L:Link S R){m:Bs}{q:ib}(hq:q∈S.ts)(hqk:q.key=m){i:Nat}(hi:i<R.ts.length)(him:R.ts[i].name=m){k:Nat}(hb:bR R.vs R.ts[i].path R.ts[i].num R.vs.length=k){tv:Value}{L':DevL}:
  Link (mV S m q.g.1 q.g.2 L') (gG R (jW R.vs k (-1)) tv (qk R.ts i)):=by
 have h5:=List.pairwise_iff_getElem.1 L.tsort
 have hqt:uS R.ts[i]=qH q:=by
  have:qH q∈R.ts.map uS:=L.tags.mem_iff.1 (List.mem_map.2 ⟨q,hq,rfl⟩);obtain⟨t,ht,e⟩:=List.mem_map.1 this;obtain⟨j,hj,rfl⟩:=List.getElem_of_mem ht;have hn:R.ts[j].name=R.ts[i].name:=by rw[him,<- hqk];exact congrArg (·.1) e
  have:j=i:=by
   rcases Nat.lt_trichotomy j i with hl|hl|hl
   ·have:=h5 j i hj hi hl;rw[hn,cd]at this;cases this
   ·exact hl
   ·have:=h5 i j hi hj hl;rw[hn,cd]at this;cases this
  subst this;exact e
 have hpn:R.ts[i].path=q.g.1/\R.ts[i].num=q.g.2:=⟨congrArg (·.2.1) hqt,congrArg (·.2.2) hqt⟩;obtain⟨-,v,hv,hv1,hv2⟩:=L.teach R.ts[i] (List.getElem_mem hi);obtain⟨k',hk',hk2,hb',-⟩:=lw L.uniq (fun v hv=>(L.each v hv).1) hv;have hkk:k'=k:=by rw[hv1,hv2,hb]at hb';omega
 subst hkk;have hcut:=Jc L.tsort hi
 have hperm:R.ts.Perm (R.ts[i]::qk R.ts i):=by
  have e:R.ts=R.ts.take i++R.ts[i]::R.ts.drop (i+1):=by rw[<- List.drop_eq_getElem_cons hi,List.take_append_drop]
  unfold qk
  calc R.ts.Perm (R.ts.take i++R.ts[i]::R.ts.drop (i+1)):=by rw[<- e]
   _ |>.Perm (R.ts[i]::(R.ts.take i++R.ts.drop (i+1))):=List.perm_middle
 rw[lG L.uniq hk',hk2,hv1,hv2,hpn.1,hpn.2];refine L.held' (S':=mV S m q.g.1 q.g.2 L') rfl rfl rfl ?_ (by rw[hcut];exact L.tsort.filter _) (fun t ht=>L.teach t (by rw[hcut]at ht;exact(List.mem_filter.1 ht).1)) (fun v hv=>?_)
 ·show((bI S.ts m).map qH).Perm _;rw[hcut];have h6:=L.tags.filter (fun t => !decide (t.1=m));rw[List.filter_map,List.filter_map]at h6;rw[him];exact h6
 ·have h7:=L.held v hv;rw[sQ hperm,sP,hpn.1,hpn.2]at h7;unfold d8;by_cases hb2:v.path=q.g.1/\v.num=q.g.2
  ·rw[if_pos hb2];rw[if_pos ⟨hb2.1.symm,hb2.2.symm⟩]at h7;show v.held+-1=_;omega
  ·rw[if_neg hb2];rw[if_neg (fun e=>hb2 ⟨e.1.symm,e.2.symm⟩)]at h7;omega
theorem C6:∀{a b:Bs},bO a b=true↔a<b
 | [],[]=>by simp[bO]
 | [],_::_=>by simp[bO]
 | _::_,[]=>by simp[bO]
 | a::ax,b::bs=>by
  rw[List.cons_lt_cons_iff,<- C6 (a:=ax)]
  by_cases h1:a<b
  ·simp[bO,h1]
  ·by_cases h2:b<a
   ·have:¬a=b:=fun h=>by subst h;exact h1 h2
    simp[bO,h1,h2,this]
   ·have:a=b:=UInt8.le_antisymm (UInt8.not_lt.1 h2) (UInt8.not_lt.1 h1)
    subst this
    simp[bO]
theorem Iz{a b:Bs}(h:bO a b=true):a<=b:=fun hb=>by
 have:=C6.2 hb
 rw[ly h]at this;cases this
theorem Link.pins{S:AS}{R:RefL}(L:Link S R)(hok:ArOk S):iU S.ts (kr S.ts)=R.ts.map tagT:=by
 have hk:kr S.ts=R.ts.map (·.name):=by
  unfold kr
  have hp:(S.ts.map (·.key)).Perm (R.ts.map (·.name)):=by
   have:=L.tags.map (·.1);rw[List.map_map,List.map_map]at this;exact this
  refine List.Perm.eq_of_pairwise (le:=fun x y=>decide (x<=y)=true) (fun x y _ _ h1 h2=>?_) (List.pairwise_mergeSort (fun x y z h1 h2=>?_) (fun x y=>?_) _) ?_ ((List.mergeSort_perm _ _).trans hp)
  ·simp only[decide_eq_true_eq]at h1 h2;exact List.le_antisymm h1 h2
  ·simp only[decide_eq_true_eq]at h1 h2 ⊢;exact List.le_trans h1 h2
  ·simp only[Bool.or_eq_true,decide_eq_true_eq];exact List.le_total x y
  ·rw[List.pairwise_map];exact L.tsort.imp fun h=>by simpa using Iz h
 unfold iU;rw[hk,List.map_map];refine List.map_congr_left fun t ht=>?_
 have hm:uS t∈S.ts.map qH:=L.tags.mem_iff.2 (List.mem_map.2 ⟨t,ht,rfl⟩);obtain⟨q,hq,e⟩:=List.mem_map.1 hm;have e1:q.key=t.name:=congrArg (·.1) e;have e2:q.g=(t.path,t.num):=congrArg (·.2) e;show(t.name,gOf ([],0) S.ts t.name)=(t.name,t.path,t.num);unfold gOf
 cases hf:S.ts.find? (fun p=>decide (p.key=t.name))with
 | none=>exact absurd e1 (by simpa using List.find?_eq_none.1 hf q hq)
 | some x =>
  have hx:=List.mem_of_find?_eq_some hf;have hxk:x.key=t.name:=by simpa using List.find?_some hf
  have hnd:(S.ts.map (·.key)).Nodup:=by have:=hok.tags.map.nodup;rw[eL]at this;exact this
  obtain⟨i,hi,rfl⟩:=List.getElem_of_mem hx;obtain⟨j,hj,rfl⟩:=List.getElem_of_mem hq
  have:i=j:=by
   have h3:=(List.pairwise_iff_getElem.1 hnd);rcases Nat.lt_trichotomy i j with hl|hl|hl
   ·exact absurd (by rw[List.getElem_map,List.getElem_map,hxk,e1]) (h3 i j (by simpa using hi) (by simpa using hj) hl)
   ·exact hl
   ·exact absurd (by rw[List.getElem_map,List.getElem_map,hxk,e1]) (h3 j i (by simpa using hj) (by simpa using hi) hl)
  subst this;simp only[e2]
theorem ArB.mono{S:AS}{b c:Nat}(h:ArB S b)(hbc:b<=c):ArB S c where
 K:=Nat.le_trans h.K hbc
 np:=Nat.le_trans h.np hbc
 nt:=Nat.le_trans h.nt hbc
 vers:=fun p hp=>⟨(h.vers p hp).1,Nat.le_trans (h.vers p hp).2.1 hbc,fun V hV=>by
  obtain⟨h1,h2,h3,h4⟩:=(h.vers p hp).2.2 V hV
  exact⟨by omega,by omega,by omega,by omega⟩⟩
 tags:=fun p hp=>by
  obtain⟨h1,h2,h3⟩:=h.tags p hp
  exact⟨h1,h2,by omega⟩
 used:=by have:=h.used;omega
 sc:=by have:=h.sc;omega
 sb:=by have:=h.sb;omega
 quota:=h.quota
 chs:=by have:=h.chs;omega
structure PB (X:WS) (k m:Nat):Prop where
 b:ArB X.S (m+2*k)
 vs:X.R.vs.length<=k
 ts:X.R.ts.length<=k
 ml:X.M.length<=m
 nums:∀v∈X.R.vs,v.num<=k
 data:X.S.data.length+4*X.R.vs.length<=110*k+2*m
 n:X.S.L.n=20000
 q:0<=X.S.X.quota/\X.S.X.quota<=9223372036854775807
 told:∃rs H,Told X.S rs H
theorem PB.mono{X:WS}{k m k' m':Nat}(h:PB X k m)(hk:k<=k')(hm:m<=m'):PB X k' m' where
 b:=h.b.mono (by omega)
 vs:=Nat.le_trans h.vs hk
 ts:=Nat.le_trans h.ts hk
 ml:=Nat.le_trans h.ml hm
 nums:=fun v hv=>by have:=h.nums v hv;omega
 data:=by have:=h.data;omega
 n:=h.n
 q:=h.q
 told:=h.told
theorem PB.out{X:WS}{k m:Nat}(h:PB X k m)(sp:List (Nat×Nat×Nat))(ov wv:Value)(D:Bs):PB (EN X sp ov wv D) k m where
 b:=h.b.spare sp
 vs:=h.vs
 ts:=h.ts
 ml:=h.ml
 nums:=h.nums
 data:=h.data
 n:=h.n
 q:=h.q
 told:=by obtain⟨rs,H,h1⟩:=h.told;exact⟨rs,H,h1.spare sp⟩
theorem PB.flush{X:WS}{k m:Nat}(h:PB X k m){L':DevL}(hf:jr X.S.L L'):PB { X with S:=iL X.S L' } k m where
 b:=h.b.flush hf
 vs:=h.vs
 ts:=h.ts
 ml:=h.ml
 nums:=h.nums
 data:=h.data
 n:=by show L'.n=_;rw[hf.2.1];exact h.n
 q:=h.q
 told:=by obtain⟨rs,H,h1⟩:=h.told;exact⟨rs,H,h1.flush hf.2.2.1⟩
theorem PB.close{X:WS}{k m:Nat}(h:PB X k m){S1:AS}(hc:i4 X.S S1):PB { X with S:=S1,R:={ X.R with closed:=true } } k m:=by
 rcases hc with⟨_,rfl⟩|⟨_,L',hf,rfl⟩
 ·exact⟨h.b,h.vs,h.ts,h.ml,h.nums,h.data,h.n,h.q,h.told⟩
 ·have h2:=h.flush hf;refine⟨h2.b.close,h2.vs,h2.ts,h2.ml,h2.nums,h2.data,h2.n,h2.q,?_⟩;obtain⟨rs,H,h1⟩:=h2.told;exact⟨rs,H,h1.close⟩
theorem su(D:Bs):(aH D).length<=D.length:=by
 unfold aH;rw[cF];exact dh D
theorem Eo(S:AS)(D:Bs):(bJ S D).length<=(aH D).length:=by
 unfold bJ
 have:∀(has l acc:List Bs),(co has acc l).length<=acc.length+l.length:=by
  intro has l;induction l with
  | nil=>intro acc;simp[co]
  | cons c r ih =>
   intro acc;simp only[co];split
   ·have:=ih acc;simp only[List.length_cons];omega
   ·have:=ih (acc++[c]);simp only[List.length_append,List.length_cons,List.length_nil]at this ⊢;omega
 simpa using this (S.K.map (·.1)) (aH D) []
theorem PB.put{X:WS}{k m:Nat}(h:PB X k m){w0 W W':World}(hw:WsOk w0 W X){o:OpL}{S':AS}{V:VerL}{vv cv mv:Value}{M':List SlB}(hp:PutStep X.S S' o.s o.d V)(hpb:AM X.S o.d (m+2*k) S')(hD:o.d.length<=4000)(hl:aA o.s=true)(hM:M'.map (·.bs)=nJ (X.M.map (·.bs)) (aH o.d))(hw':WsOk w0 W' (I0 X o S' vv cv mv M'))(hk:k+1<=400)(hm:m+o.d.length<=60000):PB (I0 X o S' vv cv mv M') (k+1) (m+o.d.length):=by
 have hnr:iQ X.R.vs o.s X.R.vs.length<=k+1:=by
  rw[ny _ _ _ (Nat.le_refl _),List.take_length]
  cases hg:(aL X.R.vs o.s).getLast? with
  | none=>simp;omega
  | some v =>
   have:=h.nums v (List.mem_filter.1 (List.mem_of_getLast? hg)).1;simp only[Option.map_some,Option.getD_some];omega
 have hVn:(V.num:Int)=iQ X.R.vs o.s X.R.vs.length:=by rw[hw.link.nr,hp.num];simp
 have hroom:=zO (S:=X.S) (D:=o.d) (bM hl) (n:=V.num) (s:=V.size) hp.nchs
 have hdl:S'.data.length+4*(dr X.R.vs o.s ⟨o.s,iQ X.R.vs o.s X.R.vs.length,o.d,cv,0⟩).length<=110*(k+1)+2*(m+o.d.length):=by
  have:=h.data;rw[hp.data,List.length_append,List.length_append,Dj];omega
 refine⟨?_,?_,?_,?_,?_,hdl,?_,?_,?_⟩
 ·have h1:=Eo X.S o.d;have h2:=su o.d;exact hpb _ (by omega) (by omega)
 ·show(dr _ _ _).length<=_;rw[Dj];have:=h.vs;omega
 ·have:=h.ts;show X.R.ts.length<=_;omega
 ·show M'.length<=_;have h1:=congrArg List.length hM;have h2:=vg (X.M.map (·.bs)) (aH o.d);have h3:=su o.d;have h4:=h.ml;rw[List.length_map]at h1 h2;omega
 ·intro v hv;rcases nm.1 hv with hv|rfl
  ·have:=h.nums v hv;omega
  ·simp only;omega
 ·show S'.L.n=_;rw[hp.n];exact h.n
 ·show 0<=S'.X.quota/\S'.X.quota<=9223372036854775807;rw[hp.quota];exact h.q
 ·obtain⟨rs,H,h1⟩:=h.told;exact⟨_,_,h1.put hw.ar hw'.ar hp (bM hl) hD (by omega) (by show S'.data.length<_;omega)⟩
def Ky(k:Nat):Option (Nat×Nat):=if k=1 then some (1,0)else none
theorem Told.opens{S:AS}{rs:kB}{H:List HV}(h:Told S rs H)(hok:ArOk S)(hn:S.L.n=20000)(hr:S.data.length<=810000)(d':Nat)(L':DevL)(q:Int)(W:World)(hc:nZ S.L L')(hs:Sat W (aE d' L')):
  Calls Tryz.prog 22 #[.pointer (some ⟨d',0,none⟩),.int .i64 q] W (fun e W''=>∃S',e=.returned (.tuple #[.pointer (some ⟨S'.a,0,none⟩),.nilIface])/\OpenIs d' L' q 1 (aP L'.now (2+1%2*aD L'.n) (aD L'.n)) S'/\Turns (aE d' L') (arF S') W W''):=by
 have hD:aP L'.now (2+1%2*aD L'.n) (aD L'.n)=dd rs++aq (128*S.A.count-S.data.length):=by
  have h1:=hok.dat.1;have h2:S.A.first=2+1%2*aD L'.n:=by rw[hok.first,h.ep,hc.2.1]
  have h3:S.A.count=aD L'.n:=by rw[hok.count,hc.2.1]
  rw[hc.2.2.1,<- h2,<- h3,h1,h.data]
 refine FI d' L' Ky 1 0 q W hs hc.1 (by rw[hc.2.1,hn];omega) (by rw[hc.2.1,hn];omega) (by rw[hc.2.2.2.2];simp) (fun k hk=>?_) (.inl rfl) rfl ?_ (by omega) ?_ (fun _ _ _ _=>Nat.zero_le _) (by omega)
 ·rcases(show k=0\/k=1 by omega)with rfl|rfl
  ·refine .inl ⟨rfl,?_⟩;rw[hc.2.2.1,h.sec0];exact pG 128
  ·exact .inr ⟨1,0,rfl,by rw[hc.2.2.1,h.sec1],rfl,by omega,by omega⟩
 ·unfold dQ;refine decide_eq_false (fun hz=>Hj 1 0 ?_);have:=hz 1 (by omega);rw[hc.2.2.1,h.sec1]at this;exact this
 ·intro at_ s hR;rw[hD]at hR;obtain⟨a,b,e1,e2,-⟩:=vX h.ok hR;rw[h.data,e1,ey,List.length_append]at hr;omega
theorem Told.Qk{S S':AS}{rs:kB}{H:List HV}(h:Told S rs H)(hok:ArOk S){d':Nat}{L':DevL}{q:Int}(hc:nZ S.L L')(ho:OpenIs d' L' q 1 (aP L'.now (2+1%2*aD L'.n) (aD L'.n)) S'):
  ArOk S'/\yh S S'/\S'.X.used=S.X.used/\S'.data=S.data/\Told S' rs H/\S'.X.sc=S'.K.length/\S'.X.sb=((S'.K.map (·.1.length)).sum:Nat)/\(∀e∈S.K,e.1.length<=65535):=by
 obtain⟨sz,szc,hct,hK,hdat⟩:=h.open hok hc.2.1 hc.2.2.1 ho;have hok':ArOk S':=EX hok hc.2.1 ho rfl hct hK hdat;have hv:yh S S':=⟨fun l=>by rw[hct.hist,h.hist],hK,by rw[hct.tagT]⟩;obtain⟨e1,e2,e3,e4,e5⟩:=ho.eX;refine⟨hok',hv,by rw[hct.used,h.used],hdat,?_,by rw[hct.sc,hK],by rw[hct.sb,hK],fun e he=>(hct.kat e he).2.1⟩;refine⟨h.ok,by rw[hdat,h.data],by rw[hK,hv.2.2];exact h.run,fun l=>by rw[hv.1];exact h.hist l,e2,?_,?_,by rw[hct.used]⟩
 ·rw[fg,ho.other 1 1 (.inl (by rw[ho.A.1];omega)),<- fg,hc.2.2.1];exact h.sec1
 ·rw[fg,ho.other 0 1 (.inl (by rw[ho.A.1];omega)),<- fg,hc.2.2.1];exact h.sec0
theorem PB.opened{X:WS}{k m:Nat}(h:PB X k m)(hok:ArOk X.S){d':Nat}{L':DevL}{q:Int}{S':AS}(hq:q<=9223372036854775807){b':Nat}{vv' tv':Value}(hc:nZ X.S.L L')(ho:OpenIs d' L' q 1 (aP L'.now (2+1%2*aD L'.n) (aD L'.n)) S'):PB (xo X q d' S' b' vv' tv') k m:=by
 obtain⟨rs,H,ht⟩:=h.told;obtain⟨hok',hv,hu,hdat,ht',hsc,hsb,hkl⟩:=ht.Qk hok hc ho;obtain⟨e1,e2,e3,e4,e5⟩:=ho.eX;have hclip:0<=dk q/\dk q<=9223372036854775807:=by unfold dk;split<;>omega
 refine⟨?_,h.vs,h.ts,h.ml,h.nums,?_,?_,?_,rs,H,ht'⟩
 ·refine G4 h.b hok hok' hv hu hsc hsb ?_ (by show S'.X.quota.natAbs<=_;rw[e3];omega) ho.dev.2.2.2 (fun p hp=>?_)
  ·have h1:=tY (l:=X.S.K) (f:=(·.1.length)) (m:=65535) hkl;have h2:=h.b.K;have h3:65535*X.S.K.length<=65536*(m+2*k):=Nat.mul_le_mul (by omega) h2;omega
  ·have h2:=hv.1 p.key;rw[iX hok'.paths hp]at h2
   have hne:ai X.S.ps p.key≠[]:=fun e=>by
    rw[e]at h2;exact hok'.some p hp (List.map_eq_nil_iff.1 h2)
   obtain⟨p0,hp0,hk0,-⟩:=di hne;rw[<- hk0];exact(h.b.vers p0 hp0).1
 ·show S'.data.length+4*X.R.vs.length<=_;rw[hdat];exact h.data
 ·show S'.L.n=_;rw[ho.dev.2.1,hc.2.1];exact h.n
 ·show 0<=S'.X.quota/\S'.X.quota<=_;rw[e3];exact hclip
def yM(X:WS)(S':AS)(R':RefL):WS:={ X with S:=S',R:=R' }
theorem WsOk.chg{w0 W W':World}{X:WS}(h:WsOk w0 W X){S':AS}{R':RefL}(hT:Turns [] (wsF (yM X S' R')) w0 W')(ha:S'.a=X.S.a)(hd:S'.X.d=X.S.X.d)(hr:R'.blk=X.R.blk)(hok:ArOk S')(href:RefOk R')(hin:qL X.P R')(hl:Link S' R'):WsOk w0 W' (yM X S' R') where
 turns:=hT
 a:=by show X.U.a=some S'.a;rw[ha];exact h.a
 r:=by show X.U.r=R'.blk;rw[hr];exact h.r
 d:=by show X.U.d=S'.X.d;rw[hd];exact h.d
 ar:=hok
 ref:=href
 pok:=h.pok
 inp:=hin
 out:=h.out
 want:=h.want
 most:=h.most
 ms:=h.ms
 link:=hl
 olen:=h.olen
theorem zl(ts:List RTag)(p:Bs)(n:Int):0<=jl ts p n/\jl ts p n<=ts.length:=by
 unfold jl;have:=List.countP_le_length (p:=fun t:RTag=>decide (t.path=p/\t.num=n)) (l:=ts);omega
theorem Link.ver{S:AS}{R:RefL}(L:Link S R)(hok:ArOk S){q:bl}(hq:q∈S.ps){V:VerL}(hV:V∈q.g):∃v∈R.vs,v.path=q.key/\v.num=V.num/\v.held=V.held/\V.held.natAbs<=R.ts.length:=by
 have h1:ed S V∈(aL R.vs q.key).map iG:=by
  rw[<- L.vers,iX hok.paths hq];exact List.mem_map.2 ⟨V,hV,rfl⟩
 obtain⟨v,hv,e⟩:=List.mem_map.1 h1;obtain⟨hv1,hv2⟩:=List.mem_filter.1 hv;unfold iG ed at e;simp only[Prod.mk.injEq]at e;have h2:=zl R.ts v.path v.num;rw[<- L.held v hv1]at h2;exact⟨v,hv1,by simpa using hv2,e.1,e.2.2,by omega⟩
theorem ArB.more{S S':AS}{b:Nat}(h:ArB S b){L':DevL}{r:Bs}(hr:RecIs S L' r)(hrl:r.length<=70000)(hK:S'.K=S.K)(hL:S'.L=L')(hu:S'.X.used.natAbs<=S.X.used.natAbs)(hX:S'.X.sc=S.X.sc/\S'.X.sb=S.X.sb/\S'.X.quota=S.X.quota)(np:S'.ps.length<=S.ps.length)(nt:S'.ts.length<=S.ts.length+1)(hv:∀q∈S'.ps,q.key.length<=255/\q.g.length<=b/\∀V∈q.g,V.num<=4294967296+b/\V.chs.length<=b/\V.size<=65536*b/\V.held.natAbs<=b+2)(ht:∀p∈S'.ts,p.key.length<=255/\p.g.1.length<=255/\p.g.2.natAbs<=4294967296+b):ArB S' (b+2) where
 K:=by rw[hK];have:=h.K;omega
 np:=by have:=h.np;omega
 nt:=by have:=h.nt;omega
 vers:=fun q hq=>by
  obtain⟨h1,h2,h3⟩:=hv q hq
  refine⟨h1,by omega,fun V hV=>?_⟩
  obtain⟨a1,a2,a3,a4⟩:=h3 V hV
  exact⟨by omega,by omega,by omega,a4⟩
 tags:=fun p hp=>by
  obtain⟨h1,h2,h3⟩:=ht p hp
  exact⟨h1,h2,by omega⟩
 used:=by have:=h.used;omega
 sc:=by rw[hX.1];have:=h.sc;omega
 sb:=by rw[hX.2.1];have:=h.sb;omega
 quota:=by rw[hX.2.2];exact h.quota
 chs:=by rw[hL];have:=h.chs;have:=hr.chs;omega
theorem Er{S:AS}{p:Bs}{ns:List Int}{v':Value}{L':DevL}(hne:ai S.ps p≠[]){q:bl}(hq:q∈(jp S p ns v' L').ps):∃q0∈S.ps,q.key=q0.key/\∀V∈q.g,V∈q0.g:=by
 have hq2:q∈ge S.ps S.pc p v' ns:=hq;obtain⟨q0,h0,hk,hg⟩:=jz hne;unfold ge at hq2;split at hq2
 ·exact⟨q,(List.mem_filter.1 hq2).1,rfl,fun V hV=>hV⟩
 ·rcases fh hq2 with⟨h1,_⟩|⟨h1,h2,h3⟩
  ·exact⟨q,h1,rfl,fun V hV=>hV⟩
  ·refine⟨q0,h0,by rw[h1,hk],fun V hV=>?_⟩;rw[h3]at hV;rw[<- hg];exact(List.mem_filter.1 hV).1
theorem Es{S:AS}{p:Bs}{ns:List Int}{v':Value}{L':DevL}(hne:ai S.ps p≠[]):(jp S p ns v' L').ps.length<=S.ps.length/\∀q∈(jp S p ns v' L').ps,∃q0∈S.ps,q.g.length<=q0.g.length/\q.key=q0.key:=by
 obtain⟨q0,h0,hk,hg⟩:=jz hne;constructor
 ·show(ge S.ps S.pc p v' ns).length<=_;unfold ge;split
  ·exact List.length_filter_le _ _
  ·have hh:gv S.ps p=true:=by unfold gv;rw[List.any_eq_true];exact⟨q0,h0,by simpa using hk⟩
   unfold eO;rw[hh,if_pos rfl,List.length_map];exact Nat.le_refl _
 ·intro q hq;have hq2:q∈ge S.ps S.pc p v' ns:=hq;unfold ge at hq2;split at hq2
  ·exact⟨q,(List.mem_filter.1 hq2).1,Nat.le_refl _,rfl⟩
  ·rcases fh hq2 with⟨h1,_⟩|⟨h1,h2,h3⟩
   ·exact⟨q,h1,Nat.le_refl _,rfl⟩
   ·refine⟨q0,h0,?_,by rw[h1,hk]⟩;rw[h3,<- hg];exact List.length_filter_le _ _
theorem CG(vs:List RVer)(p:Bs)(ns:List Int):fB (fe vs p ns)<=fB vs:=by have:=t6 vs p ns;omega
theorem BL{vs:List RVer}(h:pd vs){p:Bs}{ns:List Int}(hn:ns.Nodup)(hm:∀n∈ns,∃v∈vs,v.path=p/\v.num=n):(fe vs p ns).length+ns.length=vs.length:=by
 have h1:=(List.filter_append_perm (inR p ns) vs).length_eq;rw[List.length_append]at h1
 have h2:((vs.filter (inR p ns)).map (·.num)).Perm ns:=by
  refine(List.perm_ext_iff_of_nodup ?_ hn).2 fun n=>?_
  ·rw[List.nodup_iff_pairwise_ne,List.pairwise_map];refine(List.Pairwise.filter (inR p ns) h).imp_of_mem (fun {a b} ha hb hab=>?_);have e1:=(List.mem_filter.1 ha).2;have e2:=(List.mem_filter.1 hb).2;unfold inR at e1 e2;simp only[Bool.and_eq_true,decide_eq_true_eq]at e1 e2;have:=hab (by rw[e1.1,e2.1]);omega
  ·constructor
   ·intro hx;obtain⟨v,hv,rfl⟩:=List.mem_map.1 hx;have e1:=(List.mem_filter.1 hv).2;unfold inR at e1;simp only[Bool.and_eq_true,List.contains_iff_mem]at e1;exact e1.2
   ·intro hx;obtain⟨v,hv,hp,hv2⟩:=hm n hx;exact List.mem_map.2 ⟨v,List.mem_filter.2 ⟨hv,by unfold inR;simp[hp,hv2,hx]⟩,hv2⟩
 have h3:=h2.length_eq;rw[List.length_map]at h3;unfold fe;omega
structure GoneStep (S:AS) (R:RefL) (p:Bs) (ns:List Int) (v':Value) (L':DevL) (vv:Value):Prop where
 path:aA p=true
 rcd:RecIs S L' (frame 3 (dI p ns))
 ptr:et v' (dK ns (ai S.ps p))
 ne:ai S.ps p≠[]
 mem:∀n∈ns,∃v∈R.vs,v.path=p/\v.num=n
 nd:ns.Nodup
 held:∀v∈R.vs,v.path=p->v.num∈ns->v.held<=0
 rv:kK vv (fe R.vs p ns)
def De(X:WS)(p:Bs)(ns:List Int)(v':Value)(L':DevL)(vv:Value):WS:=yM X (jp X.S p ns v' L') { X.R with vv:=vv,vs:=fe X.R.vs p ns }
theorem GoneStep.ws{w0 W W':World}{X:WS}{p:Bs}{ns:List Int}{v':Value}{L':DevL}{vv:Value}(hg:GoneStep X.S X.R p ns v' L' vv)(h:WsOk w0 W X)(hT:Turns [] (wsF (De X p ns v' L' vv)) w0 W'):WsOk w0 W' (De X p ns v' L' vv) :=
 h.chg hT rfl rfl rfl (GA h.ar hg.rcd (by have:=bM hg.path;unfold OkS;omega) hg.ptr hg.ne) { h.ref with vs:=hg.rv } (fun v hv=>h.inp v (List.mem_filter.1 hv).1) (h.link.gone h.ar hg.held)
theorem PB.gone{X:WS}{k m:Nat}(h:PB X k m){w0 W:World}(hw:WsOk w0 W X){p:Bs}{ns:List Int}{v':Value}{L':DevL}{vv:Value}(hg:GoneStep X.S X.R p ns v' L' vv)(hk:k+1<=400):PB (De X p ns v' L' vv) (k+1) m:=by
 have hc:=BL hw.link.uniq hg.nd hg.mem;have hpl:=bM hg.path;have hnl:ns.length<=k:=by have:=h.vs;omega
 have hr:(frame 3 (dI p ns)).length<=30+4*ns.length:=by
  rw[bL];unfold dI;rw[List.length_append,bF,cy];omega
 have hd:=h.data;obtain⟨hl1,hl2⟩:=Es (ns:=ns) (v':=v') (L':=L') hg.ne;have hL:=hw.link.gone (v':=v') (vv:=vv) (L':=L') hw.ar hg.held;refine⟨?_,?_,?_,h.ml,?_,?_,?_,h.q,?_⟩
 ·refine ArB.mono (h.b.more (S':=jp X.S p ns v' L') hg.rcd (by omega) rfl rfl ?_ ⟨rfl,rfl,rfl⟩ hl1 (Nat.le_succ _) (fun q hq=>?_) (fun t ht=>h.b.tags t ht)) (by omega)
  ·have h1:=hL.used;have h2:=hw.link.used;have h3:=CG X.R.vs p ns;simp only at h1;omega
  ·obtain⟨q0,h0,e1,e2⟩:=Er hg.ne hq;obtain⟨q1,h1,e3,e4⟩:=hl2 q hq;have b0:=h.b.vers q0 h0;have b1:=h.b.vers q1 h1;refine⟨by rw[e1];exact b0.1,by omega,fun V hV=>?_⟩;obtain⟨a1,a2,a3,a4⟩:=b0.2.2 V (e2 V hV);exact⟨a1,a2,a3,by omega⟩
 ·show(fe X.R.vs p ns).length<=_;have:=h.vs;omega
 ·have:=h.ts;show X.R.ts.length<=_;omega
 ·intro v hv;have:=h.nums v (List.mem_filter.1 hv).1;omega
 ·show(X.S.data++frame 3 (dI p ns)).length+4*(fe X.R.vs p ns).length<=_;rw[List.length_append];omega
 ·show L'.n=_;rw[hg.rcd.n];exact h.n
 ·obtain⟨rs,H,ht⟩:=h.told;refine⟨_,_,ht.gone hw.ar hg.rcd hpl (fun n hn=>?_) (by omega) hg.ne⟩;obtain⟨v,hv,-,e⟩:=hg.mem n hn;have h1:=(hw.link.each v hv).1;have h2:=h.nums v hv;omega
theorem Ey{ps:List bl}{p:Bs}{n d:Int}{q:bl}(hq:q∈dZ ps p n d):∃q0∈ps,q.key=q0.key/\q.g.length=q0.g.length/\∀V∈q.g,∃V0∈q0.g,V.num=V0.num/\V.chs=V0.chs/\V.size=V0.size:=by
 obtain⟨q0,h0,rfl⟩:=List.mem_map.1 (show q∈ps.map _ from hq);refine⟨q0,h0,?_⟩;split
 ·refine⟨rfl,by simp,fun V hV=>?_⟩;obtain⟨V0,hV0,rfl⟩:=List.mem_map.1 hV;obtain⟨-,-,e3,e4,e5⟩:=jG n d V0;exact⟨V0,hV0,e4,e3,e5⟩
 ·exact⟨rfl,rfl,fun V hV=>⟨V,hV,rfl,rfl,rfl⟩⟩
theorem PB.held{X:WS}{k m:Nat}(h:PB X k m){p:Bs}{n d:Int}{S':AS}{R':RefL}{L':DevL}{r:Bs}(hr:RecIs X.S L' r)(hrl:r.length<=69)(hok':ArOk S')(hL:Link S' R')(hps:S'.ps=dZ X.S.ps p n d)(hS:S'.K=X.S.K/\S'.L=L'/\S'.X=X.S.X/\S'.data=X.S.data++r)(hR:R'.vs=X.R.vs.map (d8 p n d))(hrt:R'.ts.length<=X.R.ts.length+1)(hst:S'.ts.length<=X.S.ts.length+1)(ht:∀p∈S'.ts,p.key.length<=255/\p.g.1.length<=255/\p.g.2.natAbs<=4294967296+(m+2*k))(htold:∃rs H,Told S' rs H):PB (yM X S' R') (k+1) m:=by
 have hts:=h.ts;refine⟨?_,?_,?_,h.ml,?_,?_,?_,?_,htold⟩
 ·refine ArB.mono (h.b.more (S':=S') hr (by omega) hS.1 hS.2.1 (by rw[hS.2.2.1];exact Nat.le_refl _) ⟨by rw[hS.2.2.1],by rw[hS.2.2.1],by rw[hS.2.2.1]⟩ (by rw[hps];unfold dZ;rw[List.length_map];exact Nat.le_refl _) hst (fun q hq=>?_) ht) (by omega);have hq2:=hq;rw[hps]at hq2;obtain⟨q0,h0,e1,e2,e3⟩:=Ey hq2;have b0:=h.b.vers q0 h0;refine⟨by rw[e1];exact b0.1,by omega,fun V hV=>?_⟩;obtain⟨V0,hV0,f1,f2,f3⟩:=e3 V hV;obtain⟨a1,a2,a3,a4⟩:=b0.2.2 V0 hV0;obtain⟨v,-,-,-,-,hh⟩:=hL.ver hok' hq hV;exact⟨by omega,by rw[f2];exact a2,by omega,by omega⟩
 ·show R'.vs.length<=_;rw[hR,List.length_map];have:=h.vs;omega
 ·show R'.ts.length<=_;omega
 ·intro v hv;have hv2:v∈R'.vs:=hv;rw[hR]at hv2;obtain⟨u,hu,rfl⟩:=List.mem_map.1 hv2;rw[(gk p n d u).2.1];have:=h.nums u hu;omega
 ·show S'.data.length+4*R'.vs.length<=_;rw[hS.2.2.2,hR,List.length_append,List.length_map];have:=h.data;omega
 ·show S'.L.n=_;rw[hS.2.1,hr.n];exact h.n
 ·show 0<=S'.X.quota/\S'.X.quota<=_;rw[hS.2.2.1];exact h.q
theorem qL.bump{P:fc}{R:RefL}(h:qL P R)(k:Nat)(d:Int)(tv:Value)(ts:List RTag):qL P (gG R (jW R.vs k d) tv ts):=fun v hv=>by
 obtain⟨v0,hv0,e1,e2,-⟩:=II v hv
 rw[e1,e2];exact h v0 hv0
theorem rL{k:UInt8}{p m:Bs}(hp:aA p=true)(hm:aA m=true)(n:Int):(frame k (fN p m n)).length<=69:=by
 have:=tq (bM hp) (bM hm) n;rw[bL];omega
def nf(w0:World)(X:WS)(Ψ:AS->RefL->Prop)(e:Ending)(w':World):Prop:=∃S' R',e=.returned (.bool true)/\Ψ S' R'/\Turns [] (wsF { X with S:=S',R:=R' }) w0 w'
theorem rA(w0 W:World)(X:WS)(o:OpL)(h:WsOk w0 W X)(hl:X.R.vs.length<=100000)(hE:bq w0)(hk:o.kind=9)(Φ:Int->AS->Prop)(Ψ:AS->RefL->Prop)(hours:∀W',Sat W' (arF X.S)->Calls Tryz.prog 62 #[.pointer (some ⟨X.S.a,0,none⟩),str o.s,.int .i64 o.a] W' (fun e w'=>∃ev n S',e=.returned (ev)/\wC ev n/\Φ n S'/\Turns (arF X.S) (arF S') W' w'))(href:∀n S' W',Φ n S'->RefAt X.R X.P W'->Sat W' (aI X.R++bc X.P)->Calls Tryz.prog 63 #[.pointer (some ⟨X.R.blk,0,none⟩),str o.s,.int .i64 o.a] W' (fun e w'=>∃R',e=.returned (.int .i64 n)/\Ψ S' R'/\Turns (aI X.R++bc X.P) (aI R'++bc X.P) W' w')):
  Calls Tryz.prog 23 #[.pointer (some ⟨X.U.blk,0,none⟩),opA o] W (nf w0 X Ψ):=by
 have HM:=qqH (show Tryz.prog.follows .mixedOrders=true by kernel_rfl);obtain⟨ok,oa,ob_,oc,os,ot,odv,od⟩:=o;simp only at hk hours href;subst hk;have HH:=Hq5 h hl hE hours href;clear h hl hE hours href;unfold opA opV;go_enter Tryz.func23,Tryz.ntmps23;go_upto_region 18 with(fail);obtain⟨ob,hob⟩:∃ob,ob=W.heap.size:=⟨_,rfl⟩
 have hT1:Turns [] (arF X.S++((aI X.R++bc X.P)++((ob,Is (oO ⟨9,oa,ob_,oc,os,ot,odv,od⟩))::(X.U.blk,Is (aC X.U))::(dl X.U.most X.M++aK X.U.out X.O)))) w0 (W.alloc (.cells #[.int .i64 9,.int .i64 oa,.int .i64 ob_,.int .i64 oc,str os,str ot,odv] 65)):=by
  rw[hob];have:=HH.a.turns.Q8 (.cells #[.int .i64 9,.int .i64 oa,.int .i64 ob_,.int .i64 oc,str os,str ot,odv] 65);unfold wsF br at this;exact this.to (H:=arF X.S++((aI X.R++bc X.P)++((W.heap.size,Is (.cells #[.int .i64 9,.int .i64 oa,.int .i64 ob_,.int .i64 oc,str os,str ot,odv] 65))::(X.U.blk,Is (aC X.U))::(dl X.U.most X.M++aK X.U.out X.O)))) af
 rw[<- hob];generalize W.alloc (.cells #[.int .i64 9,.int .i64 oa,.int .i64 ob_,.int .i64 oc,str os,str ot,odv] 65)=W1 at hT1 ⊢
 have hcells:∀(W:World) (G:HF),Turns [] (G++((ob,Is (oO ⟨9,oa,ob_,oc,os,ot,odv,od⟩))::(X.U.blk,Is (aC X.U))::(dl X.U.most X.M++aK X.U.out X.O))) w0 W ->
   W.cell? ⟨X.U.blk,1,none⟩=some (.pointer (some ⟨X.S.a,0,none⟩))/\W.cell? ⟨X.U.blk,2,none⟩=some (.pointer (some ⟨X.R.blk,0,none⟩))/\W.cell? ⟨ob,4,none⟩=some (str os)/\W.cell? ⟨ob,5,none⟩=some (str ot)/\W.cell? ⟨ob,1,none⟩=some (.int .i64 oa):=by
  intro W G hT;have hu:W.heap[X.U.blk]?=some (aC X.U):=hT.sat.Q7 (by simp);have ho:W.heap[ob]?=some (oO ⟨9,oa,ob_,oc,os,ot,odv,od⟩):=hT.sat.Q7 (by simp);refine⟨?_,?_,aa ho 4 rfl,aa ho 5 rfl,aa ho 1 rfl⟩
  ·have:=aa hu 1 (v:=qA X.U.a) rfl;rw[HH.a.a]at this;exact this
  ·have:=aa hu 2 (v:=.pointer (some ⟨X.U.r,0,none⟩)) rfl;rw[HH.a.r]at this;exact this
 obtain⟨u1,-,o4,o5,o1⟩:=hcells W1 (arF X.S++(aI X.R++bc X.P)) (hT1.to af);have HCE:=qqH hcells;have HT1:=qqH hT1;clear hT1 hcells hob;refine wp_region_still_tail 8 HM.out (by kernel_rfl) ?_;simp only[List.take_succ_cons,List.take_zero,List.drop_succ_cons,List.drop_zero];repeat still_step
 refine wpStill_nil ?_;change wpList _ _ _ _ _ W1.drew;have HO:=qqH (HH.d W1.drew HT1.out.drew.sat.left);go_wp2_with fail;refine HO.out.mono ?_;rintro e W3 ⟨ev,n,S',rfl,hev,hph,hG⟩;have hT3:=HT1.out.drew.step (List.Perm.refl _) hG;obtain⟨-,u2,o4',o5',o1'⟩:=HCE.out W3 (arF S'++(aI X.R++bc X.P)) (hT3.to af);have HT3:=Hq3 hT3 hev hph;clear hG hT3 hev hph u1 o4 o5 o1;go_upto_region 19 with(fail);refine wp_region_still_tail 8 HM.out (by kernel_rfl) ?_;simp only[List.take_succ_cons,List.take_zero,List.drop_succ_cons,List.drop_zero];repeat still_step
 refine wpStill_nil ?_;change wpList _ _ _ _ _ W3.drew;have hT3:=(HT3.a.drew).to (H:=(aI X.R++bc X.P)++(arF S'++((ob,Is (oO ⟨9,oa,ob_,oc,os,ot,odv,od⟩))::(X.U.blk,Is (aC X.U))::(dl X.U.most X.M++aK X.U.out X.O)))) af;have HR:=qqH (HH.w n S' W3.drew HT3.y (HH.a.refAt' HH.b (by unfold br;exact hT3.sat.sub bw)) hT3.sat.left);have HT4:=qqH hT3;clear hT3 u2 o4' o5' o1';go_wp2_with fail;refine HR.out.mono ?_;rintro e W4 ⟨R',rfl,hpsi,hG⟩;have hT5:=HT4.out.step (List.Perm.refl _) hG;have hE5:bq W4:=HH.c.keep hT5.mods (fun h=>by simp at h);have HTe:=qqH (cR ev n W4 hE5 (HT3.b.is W4));have HT5:=Hq2 hT5 hpsi;clear hG hT5 hE5 hpsi;go_wp2_with fail;refine HTe.out.mono ?_;rintro e W5 ⟨rfl,hs5⟩;have HT6:=qqH (HT5.a.Q9 hs5);clear hs5;go_wp2_with (go_at_call 41;refine(fp _ _).mono ?_;rintro e w' ⟨rfl,rfl⟩);refine bodyPost_ret (results_tmp rfl _ _ _) rfl ⟨S',R',by simp,HT5.z,?_⟩;exact HT6.out.drop (fun x=>by unfold wsF br;simp only[aB,an]<;>omega)
theorem xJ(w0 W:World)(X:WS)(o:OpL)(h:WsOk w0 W X)(hl:X.R.vs.length<=100000)(hE:bq w0)(hk:o.kind=11)(Φ:Int->AS->Prop)(Ψ:AS->RefL->Prop)(hours:∀W',Sat W' (arF X.S)->Calls Tryz.prog 66 #[.pointer (some ⟨X.S.a,0,none⟩),str o.t,str o.s,.int .i64 o.a] W' (fun e w'=>∃ev n S',e=.returned (ev)/\wC ev n/\Φ n S'/\Turns (arF X.S) (arF S') W' w'))(href:∀n S' W',Φ n S'->RefAt X.R X.P W'->Sat W' (aI X.R++bc X.P)->Calls Tryz.prog 67 #[.pointer (some ⟨X.R.blk,0,none⟩),str o.t,str o.s,.int .i64 o.a] W' (fun e w'=>∃R',e=.returned (.int .i64 n)/\Ψ S' R'/\Turns (aI X.R++bc X.P) (aI R'++bc X.P) W' w')):
  Calls Tryz.prog 23 #[.pointer (some ⟨X.U.blk,0,none⟩),opA o] W (nf w0 X Ψ):=by
 have HM:=qqH (show Tryz.prog.follows .mixedOrders=true by kernel_rfl);obtain⟨ok,oa,ob_,oc,os,ot,odv,od⟩:=o;simp only at hk hours href;subst hk;have HH:=Hq5 h hl hE hours href;clear h hl hE hours href;unfold opA opV;go_enter Tryz.func23,Tryz.ntmps23;go_upto_region 28 with(fail);obtain⟨ob,hob⟩:∃ob,ob=W.heap.size:=⟨_,rfl⟩
 have hT1:Turns [] (arF X.S++((aI X.R++bc X.P)++((ob,Is (oO ⟨11,oa,ob_,oc,os,ot,odv,od⟩))::(X.U.blk,Is (aC X.U))::(dl X.U.most X.M++aK X.U.out X.O)))) w0 (W.alloc (.cells #[.int .i64 11,.int .i64 oa,.int .i64 ob_,.int .i64 oc,str os,str ot,odv] 65)):=by
  rw[hob];have:=HH.a.turns.Q8 (.cells #[.int .i64 11,.int .i64 oa,.int .i64 ob_,.int .i64 oc,str os,str ot,odv] 65);unfold wsF br at this;exact this.to (H:=arF X.S++((aI X.R++bc X.P)++((W.heap.size,Is (.cells #[.int .i64 11,.int .i64 oa,.int .i64 ob_,.int .i64 oc,str os,str ot,odv] 65))::(X.U.blk,Is (aC X.U))::(dl X.U.most X.M++aK X.U.out X.O)))) af
 rw[<- hob];generalize W.alloc (.cells #[.int .i64 11,.int .i64 oa,.int .i64 ob_,.int .i64 oc,str os,str ot,odv] 65)=W1 at hT1 ⊢
 have hcells:∀(W:World) (G:HF),Turns [] (G++((ob,Is (oO ⟨11,oa,ob_,oc,os,ot,odv,od⟩))::(X.U.blk,Is (aC X.U))::(dl X.U.most X.M++aK X.U.out X.O))) w0 W ->
   W.cell? ⟨X.U.blk,1,none⟩=some (.pointer (some ⟨X.S.a,0,none⟩))/\W.cell? ⟨X.U.blk,2,none⟩=some (.pointer (some ⟨X.R.blk,0,none⟩))/\W.cell? ⟨ob,4,none⟩=some (str os)/\W.cell? ⟨ob,5,none⟩=some (str ot)/\W.cell? ⟨ob,1,none⟩=some (.int .i64 oa):=by
  intro W G hT;have hu:W.heap[X.U.blk]?=some (aC X.U):=hT.sat.Q7 (by simp);have ho:W.heap[ob]?=some (oO ⟨11,oa,ob_,oc,os,ot,odv,od⟩):=hT.sat.Q7 (by simp);refine⟨?_,?_,aa ho 4 rfl,aa ho 5 rfl,aa ho 1 rfl⟩
  ·have:=aa hu 1 (v:=qA X.U.a) rfl;rw[HH.a.a]at this;exact this
  ·have:=aa hu 2 (v:=.pointer (some ⟨X.U.r,0,none⟩)) rfl;rw[HH.a.r]at this;exact this
 obtain⟨u1,-,o4,o5,o1⟩:=hcells W1 (arF X.S++(aI X.R++bc X.P)) (hT1.to af);have HCE:=qqH hcells;have HT1:=qqH hT1;clear hT1 hcells hob;refine wp_region_still_tail 10 HM.out (by kernel_rfl) ?_;simp only[List.take_succ_cons,List.take_zero,List.drop_succ_cons,List.drop_zero];repeat still_step
 refine wpStill_nil ?_;change wpList _ _ _ _ _ W1.drew;have HO:=qqH (HH.d W1.drew HT1.out.drew.sat.left);go_wp2_with fail;refine HO.out.mono ?_;rintro e W3 ⟨ev,n,S',rfl,hev,hph,hG⟩;have hT3:=HT1.out.drew.step (List.Perm.refl _) hG;obtain⟨-,u2,o4',o5',o1'⟩:=HCE.out W3 (arF S'++(aI X.R++bc X.P)) (hT3.to af);have HT3:=Hq3 hT3 hev hph;clear hG hT3 hev hph u1 o4 o5 o1;go_upto_region 29 with(fail);refine wp_region_still_tail 10 HM.out (by kernel_rfl) ?_;simp only[List.take_succ_cons,List.take_zero,List.drop_succ_cons,List.drop_zero];repeat still_step
 refine wpStill_nil ?_;change wpList _ _ _ _ _ W3.drew;have hT3:=(HT3.a.drew).to (H:=(aI X.R++bc X.P)++(arF S'++((ob,Is (oO ⟨11,oa,ob_,oc,os,ot,odv,od⟩))::(X.U.blk,Is (aC X.U))::(dl X.U.most X.M++aK X.U.out X.O)))) af;have HR:=qqH (HH.w n S' W3.drew HT3.y (HH.a.refAt' HH.b (by unfold br;exact hT3.sat.sub bw)) hT3.sat.left);have HT4:=qqH hT3;clear hT3 u2 o4' o5' o1';go_wp2_with fail;refine HR.out.mono ?_;rintro e W4 ⟨R',rfl,hpsi,hG⟩;have hT5:=HT4.out.step (List.Perm.refl _) hG;have hE5:bq W4:=HH.c.keep hT5.mods (fun h=>by simp at h);have HTe:=qqH (cR ev n W4 hE5 (HT3.b.is W4));have HT5:=Hq2 hT5 hpsi;clear hG hT5 hE5 hpsi;go_wp2_with fail;refine HTe.out.mono ?_;rintro e W5 ⟨rfl,hs5⟩;have HT6:=qqH (HT5.a.Q9 hs5);clear hs5;go_wp2_with (go_at_call 41;refine(fp _ _).mono ?_;rintro e w' ⟨rfl,rfl⟩);refine bodyPost_ret (results_tmp rfl _ _ _) rfl ⟨S',R',by simp,HT5.z,?_⟩;exact HT6.out.drop (fun x=>by unfold wsF br;simp only[aB,an]<;>omega)
theorem tX(w0 W:World)(X:WS)(o:OpL)(h:WsOk w0 W X)(hl:X.R.vs.length<=100000)(hE:bq w0)(hk:o.kind=12)(Φ:Int->AS->Prop)(Ψ:AS->RefL->Prop)(hours:∀W',Sat W' (arF X.S)->Calls Tryz.prog 68 #[.pointer (some ⟨X.S.a,0,none⟩),str o.t] W' (fun e w'=>∃ev n S',e=.returned (ev)/\wC ev n/\Φ n S'/\Turns (arF X.S) (arF S') W' w'))(href:∀n S' W',Φ n S'->RefAt X.R X.P W'->Sat W' (aI X.R++bc X.P)->Calls Tryz.prog 69 #[.pointer (some ⟨X.R.blk,0,none⟩),str o.t] W' (fun e w'=>∃R',e=.returned (.int .i64 n)/\Ψ S' R'/\Turns (aI X.R++bc X.P) (aI R'++bc X.P) W' w')):
  Calls Tryz.prog 23 #[.pointer (some ⟨X.U.blk,0,none⟩),opA o] W (nf w0 X Ψ):=by
 have HM:=qqH (show Tryz.prog.follows .mixedOrders=true by kernel_rfl);obtain⟨ok,oa,ob_,oc,os,ot,odv,od⟩:=o;simp only at hk hours href;subst hk;have HH:=Hq5 h hl hE hours href;clear h hl hE hours href;unfold opA opV;go_enter Tryz.func23,Tryz.ntmps23;go_upto_region 33 with(fail);obtain⟨ob,hob⟩:∃ob,ob=W.heap.size:=⟨_,rfl⟩
 have hT1:Turns [] (arF X.S++((aI X.R++bc X.P)++((ob,Is (oO ⟨12,oa,ob_,oc,os,ot,odv,od⟩))::(X.U.blk,Is (aC X.U))::(dl X.U.most X.M++aK X.U.out X.O)))) w0 (W.alloc (.cells #[.int .i64 12,.int .i64 oa,.int .i64 ob_,.int .i64 oc,str os,str ot,odv] 65)):=by
  rw[hob];have:=HH.a.turns.Q8 (.cells #[.int .i64 12,.int .i64 oa,.int .i64 ob_,.int .i64 oc,str os,str ot,odv] 65);unfold wsF br at this;exact this.to (H:=arF X.S++((aI X.R++bc X.P)++((W.heap.size,Is (.cells #[.int .i64 12,.int .i64 oa,.int .i64 ob_,.int .i64 oc,str os,str ot,odv] 65))::(X.U.blk,Is (aC X.U))::(dl X.U.most X.M++aK X.U.out X.O)))) af
 rw[<- hob];generalize W.alloc (.cells #[.int .i64 12,.int .i64 oa,.int .i64 ob_,.int .i64 oc,str os,str ot,odv] 65)=W1 at hT1 ⊢
 have hcells:∀(W:World) (G:HF),Turns [] (G++((ob,Is (oO ⟨12,oa,ob_,oc,os,ot,odv,od⟩))::(X.U.blk,Is (aC X.U))::(dl X.U.most X.M++aK X.U.out X.O))) w0 W ->
   W.cell? ⟨X.U.blk,1,none⟩=some (.pointer (some ⟨X.S.a,0,none⟩))/\W.cell? ⟨X.U.blk,2,none⟩=some (.pointer (some ⟨X.R.blk,0,none⟩))/\W.cell? ⟨ob,4,none⟩=some (str os)/\W.cell? ⟨ob,5,none⟩=some (str ot)/\W.cell? ⟨ob,1,none⟩=some (.int .i64 oa):=by
  intro W G hT;have hu:W.heap[X.U.blk]?=some (aC X.U):=hT.sat.Q7 (by simp);have ho:W.heap[ob]?=some (oO ⟨12,oa,ob_,oc,os,ot,odv,od⟩):=hT.sat.Q7 (by simp);refine⟨?_,?_,aa ho 4 rfl,aa ho 5 rfl,aa ho 1 rfl⟩
  ·have:=aa hu 1 (v:=qA X.U.a) rfl;rw[HH.a.a]at this;exact this
  ·have:=aa hu 2 (v:=.pointer (some ⟨X.U.r,0,none⟩)) rfl;rw[HH.a.r]at this;exact this
 obtain⟨u1,-,o4,o5,o1⟩:=hcells W1 (arF X.S++(aI X.R++bc X.P)) (hT1.to af);have HCE:=qqH hcells;have HT1:=qqH hT1;clear hT1 hcells hob;refine wp_region_still_tail 6 HM.out (by kernel_rfl) ?_;simp only[List.take_succ_cons,List.take_zero,List.drop_succ_cons,List.drop_zero];repeat still_step
 refine wpStill_nil ?_;change wpList _ _ _ _ _ W1.drew;have HO:=qqH (HH.d W1.drew HT1.out.drew.sat.left);go_wp2_with fail;refine HO.out.mono ?_;rintro e W3 ⟨ev,n,S',rfl,hev,hph,hG⟩;have hT3:=HT1.out.drew.step (List.Perm.refl _) hG;obtain⟨-,u2,o4',o5',o1'⟩:=HCE.out W3 (arF S'++(aI X.R++bc X.P)) (hT3.to af);have HT3:=Hq3 hT3 hev hph;clear hG hT3 hev hph u1 o4 o5 o1;go_upto_region 34 with(fail);refine wp_region_still_tail 6 HM.out (by kernel_rfl) ?_;simp only[List.take_succ_cons,List.take_zero,List.drop_succ_cons,List.drop_zero];repeat still_step
 refine wpStill_nil ?_;change wpList _ _ _ _ _ W3.drew;have hT3:=(HT3.a.drew).to (H:=(aI X.R++bc X.P)++(arF S'++((ob,Is (oO ⟨12,oa,ob_,oc,os,ot,odv,od⟩))::(X.U.blk,Is (aC X.U))::(dl X.U.most X.M++aK X.U.out X.O)))) af;have HR:=qqH (HH.w n S' W3.drew HT3.y (HH.a.refAt' HH.b (by unfold br;exact hT3.sat.sub bw)) hT3.sat.left);have HT4:=qqH hT3;clear hT3 u2 o4' o5' o1';go_wp2_with fail;refine HR.out.mono ?_;rintro e W4 ⟨R',rfl,hpsi,hG⟩;have hT5:=HT4.out.step (List.Perm.refl _) hG;have hE5:bq W4:=HH.c.keep hT5.mods (fun h=>by simp at h);have HTe:=qqH (cR ev n W4 hE5 (HT3.b.is W4));have HT5:=Hq2 hT5 hpsi;clear hG hT5 hE5 hpsi;go_wp2_with fail;refine HTe.out.mono ?_;rintro e W5 ⟨rfl,hs5⟩;have HT6:=qqH (HT5.a.Q9 hs5);clear hs5;go_wp2_with (go_at_call 41;refine(fp _ _).mono ?_;rintro e w' ⟨rfl,rfl⟩);refine bodyPost_ret (results_tmp rfl _ _ _) rfl ⟨S',R',by simp,HT5.z,?_⟩;exact HT6.out.drop (fun x=>by unfold wsF br;simp only[aB,an]<;>omega)
theorem tV(w0 W:World)(X:WS)(o:OpL)(h:WsOk w0 W X)(hl:X.R.vs.length<=100000)(hE:bq w0)(hk:o.kind=10)(Φ:Int->Int->AS->Prop)(Ψ:AS->RefL->Prop)(hours:∀W',Sat W' (arF X.S)->Calls Tryz.prog 64 #[.pointer (some ⟨X.S.a,0,none⟩),str o.s,.int .i64 o.a] W' (fun e w'=>∃c ev n S',e=.returned (.tuple #[.int .i64 c,ev])/\wC ev n/\Φ c n S'/\Turns (arF X.S) (arF S') W' w'))(href:∀c n S' W',Φ c n S'->RefAt X.R X.P W'->Sat W' (aI X.R++bc X.P)->Calls Tryz.prog 65 #[.pointer (some ⟨X.R.blk,0,none⟩),str o.s,.int .i64 o.a] W' (fun e w'=>∃R',e=.returned (.tuple #[.int .i64 c,.int .i64 n])/\Ψ S' R'/\Turns (aI X.R++bc X.P) (aI R'++bc X.P) W' w')):
  Calls Tryz.prog 23 #[.pointer (some ⟨X.U.blk,0,none⟩),opA o] W (nf w0 X Ψ):=by
 have HM:=qqH (show Tryz.prog.follows .mixedOrders=true by kernel_rfl);obtain⟨ok,oa,ob_,oc,os,ot,odv,od⟩:=o;simp only at hk hours href;subst hk;have HH:=Hq5 h hl hE hours href;clear h hl hE hours href;unfold opA opV;go_enter Tryz.func23,Tryz.ntmps23;go_upto_region 23 with(fail);obtain⟨ob,hob⟩:∃ob,ob=W.heap.size:=⟨_,rfl⟩
 have hT1:Turns [] (arF X.S++((aI X.R++bc X.P)++((ob,Is (oO ⟨10,oa,ob_,oc,os,ot,odv,od⟩))::(X.U.blk,Is (aC X.U))::(dl X.U.most X.M++aK X.U.out X.O)))) w0 (W.alloc (.cells #[.int .i64 10,.int .i64 oa,.int .i64 ob_,.int .i64 oc,str os,str ot,odv] 65)):=by
  rw[hob];have:=HH.a.turns.Q8 (.cells #[.int .i64 10,.int .i64 oa,.int .i64 ob_,.int .i64 oc,str os,str ot,odv] 65);unfold wsF br at this;exact this.to (H:=arF X.S++((aI X.R++bc X.P)++((W.heap.size,Is (.cells #[.int .i64 10,.int .i64 oa,.int .i64 ob_,.int .i64 oc,str os,str ot,odv] 65))::(X.U.blk,Is (aC X.U))::(dl X.U.most X.M++aK X.U.out X.O)))) af
 rw[<- hob];generalize W.alloc (.cells #[.int .i64 10,.int .i64 oa,.int .i64 ob_,.int .i64 oc,str os,str ot,odv] 65)=W1 at hT1 ⊢
 have hcells:∀(W:World) (G:HF),Turns [] (G++((ob,Is (oO ⟨10,oa,ob_,oc,os,ot,odv,od⟩))::(X.U.blk,Is (aC X.U))::(dl X.U.most X.M++aK X.U.out X.O))) w0 W ->
   W.cell? ⟨X.U.blk,1,none⟩=some (.pointer (some ⟨X.S.a,0,none⟩))/\W.cell? ⟨X.U.blk,2,none⟩=some (.pointer (some ⟨X.R.blk,0,none⟩))/\W.cell? ⟨ob,4,none⟩=some (str os)/\W.cell? ⟨ob,5,none⟩=some (str ot)/\W.cell? ⟨ob,1,none⟩=some (.int .i64 oa):=by
  intro W G hT;have hu:W.heap[X.U.blk]?=some (aC X.U):=hT.sat.Q7 (by simp);have ho:W.heap[ob]?=some (oO ⟨10,oa,ob_,oc,os,ot,odv,od⟩):=hT.sat.Q7 (by simp);refine⟨?_,?_,aa ho 4 rfl,aa ho 5 rfl,aa ho 1 rfl⟩
  ·have:=aa hu 1 (v:=qA X.U.a) rfl;rw[HH.a.a]at this;exact this
  ·have:=aa hu 2 (v:=.pointer (some ⟨X.U.r,0,none⟩)) rfl;rw[HH.a.r]at this;exact this
 obtain⟨u1,-,o4,o5,o1⟩:=hcells W1 (arF X.S++(aI X.R++bc X.P)) (hT1.to af);have HCE:=qqH hcells;have HT1:=qqH hT1;clear hT1 hcells hob;refine bb 8 HM.out (by kernel_rfl) rfl ?_;simp only[List.take_succ_cons,List.take_zero];repeat still_step
 refine wpStill_nil ?_;have HO:=qqH (HH.d W1.drew HT1.out.drew.sat.left);refine bd (by kernel_rfl) HO.out ?_;rintro e W3 ⟨c,ev,n,S',rfl,hev,hph,hG⟩;refine⟨_,rfl,?_⟩;simp only[Act.put,List.setIfInBounds_toArray,List.set_cons_zero,List.set_cons_succ,List.drop_succ_cons,List.drop_zero];repeat still_step
 refine wpStill_nil ?_;have hT3:=HT1.out.drew.step (List.Perm.refl _) hG;obtain⟨-,u2,o4',o5',o1'⟩:=HCE.out W3 (arF S'++(aI X.R++bc X.P)) (hT3.to af);have HT3:=Hq3 hT3 hev hph;clear hG hT3 hev hph u1 o4 o5 o1;go_upto_region 24 with(fail);refine bb 8 HM.out (by kernel_rfl) rfl ?_;simp only[List.take_succ_cons,List.take_zero];repeat still_step
 refine wpStill_nil ?_;have hT3:=(HT3.a.drew).to (H:=(aI X.R++bc X.P)++(arF S'++((ob,Is (oO ⟨10,oa,ob_,oc,os,ot,odv,od⟩))::(X.U.blk,Is (aC X.U))::(dl X.U.most X.M++aK X.U.out X.O)))) af;have HR:=qqH (HH.w c n S' W3.drew HT3.y (HH.a.refAt' HH.b (by unfold br;exact hT3.sat.sub bw)) hT3.sat.left);have HT4:=qqH hT3;clear hT3 u2 o4' o5' o1';refine bd (by kernel_rfl) HR.out ?_;rintro e W4 ⟨R',rfl,hpsi,hG⟩;refine⟨_,rfl,?_⟩;simp only[Act.put,List.setIfInBounds_toArray,List.set_cons_zero,List.set_cons_succ,List.drop_succ_cons,List.drop_zero];repeat still_step
 refine wpStill_nil ?_;have hT5:=HT4.out.step (List.Perm.refl _) hG;have hE5:bq W4:=HH.c.keep hT5.mods (fun h=>by simp at h);have HTe:=qqH (cR ev n W4 hE5 (HT3.b.is W4));have HT5:=Hq2 hT5 hpsi;clear hG hT5 hE5 hpsi;go_wp2_with fail;refine HTe.out.mono ?_;rintro e W5 ⟨rfl,hs5⟩;have HT6:=qqH (HT5.a.Q9 hs5);clear hs5;go_wp2_with (go_at_call 41;refine(fp _ _).mono ?_;rintro e w' ⟨rfl,rfl⟩);refine bodyPost_ret (results_tmp rfl _ _ _) rfl ⟨S',R',by simp,HT5.z,?_⟩;exact HT6.out.drop (fun x=>by unfold wsF br;simp only[aB,an]<;>omega)
theorem tB(w0 W:World)(X:WS)(o:OpL)(b:Nat)(h:WsOk w0 W X)(hB:ArB X.S b)(hb:b<=90000)(htl:X.R.ts.length<=100000)(hE:bq w0)(hk:o.kind=13):
  Calls Tryz.prog 57 #[.pointer (some ⟨X.U.blk,0,none⟩),opA o] W (jN w0 X):=by
 obtain⟨ok,oa,ob_,oc,os,ot,odv,od⟩:=o;simp only at hk;subst hk;have HH:=Hq5 h hB hb hE htl;clear h hB hb hE;unfold opA opV;go_enter Tryz.func57,Tryz.ntmps57;go_upto_region 37 with(fail);have hT1:=HH.a.turns.alloc (.cells #[.int .i64 13,.int .i64 oa,.int .i64 ob_,.int .i64 oc,str os,str ot,odv] 65);generalize W.alloc (.cells #[.int .i64 13,.int .i64 oa,.int .i64 ob_,.int .i64 oc,str os,str ot,odv] 65)=W1 at hT1 ⊢
 have hcells:∀(W:World) (G:HF),Turns [] (G++((X.U.blk,Is (aC X.U))::(aI X.R++br X))) w0 W ->
   W.cell? ⟨X.U.blk,1,none⟩=some (.pointer (some ⟨X.S.a,0,none⟩))/\W.cell? ⟨X.U.blk,2,none⟩=some (.pointer (some ⟨X.R.blk,0,none⟩))/\W.cell? ⟨X.R.blk,3,none⟩=some (.bool X.R.closed)/\W.cell? ⟨X.R.blk,1,none⟩=some X.R.tv:=by
  intro W G hT;have hu:W.heap[X.U.blk]?=some (aC X.U):=hT.sat.Q7 (by simp);have hr:W.heap[X.R.blk]?=some (iA X.R):=hT.sat.Q7 (by unfold aI;simp);refine⟨?_,?_,aa hr 3 rfl,aa hr 1 rfl⟩
  ·have:=aa hu 1 (v:=qA X.U.a) rfl;rw[HH.a.a]at this;exact this
  ·have:=aa hu 2 (v:=.pointer (some ⟨X.U.r,0,none⟩)) rfl;rw[HH.a.r]at this;exact this
 have hT2:Turns [] (arF X.S++((X.U.blk,Is (aC X.U))::(aI X.R++br X))) w0 W1:=by
  unfold wsF at hT1;exact hT1.to af
 have HCE:=qqH hcells;obtain⟨u1,-,-,-⟩:=hcells W1 _ hT2;have HT2:=qqH hT2;clear hT1 hcells hT2;go_wp2_with fail;refine(AY X.S b W1 HT2.out.sat.left HH.a.ar HH.b HH.c).mono ?_;intro e W3 hp;rcases hp with⟨hcl,rfl,hG⟩|⟨hcl,v,rfl,hpo,hG⟩
 ·have hT3:=HT2.out.step (List.Perm.refl _) hG;have hE3:bq W3:=HH.d.keep hT3.mods (fun h=>by simp at h);have HT3:=Hq3 hT3 hE3 hcl;clear hG hT3 hE3 hcl u1;unfold cC;go_wp2_with fail;refine(cR (cC 9) 9 W3 HT3.b (.inr (.inl rfl))).mono ?_;rintro e W5 ⟨rfl,hs5⟩;have hT5:=HT3.a.Q9 hs5;obtain⟨-,u2,r3,-⟩:=HCE.out W5 _ hT5;rw[HH.a.link.closed,HT3.y]at r3;have HT5:=qqH hT5;clear hT5 hs5;have heq:∀W,(binOp .eql 187 (.slice none 0 0) (.slice none 0 0)).run Tryz.prog W=.ok (.bool true) W:=fun W=>by kernel_rfl
  go_wp2_with fail;refine bodyPost_ret (results_tmp rfl _ _ _) rfl ⟨X.S.A.spare,X.U.out,X.U.want,X.O,rfl,(HH.a.back ?_:WsOk w0 _ X)⟩;exact HT5.out.drop (fun x=>by unfold wsF;simp only[aB,an]<;>omega)
 ·have hT3:Turns [] ((qx v (iU X.S.ts (kr X.S.ts))++arF X.S)++((X.U.blk,Is (aC X.U))::(aI X.R++br X))) w0 W3:=HT2.out.step (List.Perm.refl _) hG;rw[HH.a.link.pins HH.a.ar]at hT3 hpo;obtain⟨ns,hns⟩:∃ns,ns=X.R.ts.map tagT:=⟨_,rfl⟩;rw[<- hns]at hT3 hpo;have hnl:ns.length=X.R.ts.length:=by rw[hns,List.length_map]
  have hE3:bq W3:=HH.d.keep hT3.mods (fun h=>by simp at h);have HT3:=Hq6 hT3 hE3 hcl hpo hns hnl;clear hG hT3 hE3 hcl u1 hpo hns hnl;go_wp2_with fail;refine(cR .nilIface 0 W3 HT3.b (.inl ⟨rfl,rfl⟩)).mono ?_;rintro e W5 ⟨rfl,hs5⟩;have hT5:=HT3.a.Q9 hs5;obtain⟨-,u2,r3,r1⟩:=HCE.out W5 _ hT5;rw[HH.a.link.closed,HT3.c]at r3;obtain⟨ca,cc,hcv,-,-,hcc,-⟩:=bV (hT5.sat.right.tail.left.tail.right) HH.a.ref.ts (by decide);obtain⟨la,lc,hlv,-,-,hlc,-⟩:=bV (hT5.sat.left.left) HT3.d (by decide);rw[hcv]at r1;rw[Ac,<- HT3.e]at hcc;have hsc:=tQ ns ns la ca lc cc W5 hlc hcc (by rw[HT3.v];have:=HH.w;omega) (by rw[HT3.v];have:=HH.w;omega);rw[HT3.v]at hsc;rw[HT3.v]at hlv;have HSC:=qqH hsc;have HT5:=qqH hT5;subst hlv;clear hs5 hT5 hcv hcc hlc hsc;go_wp2_with fail;refine HSC.out.mono ?_;rintro e W6 ⟨b6,rfl,hb6,hs6⟩;obtain rfl:=hb6 rfl;have HT6:=qqH (HT5.out.Q9 hs6);clear hs6 hb6;go_wp2_with fail;refine bodyPost_ret (results_tmp rfl _ _ _) rfl ⟨X.S.A.spare,X.U.out,X.U.want,X.O,rfl,(HH.a.back ?_:WsOk w0 _ X)⟩;exact HT6.out.drop (fun x=>by unfold wsF;simp only[aB,an]<;>omega)
def lq(w0:World)(ub k m:Nat)(e:Ending)(W':World):Prop:=∃X',e=.returned (.bool true)/\WsOk w0 W' X'/\PB X' k m/\X'.U.blk=ub
theorem Aj(w0 W:World)(X:WS)(o:OpL)(k m:Nat)(h:WsOk w0 W X)(hp:PB X k m)(hE:bq w0)(ho:OpOk w0 o)(hk:1<=o.kind/\o.kind<=8)(hk4:k+1<=400)(hm:m+o.d.length<=60000):
  Calls Tryz.prog 23 #[.pointer (some ⟨X.U.blk,0,none⟩),opA o] W (lq w0 X.U.blk (k+1) (m+o.d.length)):=by
 have hb:m+2*k<=90000:=by omega
 have hl:X.R.vs.length<=100000:=by have:=hp.vs;omega
 have hpm:=hp.mono (k':=k+1) (m':=m+o.d.length) (by omega) (by omega)
 have hrd:∀{e W'},jN w0 X e W'->lq w0 X.U.blk (k+1) (m+o.d.length) e W':=by
  rintro e W' ⟨sp,ov,wv,D,rfl,hw⟩;exact⟨_,rfl,hw,hpm.out sp ov wv D,rfl⟩
 have hcase:o.kind=1\/o.kind=2\/o.kind=3\/o.kind=4\/o.kind=5\/o.kind=6\/o.kind=7\/o.kind=8:=by omega
 rcases hcase with h1|h1|h1|h1|h1|h1|h1|h1
 ·refine(uN w0 W X o (m+2*k) h hp.b hb hl hE ho h1 (by omega) (by have:=hp.ml;omega) ?_ (by have:=hp.q;omega)).mono ?_
  ·have h2:=h.ar.count;have h3:=hp.data;rw[h2,hp.n];unfold aD;omega
  ·rintro e W' ⟨rfl,hw|⟨S',V,vv,cv,mv,M',hcl,hps,hpb,hD,hM,hw⟩⟩
   ·exact⟨X,rfl,hw,hpm,rfl⟩
   ·have hl:aA o.s=true:=by
     have hm2:=(hw.link.each ⟨o.s,iQ X.R.vs o.s X.R.vs.length,o.d,cv,0⟩ (nm.2 (.inr rfl))).2.1;exact hm2
    exact⟨_,rfl,hw,hp.put h hps hpb hD hl hM hw (by omega) (by omega),rfl⟩
 ·exact(fV w0 W X o h (.inl h1) (fun W' hw=>uD w0 W' X o (m+2*k) hw hp.b hb hl hE ho h1)).mono (fun e W'=>hrd)
 ·exact(fV w0 W X o h (.inr (.inl h1)) (fun W' hw=>xA w0 W' X o (m+2*k) hw hp.b hb hl hE ho h1)).mono (fun e W'=>hrd)
 ·exact(fV w0 W X o h (.inr (.inr (.inl h1))) (fun W' hw=>uF w0 W' X o (m+2*k) hw hp.b hb hl hE h1)).mono (fun e W'=>hrd)
 ·exact(fV w0 W X o h (.inr (.inr (.inr (.inl h1)))) (fun W' hw=>tA w0 W' X o (m+2*k) hw hp.b hb hl hE h1)).mono (fun e W'=>hrd)
 ·refine(tW w0 W X o (m+2*k) h hp.b hb hE h1).mono ?_;rintro e W' ⟨rfl,hw|⟨L',hf,hw⟩⟩
  ·exact⟨X,rfl,hw,hpm,rfl⟩
  ·exact⟨_,rfl,hw,hpm.flush hf,rfl⟩
 ·refine(rz w0 W X o (m+2*k) h hp.b hb hE h1).mono ?_;rintro e W' ⟨rfl,S1,hc,hw⟩;exact⟨_,rfl,hw,hpm.close hc,rfl⟩
 ·obtain⟨rs,H,ht⟩:=hp.told;have hdt:=hp.data
  refine(tU (fun d' L' S'=>OpenIs d' L' o.a 1 (aP L'.now (2+1%2*aD L'.n) (aD L'.n)) S') w0 W X o (m+2*k) h hp.b hb ⟨hl,by have:=hp.ts;omega⟩ hE h1
   (fun d' L' W' hc hs=>ht.opens h.ar hp.n (by omega) d' L' o.a W' hc hs) (fun d' L' S' b' vv' tv' hc hi=>?_)).mono ?_
  ·obtain⟨hok',hv,hu,hdat,ht',-,-,-⟩:=ht.Qk h.ar hc hi;obtain⟨e1,e2,e3,e4,e5⟩:=hi.eX;refine⟨hok',e1,z7 h.link hv hu rfl rfl ?_ ?_⟩
   ·show dk o.a=_;rw[e3]
   ·show false=_;rw[e4]
  ·rintro e W' ⟨rfl,d',L',S',b',vv',tv',hc,hi,hw⟩;exact⟨_,rfl,hw,hpm.opened h.ar ho.a.2 hc hi,rfl⟩
theorem zd{S:AS}{p:Bs}{n:Int}{V:VerL}(h:iB S p n V):ai S.ps p≠[]:=fun e=>by
 have:=h.2.2;rw[e]at this;cases this
def wF(X:WS)(S':AS)(R':RefL):Prop:=(S'=X.S/\R'=X.R)\/∃p ns v' L' vv,GoneStep X.S X.R p ns v' L' vv/\S'=jp X.S p ns v' L'/\R'={ X.R with vv:=vv,vs:=fe X.R.vs p ns }
theorem vH{w0 W:World}{X:WS}{k m m':Nat}(h:WsOk w0 W X)(hp:PB X k m)(hk4:k+1<=400)(hm:m<=m'){e:Ending}{W':World}(hc:nf w0 X (wF X) e W'):lq w0 X.U.blk (k+1) m' e W':=by
 obtain⟨S',R',rfl,⟨rfl,rfl⟩|⟨p,ns,v',L',vv,hg,rfl,rfl⟩,hT⟩:=hc
 ·exact⟨X,rfl,h.back hT,hp.mono (Nat.le_succ k) hm,rfl⟩
 ·exact⟨De X p ns v' L' vv,rfl,hg.ws h hT,(hp.gone h hg hk4).mono (Nat.le_refl _) hm,rfl⟩
def Jw(X:WS)(p:Bs)(a n:Int)(S':AS):Prop :=
 (S'=X.S/\(i5 X.S p a n\/(n=5/\∃V,iB X.S p a V/\0<V.held))) \/
 (n=0/\∃V v' L',iB X.S p a V/\V.held<=0/\RecIs X.S L' (frame 3 (dI p [(V.num:Int)]))/\et v' (dK [(V.num:Int)] (ai X.S.ps p))/\S'=jp X.S p [(V.num:Int)] v' L')
theorem PB.room{X:WS}{k m:Nat}(hp:PB X k m)(hok:ArOk X.S)(hk4:k+1<=400)(hm:m<=60000){r:Bs}(hr:r.length<=70000):¬128*X.S.A.count<X.S.data.length+r.length:=by
 have h2:=hok.count;have h3:=hp.data;rw[h2,hp.n];unfold aD;omega
theorem zi{p:Bs}(hp:p.length<=20)(ns:List Int)(hn:ns.length<=10000):(frame 3 (dI p ns)).length<=70000:=by
 rw[bL];unfold dI;rw[List.length_append,bF,cy];omega
theorem qE(w0 W:World)(X:WS)(o:OpL)(k m:Nat)(h:WsOk w0 W X)(hp:PB X k m)(hE:bq w0)(hk:o.kind=9)(hk4:k+1<=400)(hm:m+o.d.length<=60000):
  Calls Tryz.prog 23 #[.pointer (some ⟨X.U.blk,0,none⟩),opA o] W (lq w0 X.U.blk (k+1) (m+o.d.length)):=by
 have hb:m+2*k<=90000:=by omega
 have hl:X.R.vs.length<=100000:=by have:=hp.vs;omega
 refine(rA w0 W X o h hl hE hk (Jw X o.s o.a) (wF X) (fun W' hs=>?_) (fun n S' W' hph hr hs=>?_)).mono (fun e W' hc=>vH h hp hk4 (Nat.le_add_right _ _) hc)
 ·refine(wA X.S o.s o.a (m+2*k) W' hs h.ar hp.b hb).mono ?_;rintro e w' (⟨n,hf,rfl,hT⟩|⟨V,hf,⟨hh,rfl,hT⟩|⟨hh,hrem⟩⟩)
  ·exact⟨_,n,X.S,rfl,.inr rfl,.inl ⟨rfl,.inl hf⟩,hT⟩
  ·exact⟨_,5,X.S,rfl,.inr rfl,.inl ⟨rfl,.inr ⟨rfl,V,hf,hh⟩⟩,hT⟩
  ·unfold jP at hrem;simp only[List.append_nil]at hrem;rcases hrem with⟨hful,-,-⟩|⟨-,rfl,v',L',hr,hv,hT⟩
   ·exact absurd hful (hp.room h.ar hk4 (by omega) (zi (bM hf.2.1) _ (by simp)))
   ·exact⟨_,0,_,rfl,.inl ⟨rfl,rfl⟩,.inr ⟨rfl,V,v',L',hf,hh,hr,hv,rfl⟩,hT⟩
 ·refine(nU X.R X.P o.s o.a W' hr).mono ?_;intro e w' hd;rcases hph with⟨rfl,hf|⟨rfl,V,hf,hh⟩⟩|⟨rfl,V,v',L',hf,hh,hrc,hv,rfl⟩
  ·have hg:=h.link.err hf;rcases hd with⟨n',h1,rfl,hT⟩|⟨v,h1,-⟩|⟨i,vv,hi,h1,-⟩
   ·rw[hg]at h1;obtain rfl:=Except.error.inj h1;exact⟨X.R,rfl,.inl ⟨rfl,rfl⟩,hT.frame hs⟩
   ·rw[hg]at h1;cases h1
   ·rw[hg]at h1;cases h1
  ·obtain⟨v,hg,htr,-,-⟩:=h.link.found hf;have hvh:v.held=V.held:=congrArg (·.2.2) htr;rcases hd with⟨n',h1,-⟩|⟨u,h1,-,rfl,hT⟩|⟨i,vv,hi,h1,-,h3,-⟩
   ·rw[hg]at h1;cases h1
   ·exact⟨X.R,rfl,.inl ⟨rfl,rfl⟩,hT.frame hs⟩
   ·rw[hg]at h1;obtain rfl:=Except.ok.inj h1;omega
  ·obtain⟨v,hg,htr,-,-⟩:=h.link.found hf;have hvh:v.held=V.held:=congrArg (·.2.2) htr;rcases hd with⟨n',h1,-⟩|⟨u,h1,h3,-⟩|⟨i,vv,hi,h1,-,h3,rfl,hrv,hT⟩
   ·rw[hg]at h1;cases h1
   ·rw[hg]at h1;obtain rfl:=Except.ok.inj h1;omega
   ·obtain⟨hcut,-⟩:=h.link.delete h.ar hf hh hi h1 (v':=v') (vv:=vv) (L':=L');obtain⟨e1,e2,e3⟩:=h.link.at hf hi h1;have hT2:=hT.frame (R:=bc X.P) hs;unfold EU at hT2;rw[hcut]at hrv hT2;refine⟨_,rfl,.inr ⟨o.s,[(V.num:Int)],v',L',vv,⟨hf.2.1,hrc,hv,zd hf,fun n hn=>?_,by simp,fun u hu hup hun=>?_,hrv⟩,rfl,rfl⟩,hT2⟩
    ·rw[List.mem_singleton]at hn;exact⟨X.R.vs[i],List.getElem_mem hi,e1,by rw[e2,hn]⟩
    ·rw[List.mem_singleton]at hun;obtain⟨j,hj,rfl⟩:=List.getElem_of_mem hu;obtain rfl:=h.link.uniq.one hj hi (by rw[hup,e1]) (by rw[hun,e2]);rw[e3];exact hh
def JA(X:WS)(p:Bs)(a c n:Int)(S':AS):Prop :=
 (S'=X.S/\c=0/\i5 X.S p 0 n) \/
 (n=0/\∃V v' L',iB X.S p 0 V/\c=(cW (ai X.S.ps p) a).length/\RecIs X.S L' (frame 3 (dI p (cW (ai X.S.ps p) a)))/\et v' (dK (cW (ai X.S.ps p) a) (ai X.S.ps p))/\S'=jp X.S p (cW (ai X.S.ps p) a) v' L')
theorem GT{S:AS}{R:RefL}(L:Link S R)(p:Bs)(a:Int):(cW (ai S.ps p) a).Nodup/\(∀n∈cW (ai S.ps p) a,∃v∈R.vs,v.path=p/\v.num=n)/\(cW (ai S.ps p) a).length<=R.vs.length:=by
 obtain⟨j,hj⟩:∃j,j=(ai S.ps p).length-(min (max a 0) ((ai S.ps p).length:Int)).toNat:=⟨_,rfl⟩;have hns:cW (ai S.ps p) a=(((aL R.vs p).take j).filter mE).map (·.num):=by unfold cW;rw[<- hj];exact L.Qn p j
 have hsub:(((aL R.vs p).take j).filter mE).Sublist (aL R.vs p):=List.filter_sublist.trans (List.take_sublist _ _);rw[hns];refine⟨?_,fun n hn=>?_,?_⟩
 ·rw[List.nodup_iff_pairwise_ne];exact((L.asc p).sublist (hsub.map _)).imp (fun h e=>by omega)
 ·obtain⟨v,hv,rfl⟩:=List.mem_map.1 hn;have:=List.mem_filter.1 (hsub.mem hv);exact⟨v,this.1,by simpa using this.2,rfl⟩
 ·rw[List.length_map];exact Nat.le_trans hsub.length_le (List.length_filter_le _ _)
theorem rB(w0 W:World)(X:WS)(o:OpL)(k m:Nat)(h:WsOk w0 W X)(hp:PB X k m)(hE:bq w0)(ho:OpOk w0 o)(hk:o.kind=10)(hk4:k+1<=400)(hm:m+o.d.length<=60000):
  Calls Tryz.prog 23 #[.pointer (some ⟨X.U.blk,0,none⟩),opA o] W (lq w0 X.U.blk (k+1) (m+o.d.length)):=by
 have hb:m+2*k<=90000:=by omega
 have hvs:=hp.vs;have hl:X.R.vs.length<=100000:=by omega
 have hvl:(ai X.S.ps o.s).length<=15000:=by
  have h1:=congrArg List.length (h.link.vers o.s);rw[List.length_map,List.length_map]at h1;have h2:(aL X.R.vs o.s).length<=X.R.vs.length:=List.length_filter_le _ _;omega
 obtain⟨n1,n2,n3⟩:=GT h.link o.s o.a;refine(tV w0 W X o h hl hE hk (JA X o.s o.a) (wF X) (fun W' hs=>?_) (fun c n S' W' hph hr hs=>?_)).mono (fun e W' hc=>vH h hp hk4 (Nat.le_add_right _ _) hc)
 ·refine(yc X.S o.s o.a (m+2*k) W' hs h.ar hp.b hb hvl).mono ?_;rintro e w' (⟨n,hf,rfl,hT⟩|⟨V,hf,⟨hful,-⟩|⟨-,rfl,v',L',hr,hv,hT⟩⟩)
  ·exact⟨0,_,n,X.S,rfl,.inr rfl,.inl ⟨rfl,rfl,hf⟩,hT⟩
  ·exact absurd hful (hp.room h.ar hk4 (by omega) (zi (bM hf.2.1) _ (by omega)))
  ·exact⟨_,_,0,_,rfl,.inl ⟨rfl,rfl⟩,.inr ⟨rfl,V,v',L',hf,rfl,hr,hv,rfl⟩,hT⟩
 ·refine(xy X.R X.P o.s o.a W' hr hs (by have:=ho.a;unfold I63 at this;exact this)).mono ?_;intro e w' hd;rcases hph with⟨rfl,rfl,hf⟩|⟨rfl,V,v',L',hf,rfl,hrc,hv,rfl⟩
  ·have hg:=h.link.err hf;rcases hd with⟨n',h1,rfl,hT⟩|⟨v,h1,-⟩
   ·rw[hg]at h1;obtain rfl:=Except.error.inj h1;exact⟨X.R,rfl,.inl ⟨rfl,rfl⟩,hT⟩
   ·rw[hg]at h1;cases h1
  ·obtain⟨v,hg,-,-,-⟩:=h.link.found hf;rcases hd with⟨n',h1,-⟩|⟨u,-,vs',c,vv,hfold,rfl,hrv,hT⟩
   ·rw[hg]at h1;cases h1
   ·obtain⟨rfl,rfl,hheld⟩:=h.link.prune h.ar o.s o.a hfold;exact⟨_,rfl,.inr ⟨o.s,_,v',L',vv,⟨hf.2.1,hrc,hv,zd hf,n2,n1,hheld,hrv⟩,rfl,rfl⟩,hT⟩
theorem sR{S:AS}{R:RefL}(L:Link S R)(ht:R.ts.length<=100000):∀v∈R.vs,v.held.natAbs<=1099511627776:=fun v hv=>by
 rw[L.held v hv];have:=zl R.ts v.path v.num;omega
def AX(X:WS)(k m:Nat)(w0:World)(S':AS)(R':RefL):Prop:=(S'=X.S/\R'=X.R)\/(PB (yM X S' R') (k+1) m/\∀W W',WsOk w0 W X->Turns [] (wsF (yM X S' R')) w0 W'->WsOk w0 W' (yM X S' R'))
theorem Aq{w0 W:World}{X:WS}{k m m':Nat}(h:WsOk w0 W X)(hp:PB X k m)(hm:m<=m'){e:Ending}{W':World}(hc:nf w0 X (AX X k m w0) e W'):lq w0 X.U.blk (k+1) m' e W':=by
 obtain⟨S',R',rfl,⟨rfl,rfl⟩|⟨h1,h2⟩,hT⟩:=hc
 ·exact⟨X,rfl,h.back hT,hp.mono (Nat.le_succ k) hm,rfl⟩
 ·exact⟨yM X S' R',rfl,h2 W W' h hT,h1.mono (Nat.le_refl _) hm,rfl⟩
def yk(R:RefL)(m p:Bs)(n k:Int):Prop:=(R.closed=true/\k=9)\/(R.closed=false/\aA m=false/\k=1)\/(R.closed=false/\aA m=true/\cO R p n=.error k)\/(R.closed=false/\aA m=true/\(∃v,cO R p n=.ok v)/\(∃t∈R.ts,t.name=m)/\k=6)
theorem yk.one{R:RefL}{m p:Bs}{n k k':Int}(h:yk R m p n k)(h':yk R m p n k'):k=k':=by
 rcases h with⟨a,b⟩|⟨a,b,c⟩|⟨a,b,c⟩|⟨a,b,⟨v,c⟩,d,e⟩<;>rcases h' with⟨a',b'⟩|⟨a',b',c'⟩|⟨a',b',c'⟩|⟨a',b',⟨v',c'⟩,d',e'⟩<;>first|omega|(rw[a]at a';cases a';done)|(rw[b]at b';cases b';done)|(rw[c]at c';first|exact Except.error.inj c'|(cases c';done))
theorem Kc{S:AS}{R:RefL}(L:Link S R){m p:Bs}{n k:Int}(h:F3 S m p n k)(hr:∀V:VerL,aA m=true->aA p=true->¬128*S.A.count<S.data.length+(frame 4 (fN p m V.num)).length):yk R m p n k:=by
 have hc:=L.closed;rcases h with⟨a,rfl⟩|⟨a,b,rfl⟩|⟨a,b,c,d⟩|⟨V,a,b,⟨c,rfl⟩|⟨-,c,-⟩⟩
 ·exact .inl ⟨by rw[hc,a],rfl⟩
 ·cases hm:aA m with
  | false=>exact .inr (.inl ⟨by rw[hc,a],hm,rfl⟩)
  | true =>
   rw[hm,Bool.true_and]at b;refine .inr (.inr (.inl ⟨by rw[hc,a],hm,?_⟩));unfold cO;rw[hc,a,b];rfl
 ·exact .inr (.inr (.inl ⟨by rw[hc,c],a,L.err d⟩))
 ·obtain⟨v,hg,-⟩:=L.found b;exact .inr (.inr (.inr ⟨by rw[hc,b.1],a,⟨v,hg⟩,(L.names m).1 c,rfl⟩))
 ·exact absurd c (hr V a b.2.1)
def JF(X:WS)(m p:Bs)(a n:Int)(S':AS):Prop :=
 (S'=X.S/\yk X.R m p a n)\/(n=0/\∃V L',aA m=true/\iB X.S p a V/\gv X.S.ts m=false/\RecIs X.S L' (frame 4 (fN p m V.num))/\S'=xM X.S m p V.num L')
theorem uO(w0 W:World)(X:WS)(o:OpL)(k m:Nat)(h:WsOk w0 W X)(hp:PB X k m)(hE:bq w0)(hk:o.kind=11)(hk4:k+1<=400)(hm:m+o.d.length<=60000):
  Calls Tryz.prog 23 #[.pointer (some ⟨X.U.blk,0,none⟩),opA o] W (lq w0 X.U.blk (k+1) (m+o.d.length)):=by
 have hb:m+2*k<=90000:=by omega
 have hl:X.R.vs.length<=100000:=by have:=hp.vs;omega
 have htl:X.R.ts.length<=100000:=by have:=hp.ts;omega
 refine(xJ w0 W X o h hl hE hk (JF X o.t o.s o.a) (AX X k m w0) (fun W' hs=>?_) (fun n S' W' hph hr hs=>?_)).mono (fun e W' hc=>Aq h hp (Nat.le_add_right _ _) hc)
 ·refine(DX X.S o.t o.s o.a (m+2*k) W' hs h.ar hp.b hb).mono ?_;rintro e w' (⟨n,hf,rfl,hT⟩|⟨V,L',hpm,hf,hno,-,rfl,hrc,hT⟩)
  ·exact⟨_,n,X.S,rfl,.inr rfl,.inl ⟨rfl,Kc h.link hf (fun V a b=>hp.room h.ar hk4 (by omega) (Nat.le_trans (rL b a _) (by omega)))⟩,hT⟩
  ·exact⟨_,0,_,rfl,.inl ⟨rfl,rfl⟩,.inr ⟨rfl,V,L',hpm,hf,hno,hrc,rfl⟩,hT⟩
 ·refine(Cr X.R X.P o.t o.s o.a W' hr hs htl (sR h.link htl)).mono ?_;intro e w' hd;rcases hph with⟨rfl,hf⟩|⟨rfl,V,L',hpm,hf,hno,hrc,rfl⟩
  ·rcases hd with⟨n',rfl,hT,hn⟩|⟨h1,h2,h3,i,tv,hi,h4,-⟩
   ·obtain rfl:=hf.one hn;exact⟨X.R,rfl,.inl ⟨rfl,rfl⟩,hT.frame hs⟩
   ·exfalso;rcases hf with⟨a,-⟩|⟨-,a,-⟩|⟨-,-,a⟩|⟨-,-,-,⟨t,ht,a⟩,-⟩
    ·rw[h1]at a;cases a
    ·rw[h2]at a;cases a
    ·rw[h4]at a;cases a
    ·exact h3 t ht a
  ·obtain⟨v,hg,htr,-,-⟩:=h.link.found hf;rcases hd with⟨n',rfl,hT,hn⟩|⟨h1,h2,h3,i,tv,hi,h4,-,rfl,hro,hT⟩
   ·exfalso;rcases hn with⟨a,-⟩|⟨-,a,-⟩|⟨-,-,a⟩|⟨-,-,-,a,-⟩
    ·rw[h.link.closed,hf.1]at a;cases a
    ·rw[hpm]at a;cases a
    ·rw[hg]at a;cases a
    ·have:=(h.link.names o.t).2 a;rw[hno]at this;cases this
   ·obtain⟨e1,hL⟩:=h.link.tag hpm hf hno hi h4 (tv:=tv) (L':=L');have hok':ArOk (xM X.S o.t o.s V.num L'):=Jb h.ar hrc (by have:=bM hpm;unfold OkS;omega)
    have hVn:V.num<4294967296:=by
     have:=hp.nums _ (List.getElem_mem hi);omega
    obtain⟨f1,f2,-⟩:=h.link.at hf hi h4;have hbm:=lG h.link.uniq hi 1;refine⟨_,rfl,.inr ⟨hp.held (p:=X.R.vs[i].path) (n:=X.R.vs[i].num) (d:=1) hrc (rL hf.2.1 hpm _) hok' hL (by rw[f1,f2];rfl) ⟨rfl,rfl,rfl,rfl⟩ hbm ?_ ?_ (fun t ht=>?_) ?_,fun W1 W2 hw1 hT2=>hw1.chg hT2 rfl rfl rfl hok' hro (qL.bump h.inp _ _ _ _) hL⟩,hT⟩
    ·have:=(wm X.R.ts o.t ⟨o.t,o.s,X.R.vs[i].num⟩).length_eq;show(rD X.R.ts o.t _).length<=_;rw[this];simp
    ·show(eO X.S.ts X.S.tc o.t _ _).length<=_;unfold eO;rw[hno];simp
    ·have ht2:t∈eO X.S.ts X.S.tc o.t (qI o.t (o.s,(V.num:Int))) (o.s,(V.num:Int)):=ht;rcases fh ht2 with⟨g1,_⟩|⟨g1,-,g3⟩
     ·exact hp.b.tags t g1
     ·have q1:=bM hpm;have q2:=bM hf.2.1;rw[g1,g3];refine⟨by omega,by simp only;omega,by simp only;omega⟩
    ·obtain⟨rs,H,ht⟩:=hp.told;exact⟨_,_,ht.tag h.ar hrc (bM hf.2.1) (bM hpm) hVn⟩
def F7(X:WS)(m:Bs)(n:Int)(S':AS):Prop :=
 (S'=X.S/\((X.R.closed=true/\n=9)\/(X.R.closed=false/\aA m=false/\n=1)\/(X.R.closed=false/\aA m=true/\(∀t∈X.R.ts,t.name≠m)/\n=3))) \/
 (n=0/\∃q∈X.S.ts,∃L',q.key=m/\X.S.X.closed=false/\aA m=true/\RecIs X.S L' (frame 5 (fN q.g.1 m q.g.2))/\S'=mV X.S m q.g.1 q.g.2 L')
theorem Link.tagged{S:AS}{R:RefL}(L:Link S R){q:ib}(hq:q∈S.ts):aA q.key=true/\∃v∈R.vs,v.path=q.g.1/\v.num=q.g.2:=by
 have:qH q∈R.ts.map uS:=L.tags.mem_iff.1 (List.mem_map.2 ⟨q,hq,rfl⟩);obtain⟨t,ht,e⟩:=List.mem_map.1 this;obtain⟨h1,v,hv,h2,h3⟩:=L.teach t ht;have e1:t.name=q.key:=congrArg (·.1) e;have e2:t.path=q.g.1:=congrArg (·.2.1) e;have e3:t.num=q.g.2:=congrArg (·.2.2) e;exact⟨by rw[<- e1];exact h1,v,hv,by rw[h2,e2],by rw[h3,e3]⟩
theorem rC(w0 W:World)(X:WS)(o:OpL)(k m:Nat)(h:WsOk w0 W X)(hp:PB X k m)(hE:bq w0)(hk:o.kind=12)(hk4:k+1<=400)(hm:m+o.d.length<=60000):
  Calls Tryz.prog 23 #[.pointer (some ⟨X.U.blk,0,none⟩),opA o] W (lq w0 X.U.blk (k+1) (m+o.d.length)):=by
 have hb:m+2*k<=90000:=by omega
 have hl:X.R.vs.length<=100000:=by have:=hp.vs;omega
 have htl:X.R.ts.length<=100000:=by have:=hp.ts;omega
 have hone:=fun v (hv:v∈X.R.vs)=>(h.link.each v hv).1
 have hte:∀t∈X.R.ts,∃k:Nat,k<X.R.vs.length/\bR X.R.vs t.path t.num X.R.vs.length=k:=fun t ht=>by
  obtain⟨-,v,hv,e1,e2⟩:=h.link.teach t ht;obtain⟨i,hi,-,hbe,-⟩:=lw h.link.uniq hone hv;rw[e1,e2]at hbe;exact⟨i,hi,hbe⟩
 have hnm:∀m:Bs,gv X.S.ts m=false->∀t∈X.R.ts,t.name≠m:=fun m hno t ht e=>by
  have:=(h.link.names m).2 ⟨t,ht,e⟩;rw[hno]at this;cases this
 refine(tX w0 W X o h hl hE hk (F7 X o.t) (AX X k m w0) (fun W' hs=>?_) (fun n S' W' hph hr hs=>?_)).mono (fun e W' hc=>Aq h hp (Nat.le_add_right _ _) hc)
 ·refine(ym X.S o.t (m+2*k) W' hs h.ar hp.b hb).mono ?_;rintro e w' (⟨n,hf,rfl,hT⟩|⟨q,hq,L',hqk,hcl,hpm,-,rfl,hrc,hT⟩)
  ·refine⟨_,n,X.S,rfl,.inr rfl,.inl ⟨rfl,?_⟩,hT⟩;rw[h.link.closed];rcases hf with⟨a,b⟩|⟨a,b,c⟩|⟨a,b,c,d⟩|⟨q,hq,-,-,b,c,-⟩
   ·exact .inl ⟨a,b⟩
   ·exact .inr (.inl ⟨a,b,c⟩)
   ·exact .inr (.inr ⟨a,b,hnm _ c,d⟩)
   ·obtain⟨-,v,hv,e1,-⟩:=h.link.tagged hq;have hpp:=(h.link.each v hv).2.1;rw[e1]at hpp;exact absurd c (hp.room h.ar hk4 (by omega) (Nat.le_trans (rL hpp b _) (by omega)))
  ·exact⟨_,0,_,rfl,.inl ⟨rfl,rfl⟩,.inr ⟨rfl,q,hq,L',hqk,hcl,hpm,hrc,rfl⟩,hT⟩
 ·refine(xz X.R X.P o.t W' hr hs htl (sR h.link htl) hte).mono ?_;intro e w' hd;rcases hph with⟨rfl,hf⟩|⟨rfl,q,hq,L',hqk,hcl,hpm,hrc,rfl⟩
  ·rcases hd with⟨n',rfl,hT,hn⟩|⟨h1,h2,i,j,tv,hi,h3,-⟩
   ·have:n=n':=by
     rcases hf with⟨a,b⟩|⟨a,b,c⟩|⟨a,b,c,d⟩<;>rcases hn with⟨a',b'⟩|⟨a',b',c'⟩|⟨a',b',c',d'⟩<;>first|omega|(rw[a]at a';cases a';done)|(rw[b]at b';cases b';done)
    obtain rfl:=this;exact⟨X.R,rfl,.inl ⟨rfl,rfl⟩,hT.frame hs⟩
   ·exfalso;rcases hf with⟨a,-⟩|⟨-,a,-⟩|⟨-,-,a,-⟩
    ·rw[h1]at a;cases a
    ·rw[h2]at a;cases a
    ·exact a _ (List.getElem_mem hi) h3
  ·rcases hd with⟨n',rfl,hT,hn⟩|⟨h1,h2,i,j,tv,hi,h3,hj,hbe,rfl,hro,hT⟩
   ·exfalso;rcases hn with⟨a,-⟩|⟨-,a,-⟩|⟨-,-,a,-⟩
    ·rw[h.link.closed,hcl]at a;cases a
    ·rw[hpm]at a;cases a
    ·obtain⟨t,ht,e⟩:=(h.link.names o.t).1 (by unfold gv;rw[List.any_eq_true];exact⟨q,hq,by simpa using hqk⟩);exact a t ht e
   ·have hL:=h.link.Qp hq hqk hi h3 hbe (tv:=tv) (L':=L');obtain⟨-,v,hv,e1,e2⟩:=h.link.tagged hq;have hpp:=(h.link.each v hv).2.1;rw[e1]at hpp;obtain⟨num,hnum⟩:∃num:Nat,q.g.2=num:=⟨q.g.2.toNat,by have:=hone v hv;omega⟩;have hnb:num<4294967296:=by have:=hp.nums v hv;omega
    rw[hnum]at hrc hL ⊢;have hok':ArOk (mV X.S o.t q.g.1 num L'):=Fi h.ar hrc;have hbt:=(vq h.link.uniq hone hj)
    have hjk:X.R.vs[j].path=q.g.1/\X.R.vs[j].num=num:=by
     obtain⟨-,u,hu,g1,g2⟩:=h.link.teach _ (List.getElem_mem hi);obtain⟨j2,hj2,hj3,hb2,-⟩:=lw h.link.uniq hone hu;rw[g1,g2,hbe]at hb2;have:j=j2:=by omega
     subst this
     have hqt:uS X.R.ts[i]=qH q:=by
      have:qH q∈X.R.ts.map uS:=h.link.tags.mem_iff.1 (List.mem_map.2 ⟨q,hq,rfl⟩);obtain⟨t,ht,e⟩:=List.mem_map.1 this;obtain⟨i2,hi2,rfl⟩:=List.getElem_of_mem ht;have hn2:X.R.ts[i2].name=X.R.ts[i].name:=by rw[h3,<- hqk];exact congrArg (·.1) e
      have h5:=List.pairwise_iff_getElem.1 h.link.tsort
      have:i2=i:=by
       rcases Nat.lt_trichotomy i2 i with hl|hl|hl
       ·have:=h5 i2 i hi2 hi hl;rw[hn2,cd]at this;cases this
       ·exact hl
       ·have:=h5 i i2 hi hi2 hl;rw[hn2,cd]at this;cases this
      subst this;exact e
     rw[hj3,g1,g2,<- hnum];exact⟨congrArg (·.2.1) hqt,congrArg (·.2.2) hqt⟩
    have hbm:=lG h.link.uniq hj (-1);refine⟨_,rfl,.inr ⟨hp.held (p:=X.R.vs[j].path) (n:=X.R.vs[j].num) (d:=-1) hrc (rL hpp hpm _) hok' hL (by rw[hjk.1,hjk.2];rfl) ⟨rfl,rfl,rfl,rfl⟩ hbm ?_ ?_ (fun t ht=>hp.b.tags t (List.mem_filter.1 (show t∈bI X.S.ts o.t from ht)).1) ?_,fun W1 W2 hw1 hT2=>hw1.chg hT2 rfl rfl rfl hok' hro (qL.bump h.inp _ _ _ _) hL⟩,hT⟩
    ·show(qk X.R.ts i).length<=_;unfold qk;simp;omega
    ·show(bI X.S.ts o.t).length<=_;exact Nat.le_succ_of_le (List.length_filter_le _ _)
    ·obtain⟨rs,H,ht⟩:=hp.told;exact⟨_,_,ht.Qp h.ar hrc (bM hpp) (bM hpm) hnb⟩
theorem xI(w0 W:World)(X:WS)(o:OpL)(k m:Nat)(h:WsOk w0 W X)(hp:PB X k m)(hE:bq w0)(ho:OpOk w0 o)(hk:1<=o.kind/\o.kind<=13)(hk4:k+1<=400)(hm:m+o.d.length<=60000):
  Calls Tryz.prog 23 #[.pointer (some ⟨X.U.blk,0,none⟩),opA o] W (lq w0 X.U.blk (k+1) (m+o.d.length)):=by
 have hcase:(1<=o.kind/\o.kind<=8)\/o.kind=9\/o.kind=10\/o.kind=11\/o.kind=12\/o.kind=13:=by omega
 rcases hcase with h1|h1|h1|h1|h1|h1
 ·exact Aj w0 W X o k m h hp hE ho h1 hk4 hm
 ·exact qE w0 W X o k m h hp hE h1 hk4 hm
 ·exact rB w0 W X o k m h hp hE ho h1 hk4 hm
 ·exact uO w0 W X o k m h hp hE h1 hk4 hm
 ·exact rC w0 W X o k m h hp hE h1 hk4 hm
 ·refine(fV w0 W X o h (.inr (.inr (.inr (.inr h1)))) (fun W' hw=>tB w0 W' X o (m+2*k) hw hp.b (by omega) (by have:=hp.ts;omega) hE h1)).mono ?_;rintro e W' ⟨sp,ov,wv,D,rfl,hw⟩;exact⟨_,rfl,hw,(hp.mono (Nat.le_succ k) (Nat.le_add_right _ _)).out sp ov wv D,rfl⟩
def CW(w:World)(l:List OpL)(ub:Nat)(v:Value)(W:World):Prop :=
 ∃(k:Nat) (X:WS),k<=l.length/\v=.int .i64 k/\X.U.blk=ub/\WsOk w W X/\PB X k (gi (l.take k))
theorem uy(l:List OpL)(sl:Option Addr)(cap:Nat)(q:Int)(w:World)(h:ak w sl (tj l))(hok:∀o∈l,OpOk w o)(hcap:l.length<=1125899906842624)(hE:bq w)(hq:q<=9223372036854775807):
  Calls Tryz.prog 11 #[.slice sl l.length cap,.int .i64 q,.int .i64 13] w (fun e w'=>e=.returned (.bool true)/\aX w w'):=by
 have HM:=qqH (show Tryz.prog.follows .mixedOrders=true by kernel_rfl);have HS:=qqH (Ag l sl cap w h hok hcap);have HH:=Hq4 h hok hE hq;clear h hok hE hq;go_enter Tryz.func11,Tryz.ntmps11;go_wp2_with fail;refine HS.out.mono ?_;rintro e w1 ⟨rfl,hs1⟩;have HS1:=qqH hs1;clear hs1
 cases hsm:lO l with
 | false =>
  go_wp2_with fail;exact bodyPost_ret (results_tmp rfl _ _ _) rfl ⟨rfl,HS1.out⟩
 | true =>
  have hlen:l.length<=400/\gi l<=60000:=by unfold lO at hsm;simpa using hsm
  have HB:=qqH (wN 20000 q w1 (by omega) (by omega) (HH.c.keep HS1.out (fun h=>h)) HH.x);clear hsm;go_wp2_with fail;refine HB.out.mono ?_;rintro e w2 ⟨U,S,R,rfl,hst,hUa,hUr,hRf,ho1,ho2,ho3,hT⟩;have hT2:Turns [] ((U.blk,Is (aC U))::(arF S++aI R)) w w2:=Turns.Qg (Sat.nil w) HS1.out hT;obtain⟨X,hX⟩:∃X:WS,X=⟨U,S,R,[],[],[]⟩:=⟨_,rfl⟩;have hst':=hst;obtain⟨s1,s2,s3,s4,s5,s6,s7,s8,s9,s10,s11,s12,s13,s14,s15,s16,s17⟩:=hst'
  have hW:WsOk w w2 X:=by
   rw[hX];refine⟨?_,hUa,hUr,s13.symm,s1,hRf.1,(fun p hp=>by cases hp),?_,by show bOk U.out [];rw[ho1];exact fA,by show jQ [] U.want [];rw[ho2];exact pZ _,?_,(fun x hx=>by cases hx),BV hst hRf.2.1 hRf.2.2.1 hRf.2.2.2.1 hRf.2.2.2.2,by simp⟩
   ·refine hT2.to ?_;unfold wsF br;rw[ho1,ho3,kT,show dl (.slice none 0 0) []=[]from rfl,show bc []=[]from rfl];exact af
   ·intro v hv;rw[hRf.2.1]at hv;cases hv
   ·show uL U.most [];rw[ho3];exact⟨rfl,fun _=>⟨rfl,rfl⟩⟩
  have hP:PB X 0 0:=by
   rw[hX];refine⟨s2,by rw[hRf.2.1];simp,by rw[hRf.2.2.1];simp,by simp,(by rw[hRf.2.1];intro v hv;cases hv),by rw[s11,hRf.2.1];simp,s12,?_,[],[],CF hst⟩;rw[s4];unfold dk;have:=HH.x;split<;>omega
  have hXu:X.U.blk=U.blk:=by rw[hX]
  obtain⟨ub,hub⟩:∃ub,ub=U.blk:=⟨_,rfl⟩;rw[<- hub]at hXu ⊢;have HW:=Hq3 hW hP hXu;clear hT hT2 hst hUa hUr hRf ho1 ho2 ho3 hX hW hP hXu s1 s2 s3 s4 s5 s6 s7 s8 s9 s10 s11 s12 s13 s14 s15 s16 s17 hub;go_wp2_with fail;go_loopw [10] (fun v wr=>CW w l ub v wr) (fun v _=>l.length-(intOf v).toNat)
  case atStart=>exact⟨0,X,Nat.zero_le _,rfl,HW.y,HW.a,by simpa[gi]using HW.b⟩
  case round =>
   obtain⟨k,Y,hk,rfl,hYu,hY,hYP⟩:=hrel;by_cases hlt:k<l.length
   ·obtain⟨g,off,hg,c0,c1,c2,c3,c4,c5,c6⟩:=Jp (HH.a.keep hY.turns.news (fun _ _ _=>id)) hlt;have hoo:=HH.b l[k] (List.getElem_mem hlt);obtain⟨dsl,dcap,hdv,-,-,-⟩:=hoo.dv;have hnx:=q8 hlt;have hle:=vS l (k+1);subst hg;obtain⟨o,hod⟩:∃o,o=l[k]:=⟨_,rfl⟩;rw[<- hod]at c0 c1 c2 c3 c4 c5 c6 hoo hdv hnx;obtain⟨ok,oa,ob_,oc,os,ot,odv,od⟩:=o;simp only at c0 c1 c2 c3 c4 c5 c6 hdv;subst hdv;have hgl:=World.block_lt_of_cell? wr _ c0;have HY:=Hq6 hY hYP hYu hoo hnx hle;clear hY hYP hYu hoo hnx hle hod;by_cases hkind:1<=ok/\ok<=13
    ·have hk1:decide (ok<1)=false:=by simp;omega
     have hk2:¬ok<1:=by omega
     have hk3:¬ok>13:=by omega
     go_upto_region 12 with(fail);have hal:WsOk w (wr.alloc (.cells #[.int .i64 ok,.int .i64 oa,.int .i64 ob_,.int .i64 oc,str os,str ot,.slice dsl od.length dcap] 65)) Y:=HY.a.back (HY.a.turns.alloc _);have HC:=qqH (xI w _ Y ⟨ok,oa,ob_,oc,os,ot,.slice dsl od.length dcap,od⟩ k (gi (l.take k)) hal HY.b HH.c HY.d hkind (by omega) (by have:=HY.e;have:=HY.v;unfold q5 at *;simp only at *;omega));rw[HY.c]at HC;clear hal;go_wp2_with fail;refine HC.out.mono ?_;rintro e w3 ⟨X',rfl,hw',hp',hu'⟩;have HX:=Hq3 hw' hp' hu';clear hw' hp' hu';go_upto_region 13 with(fail);obtain⟨oa1,oc1,hov,-,-,-,-⟩:=aV (dX (HX.a.turns.sat.tail.right.right.right.right) HX.a.out);obtain⟨wa1,wc1,hwv,-⟩:=HX.a.want.at HX.a.turns.sat.tail.right.right.left HX.a.pok;have hu:w3.heap[ub]?=some (aC X'.U):=by rw[<- HX.y];exact HX.a.turns.sat.Q5
     have c3:=aa hu 3 (v:=X'.U.out) rfl;have c4:=aa hu 4 (v:=X'.U.want) rfl;rw[hov]at c3;rw[hwv]at c4;have hTd:=HX.a.turns.drew;obtain⟨oa2,oc2,hov2,-,-,hoc2,-⟩:=aV (dX (hTd.sat.tail.right.right.right.right) HX.a.out);obtain⟨wa2,wc2,hwv2,hwc2⟩:=HX.a.want.at hTd.sat.tail.right.right.left HX.a.pok;rw[hov]at hov2;rw[hwv]at hwv2;simp only[Value.slice.injEq,true_and]at hov2 hwv2;obtain⟨rfl,rfl⟩:=hov2;obtain⟨rfl,rfl⟩:=hwv2;have hol:=HX.a.olen;have HSC:=qqH (oQ oa1 wa1 oc1 wc1 X'.O X'.O w3.drew hoc2 hwc2 (by omega) (by omega));clear hu hTd hoc2 hwc2;refine wp_region_still_tail 8 HM.out (by kernel_rfl) ?_;simp only[List.take_succ_cons,List.take_zero,List.drop_succ_cons,List.drop_zero];repeat still_step
     refine wpStill_nil ?_;change wpList _ _ _ _ _ w3.drew;go_wp2_with fail;refine HSC.out.mono ?_;rintro e W4 ⟨rfl,hs4⟩;rw[decide_eq_true trivial];have hs4:=hs4.same;have HX4:=qqH (HX.a.back (HX.a.turns.drew.Q9 hs4));clear hs4 hov hwv c3 c4;go_wp2_with fail;go_roundw
     case rel=>exact⟨k+1,X',by omega,by go_num,HX.y,HX4.out,by rw[HY.e];unfold q5;exact HX.b.mono (Nat.le_refl _) (by simp only;omega)⟩
     case measure=>simp[intOf];omega
    ·have hfin:∀W,aX wr W->CW w l ub (.int .i64 ((k:Int)+1)) W:=fun W hs =>
      ⟨k+1,Y,by omega,by go_num,HY.c,HY.a.back (HY.a.turns.Q9 hs),HY.b.mono (by omega) (by rw[HY.e];omega)⟩
     have HF:=qqH hfin;clear hfin;by_cases hk1:ok<1
     ·go_wp2_with fail;go_roundw
      case rel=>exact HF.out _ ((Mods.refl _ _).alloc _)
      case measure=>simp[intOf];omega
     ·have hk2:(13:Int)<ok:=by omega
      go_wp2_with fail;go_roundw
      case rel=>exact HF.out _ ((Mods.refl _ _).alloc _)
      case measure=>simp[intOf];omega
   ·obtain rfl:k=l.length:=by omega
    have HY:=qqH hY;clear hY hYP;go_wp2_with fail;exact bodyPost_ret (results_tmp rfl _ _ _) rfl ⟨rfl,HY.out.turns.news⟩
theorem AH(l:List OpL)(sl:Option Addr)(cap:Nat)(q:Int)(w:World)(h:ak w sl (tj l))(hok:∀o∈l,OpOk w o)(hcap:l.length<=1125899906842624)(hE:bq w)(hq:q<=9223372036854775807):
  Calls Tryz.prog 10 #[.slice sl l.length cap,.int .i64 q] w (fun e w'=>e=.returned (.bool true)/\aX w w'):=by
 have HP:=qqH (uy l sl cap q w h hok hcap hE hq);clear h hok hcap hE hq;go_enter Tryz.func10,Tryz.ntmps10;go_wp2_with fail;refine HP.out.mono ?_;rintro e w1 ⟨rfl,hs1⟩;go_wp2_with fail;exact bodyPost_ret (results_tmp rfl _ _ _) rfl ⟨rfl,hs1⟩
end
section
open Go.ChangeShapes Go.WideShapes Go.ChangeAt Go.RowKit
def CS(k:IntKind)(w:World)(a:Option Addr)(len cap:Nat)(zs:List Int):Prop :=
 (a=none/\len=0/\cap=0/\zs=[]) \/
 ∃x,a=some x/\len<=cap/\cap<=maxLen/\zs.length=cap/\(∀i,i<zs.length->w.cell? (x.add i)=some (.int k (zs.getD i 0)))/\∀n∈zs,(Lit.int k n).wf=true
theorem KC{n:Int}(h:(Lit.int .u8 n).wf=true):0<=n/\n<=255:=by
 have:=bounds_u8 h;omega
theorem CS.bytes{w:World}{a:Option Addr}{len cap:Nat}{zs:List Int}(h:CS .u8 w a len cap zs):
  ∃l:List UInt8,l.length=len/\ak w a (l.map ao)/\len<=cap/\cap<=maxLen:=by
 rcases h with⟨rfl,rfl,rfl,rfl⟩|⟨x,rfl,hl,hm,hz,hcell,hwf⟩
 ·exact⟨[],rfl,fun hp=>by simp at hp,by omega,by unfold maxLen;omega⟩
 ·refine⟨(zs.take len).map fun z=>UInt8.ofNat z.toNat,by simp;omega,fun hp=>?_,hl,hm⟩;have hlen:0<len:=by simp at hp;omega
  obtain⟨b,off,spot⟩:=x;have h0:=hcell 0 (by omega);have hspot:spot=none:=by simpa[Addr.add]using World.cell?_spot h0
  subst hspot;refine⟨b,off,rfl,fun j hj=>?_⟩;have hj':j<zs.length:=by simp at hj;omega
  have hc:=hcell j hj';rw[Addr.add_lit]at hc;rw[hc];have hb:=KC (hwf _ (List.getElem_mem hj'));simp only[List.getElem_map,List.getElem_take,ao,Option.some.injEq,Value.int.injEq,true_and];rw[List.getD_eq_getElem?_getD,List.getElem?_eq_getElem hj']
  have e:(UInt8.ofNat zs[j].toNat).toNat=zs[j].toNat:=by
   rw[UInt8.toNat_ofNat'];omega
  rw[e];simp;omega
theorem Ak(s:ByteArray):str s.data.toList=.string s:=by
 unfold str;congr 1
theorem mI{H:Type}{P:Program}{e:TypeId}{k:Nat}:∀{ds:List (DataW H)} {d:DataW H},d∈ds->k∈d.weights P e->k∈DataW.weightsAll P e ds
 | [],_,h,_=>by simp at h
 | x::r,d,h,hk=>by
  simp only[DataW.weightsAll,List.mem_append]
  rcases List.mem_cons.1 h with rfl|h
  ·exact .inl hk
  ·exact .inr (mI h hk)
theorem Dl{α:Type}(Q:Nat->α->Prop):∀n:Nat,(∀i,i<n->∃o,Q i o)->∃l:List α,l.length=n/\∀(i:Nat) (o:α),l[i]?=some o->Q i o
 | 0,_=>⟨[],rfl,fun i o h=>by simp at h⟩
 | n+1,h=>by
  obtain⟨l,h1,h2⟩:=Dl Q n (fun i hi=>h i (by omega))
  obtain⟨o,ho⟩:=h n (by omega)
  refine⟨l++[o],by simp[h1],fun i o' hi=>?_⟩
  by_cases hlt:i<n
  ·rw[List.getElem?_append_left (by omega)]at hi
   exact h2 i o' hi
  ·have hb:=(List.getElem?_eq_some_iff.1 hi).1
   simp only[List.length_append,List.length_cons,List.length_nil]at hb
   obtain rfl:i=n:=by omega
   rw[<- h1,List.getElem?_append_right (Nat.le_refl _),Nat.sub_self]at hi
   simp only[List.getElem?_cons_zero,Option.some.injEq]at hi
   subst hi
   exact ho
theorem iP{α:Type}{n:Nat}:∀{l:List α},l.length=n+1->∃a r,l=a::r/\r.length=n
 | [],h=>by simp at h
 | a::r,h=>⟨a,r,rfl,by simpa using h⟩
theorem td{α:Type}(l:List α)(h:l.length=7):∃a b c d e f g,l=[a,b,c,d,e,f,g]:=by
 obtain⟨a,r1,rfl,h1⟩:=iP h;obtain⟨b,r2,rfl,h2⟩:=iP h1;obtain⟨c,r3,rfl,h3⟩:=iP h2;obtain⟨d,r4,rfl,h4⟩:=iP h3;obtain⟨e,r5,rfl,h5⟩:=iP h4;obtain⟨f,r6,rfl,h6⟩:=iP h5;obtain⟨g,r7,rfl,h7⟩:=iP h6;exact⟨a,b,c,d,e,f,g,by rw[List.length_eq_zero_iff.1 h7]⟩
theorem Bn{H:Type}{enc:TypeId×Value->H}{W:World}{n:Nat}{cs:List Value}{x:DataW H×List MemPlace}(h:DataW.trod enc Tryz.prog W 0 (fun _=>true) true n 38 cs=some x)(hz:∀k∈x.1.weights Tryz.prog 38,k<=reachBytes):
  ∃(l:Bs) (sl:Option Addr) (cap:Nat),cs=[.slice sl l.length cap]/\ak W sl (l.map ao)/\l.length<=cap/\cap<=9223372036854775807/\l.length<=1125899906842624:=by
 rcases open_ints Tryz.underlying38 Tryz.underlying5 (by kernel_rfl) h with⟨rfl,rfl⟩|⟨a,len,cap,zs,rfl,_,hl,hm,hzl,rfl,hcell,hwz⟩
 ·exact⟨[],none,0,rfl,fun hp=>by simp at hp,by simp,by omega,by simp⟩
 ·have hzl':zs.length=cap:=by simpa using hzl
  obtain⟨l,h1,h2,h3,_⟩:=CS.bytes (.inr ⟨_,rfl,hl,hm,hzl',hcell,hwz⟩:CS .u8 W (some a) len cap zs);subst h1;refine⟨l,some a,cap,rfl,h2,h3,by unfold maxLen at hm;omega,?_⟩;have h4:=hz (((lits (H:=H) .u8 (zs.take l.length)).length+(lits (H:=H) .u8 (zs.drop l.length)).length)*Tryz.prog.bytesOf 5) (by simp only[DataW.weights,Tryz.underlying38];exact List.mem_cons_self);rw[show Tryz.prog.bytesOf 5=1 from by kernel_rfl,Nat.mul_one]at h4;simp only[lits,List.length_map,List.length_take,List.length_drop]at h4;have:=reachBytes_lt;omega
theorem gK{H:Type}{enc:TypeId×Value->H}{W:World}{m:Nat}{cs:List Value}{fs:Array Field}{xs:List (DataW H×List MemPlace)}{P:Program}(hf:∀(i:Nat) (f:Field),fs[i]?=some f->DataW.trod enc P W 0 (fun _=>true) true m f.type ((cs.drop f.offset).take (P.cellsOf f.type))=xs[i]?){i:Nat}{f:Field}(hi:fs[i]?=some f){t:TypeId}{off n:Nat}(ht:f.type=t)(ho:f.offset=off)(hc:P.cellsOf t=n):DataW.trod enc P W 0 (fun _=>true) true m t ((cs.drop off).take n)=xs[i]?:=by
 subst ht ho hc;exact hf i f hi
theorem IT{H:Type}{enc:TypeId×Value->H}{W:World}{n:Nat}{cs:List Value}{x:DataW H×List MemPlace}(h:DataW.trod enc Tryz.prog W 0 (fun _=>true) true n 65 cs=some x)(hz:∀k∈x.1.weights Tryz.prog 65,k<=reachBytes):
  ∃o:OpL,cs=opV o/\OpOk W o:=by
 obtain⟨xs,m,rfl,rfl,hl,hlen,hf⟩:=DataW.trod_struct Tryz.underlying65 h;rw[show Tryz.prog.cellsOf 65=7 from by kernel_rfl]at hl;have ci:Tryz.prog.cellsOf 3=1:=by kernel_rfl
 have ct:Tryz.prog.cellsOf 9=1:=by kernel_rfl
 have cb:Tryz.prog.cellsOf 38=1:=by kernel_rfl
 obtain⟨y0,y1,y2,y3,y4,y5,y6,rfl⟩:=td xs hlen;obtain⟨c0,c1,c2,c3,c4,c5,c6,rfl⟩:=td cs hl
 have hzz:∀(j:Nat) (t:TypeId) (d:DataW H),[3,3,3,3,9,9,38][j]?=some t->[y0.1,y1.1,y2.1,y3.1,y4.1,y5.1,y6.1][j]?=some d->∀k∈d.weights Tryz.prog t,k<=reachBytes:=fun j t d ht hd k hk=>hz k (by
  simp only[DataW.weights,Tryz.underlying65];exact DataW.weights_mem_each (j:=j) (t:=t) (d:=d) ht hd k hk)
 clear hz h;have f0:DataW.trod enc Tryz.prog W 0 (fun _=>true) true m 3 [c0]=some y0:=gK hf (i:=0) (f:={ name := "Kind",type:=3,offset:=0,embedded:=false,tag := "",pkgPath := "",byteOffset:=0 }) rfl rfl rfl ci;have f1:DataW.trod enc Tryz.prog W 0 (fun _=>true) true m 3 [c1]=some y1:=gK hf (i:=1) (f:={ name := "A",type:=3,offset:=1,embedded:=false,tag := "",pkgPath := "",byteOffset:=8 }) rfl rfl rfl ci;have f2:DataW.trod enc Tryz.prog W 0 (fun _=>true) true m 3 [c2]=some y2:=gK hf (i:=2) (f:={ name := "B",type:=3,offset:=2,embedded:=false,tag := "",pkgPath := "",byteOffset:=16 }) rfl rfl rfl ci;have f3:DataW.trod enc Tryz.prog W 0 (fun _=>true) true m 3 [c3]=some y3:=gK hf (i:=3) (f:={ name := "C",type:=3,offset:=3,embedded:=false,tag := "",pkgPath := "",byteOffset:=24 }) rfl rfl rfl ci;have f4:DataW.trod enc Tryz.prog W 0 (fun _=>true) true m 9 [c4]=some y4:=gK hf (i:=4) (f:={ name := "S",type:=9,offset:=4,embedded:=false,tag := "",pkgPath := "",byteOffset:=32 }) rfl rfl rfl ct;have f5:DataW.trod enc Tryz.prog W 0 (fun _=>true) true m 9 [c5]=some y5:=gK hf (i:=5) (f:={ name := "T",type:=9,offset:=5,embedded:=false,tag := "",pkgPath := "",byteOffset:=48 }) rfl rfl rfl ct;have f6:DataW.trod enc Tryz.prog W 0 (fun _=>true) true m 38 [c6]=some y6:=gK hf (i:=6) (f:={ name := "D",type:=38,offset:=6,embedded:=false,tag := "",pkgPath := "",byteOffset:=64 }) rfl rfl rfl cb;obtain⟨n0,e0,-,w0⟩:=DataW.trod_int Tryz.underlying3 f0;obtain⟨n1,e1,-,w1⟩:=DataW.trod_int Tryz.underlying3 f1;obtain⟨n2,e2,-,w2⟩:=DataW.trod_int Tryz.underlying3 f2;obtain⟨n3,e3,-,w3⟩:=DataW.trod_int Tryz.underlying3 f3;obtain⟨s4,e4,rfl,w4⟩:=DataW.trod_string Tryz.underlying9 f4;obtain⟨s5,e5,rfl,w5⟩:=DataW.trod_string Tryz.underlying9 f5;obtain⟨l,sl,cap,e6,h1,h2,h3,h4⟩:=Bn f6 (hzz 6 _ _ rfl rfl);simp only[List.cons.injEq,and_true]at e0 e1 e2 e3 e4 e5 e6;subst e0 e1 e2 e3 e4 e5 e6;have hr:=reachBytes_lt;have z4:=hzz 4 _ _ rfl rfl s4.data.toList.length (by simp only[DataW.weights];exact List.mem_singleton.2 rfl);have z5:=hzz 5 _ _ rfl rfl s5.data.toList.length (by simp only[DataW.weights];exact List.mem_singleton.2 rfl);refine⟨⟨n0,n1,n2,n3,s4.data.toList,s5.data.toList,.slice sl l.length cap,l⟩,by unfold opV;rw[Ak,Ak],⟨Go.bounds_i64 w1,Go.bounds_i64 w2,Go.bounds_i64 w3,Nat.le_trans z4 (by omega),Nat.le_trans z5 (by omega),h4,⟨sl,cap,rfl,h2,h3,h1⟩⟩⟩
theorem J4{H:Type}{enc:TypeId×Value->H}{W:World}{a:Option Addr}{len cap:Nat}{d:DataW H}{p:List MemPlace}(h:DataW.Trod enc Tryz.prog W 0 (fun _=>true) true 22 (.slice a len cap) d p)(hz:∀k∈d.weights Tryz.prog 22,k<=reachBytes):
  ∃l:List OpL,l.length=len/\ak W a (tj l)/\(∀o∈l,OpOk W o)/\l.length<=1125899906842624:=by
 obtain⟨fuel,hf⟩:=h;rcases DataW.trod_slice Tryz.underlying22 hf with⟨hcs,_⟩|⟨x,len',cap',elems,rest,n,_,hcs,hx,hb,hl,hm,hlen,hel,_,_⟩
 ·simp[Value.cells]at hcs;obtain⟨rfl,rfl,rfl⟩:=hcs;exact⟨[],rfl,fun hp=>by simp[tj]at hp,fun o ho=>by simp at ho,by simp⟩
 ·simp[Value.cells]at hcs;obtain⟨rfl,rfl,rfl⟩:=hcs;simp only[Prod.mk.injEq]at hx;obtain⟨rfl,-⟩:=hx;have c7:Tryz.prog.cellsOf 65=7:=by kernel_rfl
  rw[c7]at hel
  have each:∀i,i<elems.length->∃o:OpL,W.cells? 0 (x.add (i*7)) 7=some (opV o)/\OpOk W o:=by
   intro i hi;have h1:=hel i (by omega);rw[List.getElem?_eq_getElem hi,Option.bind_eq_some_iff]at h1;obtain⟨cs,hcs,hy⟩:=h1
   obtain⟨o,rfl,ho⟩:=IT hy (fun k hk=>hz k (by
    simp only[DataW.weights,Tryz.underlying22];exact List.mem_cons_of_mem _ (List.mem_append_left _ (mI (List.mem_map_of_mem (List.getElem_mem hi)) hk))))
   exact⟨o,hcs,ho⟩
  obtain⟨l,hll,hl2⟩:=Dl _ _ each;have h80:=hz (((elems.map (·.1)).length+(rest.map (·.1)).length)*Tryz.prog.bytesOf 65) (by simp only[DataW.weights,Tryz.underlying22];exact List.mem_cons_self);rw[show Tryz.prog.bytesOf 65=88 from by kernel_rfl]at h80;simp only[List.length_map]at h80;have hr:=reachBytes_lt;refine⟨l,by omega,fun hp=>?_,fun o ho=>?_,by omega⟩
  ·rw[jn]at hp;obtain⟨b,off,spot⟩:=x;have h0:=(hl2 0 _ (List.getElem?_eq_getElem (by omega:0<l.length))).1;have hc0:=(World.cells?_some h0).2.2 0 (by omega);have hspot:spot=none:=by simpa[Addr.add]using World.cell?_spot (hc0.trans rfl)
   subst hspot;refine⟨b,off,rfl,fun j hj=>?_⟩;have hj2:=hj;rw[jn]at hj2;have hi:j / 7<l.length:=by omega
   have h1:=(hl2 (j / 7) _ (List.getElem?_eq_getElem hi)).1;have h2:=(World.cells?_some h1).2.2 (j%7) (by omega);rw[Addr.add_lit,Addr.add_lit,show off+j / 7*7+j%7=off+j by omega,<- xq l (j / 7) hi (j%7) (by omega),show j / 7*7+j%7=j by omega,List.getElem?_eq_getElem hj]at h2;exact h2
  ·obtain⟨i,hi⟩:=List.getElem?_of_mem ho;exact(hl2 i o hi).2
end
end Go.Proofs.YtdhobpbngkainaaGreatDoor
namespace Go.Proofs.YtdhobpbngkainaaGreatDoor.keptDone
open Go.ChangeShapes Go.WideShapes Go.ChangeAt Go.RowKit
theorem laidOut:laidOutB Tryz.prog=true:=by kernel_rfl
theorem contract(H:Type)(enc:TypeId×Value->H)(W:World)(base:Nat)(args:Array Value)(ds gs:List (DataW H))(before:List MemPlace)(hval:∀(j:Nat) t v,Tryz.f10.params[j]?=some t->args[j]?=some v->Value.okWide Tryz.prog W .any base t v)(hW:DataW.Whole enc Tryz.prog Tryz.f10.params.toList Rows.keptSpec.vars false W args.toList ds gs before)(hsz:(DataW.weightsEach Tryz.prog (Tryz.f10.params.toList++(OpenSpec.ofChange Rows.keptSpec).bare.plain.varTypes Tryz.prog) (ds++gs)).all (·<=reachBytes)=true)(hL:laidMetH Tryz.prog Rows.keptRow.laid W):
  Calls Tryz.prog 10 args W fun e W'=>∃v,e=.returned v/\Rows.keptSpec.post enc Tryz.prog Tryz.f10 false true false false W args v W':=by
 have hW':=hW;obtain⟨p,q,hA0,hV,rfl,hfz,hnd⟩:=hW;have hA:DataW.TrodAll enc Tryz.prog W 0 (fun _=>true) true Tryz.f10.params.toList args.toList ds p:=hA0;rw[Tryz.params10]at hA hval;obtain⟨v0,vs0,d0,ds0,p0,q0,hargs,rfl,rfl,h0,r0⟩:=trodAll_cons hA;obtain⟨v1,vs1,d1,ds1,p1,q1,rfl,rfl,rfl,h1,r1⟩:=trodAll_cons r0;obtain⟨rfl,rfl,rfl⟩:=trodAll_nil r1;obtain rfl:args=#[v0,v1]:=by cases args;simp_all
 obtain⟨rfl,rfl⟩:=trodVars_none hV;obtain⟨a0,len0,cap0,rfl⟩:=okWide_slice Tryz.underlying22 (hval 0 22 v0 rfl rfl);have k0:=h0;have k1:=h1;have lt0:∀x∈p0,x.block<W.heap.size:=by obtain⟨m,hm⟩:=k0;exact DataW.trod_lt m _ _ _ hm
 have lt1:∀x∈p1,x.block<W.heap.size:=by obtain⟨m,hm⟩:=k1;exact DataW.trod_lt m _ _ _ hm
 obtain⟨n1,rfl,rfl,rfl,hw1⟩:=open_int Tryz.underlying3 (hval 1 3 v1 rfl rfl) h1;obtain⟨l,rfl,hl,hok,hcap⟩:=J4 h0 (fun k hk=>of_decide_eq_true (List.all_eq_true.1 hsz k (DataW.weights_mem_each (j:=0) (t:=22) rfl rfl k hk)));clear hA0;refine(AH l a0 cap0 n1 W hl hok hcap (BC hL) (JZ hw1).2).mono fun e W' ⟨he,hs⟩=>?_
 subst he;have bel:=hs.below;exact⟨_,rfl,_,_,_,[],_,[],hW',trodAll_mk1 (shut_bool Tryz.underlying4 _),(trodAll_cons_mk (Below.trod laidOut (by kernel_rfl) (of_decide_eq_true (by kernel_rfl)) k0 bel lt0) (trodAll_cons_mk (Below.trod laidOut (by kernel_rfl) (of_decide_eq_true (by kernel_rfl)) k1 bel lt1) trodAll_mk0)),rfl,bel.frame _,fun h=>by cases h⟩
theorem reads(os:Os){H:Type}(enc:TypeId×Value->H):∃places,DataW.whole enc Tryz.prog ((qs os).forCall (fun _ _=>0) ⟨#[],#[.slice none 0 0,.int .i64 0],[]⟩).memory Tryz.f10.params.toList Rows.keptSpec.vars false #[Value.slice none 0 0,Value.int .i64 0].toList 8=some ([.nil,.lit (.int .i64 0)],[],places) :=
 ⟨[],by kernel_rfl⟩
theorem lifted(os:Os)(started:os.Started)(H:Type)(enc:TypeId×Value->H)(F:Stop.Interp):
  ReturnsInHanded {} Tryz.checked os 10 .any ((OpenSpec.ofChange Rows.keptSpec).preRow enc Tryz.prog Tryz.f10 Rows.keptRow.domain false Rows.keptRow.laid) (((OpenSpec.ofChange Rows.keptSpec).at F).post enc Tryz.prog Tryz.f10 false true false false):=by
 obtain⟨places,hx⟩:=reads os enc
 refine returnsInHanded_of_row (C:=Tryz.checked) (s:=OpenSpec.ofChange Rows.keptSpec) J1 started (by kernel_rfl) Tryz.func10
  (witness_row_at (enc:=enc) (C:=Tryz.checked) false (qs os) #[.slice none 0 0,.int .i64 0] rfl (by kernel_rfl) (by kernel_rfl) (by kernel_rfl)
   (OpenSpec.preRow_of_cond 8 hx (by kernel_rfl) (fun k hk=>by cases hk) (by kernel_rfl) (ut os _))) ?_
 intro W base args ds gs before hval hW _ _ hsz hL _ _;exact contract H enc W base args ds gs before hval hW hsz hL
theorem said:Rows.KeptSaid :=
 OpenClaim.holds_of_cond 10 Tryz.f10 rfl rfl rfl rfl rfl rfl rfl ⟨rfl,rfl,rfl,rfl,rfl⟩ rfl rfl rfl rfl rfl (by kernel_rfl) Tryz.func10 (by kernel_rfl)
  (of_decide_eq_true (by kernel_rfl)) (by unfold Func.isWrapper;first|(rw[if_pos (by decide +kernel)];kernel_rfl)|(rw[if_neg (by decide +kernel)];exact⟨rfl,rfl⟩))
  (fun os started H enc _ F=>by rw[OpenClaim.pre_eq_preRow];exact lifted os started H enc F)
theorem plain(f:FuncId)(fn:Func)(hf:Tryz.pinned.checked.prog.funcNamed "versions/versionslaw.Kept" = some f)(hfn:Tryz.pinned.checked.prog.funcs[f]?=some fn):
  true=Tryz.pinned.checked.prog.looks []/\∀(j:Nat) t,fn.params[j]?=some t->Tryz.pinned.checked.prog.wantsStandIn t=false:=by
 obtain rfl:f=10:=Option.some.inj ((show Tryz.prog.funcNamed "versions/versionslaw.Kept" = some 10 by kernel_rfl).symm.trans hf) |>.symm
 obtain rfl:fn=Tryz.f10:=(Option.some.inj (Tryz.func10.symm.trans hfn)).symm;refine⟨by kernel_rfl,fun j t ht=>?_⟩;rw[Tryz.params10]at ht;have hm:=Array.mem_of_getElem? ht;rcases(by simpa using hm:t=22\/t=3)with rfl|rfl
 ·exact(show Tryz.prog.wantsStandIn 22=false by kernel_rfl)
 ·exact(show Tryz.prog.wantsStandIn 3=false by kernel_rfl)
theorem proved:Rows.KeptCardSaid :=
 Claim7.holds_tied_plain_at .later [] _ _ _ _ said (fun _ h=>by cases h) (by kernel_rfl) (fun _ h=>by cases h) kept_row_tie rfl ⟨rfl,rfl⟩ (by kernel_rfl) rfl plain (by kernel_rfl)
end Go.Proofs.YtdhobpbngkainaaGreatDoor.keptDone
