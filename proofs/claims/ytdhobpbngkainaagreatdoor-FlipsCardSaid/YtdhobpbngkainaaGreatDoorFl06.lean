/- Ours. A part of the proof, made small by a program. -/
import Derived.Test.YtdhobpbngkainaaGreatDoorFl05
set_option maxRecDepth 100000
set_option maxHeartbeats 4000000
namespace Go.Proofs.YtdhobpbngkainaaGreatDoor
open List
section
open Go.RowKit Go.Maps
theorem J3:(Tryz.prog.info? 262).map (fun i=>(i.zero,i.size,i.bytes))=some (some (.agg #[str [],.int .i64 0,.int .i64 0,.int .i64 0]),4,40):=by kernel_rfl
theorem yK{o:Oper}{a:Act}{w a0:World}{K:Act->World->Prop}{Q:Exit->Act->World->Prop}{F G:HF}(s x:Operand)(hop:o.op=.call { callee:=.builtin .append,args:=#[s,x],argTypes:=#[181,181] })(v:Value)(l:List EntL)(hs:a.eval s=v)(hT:Turns F (fg v l++G) a0 w)(hok:rG v l)(nb:Nat)(hx:a.eval x=.slice (some ⟨nb,0,none⟩) 1 1)(r:EntL)(hc:w.heap[nb]?=some (.cells (cr r).toArray 262 (0,0)))(hb:l.length<=1000000)(hk:∀v' w',rG v' (l++[r])->Turns F (fg v' (l++[r])++G) a0 w'->K (a.put o.dst v') w'):o.wp Tryz.prog a w K Q:=by
 obtain⟨i0,hi0,hz1,hz2,hz3⟩:=info_parts J3;refine cI s x 181 262 i0 (.agg #[str [],.int .i64 0,.int .i64 0,.int .i64 0]) 4 40 hop Tryz.underlying181 hi0 hz1 hz2 hz3 rfl (by decide) v l.length (l.flatMap cr) hs hT hok (some ⟨nb,0,none⟩) 1 1 hx (cr r) rfl (fun _=>⟨_,rfl,fun j u hu=>?_⟩) (fun u hu=>Ei [r] u (by simpa using hu)) (by unfold maxLen;omega) (by omega) (fun v' w' h1 h2 h3=>?_)
 ·rw[Addr.add_lit,Nat.zero_add];exact aa hc j (by simpa using hu)
 ·exact hk v' w' (by unfold rG;rw[length_append,flatMap_append];simpa using h1) (by unfold fg;rw[length_append,flatMap_append];simpa using h2)
def Il(nb:Nat)(key:Bs)(U:VerL)(n:Nat):Nat×(Obj->Prop):=(nb,Is (.cells (cr ⟨key,U.num,U.size,n⟩).toArray 262 (0,0)))
def AA(l:List VerL):VerL:=(l.getLast?).getD ⟨0,0,0,.slice none 0 0,[],0⟩
def pEnt(p:aW):EntL:=⟨p.key,(AA p.g).num,(AA p.g).size,p.g.length⟩
def eG(pre:Bs)(l:List aW):List EntL:=(l.filter (fun p=>pre.isPrefixOf p.key)).map pEnt
def GY(S:AS)(pre:Bs)(w:World)(e:Ending)(w':World):Prop :=
 (S.X.closed=true/\e=.returned (.tuple #[.slice none 0 0,cO 9])/\Turns (arF S) (arF S) w w') \/
 (S.X.closed=false/\∃v es,e=.returned (.tuple #[v,.nilIface])/\Cd (eG pre S.ps) es/\rG v es/\Turns (arF S) (fg v es++arF S) w w')
def xE(S:AS)(pre:Bs)(w:World)(r:Nat)(v:Value)(W:World):Prop :=
 ∃done todo J,(done++todo).Perm S.ps/\rG v (eG pre done)/\Turns (arF S) (fg v (eG pre done)++((r,Is (dC S.X.pm S.pc (done.map aO)))::(arF S++J))) w W
def ua(r n:Nat)(w:World):Nat:=match w.heap[r]? with
 | some (.mapIter _ _ d _)=>n-d.size
 | _=>0
theorem BU(S:AS)(pre:Bs)(b:Nat)(w:World)(h:Sat w (arF S))(hok:ArOk S)(hB:ArB S b)(hb:b<=90000):
  Calls Tryz.prog 88 #[.pointer (some ⟨S.a,0,none⟩),str pre] w (GY S pre w):=by
 have ha:=h.Q5;have hal:=ac ha
 cases hc:S.X.closed with
 | true =>
  have a10:w.cell? ⟨S.a,10,none⟩=some (.bool true):=by rw[<- hc];exact aa ha 10 rfl
  have HC:=Hq2 hc h;clear h hok hB hb ha hc;go_enter Tryz.func88,Tryz.ntmps88;go_wp2_with fail;exact bodyPost_ret (results_tmp2 rfl _ _ _) rfl (.inl ⟨HC.a,rfl,Turns.refl HC.z⟩)
 | false =>
  have a10:w.cell? ⟨S.a,10,none⟩=some (.bool false):=by rw[<- hc];exact aa ha 10 rfl
  have a0:w.cell? ⟨S.a,0,none⟩=some (.map (some S.X.pm)):=aa ha 0 rfl;have hpm:=h.Q7 (b:=S.X.pm) (o:=aQ str (S.ps.map aO) S.pc) (by simp[arF,aF]);obtain⟨r,hr⟩:∃r,r=w.heap.size:=⟨_,rfl⟩
  have hrel0:xE S pre w r (.slice none 0 0) (w.alloc (dC S.X.pm S.pc ([]:List (Ent Bs)))):=by
   refine⟨[],S.ps,[],Perm.refl _,⟨rfl,fun _=>⟨rfl,rfl⟩⟩,?_⟩;rw[hr,append_nil];exact(Turns.refl h).Q8 _
  have HH:=Hq8 h hok hB hb hc hpm hr hrel0;clear h hok hB hb ha hc hpm hr hrel0;go_enter Tryz.func88,Tryz.ntmps88;go_wp2_with ((refine ai rfl (EP (.tmp 19) rfl Tryz.underlying119 HH.f rfl ?_);rw[<- HH.g]));go_frame;go_loopw [6] (fun v wr=>xE S pre w r v wr) (fun _ wr=>ua r S.ps.length wr)
  case atStart=>exact HH.t
  case round =>
   obtain⟨done,todo,J,hperm,hio,hT⟩:=hrel;have hT2:=hT.to (H:=(r,Is (dC S.X.pm S.pc (done.map aO)))::(fg u6 (eG pre done)++(arF S++J))) ae;have hri:=hT2.sat.Q5;have hrm:=hT2.sat.Q7 (b:=S.X.pm) (o:=aQ str (S.ps.map aO) S.pc) (by simp[arF,aF]);have hpermE:(done.map aO++todo.map aO).Perm (S.ps.map aO):=by rw[<- map_append];exact hperm.map _
   have hdl:done.length+todo.length=S.ps.length:=by rw[<- hperm.length_eq,length_append]
   have hpl:S.ps.length<=90000:=Nat.le_trans HH.c.np HH.d;rcases xf (P:=Tryz.prog) (ty:=0) hri hrm HH.b.paths.map hpermE with⟨ht,hnx⟩|⟨e,rest,w4,ht,hw4,hnx⟩
   ·have hte:todo=[]:=by simpa using ht
    have hdp:done.Perm S.ps:=by rw[hte,append_nil]at hperm;exact hperm
    have hee:(eG pre done).Perm (eG pre S.ps):=by unfold eG;exact(hdp.filter _).map _
    have hel:(eG pre done).length<=90000:=by
     have h1:(eG pre done).length<=done.length:=by unfold eG;rw[length_map];exact length_filter_le _ _
     omega
    obtain⟨es,hes⟩:∃es,es=eG pre done:=⟨_,rfl⟩;rw[<- hes]at hio hT hee hel;have HD:=Hq4 hio hT hee hel;clear hio hT hT2 hri hrm hpermE hdl hpl ht hte hdp hee hel hperm hes;by_cases hne:es=[]
    ·subst hne
     have hsn:∃p cap,u6=.slice p 0 cap:=by
      obtain⟨-,-,p,cap,e1,-,-⟩:=dl HD.b.sat.left HD.a;exact⟨p,cap,e1⟩
     obtain⟨p,cap,e1⟩:=hsn;have hsort:=AnyF.slices_SortFunc_none KR p cap (.func (.func 134) #[] #[]) wr;change Calls Tryz.prog 133 _ _ _ at hsort;have HS:=Hq2 hsort e1;have HDD:=HD.out;rw[e1]at HDD;have HD2:=qqH HDD;subst e1;clear hsort HDD HD;go_wp2_with fail;refine HS.a.mono ?_;rintro e w5 ⟨rfl,rfl⟩;go_wp2_with fail;exact bodyPost_ret (results_tmp2 rfl _ _ _) rfl (.inr ⟨HH.e,_,[],rfl,⟨HD2.c,fun i j hij hj=>by simp at hj⟩,HD2.a,by exact HD2.b.drop (fun x=>by simp only[ao,ah];omega)⟩)
    ·obtain⟨g,cap,e1,hsort⟩:=DH HD.b HD.a hne (by have:=HD.x;omega);have HS:=qqH hsort;clear hsort;have HDD:=HD.out;rw[e1]at HDD HS;have HD2:=qqH HDD;subst e1;clear HDD HD hne;go_wp2_with fail;refine HS.out.mono ?_;rintro e w5 ⟨rfl,es',hso,hok',hT5⟩;have H5:=Hq3 hso hok' hT5;clear hso hok' hT5;go_wp2_with fail;exact bodyPost_ret (results_tmp2 rfl _ _ _) rfl (.inr ⟨HH.e,_,es',rfl,⟨H5.a.1.trans HD2.c,H5.a.2⟩,H5.b,by exact H5.y.drop (fun x=>by simp only[ao,ah];omega)⟩)
   ·obtain⟨w5,hw5⟩:∃w5,w5=Go.ChangeMaps.setBlock w4 r (dC S.X.pm S.pc (done.map aO++[e])):=⟨_,rfl⟩;rw[<- hw5]at hnx
    obtain⟨p,hp,rfl⟩:∃p∈todo,aO p=e:=by
     have h1:e∈todo.map aO:=ht.mem_iff.2 (by simp);obtain⟨p,hp,he⟩:=mem_map.1 h1;exact⟨p,hp,he⟩
    obtain⟨s,t,rfl⟩:=append_of_mem hp;have hdone:done.map aO++[aO p]=(done++[p]).map aO:=by simp
    rw[hdone]at hw5
    have hT5:Turns (arF S) ((r,Is (dC S.X.pm S.pc ((done++[p]).map aO)))::(fg u6 (eG pre done)++(arF S++J))) w w5:=by
     rw[hw5];rcases hw4 with rfl|rfl
     ·exact hT2.Qa (de _ _ _) (ew hri)
     ·exact(hT2.drew).Qa (de _ _ _) (ew (by exact hri))
    have hpm:p∈S.ps:=hperm.mem_iff.1 (mem_append_right _ hp);have hri5:=hT5.sat.Q5;rw[<- hdone]at hri5;have hrm5:=hT5.sat.Q7 (b:=S.X.pm) (o:=aQ str (S.ps.map aO) S.pc) (by simp[arF,aF]);have hen:=uG (P:=Tryz.prog) hri5 hrm5 HH.b.paths.map (mem_map.2 ⟨p,hpm,rfl⟩)
    have hperm2:((done++[p])++(s++t)).Perm S.ps:=by
     rw[append_assoc];show(done++(p::(s++t))).Perm S.ps;exact(((perm_middle (l₁:=s)).symm.append_left done).trans hperm)
    have hps:Sat w5 (er p.val p.g):=Sat.flat (f:=fun p:aW=>er p.val p.g) ((hT5.sat.sub (G:=aF S.X.pm S.ps S.pc) (fun x=>by simp only[arF,ao,ah]<;>omega)).tail) hpm;have hpo:=HH.b.paths.rows p hpm;have hne:=HH.b.some p hpm;obtain⟨sl,cap,e1,e2,e3,hcells,-⟩:=bC hps.left hpo.1 (by decide);have hgl:0<p.g.length:=length_pos_iff.2 hne;have hgb:p.g.length<=90000:=Nat.le_trans (HH.c.vers p hpm).2.1 HH.d;obtain⟨gp,offp,hsl,hcp⟩:=hcells (by rw[length_map];exact hgl);subst hsl;obtain⟨U,hU⟩:∃U,U=p.g[p.g.length-1]'(by omega):=⟨_,rfl⟩;have hUl:AA p.g=U:=by unfold AA;rw[getLast?_eq_getElem?,getElem?_eq_getElem (by omega),hU];rfl
    have hc1:w5.cell? ⟨gp,offp+(p.g.length-1),none⟩=some (.pointer (some ⟨U.blk,0,none⟩)):=by
     have:=hcp (p.g.length-1) (by rw[length_map];omega);rw[getElem_map,<- hU]at this;exact this
    have hUm:U∈p.g:=by rw[hU];exact getElem_mem _
    have hub:Sat w5 (bT U):=Sat.flat (f:=bT) hps.right hUm;have hc2:w5.cell? ⟨U.blk,0,none⟩=some (.int .i64 U.num):=aa hub.Q5 0 rfl;have hc3:w5.cell? ⟨U.blk,1,none⟩=some (.int .i64 U.size):=aa hub.Q5 1 rfl;have hul:=ac hub.Q5;obtain⟨n,hn⟩:∃n,n=p.g.length:=⟨_,rfl⟩;rw[<- hn]at e1 hgl hgb hc1;have hent:pEnt p=⟨p.key,U.num,U.size,n⟩:=by unfold pEnt;rw[hUl,hn]
    have hel:(eG pre done).length<=90000:=by
     have h1:(eG pre done).length<=done.length:=by unfold eG;rw[length_map];exact length_filter_le _ _
     omega
    obtain⟨pk,hpk⟩:∃pk,pk=p.key:=⟨_,rfl⟩;have hke:(aO p).key=pk:=hpk.symm;have hve:(aO p).val=.slice (some ⟨gp,offp,none⟩) n cap:=e1;rw[hke,hve]at hnx hen;obtain⟨es,hes⟩:∃es,es=eG pre done:=⟨_,rfl⟩;rw[<- hes]at hio hT5 hel;have hsub:IntKind.i64.wrap ((n:Int)-1)=((n-1:Nat):Int):=by rw[IntWalk.i64_in _ (by omega)];omega
    have hlt:((n-1:Nat):Int)<n:=by omega
    have hm1:ua r S.ps.length wr=S.ps.length-done.length:=by unfold ua;rw[hri];simp[dC]
    have hdl2:done.length<S.ps.length:=by simp at hdl;omega
    have HD:=qqH (And.intro hperm2 (And.intro hio (And.intro hT5 (And.intro hent (And.intro hes (And.intro hpk (And.intro hm1 (And.intro hdl2 (And.intro hpm hUm)))))))));clear hperm hperm2 hio hT hT2 hri hrm hpermE hpl hw5 hw4 hT5 hri5 hrm5 hps hpo hne hcells hcp hU hUl hUm hub hn hent hpk hke hve hes e1 hdone hp hpm ht hm1 hdl hdl2
    have hrelN:∀(v':Value) (w':World) (K:HF),rG v' (eG pre (done++[p]))->Turns (arF S) (fg v' (eG pre (done++[p]))++((r,Is (dC S.X.pm S.pc ((done++[p]).map aO)))::(arF S++K))) w w'->xE S pre w r v' w'/\ua r S.ps.length w'<ua r S.ps.length wr:=fun v' w' K h1 h2=>by
     refine⟨⟨done++[p],s++t,K,HD.a,h1,h2⟩,?_⟩;have hr2:=h2.sat.Q7 (b:=r) (o:=dC S.X.pm S.pc ((done++[p]).map aO)) (by simp);have:ua r S.ps.length w'=S.ps.length-(done.length+1):=by unfold ua;rw[hr2];simp[dC]
     rw[this,HD.g];have:=HD.h;omega
    have HN:=qqH hrelN;clear hrelN;go_wp2_with fail;refine(sh pk pre w5).mono ?_;rintro e w6 ⟨rfl,rfl⟩
    cases hpre:pre.isPrefixOf pk with
    | false =>
     have hadd:eG pre (done++[p])=es:=by
      rw[HD.e];unfold eG;rw[filter_append,filter_cons,<- HD.f,hpre];simp
     have HA:=qqH hadd;clear hadd;go_wp2_with fail;have hfin:=HN.out u6 w6 J (by rw[HA.out];exact HD.b) (by rw[HA.out];exact HD.c.to ae);go_roundw
     case rel=>exact hfin.1
     case measure=>exact hfin.2
    | true =>
     have hadd:eG pre (done++[p])=es++[⟨pk,U.num,U.size,n⟩]:=by
      rw[HD.e];unfold eG;rw[filter_append,filter_cons,<- HD.f,hpre];simp only[if_true,filter_nil,map_append,map_cons,map_nil,HD.d,HD.f]
     have HA:=qqH hadd;clear hadd;go_upto_region 9 with(fail)
     have hverb:(U.blk,Is (dq U))∈arF S:=by
      obtain⟨hpS,hUm⟩:=HD.out.2.2.2.2.2.2.2.2;refine mem_cons_of_mem _ (mem_append_right _ (mem_append_right _ (mem_append_left _ (mem_cons_of_mem _ ?_))));exact mem_flatMap.2 ⟨p,hpS,mem_append_right _ (mem_flatMap.2 ⟨U,hUm,by simp[bT]⟩)⟩
     obtain⟨R,hR⟩:=pj (G:=[(U.blk,Is (dq U))]) (F:=arF S) (fun x=>by
      obtain⟨s',t',h⟩:=append_of_mem hverb;rw[h];simp only[ah,ao,fd];omega)
     have hTl:Turns (arF S) (fg u6 es++((U.blk,Is (dq U))::(R++((r,Is (dC S.X.pm S.pc ((done++[p]).map aO)))::J)))) w w6:=HD.c.to (by
      refine((((hR.append_right J).append_left _).cons _)).trans ?_;exact ae)
     have HR:=Hq2 hR hTl;clear hverb hR hTl;refine cL [([0,1,2,3,4,5,6,7,8,9,10,11,12],13,[0]),([],14,[])] [15] HM.out (by kernel_rfl) fun W tW=>?_
     simp only[Mix,map_cons,map_nil,nth,QG,QF];have hT:=tW HR.z;clear tW;have hb:=hT.sat.Q7 (b:=U.blk) (o:=dq U) (by simp);have k0:W.cell? ⟨U.blk,0,none⟩=some (.int .i64 U.num):=aa hb 0 rfl;have k1:W.cell? ⟨U.blk,1,none⟩=some (.int .i64 U.size):=aa hb 1 rfl;clear hb;repeat still_step
     refine wpStill_nil (i6 (.cells (cr ⟨pk,U.num,U.size,n⟩).toArray 262 (0,0)) (fun g=>.slice (some ⟨g,0,none⟩) 1 1) (by kernel_rfl) hT fun nb w1 hT1=>⟨by((repeat still_step);exact rfl),?_⟩);simp only[Act.put,QA,QB,QC];have hT1:Turns (arF S) (Il nb pk U n::(fg u6 es++((U.blk,Is (dq U))::(R++((r,Is (dC S.X.pm S.pc ((done++[p]).map aO)))::J))))) w w1:=hT1;clear k0 k1 hT;refine wpStill_nil (yK (.tmp 35) (.tmp 48) rfl u6 es rfl (hT1.to (H:=fg u6 es++(Il nb pk U n::((U.blk,Is (dq U))::(R++((r,Is (dC S.X.pm S.pc ((done++[p]).map aO)))::J))))) ae) HD.b nb rfl ⟨pk,U.num,U.size,n⟩ hT1.sat.Q5 (by omega) (fun v7 w7 hok7 hT7=>⟨rfl,?_⟩));simp only[Act.put,QA,QB,QC];clear hT1;repeat still_step
     refine wpStill_nil ?_
     have hfin:=HN.out v7 w7 (Il nb pk U n::J) (by rw[HA.out];exact hok7) (by
      rw[HA.out];refine hT7.to ?_;have h1:(fg v7 (es++[⟨pk,U.num,U.size,n⟩])++((r,Is (dC S.X.pm S.pc ((done++[p]).map aO)))::(([(U.blk,Is (dq U))]++R)++(Il nb pk U n::J)))).Perm (fg v7 (es++[⟨pk,U.num,U.size,n⟩])++((r,Is (dC S.X.pm S.pc ((done++[p]).map aO)))::(arF S++(Il nb pk U n::J)))):=(((HR.a.symm.append_right _).cons _).append_left _);refine Perm.trans ?_ h1;exact ae)
     have HF:=qqH hfin;clear hfin hok7 hT7;go_wp2_with fail;go_roundw
     case rel=>exact HF.a
     case measure=>exact HF.z
end
section
open Go.RowKit Go.Maps Go.Shelf
attribute [local go_sem] Oper.semAt_some
theorem Dr(S:AS)(hok:ArOk S)(D:Bs)(d off n lb:Nat)(B3 B6 B7 B9 B11 B12 B13 Bm Bv num i:Nat)(R0 F:HF)(A:World)(hD:eN A d off D)(hdF:d∉dom F)(hi:i<(aL D).length)(hDl:D.length<=4000)(hKl:S.K.length<=500000)(hJ:G8 S D B9 B11 B12 B13 Bm Bv num ((B3,Is (dg S.a))::R0) i F)(hF:Sat A F)(a0:Nat)(l:Bs){dv:Value}{u4 u5 u8 aS aT ad ag aj ar ax a1 a2 a4 a5 a6 a7 a8 a9 bY ba bc bg bj bl bo bs bv bx b0 b1 b2 b3 b4 b6 b7 b9 cb cg ch ci cj cl cp ct cu cx c0 c1 c2 c3 c4 c5 c6 c7 dO dT df dn dp ds d0 d1 d2 d3 d4 d5 d6 d7 d8 eA eQ eX ea eg el em en ep es ev e0 e4 e5 e6 e7 fl fn fo fr fs fz f0 f1 f2 f3 f4 f5 f6 f7 f8 f9 gD gb gg gp gq gs gu gv gx g1 g2 g3 g4 g5 g6 g7 g9 hA hB hC hE hG hH hI hK hL hM hN hO hP hQ hS hT hU hV hW hX hZ ha hb hd hf hh hj hl hn ho hq ht hu hw hy hz h9 iF iN iS id ih i0 i1 i2 i3 j1:Value}:
  Kh.wpIn (Fence.wide.inRound lb) n Tryz.prog (KP (G8 S D B9 B11 B12 B13 Bm Bv num ((B3,Is (dg S.a))::R0)) i F A) { tmps:=#[.pointer (some ⟨a0,0,none⟩),str l,dv,.pointer (some ⟨B3,0,none⟩),u4,u5,.pointer (some ⟨B6,0,none⟩),.pointer (some ⟨B7,0,none⟩),u8,.pointer (some ⟨B9,0,none⟩),aS,.pointer (some ⟨B11,0,none⟩),.pointer (some ⟨B12,0,none⟩),.pointer (some ⟨B13,0,none⟩),fY d off D i,aT,ad,ag,aj,ar,ax,a1,a2,a4,a5,a6,a7,a8,a9,bY,ba,bc,bg,bj,bl,bo,bs,bv,bx,b0,b1,b2,b3,b4,b6,b7,b9,cb,cg,ch,ci,cj,cl,cp,ct,cu,cx,c0,c1,c2,c3,c4,c5,c6,c7,dO,dT,df,dn,dp,ds,d0,d1,d2,d3,d4,d5,d6,d7,d8,eA,eQ,eX,ea,eg,fY d off D i,el,em,en,ep,es,ev,e0,e4,e5,e6,e7,fl,fn,fo,fr,fs,fz,f0,f1,f2,f3,f4,f5,f6,f7,f8,f9,gD,gb,gg,gp,gq,gs,gu,gv,gx,g1,g2,g3,g4,g5,g6,g7,g9,hA,hB,hC,hE,hG,hH,hI,hK,hL,hM,hN,hO,hP,hQ,hS,hT,hU,hV,hW,hX,hZ,ha,hb,hd,hf,hh,hj,hl,hn,ho,hq,ht,hu,hw,hy,hz,h9,iF,iN,iS,id,ih,i0,i1,i2,i3,j1],defers:=[] } A:=by
 obtain⟨sp,acc,fv,rv,chs,recs,hacc,hAo,hrb,hro,hpo,hcl,hin,hFe⟩:=hJ;obtain⟨c,hc⟩:∃c,c=oJ D i:=⟨_,rfl⟩;have hcl2:=tx hi;rw[<- hc]at hcl2;have hcc:=xN hD hi;rw[<- hc]at hcc;obtain⟨o2,ho2⟩:∃o2,o2=off+((aL D).take i).sum:=⟨_,rfl⟩;have harg:fY d off D i=.slice (some ⟨d,o2,none⟩) c.length c.length:=by unfold fY;rw[<- hcl2,<- ho2]
 rw[<- ho2]at hcc;rw[harg];have a3:A.cell? ⟨B3,0,none⟩=some (.pointer (some ⟨S.a,0,none⟩)):=aa (hF.Q7 (b:=B3) (o:=dg S.a) (by rw[hFe];simp)) 0 rfl
 have hs:Sat A (aq S.X.ab S.X.d { S.A with spare:=sp }++((B13,Is (cB ((S.data.length+bd acc:Nat):Int)))::(B12,Is (dW Bm))::(Bm,Is (aQ str (bz S.data.length 0 acc) acc.length))::(B11,Is (cT rv)) ::
   (fk rv recs++((B9,Is (cV Bv))::(bT ⟨Bv,num,D.length,fv,chs,0⟩++(((B3,Is (dg S.a))::R0)++((S.a,Is (aH S.X))::(az S.X.d S.L++(aF S.X.pm S.ps S.pc++(b8 S.X.tm S.ts S.tc++aM S.X.cm S.cs S.cc)))))))))):=by
  refine hF.perm ?_;rw[hFe];unfold arF;exact ae
 obtain⟨R,hR⟩:∃R,R=((B13,Is (cB ((S.data.length+bd acc:Nat):Int)))::(B12,Is (dW Bm))::(Bm,Is (aQ str (bz S.data.length 0 acc) acc.length))::(B11,Is (cT rv)) ::
   (fk rv recs++((B9,Is (cV Bv))::(bT ⟨Bv,num,D.length,fv,chs,0⟩++(((B3,Is (dg S.a))::R0)++((S.a,Is (aH S.X))::(az S.X.d S.L++(aF S.X.pm S.ps S.pc++(b8 S.X.tm S.ts S.tc++aM S.X.cm S.cs S.cc))))))))):=⟨_,rfl⟩
 rw[<- hR]at hs;have hdR:d∉dom (aq S.X.ab S.X.d { S.A with spare:=sp }++R):=fun h=>hdF (((mH (show(aq S.X.ab S.X.d { S.A with spare:=sp }++R).Perm F by rw[hFe,hR];unfold arF;exact ae)).mem_iff).1 h)
 have HKn:=qqH (Ax S.a S.X S.X.ab S.X.d rfl { S.A with spare:=sp } S.L S.cs S.cc c (some ⟨d,o2,none⟩) c.length R A hs (fun x=>by rw[hR];simp only[ao,ah];omega) hok.dev hAo hok.fits hok.nmax hok.chunks hcc
  (fun x hx=>by obtain rfl:=Option.some.inj hx;exact hdR) (by have:=iW D;have:=mY (aL D) i hi;rw[hcl2];simp only[getD_eq_getElem?_getD,getElem?_eq_getElem hi,Option.getD_some];omega)
  (by have:=Di hok (be (cF 1 c) 4);omega) (AR hok))
 have HH:=qqH (And.intro hok (And.intro hD (And.intro hdF (And.intro hF (And.intro hacc (And.intro hAo (And.intro hrb (And.intro hro (And.intro hpo (And.intro hcl (And.intro hin (And.intro hFe (And.intro hc (And.intro hcl2 (And.intro hcc (And.intro ho2 (And.intro hs (And.intro hR hdR))))))))))))))))));clear hok hD hdF hF hacc hAo hrb hro hpo hcl hin hFe hc hcl2 hcc ho2 harg hs hR hdR;conv=>arg 4;whnf
 gi_wp2_with fail;refine⟨trivial,fun h=>by simp[Fence.wide]at h,(zE HKn.out).mono ?_⟩;rintro e w4 ⟨⟨sp2,hAo2,hT2⟩,hres⟩
 obtain⟨q,okb,rfl,hq1,hq2⟩:∃(q:Nat×Nat) (okb:Bool),e=.returned (.tuple #[.agg #[.int .i64 q.1,.int .i64 q.2],.bool okb,.nilIface])/\(okb=true->(c,q)∈S.K)/\(okb=false->c∉S.K.map (·.1)):=by
  rcases hres with⟨p,hp,hc,rfl⟩|⟨hno,rfl⟩
  ·exact⟨p,true,rfl,fun _=>Lk HH.a hp hc,fun h=>by cases h⟩
  ·refine⟨(0,0),false,rfl,(fun h=>by cases h),fun _ hm=>?_⟩;obtain⟨e,he,h1⟩:=mem_map.1 hm;obtain⟨p1,p2⟩:=Ll HH.a (b:=c) (q:=e.2) (by rw[<- h1];exact he);exact hno _ p1 p2
 clear hres;obtain⟨F1,hF1⟩:∃F1,F1=aq S.X.ab S.X.d { S.A with spare:=sp }++R:=⟨_,rfl⟩;obtain⟨Y,hY⟩:∃Y,Y=aq S.X.ab S.X.d { S.A with spare:=sp2 }++(R0++((S.a,Is (aH S.X))::(az S.X.d S.L++(aF S.X.pm S.ps S.pc++(b8 S.X.tm S.ts S.tc++aM S.X.cm S.cs S.cc))))):=⟨_,rfl⟩;obtain⟨VV,hVV⟩:∃VV:VerL,VV=⟨Bv,num,D.length,fv,chs,0⟩:=⟨_,rfl⟩;obtain⟨fE,hfE⟩:∃fE,fE=bz S.data.length 0 acc:=⟨_,rfl⟩;obtain⟨nE,hnE⟩:∃nE,nE=acc.length:=⟨_,rfl⟩;obtain⟨e13,he13⟩:∃e13:Nat,e13=S.data.length+bd acc:=⟨_,rfl⟩
 have hT4:Turns F1 ((B13,Is (cB e13))::(B12,Is (dW Bm))::(Bm,Is (aQ str fE nE))::(B11,Is (cT rv))::(B9,Is (cV Bv))::(Bv,Is (dq VV))::(B3,Is (dg S.a))::(fk rv recs++(aU fv chs++Y))) A w4:=by
  rw[hF1];refine hT2.to ?_;rw[HH.out.2.2.2.2.2.2.2.2.2.2.2.2.2.2.2.2.2.1,hY,hVV,hfE,hnE,he13];unfold bT;exact ae
 have hdF1:d∉dom F1:=by rw[hF1];exact HH.out.2.2.2.2.2.2.2.2.2.2.2.2.2.2.2.2.2.2
 have hm0:MapOk OkS fE nE:=by
  rw[hfE,hnE];refine wB (by rw[HH.e];exact jc _ _ _ nodup_nil) (by rw[HH.e];exact K7 hDl) _
 obtain⟨f,th,hg1,hg2,hg3,hg4⟩:∃(f:Nat×Nat) (th:Bool),(dB fE c).getD (.agg #[.int .i64 0,.int .i64 0])=.agg #[.int .i64 f.1,.int .i64 f.2]/\ix fE c=th/\(th=true->(c,f)∈ck S.data.length acc/\c∈acc)/\(th=false->c∉acc):=by
  rw[hfE,lL];by_cases hm:c∈acc
  ·obtain⟨f,h1,h2⟩:=CU (at_:=S.data.length) (b:=0) hm;exact⟨f,true,by rw[h2];rfl,decide_eq_true hm,fun _=>⟨h1,hm⟩,fun h=>by cases h⟩
  ·refine⟨(0,0),false,?_,decide_eq_false hm,(fun h=>by cases h),fun _=>hm⟩;have:=lL acc S.data.length 0 c;rw[decide_eq_false hm,gI]at this
   cases hg:dB (bz S.data.length 0 acc) c with
   | none=>rfl
   | some v=>rw[hg]at this;cases this
 have hl4:∀k,k∈dom ((B13,Is (cB e13))::(B12,Is (dW Bm))::(Bm,Is (aQ str fE nE))::(B11,Is (cT rv))::(B9,Is (cV Bv))::(Bv,Is (dq VV))::(B3,Is (dg S.a))::(fk rv recs++(aU fv chs++Y)))->k<w4.heap.size:=fun k hk=>hT4.sat.lt hk
 have l9:=hl4 B9 (by simp);have l11:=hl4 B11 (by simp);have l12:=hl4 B12 (by simp);have l13:=hl4 B13 (by simp);have lv:=hl4 Bv (by simp);have b12:w4.cell? ⟨B12,0,none⟩=some (.map (some Bm)):=aa (hT4.sat.Q7 (b:=B12) (o:=dW Bm) (by simp)) 0 rfl;have b13:w4.cell? ⟨B13,0,none⟩=some (.int .i64 e13):=aa (hT4.sat.Q7 (b:=B13) (o:=cB e13) (by simp)) 0 rfl;have hT5:Turns F1 ((w4.heap.size,Is (aG q))::((B13,Is (cB e13))::(B12,Is (dW Bm))::(Bm,Is (aQ str fE nE))::(B11,Is (cT rv))::(B9,Is (cV Bv))::(Bv,Is (dq VV))::(B3,Is (dg S.a))::(fk rv recs++(aU fv chs++Y)))) A (w4.alloc (.cells #[.int .i64 q.1,.int .i64 q.2] 161)):=hT4.Q8 (aG q);have hbm5:=hT5.sat.Q7 (b:=Bm) (o:=aQ str fE nE) (by simp);have hcv:=jN c.length (HH.out.2.2.2.2.2.2.2.2.2.2.2.2.2.2.1.Qc hT5 (fun x hx=>by obtain rfl:=Option.some.inj hx;exact hdF1));have hzp:(zeroValue 161).run Tryz.prog (w4.alloc (.cells #[.int .i64 q.1,.int .i64 q.2] 161))=.ok (.agg #[.int .i64 0,.int .i64 0]) (w4.alloc (.cells #[.int .i64 q.1,.int .i64 q.2] 161)):=by kernel_rfl
 have hT6:∀x:Nat×Nat,Turns F1 ((w4.heap.size+1,Is (aG f))::(w4.heap.size,Is (aG x))::((B13,Is (cB e13))::(B12,Is (dW Bm))::(Bm,Is (aQ str fE nE))::(B11,Is (cT rv))::(B9,Is (cV Bv))::(Bv,Is (dq VV))::(B3,Is (dg S.a))::(fk rv recs++(aU fv chs++Y)))) A ((w4.alloc (.cells #[.int .i64 x.1,.int .i64 x.2] 161)).alloc (.cells #[.int .i64 f.1,.int .i64 f.2] 161)):=fun x=>by
  have:=(hT4.Q8 (aG x)).Q8 (aG f);rw[World.size_alloc]at this;exact this
 have hcm:c∈aB D:=by
  have:=fF hi;rw[<- HH.out.2.2.2.2.2.2.2.2.2.2.2.2.1]at this;exact mem_of_mem_take (i:=i+1) (by rw[this];simp)
 have hOkc:OkS c:=by have:=dF hcm;unfold OkS;omega
 have hcv2:=jN c.length (HH.out.2.2.2.2.2.2.2.2.2.2.2.2.2.2.1.Qc (hT6 (e13,c.length)) (fun x hx=>by obtain rfl:=Option.some.inj hx;exact hdF1));have hFp:F1.Perm F:=by rw[hF1,HH.out.2.2.2.2.2.2.2.2.2.2.2.1,HH.out.2.2.2.2.2.2.2.2.2.2.2.2.2.2.2.2.2.1];unfold arF;exact ae
 have hlt:((aB D).take i).length=chs.length:=by
  rw[length_take,ca,HH.out.2.2.2.2.2.2.2.2.2.1];omega
 have hcl:chs.length<=4000:=by
  rw[HH.out.2.2.2.2.2.2.2.2.2.1];have:=cZ D;omega
 have hal2:acc.length<=4000:=by
  rw[HH.e];have h1:=ku (S.K.map (·.1)) ((aB D).take i) [];rw[length_take,ca]at h1;have:=cZ D;simp at h1;omega
 have hrl:(recs.map (·.val)).length=acc.length:=by
  have:=congrArg length HH.g;simpa using this
 have hdl:=HH.a.dat.2;have hnn:=HH.a.nmax;have hfit:=HH.a.fits
 have he13b:e13<=1099511627776:=by
  rw[he13]
  have h2:=pS acc 4000 (fun x hx=>by
   rw[HH.e]at hx;rcases jl _ _ _ x hx with h|⟨h,_⟩
   ·simp at h
   ·have:=dF (mem_of_mem_take h);omega)
  have h3:acc.length*(4000+9)<=4000*(4000+9):=Nat.mul_le_mul_right _ hal2;omega
 have HB:=Hq8 hT6 hdF1 hm0 hg1 hg2 hbm5 hzp hOkc;have HE:=qqH (And.intro hF1 (And.intro hY (And.intro hVV (And.intro hfE (And.intro hnE (And.intro he13 (And.intro hAo2 (And.intro hq1 (And.intro hq2 (And.intro hg3 hg4))))))))));have HF2:=Hq7 hFp hlt hcl hal2 hrl he13b hcm;clear hF1 hY hVV hfE hnE he13 hAo2 hq1 hq2 hg3 hg4 hT4 hT5 hT6 hdF1 hm0 hg1 hg2 hT2 hbm5 hzp hl4 hOkc hFp hlt hcl hal2 hrl he13b hcm hdl hnn hfit
 have FIN:∀(w6:World) (q6:Nat×Nat) (acc':List Bs) (rv' y:Value) (recs':List RecL) (Z:HF),acc'=cn (S.K.map (·.1)) [] ((aB D).take (i+1))->(∀e∈ck S.data.length acc,e∈ck S.data.length acc')->(c,q6)∈S.K++ck S.data.length acc'->recs'.map (·.bytes)=acc'.map (frame 1)->KQ rv' recs' ->
   cd y (chs++[q6])->Turns F1 ((Bv,Is (.cells ((fC VV).setIfInBounds 2 y) 152 (0,0)))::(w4.heap.size,Is (aG q6))::(B9,Is (cV Bv))::(aU y (chs++[q6])++Z)) A w6 ->
   (∀x,cnt x ((B13,Is (cB ((S.data.length+bd acc':Nat):Int)))::(B12,Is (dW Bm))::(Bm,Is (aQ str (bz S.data.length 0 acc') acc'.length))::(B11,Is (cT rv'))::(B3,Is (dg S.a))::(fk rv' recs'++Y))<=cnt x Z) ->
   ∃F',G8 S D B9 B11 B12 B13 Bm Bv num ((B3,Is (dg S.a))::R0) (i+1) F'/\Turns F F' A w6:=by
  intro w6 q6 acc' rv' y recs' Z h1 h2 h3 h4 h5 h6 h7 h8;refine⟨_,⟨sp2,acc',y,rv',chs++[q6],recs',h1,HE.g,h4,h5,h6,by rw[length_append,HH.out.2.2.2.2.2.2.2.2.2.1];rfl,?_,rfl⟩,?_⟩
  ·rw[fF hi,<- HH.out.2.2.2.2.2.2.2.2.2.2.2.2.1]
   exact Lw HF2.b HH.out.2.2.2.2.2.2.2.2.2.2.1 (fun e he=>by
    rcases mem_append.1 he with h|h
    ·exact mem_append_left _ h
    ·exact mem_append_right _ (h2 e h)) h3
  ·refine(h7.drop (fun x=>?_)).perm HF2.a (Perm.refl _);have:=h8 x;rw[HE.b]at this;have e:dq ⟨Bv,num,D.length,y,chs++[q6],0⟩=.cells ((fC VV).setIfInBounds 2 y) 152 (0,0):=by rw[HE.c];rfl
   unfold bT arF;rw[e];simp only[ao,ah]at this ⊢;omega
 have HFIN:=qqH FIN;clear FIN
 gi_wp2_with (first
  | (refine m8 rfl rfl (iI eb (.tmp 97) (.tmp 99) rfl Tryz.underlying154 HB.f HB.c HB.g c rfl rfl HB.t ?_);rw[HB.d,HB.e])
  | (refine m8 rfl rfl (lw eb (.tmp 115) (.tmp 117) (.tmp 118) rfl Tryz.underlying154 Bm fE nE ((HB.a (e13,c.length)).to (H:=(Bm,Is (aQ str fE nE))::((w4.heap.size+1,Is (aG f))::(w4.heap.size,Is (aG (e13,c.length)))::(B13,Is (cB e13))::(B12,Is (dW Bm))::(B11,Is (cT rv))::(B9,Is (cV Bv))::(Bv,Is (dq VV))::(B3,Is (dg S.a))::(fk rv recs++(aU fv chs++Y)))) ae) HB.c c (gf (e13,c.length)) rfl rfl rfl HB.t ?_);intro w6 hT7;simp only[Act.put]))
 ·rename_i h1 h2;refine EB F1 ((w4.heap.size+1,Is (aG f))::(B13,Is (cB e13))::(B12,Is (dW Bm))::(Bm,Is (aQ str fE nE))::(B11,Is (cT rv))::(B3,Is (dg S.a))::(fk rv recs++Y)) A w4.heap.size B9 Bv VV f fv chs ((HB.a f).to ae) HH.out.2.2.2.2.2.2.2.2.1 (by rw[HE.c]) (by have:=HF2.c;omega) (fun⟨_,_,h⟩=>h) ?_;intro _ _ _ _ _ _ _ _ _ _ w7 hpo7 hT7;refine HFIN.out w7 f acc rv _ recs _ ?_ (fun _ h=>h) (mem_append_right _ (HE.out.2.2.2.2.2.2.2.2.2.1 h1).1) HH.g HH.h hpo7 hT7 (fun x=>by rw[<- HE.d,<- HE.e,<- HE.f];simp only[ao,ah];omega);rw[fF hi,iv,<- HH.out.2.2.2.2.2.2.2.2.2.2.2.2.1,<- HH.e,if_pos (.inr (HE.out.2.2.2.2.2.2.2.2.2.1 h1).2)]
 ·rename_i h1 h2;refine EB F1 ((w4.heap.size+1,Is (aG f))::(B13,Is (cB e13))::(B12,Is (dW Bm))::(Bm,Is (aQ str fE nE))::(B11,Is (cT rv))::(B3,Is (dg S.a))::(fk rv recs++Y)) A w4.heap.size B9 Bv VV q fv chs ((HB.a q).to ae) HH.out.2.2.2.2.2.2.2.2.1 (by rw[HE.c]) (by have:=HF2.c;omega) (fun⟨_,_,h⟩=>h) ?_;intro _ _ _ _ _ _ _ _ _ _ w7 hpo7 hT7;refine HFIN.out w7 q acc rv _ recs _ ?_ (fun _ h=>h) (mem_append_left _ (HE.h (by simpa using h2))) HH.g HH.h hpo7 hT7 (fun x=>by rw[<- HE.d,<- HE.e,<- HE.f];simp only[ao,ah];omega);rw[fF hi,iv,<- HH.out.2.2.2.2.2.2.2.2.2.2.2.2.1,<- HH.e,if_pos (.inl (mem_map.2 ⟨_,HE.h (by simpa using h2),rfl⟩))]
 ·rename_i h1 K1 k1 h2 K2 k2;have hn1:=HE.out.2.2.2.2.2.2.2.2.2.2 (by simpa using h1);have hn2:=HE.out.2.2.2.2.2.2.2.2.1 (by simpa using h2);have hput:=CV (at_:=S.data.length) hn1;have hT8:=hT7.to (H:=bN 38 1 rv (recs.map (·.val)).length (recs.map (·.val))++((B11,Is (cT rv))::((w4.heap.size+1,Is (aG f))::(w4.heap.size,Is (aG (e13,c.length)))::(B13,Is (cB e13))::(B12,Is (dW Bm))::(Bm,Is (aQ str (gA fE nE c (gf (e13,c.length))) (cw fE nE c)))::(B9,Is (cV Bv))::(Bv,Is (dq VV))::(B3,Is (dg S.a))::((recs.flatMap fun r=>aI r.val r.bytes)++(aU fv chs++Y))))) (by unfold fk;exact ae);obtain⟨Z8,hZ8⟩:∃Z8,Z8=((w4.heap.size+1,Is (aG f))::(w4.heap.size,Is (aG (e13,c.length)))::(B13,Is (cB e13))::(B12,Is (dW Bm))::(Bm,Is (aQ str (gA fE nE c (gf (e13,c.length))) (cw fE nE c)))::(B9,Is (cV Bv))::(Bv,Is (dq VV))::(B3,Is (dg S.a))::((recs.flatMap fun r=>aI r.val r.bytes)++(aU fv chs++Y))):=⟨_,rfl⟩;obtain⟨l8,hl8⟩:∃l8,l8=recs.map (·.val):=⟨_,rfl⟩;rw[<- hZ8,<- hl8]at hT8;have hro8:=HH.h.1;rw[<- hl8]at hro8;have HZ:=qqH hZ8;have HX:=Hq7 hZ8 hl8 hro8 hT8 hn1 hn2 hput;clear hZ8 hl8 hro8 hT8 hn1 hn2 hput hT7;refine uV [([0,1],2,[0]),([],3,[0]),([],4,[]),([],5,[])] [] HM.out (by kernel_rfl) (fun⟨_,_,h⟩=>h) (by kernel_rfl) fun W tW=>?_
  simp only[Mix,map_cons,map_nil,nth,QG,QF];have k0:=tW HX.d;clear tW;have g:∀{W:World},W.heap[B11]?=some (cT rv)->W.cell? ⟨B11,0,none⟩=some rv:=fun h=>aa h 0 rfl
  have g0:=g (k0.sat.Q7 (by simp));repeat still_step
  refine wpStill_nil (bw (by kernel_rfl) (gX 1 (some ⟨d,o2,none⟩) c.length c W (HH.out.2.2.2.2.2.2.2.2.2.2.2.2.2.2.1.Qc k0 (fun x hx=>by obtain rfl:=Option.some.inj hx;exact HB.b)) (by have:=dF HF2.u;omega)) ?_);rintro e w5 ⟨fv2,rfl,hb8,hT5⟩;have k1:=Turns.Qb k0 hT5;refine⟨_,rfl,by(have g0:=g (k1.sat.Q7 (by simp));(repeat still_step);exact rfl),wpStill_nil ?_⟩;have o8:=(nB hb8 k1.sat.left).1;refine i6 (wW fv2) (fun n=>.slice (some ⟨n,0,none⟩) 1 1) (by obtain⟨-,-,av,cv,hv⟩:=nB hb8 k1.sat.left;rw[hv];kernel_rfl) k1 fun n W2 k2=>⟨by(have g0:=g (k2.sat.Q7 (by simp));(repeat still_step);exact rfl),wpStill_nil ?_⟩
  refine qp (.tmp 119) (.tmp 122) rfl rv l8 rfl (k2.to (H:=bN 38 1 rv l8.length l8++((n,Is (wW fv2))::(B11,Is (cT rv))::(aI fv2 (frame 1 c)++Z8))) ae) HX.c n fv2 rfl o8 (aa k2.sat.Q5 0 rfl) (by rw[HX.b];have:=HF2.e;have:=HF2.d;omega) fun rv2 W3 hr8 k3=>⟨rfl,wpStill_nil ?_⟩
  have p8:=EF k3.sat.left hr8;refine bu 61 (.tmp 11) (.tmp 123) rfl B11 0 #[rv] 61 rv2 (k3.to (H:=(B11,Is (cT rv))::(bN 38 1 rv2 (l8++[fv2]).length (l8++[fv2])++((n,Is (wW fv2))::(aI fv2 (frame 1 c)++Z8)))) ae) rfl rfl (by simp) (by kernel_rfl) p8.1 p8.2 fun w8 k4=>⟨rfl,?_⟩
  simp only[Act.put,QA,QB,QC];refine wpStill_nil ?_;have hT8:Turns F1 ((B11,Is (cT rv2))::(bN 38 1 rv2 (l8++[fv2]).length (l8++[fv2])++(aI fv2 (frame 1 c)++Z8))) A w8:=(show Turns F1 ((B11,Is (cT rv2))::_) A w8 from k4).drop bS;rw[HX.b]at hr8 hT8;have HR8:=Hq4 hb8 hr8 hT8 HX.w;clear HX k0 g g0 hb8 hT5 k1 o8 k2 hr8 k3 p8 k4 hT8;gi_wp2_with fail;obtain⟨Z9,hZ9⟩:∃Z9,Z9=((w4.heap.size+1,Is (aG f))::(w4.heap.size,Is (aG (e13,c.length)))::(B12,Is (dW Bm))::(Bm,Is (aQ str (gA fE nE c (gf (e13,c.length))) (cw fE nE c)))::(B11,Is (cT rv2))::(B9,Is (cV Bv))::(Bv,Is (dq VV))::(B3,Is (dg S.a))::(bN 38 1 rv2 (recs.map (·.val)++[fv2]).length (recs.map (·.val)++[fv2])++(aI fv2 (frame 1 c)++((recs.flatMap fun r=>aI r.val r.bytes)++(aU fv chs++Y))))):=⟨_,rfl⟩;have hT9:Turns F1 ((B13,Is (cB e13))::Z9) A w8:=HR8.c.to (by rw[hZ9,HZ.out];exact ae);have hs9:IntKind.i64.wrap ((e13:Int)+(c.length+9))=(e13:Int)+(c.length+9):=IntWalk.i64_in _ (by have:=dF HF2.u;have:=HF2.f;omega);have HZ9:=qqH hZ9;clear hZ9;refine uV [([0,1,2,3,4],5,[])] [] HM.out (by kernel_rfl) (fun⟨_,_,h⟩=>h) (by kernel_rfl) fun W tW=>?_
  simp only[Mix,map_cons,map_nil,nth,QG,QF];have k0:=tW hT9;clear tW hT9;have g0:W.cell? ⟨B13,0,none⟩=some (.int .i64 e13):=aa k0.sat.Q5 0 rfl;repeat still_step
  still_call ((gP c.length (by omega) (by have:=dF HF2.u;omega) W).mono fun e w2 ⟨h1,h2⟩=>⟨h1,h2.symm⟩);repeat still_step
  refine wpStill_nil (bu 3 (.tmp 13) (.tmp 128) rfl B13 0 #[.int .i64 e13] 3 (.int .i64 (e13+(c.length+9))) k0 rfl rfl (by simp) (by kernel_rfl) rfl rfl fun w9 hT9=>⟨rfl,?_⟩);simp only[Act.put];refine wpStill_nil ?_;have hT9:Turns F1 ((B13,Is (cB (e13+(c.length+9))))::Z9) A w9:=hT9;rw[HZ9.out]at hT9;clear k0 g0 hs9;have HR9:=qqH hT9;clear hT9;gi_wp2_with fail;refine EB F1 ((w4.heap.size+1,Is (aG f))::(B13,Is (cB (e13+(c.length+9))))::(B12,Is (dW Bm))::(Bm,Is (aQ str (gA fE nE c (gf (e13,c.length))) (cw fE nE c)))::(B11,Is (cT rv2))::(B3,Is (dg S.a))::(bN 38 1 rv2 (recs.map (·.val)++[fv2]).length (recs.map (·.val)++[fv2])++(aI fv2 (frame 1 c)++((recs.flatMap fun r=>aI r.val r.bytes)++Y)))) A w4.heap.size B9 Bv VV (e13,c.length) fv chs (HR9.out.to ae) HH.out.2.2.2.2.2.2.2.2.1 (by rw[HE.c]) (by have:=HF2.c;omega) (fun⟨_,_,h⟩=>h) ?_;intro _ _ _ _ _ _ _ _ _ _ w7 hpo7 hT7;refine HFIN.out w7 (e13,c.length) (acc++[c]) rv2 _ (recs++[⟨fv2,frame 1 c⟩]) _ ?_ (fun e h=>by rw[rU];exact mem_append_left _ h) ?_ ?_ ?_ hpo7 hT7 (fun x=>?_)
  ·rw[fF hi,iv,<- HH.out.2.2.2.2.2.2.2.2.2.2.2.2.1,<- HH.e,if_neg (fun h=>h.elim HR8.e HR8.d)]
  ·rw[rU,HE.f];exact mem_append_right _ (mem_append_right _ (by simp))
  ·rw[map_append,map_append,HH.g];rfl
  ·refine⟨by rw[map_append];exact HR8.b,fun r hr=>?_⟩;rcases mem_append.1 hr with h|h
   ·exact HH.h.2 r h
   ·simp only[mem_singleton]at h;subst h;exact HR8.a
  ·have e1:=HR8.f;have e2:=HR8.u;rw[<- HE.f,<- HE.d,<- HE.e]at e1;rw[<- HE.d,<- HE.e]at e2;have e3:((S.data.length+bd (acc++[c]):Nat):Int)=(e13:Int)+(c.length+9):=by rw[tS,HE.f];omega
   rw[e1,e2,e3];unfold fk;simp only[map_append,flatMap_append,flatMap_cons,flatMap_nil,append_nil,map_cons,map_nil,ao,ah];omega
 ·rename_i h1 h2;refine EB F1 ((w4.heap.size+1,Is (aG f))::(B13,Is (cB e13))::(B12,Is (dW Bm))::(Bm,Is (aQ str fE nE))::(B11,Is (cT rv))::(B3,Is (dg S.a))::(fk rv recs++Y)) A w4.heap.size B9 Bv VV q fv chs ((HB.a q).to ae) HH.out.2.2.2.2.2.2.2.2.1 (by rw[HE.c]) (by have:=HF2.c;omega) (fun⟨_,_,h⟩=>h) ?_;intro _ _ _ _ _ _ _ _ _ _ w7 hpo7 hT7;refine HFIN.out w7 q acc rv _ recs _ ?_ (fun _ h=>h) (mem_append_left _ (HE.h (by simpa using h2))) HH.g HH.h hpo7 hT7 (fun x=>by rw[<- HE.d,<- HE.e,<- HE.f];simp only[ao,ah];omega);rw[fF hi,iv,<- HH.out.2.2.2.2.2.2.2.2.2.2.2.2.1,<- HH.e,if_pos (.inl (mem_map.2 ⟨_,HE.h (by simpa using h2),rfl⟩))]
attribute [local go_sem] Oper.semAt_some
def EU(a:Option Addr)(len cap:Nat)(w:World)(e:Ending)(w':World):Prop :=
 e=.returned (.func (.func 123) #[] #[.pointer (some ⟨w.heap.size,0,none⟩)])/\w'=w.alloc (.cells #[.slice a len cap] 38)
theorem yX(a:Option Addr)(len cap:Nat)(w:World):Calls Tryz.prog 76 #[.slice a len cap] w (EU a len cap w):=by
 go_enter Tryz.func76,Tryz.ntmps76;go_wp2;go_ret;exact⟨rfl,rfl⟩
theorem Turns.putNew{F G:HF}{a w:World}{r:Nat}(h:Turns F G a w)(hr:a.heap.size<=r)(hn:r∉dom G)(o:Obj):Turns F G a (w.putObj r o) :=
 ⟨h.mods.putObj (.inr hr) o,h.sat.frame ((Mods.refl (fun k=>k=r) w).putObj (.inl rfl) o) (fun _ hb e=>hn (e ▸ hb)),h.fresh⟩
def xW(id:Nat):Code->Option Code
 | .seq (.region i ops d) b=>if i=id then some (.seq (.region i ops d) b)else xW id b
 | .seq _ b=>xW id b
 | _=>none
noncomputable def Gc:Code:=(Tryz.f25.body.bind (xW 14)).getD .skip
def D6(S:AS)(l D:Bs)(w:World)(e:Ending)(w':World)(b num:Nat):Prop :=
 ((∃sp chs,e=.returned (.tuple #[.int .i64 0,cO 8])/\AreaOk { S.A with spare:=sp }/\Turns (arF S) (arF { S with A:={ S.A with spare:=sp } }) w w' /\
    128*S.A.count<S.data.length+(dX (bF S D)).length+(frame 2 (eC l num D.length (bt chs))).length/\chs.length=(aB D).length) \/
   (∃S' V,e=.returned (.tuple #[.int .i64 num,.nilIface])/\PutStep S S' l D V/\ArOk S'/\xF S D b S'/\Turns (arF S) (arF S') w w'))
theorem AV(S:AS)(l D:Bs)(sl:Option Addr)(cap b:Nat)(hok:ArOk S)(hB:ArB S b)(hb:b<=90000)(hl:aw l=true)(hll:l.length<=20)(hDl:D.length<=4000)(hcap:D.length<=cap)(B3 B6 B7 B9 B11 Bv num:Nat)(hnum:num=eM (af S.ps l)+1)(w0 w:World)(hT:Turns (arF S) ((B11,Is (cT (.slice none 0 0)))::(Bv,Is (dq ⟨Bv,num,D.length,.slice none 0 0,[],0⟩))::(B9,Is (cV Bv))::(B7,Is (eU .nilIface))::(B6,Is (cB 0))::(B3,Is (dg S.a))::arF S) w0 w)(hD:al w0 sl (D.map am))(hsl:D≠[]->∀x,sl=some x->x.block∉dom (arF S))(R:Ending->World->Prop)(hR:∀e w',D6 S l D w0 e w' b num->R e w'){u4 u5 u8 aS aT ad ag aj ar av ax a0 a2 a3 a4 a5 a6 a8 a9 bY ba bc bg bj bl bo bs bv b0 b1 b2 b4 b6 b7 b9 cb cc cg ch ci cj cl cm cp cs ct cu cv cx c0 c1 c2 c3 c4 c5 c6 c7 dO dT df dn dp ds dv d0 d1 d2 d3 d4 d5 d6 d7 d8 eA eQ eX ea eg el en ep es e0 e1 e2 e3 e4 e5 e6 e7 fE fl fn fo fr fs fv fz f0 f1 f2 f3 f4 f5 f6 f7 f8 f9 gD gb gg gp gq gs gu gv gx g1 g2 g3 g4 g5 g6 g7 g9 hA hC hE hG hH hI hL hM hN hO hP hQ hS hU hV hX hY hZ ha hf hg hh hk hm hn ho hq hs ht hu hv hw hx hy hz h5 h8 h9 iF iN iS id ih i0:Value}{K:Act->World->Prop}(hK:∀a w,Gc.wp Tryz.prog (bodyPostM Fence.wide 3 Tryz.prog Tryz.f25 R) a w->K a w):
  (I4 13 Tryz.f25).wp Tryz.prog (Exit.then K (bodyPostM Fence.wide 3 Tryz.prog Tryz.f25 R)) { tmps:=#[.pointer (some ⟨S.a,0,none⟩),str l,.slice sl D.length cap,.pointer (some ⟨B3,0,none⟩),u4,u5,.pointer (some ⟨B6,0,none⟩),.pointer (some ⟨B7,0,none⟩),u8,.pointer (some ⟨B9,0,none⟩),aS,.pointer (some ⟨B11,0,none⟩),aT,ad,ag,aj,ar,av,ax,a0,a2,a3,a4,a5,a6,a8,a9,bY,ba,bc,bg,bj,bl,bo,bs,bv,b0,b1,b2,b4,b6,b7,b9,cb,cc,cg,ch,ci,cj,cl,cm,cp,cs,ct,cu,cv,cx,c0,c1,c2,c3,c4,c5,c6,c7,dO,dT,df,dn,dp,ds,dv,d0,d1,d2,d3,d4,d5,d6,d7,d8,eA,eQ,eX,ea,eg,el,en,ep,es,e0,e1,e2,e3,e4,e5,e6,e7,fE,fl,fn,fo,fr,fs,fv,fz,f0,f1,f2,f3,f4,f5,f6,f7,f8,f9,gD,gb,gg,gp,gq,gs,gu,gv,gx,g1,g2,g3,g4,g5,g6,g7,g9,hA,hC,hE,hG,hH,hI,hL,hM,hN,hO,hP,hQ,hS,hU,hV,hX,hY,hZ,ha,hf,hg,hh,hk,hm,hn,ho,hq,hs,ht,hu,hv,hw,hx,hy,hz,h5,h8,h9,iF,iN,iS,id,ih,i0],defers:=[] } w:=by
 have HH:=Hq9 hok hB hb hT hD hsl hnum hcap hR;clear hok hB hb hT hD hsl hnum hcap hR;conv=>arg 2;whnf
 go_wp2_with ((refine ai rfl (uT 154 rfl HH.d ?_);intro Bm w1 hT1;have a7:w1.cell? ⟨S.a,7,none⟩=some (.pointer (some ⟨S.X.ab,0,none⟩)):=aa (hT1.sat.Q7 (b:=S.a) (o:=aH S.X) (by simp[arF])) 7 rfl;have ab3:w1.cell? ⟨S.X.ab,3,none⟩=some (.int .i64 S.A.end_):=aa (hT1.sat.Q7 (b:=S.X.ab) (o:=.cells (aE S.X.d S.A) 157 (0,0)) (by simp[arF,aq])) 3 (no _ _);have b3:w1.cell? ⟨B3,0,none⟩=some (.pointer (some ⟨S.a,0,none⟩)):=aa (hT1.sat.Q7 (b:=B3) (o:=dg S.a) (by simp)) 0 rfl;have hal:S.a<w1.heap.size:=hT1.sat.lt (by simp[arF]);have habl:S.X.ab<w1.heap.size:=hT1.sat.lt (by simp[arF,aq]);have hb3l:B3<w1.heap.size:=hT1.sat.lt (by simp);have HT1:=qqH hT1;clear hT1));conv=>arg 2;whnf
 go_wp2_with fail;refine(yX _ _ _ _).mono ?_;rintro e w2 ⟨rfl,rfl⟩;go_wp2_with fail;obtain⟨B12,hB12⟩:∃B12,B12=w1.heap.size:=⟨_,rfl⟩;obtain⟨B13,hB13⟩:∃B13,B13=w1.heap.size+1:=⟨_,rfl⟩;obtain⟨bx,hbx⟩:∃bx,bx=w1.heap.size+1+1:=⟨_,rfl⟩
 have hT2:Turns (arF S) ((B13,Is (cB ((S.data.length+bd []:Nat):Int)))::(B12,Is (dW Bm))::(Bm,Is (aQ str (bz S.data.length 0 []) 0))::(B11,Is (cT (.slice none 0 0)))::(fk (.slice none 0 0) []++((B9,Is (cV Bv))::(bT ⟨Bv,num,D.length,.slice none 0 0,[],0⟩++(((B3,Is (dg S.a))::[(B6,Is (cB 0)),(B7,Is (eU .nilIface))])++arF S))))) w0 ((w1.alloc (.cells #[.map (some Bm)] 154)).alloc (.cells #[.int .i64 S.A.end_] 3)):=by
  have h:=(HT1.out.Q8 (dW Bm)).Q8 (cB S.A.end_);rw[World.size_alloc,<- hB13,<- hB12]at h;refine h.to ?_;unfold fk bT aU;simp only[bN,Value.ownBlock,flatMap_nil,map_nil,nil_append,bd,sum_nil,Nat.add_zero,bz,aQ];rw[<- HH.a.end_];exact ae
 have hbxx:=aK ((w1.alloc (.cells #[.map (some Bm)] 154)).alloc (.cells #[.int .i64 S.A.end_] 3)) (.cells #[.slice sl D.length cap] 38);have hT3:=hT2.alloc (.cells #[.slice sl D.length cap] 38);simp only[World.size_alloc]at hbxx;have hnb:bx∉dom ((B13,Is (cB ((S.data.length+bd []:Nat):Int)))::(B12,Is (dW Bm))::(Bm,Is (aQ str (bz S.data.length 0 []) 0))::(B11,Is (cT (.slice none 0 0)))::(fk (.slice none 0 0) []++((B9,Is (cV Bv))::(bT ⟨Bv,num,D.length,.slice none 0 0,[],0⟩++(((B3,Is (dg S.a))::[(B6,Is (cB 0)),(B7,Is (eU .nilIface))])++arF S))))):=fun h=>by have:=hT2.sat.lt h;simp only[World.size_alloc]at this;omega
 rw[<- hbx]at hbxx;have hsz:(((w1.alloc (.cells #[.map (some Bm)] 154)).alloc (.cells #[.int .i64 S.A.end_] 3)).alloc (.cells #[.slice sl D.length cap] 38)).heap.size=bx+1:=by simp only[World.size_alloc];omega
 rw[<- hbx,<- hB13,<- hB12];generalize ((w1.alloc (.cells #[.map (some Bm)] 154)).alloc (.cells #[.int .i64 S.A.end_] 3)).alloc (.cells #[.slice sl D.length cap] 38)=W2 at hbxx hT3 hsz ⊢;clear a7 ab3 b3 hal habl hb3l hT2 hB12 hB13 hbx;obtain⟨F0,hF0⟩:∃F0,F0=(B13,Is (cB ((S.data.length+bd []:Nat):Int)))::(B12,Is (dW Bm))::(Bm,Is (aQ str (bz S.data.length 0 []) 0))::(B11,Is (cT (.slice none 0 0)))::(fk (.slice none 0 0) []++((B9,Is (cV Bv))::(bT ⟨Bv,num,D.length,.slice none 0 0,[],0⟩++(((B3,Is (dg S.a))::[(B6,Is (cB 0)),(B7,Is (eU .nilIface))])++arF S)))):=⟨_,rfl⟩;rw[<- hF0]at hT3 hnb;have hDW:al W2 sl (D.map am):=(Decidable.em (D=[])).elim (fun hd=>by rw[hd];exact fX _ _) (fun hd=>HH.e.Qc hT3 (HH.f hd))
 obtain⟨d,off,hda,hdb,hdF,hdw⟩:∃d off,(0<D.length->sl=some ⟨d,off,none⟩)/\eN W2 d off D/\d∉dom F0/\(d≠W2.heap.size/\d≠W2.heap.size+1):=by
  by_cases hd:D=[]
  ·subst hd;exact⟨W2.heap.size+2,0,fun h=>by simp at h,fun j hj=>by simp at hj,fun h=>by have:=hT3.sat.lt h;omega,by omega⟩
  ·have hp:0<D.length:=length_pos_iff.2 hd;obtain⟨g,off,rfl,hc⟩:=hDW (by simpa using hp);obtain⟨g0,off0,he0,hc0⟩:=HH.e (by simpa using hp);simp only[Option.some.injEq,Addr.mk.injEq,and_true]at he0;obtain⟨rfl,rfl⟩:=he0;have hlt0:g<w0.heap.size:=World.block_lt_of_cell? w0 _ (hc0 0 (by simpa using hp));have hlt:g<W2.heap.size:=Nat.lt_of_lt_of_le hlt0 hT3.mods.size;refine⟨g,off,fun _=>rfl,fun j hj=>by rw[hc j (by simpa using hj)];simp[am],fun h=>?_,by omega⟩;rcases hT3.fresh g h with h'|h'
   ·exact HH.f hd _ rfl h'
   ·omega
 have HL:=Hq6 hF0 hT3 hnb hdb hdF hsz;refine(wpIn_wide (n:=3)).1 ?_;refine DV (n:=1) bx d off cap sl D rfl hda HH.h (by omega) hbxx HL.d hdw (G8 S D B9 B11 B12 B13 Bm Bv num ((B3,Is (dg S.a))::[(B6,Is (cB 0)),(B7,Is (eU .nilIface))])) F0 ?h0 HL.b.sat HL.c HL.e ?a1 ?assign ?body ?done
 case assign =>
  intro l i W K hK;gi_wp2;exact hK
 case h0 =>
  refine⟨S.A.spare,[],.slice none 0 0,.slice none 0 0,[],[],rfl,HH.a.area,rfl,⟨⟨rfl,fun _=>⟨rfl,rfl⟩⟩,fun r hr=>by simp at hr⟩,⟨rfl,fun _=>⟨rfl,rfl⟩⟩,rfl,fun e he=>by simp at he,?_⟩;rw[HL.a];rfl
 case body =>
  intro l2 i F A hi hJ hF hdA hdF2 hle;exact Dr S HH.a D d off 1 l2 B3 B6 B7 B9 B11 B12 B13 Bm Bv num i _ F A hdA hdF2 hi hDl (by have:=HH.b.K;have:=HH.c;omega) hJ hF S.a l
 case done =>
  intro Dd F B hDd hJ hT4 hDF hDB;rename_i hK;have hT5:=HL.b.trans hT4;have HG:=Hq5 hJ hT4 hDF hDB hT5;refine hK _ _ ?_;refine Ds S HH.a b HH.b HH.c l D hl hll hDl B3 B6 B7 B9 B11 B12 B13 Bm Bv num HH.g F B hJ hT4.sat ?_;intro tmps w' n ev h6 h7 hres
  have fin:∀(G J:HF) (v:Int) (u:Value),Turns F ((B6,Is (cB v))::(B7,Is (eU u))::(G++J)) B w'->(∀W,Turns (arF S) G w0 W->D6 S l D w0 (.returned (.tuple #[.int .i64 v,u])) W b num) ->
    bodyPostM Fence.wide 3 Tryz.prog Tryz.f25 R .ret { tmps:=tmps,defers:=[{ target:=.collected Dd,args:=#[] }] } w':=by
   intro G J v u hTt hPF;have hDlt:Dd<B.heap.size:=ac HG.d
   have hDn:Dd∉dom ((B6,Is (cB v))::(B7,Is (eU u))::(G++J)):=fun h=>by
    rcases hTt.fresh _ h with h'|h'
    ·exact HG.c h'
    ·omega
   have hDw:w'.heap[Dd]?=some (.deferred (some [])):=hTt.mods.at HG.d HG.c;have hT6:=(HG.w.trans hTt).putNew (Nat.le_trans HL.b.mods.size hDd) hDn (.deferred none);refine⟨by simp,.inl ⟨_,_,rfl,run_takeDeferred hDw,?_⟩⟩;exact⟨_,mU rfl tmps _ B6 B7 (.int .i64 v) u Tryz.underlying3 rfl Tryz.underlying45 rfl h6 h7 (aa (hT6.sat.Q5) 0 rfl) (aa (hT6.sat.tail.Q5) 0 rfl),HH.out.2.2.2.2.2.2.2.2 _ _ (hPF _ (hT6.drop bS))⟩
  rcases hres with⟨sp,chs,J,rfl,rfl,h1,h2,h3,h4⟩|⟨S',V,J,rfl,rfl,h1,h2,h3,h4⟩
  ·exact fin _ J 0 (cO 8) h2 (fun W hW=>.inl ⟨sp,chs,rfl,h1,hW,h3,h4⟩)
  ·exact fin _ J num .nilIface h4 (fun W hW=>.inr ⟨S',V,rfl,h1,h2,h3,hW⟩)
theorem Kk(S:AS)(l D:Bs)(b:Nat)(w W:World)(B6 B7 B3 a:Nat)(n:Int)(tmps:Array Value)(h6:tmps.getD 6 undef=.pointer (some ⟨B6,0,none⟩))(h7:tmps.getD 7 undef=.pointer (some ⟨B7,0,none⟩))(ev:Value)(hev:ev=cO n)(hT:Turns (arF S) ((B7,Is (eU .nilIface))::(B6,Is (cB 0))::(B3,Is (dg a))::arF S) w W)(
   hp:((S.X.closed=true/\n=9)\/(S.X.closed=false/\aw l=false/\n=1)\/(S.X.closed=false/\aw l=true/\4000<D.length/\n=2) \/
   (S.X.closed=false/\aw l=true/\D.length<=4000/\S.X.quota<S.X.used+D.length/\n=7))):
  bodyPostM Fence.wide 3 Tryz.prog Tryz.f25 (xG S l D b w) .ret { tmps:=tmps,defers:=[] } ((W.setCell ⟨B6,0,none⟩ (.int .i64 0)).setCell ⟨B7,0,none⟩ ev):=by
 subst hev;have q1:=hT.to (H:=(B6,Is (cB 0))::(B7,Is (eU .nilIface))::(B3,Is (dg a))::arF S) (Perm.swap _ _ _);have q2:=q1.Qa (o:=cB 0) ((Mods.refl (fun k=>k=B6) W).set1 (i:=0) (.int .i64 0)) (bB q1.sat.Q5 0 (.int .i64 0));have q3:=q2.to (H:=(B7,Is (eU .nilIface))::(B6,Is (cB 0))::(B3,Is (dg a))::arF S) (Perm.swap _ _ _);have q4:=q3.Qa (o:=eU (cO n)) ((Mods.refl (fun k=>k=B7) _).set1 (i:=0) (cO n)) (bB q3.sat.Q5 0 (cO n));have c6:=q4.sat.Q7 (b:=B6) (o:=cB 0) (by simp);refine⟨_,mU rfl tmps _ B6 B7 (.int .i64 0) (cO n) Tryz.underlying3 rfl Tryz.underlying45 rfl h6 h7 (aa c6 0 rfl) (aa q4.sat.Q5 0 rfl),.inl ⟨n,rfl,q4.drop bS,hp⟩⟩
theorem vO(S:AS)(l D:Bs)(sl:Option Addr)(cap b:Nat)(w:World)(h:Sat w (arF S))(hok:ArOk S)(hB:ArB S b)(hb:b<=90000)(hD:al w sl (D.map am))(hcap:D.length<=cap)(hdl:D.length<=1099511627776)(hsl:D≠[]->∀x,sl=some x->x.block∉dom (arF S))(hl:l.length<=9223372036854775807)(hq : -4611686018427387904<=S.X.quota):
  Calls Tryz.prog 25 #[.pointer (some ⟨S.a,0,none⟩),str l,.slice sl D.length cap] w (xG S l D b w):=by
 obtain⟨a,ha⟩:∃a,a=S.a:=⟨_,rfl⟩;obtain⟨X,hX⟩:∃X,X=S.X:=⟨_,rfl⟩;have hao:w.heap[a]?=some (aH X):=by rw[ha,hX];exact h.Q5
 have hal:=ac hao;obtain⟨B3,hB3⟩:∃B3,B3=w.heap.size:=⟨_,rfl⟩;obtain⟨B6,hB6⟩:∃B6,B6=w.heap.size+1:=⟨_,rfl⟩;obtain⟨B7,hB7⟩:∃B7,B7=w.heap.size+2:=⟨_,rfl⟩
 have HB:=qqH (fun W (hW:aX w W) (hc:W.cell? ⟨w.heap.size+3,0,none⟩=some (str l))=>ko a X (some ⟨w.heap.size+3,0,none⟩) 1 [l] W (hW.at hao id) (fun _=>⟨_,_,rfl,fun j hj=>by
  obtain rfl:j=0:=by simp at hj;omega
  exact hc⟩) (by simp))
 obtain⟨w0,hw0⟩:∃w0,w0=((w.alloc (dg a)).alloc (cB 0)).alloc (eU .nilIface):=⟨_,rfl⟩
 have hT0:Turns (arF S) ((B7,Is (eU .nilIface))::(B6,Is (cB 0))::(B3,Is (dg a))::arF S) w w0:=by
  have:=(((Turns.refl h).Q8 (dg a)).Q8 (cB 0)).Q8 (eU .nilIface);simp only[World.size_alloc]at this;rw[hB3,hB6,hB7,hw0];exact this
 rw[<- ha];have HH:=qqH (And.intro h (And.intro hok (And.intro hB (And.intro hb (And.intro hD (And.intro hcap (And.intro hdl (And.intro hsl (And.intro hl (And.intro hT0 (And.intro ha (And.intro hX (And.intro hao (And.intro hq hw0))))))))))))));clear h hok hB hb hD hcap hsl hl hT0 ha hX hao hq;refine(callsIn_wide (n:=3)).1 ?_;refine callsIn_of_wp_marks Tryz.func25 rfl trivial ?_ rfl;simp only[Tryz.ntmps25,size_toArray,length_cons,length_nil,Nat.reduceAdd,Nat.reduceSub,Array.replicate_succ,Array.replicate_zero,push_toArray,append_toArray,nil_append,cons_append];refine wpIn_wide.2 ?_;go_wp2_with fail
 refine(HB.out _ ((((Mods.refl _ w).alloc _).alloc _).alloc _ |>.alloc _) (by
  have:=aa (aK (((w.alloc (dg a)).alloc (cB 0)).alloc (eU .nilIface)) (.cells #[str l] 9)) 0 (v:=str l) rfl;simp only[World.size_alloc]at this;exact this)).mono ?_
 rintro e w1 ⟨rfl,hs1⟩;obtain⟨cl,hcl⟩:∃cl,cl=X.closed:=⟨_,rfl⟩;obtain⟨pb,hpb⟩:∃pb,pb=aw l:=⟨_,rfl⟩;have e1:([l].all aw)=pb:=by simp[hpb]
 rw[e1,<- hcl]
 have hT1:Turns (arF S) ((B7,Is (eU .nilIface))::(B6,Is (cB 0))::(B3,Is (dg a))::arF S) w w1:=by
  have:=(HH.out.2.2.2.2.2.2.2.2.2.1.alloc (.cells #[str l] 9));rw[HH.out.2.2.2.2.2.2.2.2.2.2.2.2.2.2]at this;exact this.Q9 hs1
 have hb6:=hT1.sat.Q7 (b:=B6) (o:=cB 0) (by simp);have hb7:=hT1.sat.Q7 (b:=B7) (o:=eU .nilIface) (by simp);have c6:w1.cell? ⟨B6,0,none⟩=some (.int .i64 0):=aa hb6 0 rfl;have c7:w1.cell? ⟨B7,0,none⟩=some .nilIface:=aa hb7 0 rfl;have f6:=bf hb6 0;have f7:=bf hb7 0;rw[show w.heap.size+1+1=w.heap.size+2 from rfl,<- hB7,<- hB6,<- hB3];have h67:¬B6=B7:=by omega
 have h76:¬B7=B6:=by omega
 have HE:=qqH (fun(W:World) (n:Int) (tmps:Array Value) (h6:tmps.getD 6 undef=.pointer (some ⟨B6,0,none⟩)) (h7:tmps.getD 7 undef=.pointer (some ⟨B7,0,none⟩)) (ev:Value) (hev:ev=cO n) (hT:Turns (arF S) ((B7,Is (eU .nilIface))::(B6,Is (cB 0))::(B3,Is (dg a))::arF S) w W)
   (hp:((S.X.closed=true/\n=9)\/(S.X.closed=false/\aw l=false/\n=1)\/(S.X.closed=false/\aw l=true/\4000<D.length/\n=2) \/
   (S.X.closed=false/\aw l=true/\D.length<=4000/\S.X.quota<S.X.used+D.length/\n=7)))=>Kk S l D b w W B6 B7 B3 a n tmps h6 h7 ev hev hT hp)
 have HD:=Hq3 hcl hpb hT1;clear hcl hpb hT1 hb6 hb7 hs1 e1 hw0 hB3 hB6 hB7 hal
 cases cl with
 | true =>
  simp only[if_true];unfold cO;go_wp2_with fail;refine HE.out _ 9 _ rfl rfl _ rfl HD.y (.inl ⟨?_,rfl⟩);rw[<- HH.out.2.2.2.2.2.2.2.2.2.2.2.1];exact HD.a.symm
 | false =>
  cases pb with
  | false =>
   simp only[Bool.false_eq_true,if_false];unfold cO;go_wp2_with fail;refine HE.out _ 1 _ rfl rfl _ rfl HD.y (.inr (.inl ⟨?_,HD.b.symm,rfl⟩));rw[<- HH.out.2.2.2.2.2.2.2.2.2.2.2.1];exact HD.a.symm
  | true =>
   simp only[Bool.false_eq_true,if_false,if_true];have hcl2:S.X.closed=false:=by rw[<- HH.out.2.2.2.2.2.2.2.2.2.2.2.1];exact HD.a.symm
   have hll:l.length<=20:=by
    have h2:=HD.b.symm;unfold aw at h2;simp only[Bool.and_eq_true,decide_eq_true_eq]at h2;exact h2.1.2
   by_cases hbig:4000<D.length
   ·have HG:=qqH hcl2;clear hcl2;go_wp2_with fail;refine HE.out _ 2 _ rfl rfl _ rfl HD.y (.inr (.inr (.inl ⟨HG.out,HD.b.symm,hbig,rfl⟩)))
   ·have HG:=qqH hcl2;clear hcl2;go_wp2_with fail;obtain⟨w2,hw2⟩:∃w2,w2=w1.drew:=⟨_,rfl⟩;have hT:=HD.y;have hT2':Turns (arF S) ((B7,Is (eU .nilIface))::(B6,Is (cB 0))::(B3,Is (dg a))::arF S) w w2:=by rw[hw2];exact hT.drew
    have k3:w1.cell? ⟨B3,0,none⟩=some (.pointer (some ⟨a,0,none⟩)):=aa (hT.sat.Q7 (b:=B3) (o:=dg a) (by simp)) 0 rfl;have ka:=hT.sat.Q7 (b:=S.a) (o:=aH S.X) (by simp[arF]);rw[<- HH.out.2.2.2.2.2.2.2.2.2.2.1,<- HH.out.2.2.2.2.2.2.2.2.2.2.2.1]at ka;have k5:w1.cell? ⟨a,5,none⟩=some (.int .i64 X.used):=aa ka 5 rfl;have k9:w1.cell? ⟨a,9,none⟩=some (.int .i64 X.quota):=aa ka 9 rfl
    have hwr:IntKind.i64.wrap (X.used+D.length)=X.used+D.length:=by
     have h1:=HH.c.used;have h2:=HH.d;rw[<- HH.out.2.2.2.2.2.2.2.2.2.2.2.1]at h1;exact IntWalk.i64_in _ (by omega)
    clear ka;refine wp_region_still_lit HM.out (by kernel_rfl) ?_;repeat still_step
    refine wpStill_nil ?_;rw[show({ w1 with drawn:=w1.drawn+1 }:World)=w2 from hw2.symm];clear hT k3 k5 k9 hwr hw2;have hb6:=hT2'.sat.Q7 (b:=B6) (o:=cB 0) (by simp);have hb7:=hT2'.sat.Q7 (b:=B7) (o:=eU .nilIface) (by simp);have c62:w2.cell? ⟨B6,0,none⟩=some (.int .i64 0):=aa hb6 0 rfl;have c72:w2.cell? ⟨B7,0,none⟩=some .nilIface:=aa hb7 0 rfl;have f62:=bf hb6 0;have f72:=bf hb7 0;have HT2:=qqH hT2';clear hT2' hb6 hb7 c6 c7 f6 f7;by_cases hqu:X.quota<X.used+D.length
    ·rw[decide_eq_true hqu];have HQ:=qqH hqu;clear hqu;go_wp2_with fail;refine HE.out _ 7 _ rfl rfl _ rfl HT2.out (.inr (.inr (.inr ⟨HG.out,HD.b.symm,by omega,?_,rfl⟩)));rw[<- HH.out.2.2.2.2.2.2.2.2.2.2.2.1];exact HQ.out
    ·rw[decide_eq_false hqu];have HQ:=qqH hqu;obtain⟨psl,pcap,e1,e2,e3,e4,e5,e6⟩:=gV (w:=w2) (pm:=S.X.pm) (c:=S.pc) (ps:=S.ps) (HT2.out.sat.tail.tail.tail.tail.right.right.left) HH.b.paths l;obtain⟨vs,hvs⟩:∃vs,vs=af S.ps l:=⟨_,rfl⟩;rw[<- hvs]at e1 e2 e4 e5 e6;have hOl:OkS l:=by unfold OkS;omega
     have ha0:=HT2.out.sat.Q7 (b:=S.a) (o:=aH S.X) (by simp[arF]);rw[<- HH.out.2.2.2.2.2.2.2.2.2.2.1]at ha0;have a0c:w2.cell? ⟨a,0,none⟩=some (.map (some S.X.pm)):=aa ha0 0 rfl;have b3c:w2.cell? ⟨B3,0,none⟩=some (.pointer (some ⟨a,0,none⟩)):=aa (HT2.out.sat.Q7 (b:=B3) (o:=dg a) (by simp)) 0 rfl;have hal2:=ac ha0;have hb3l:B3<w2.heap.size:=HT2.out.sat.lt (by simp);have hpm:=HT2.out.sat.Q7 (b:=S.X.pm) (o:=aQ str (S.ps.map aO) S.pc) (by simp[arF,aF]);have HV:=Hq9 hvs e1 e2 e3 e4 e5 hOl ha0 hpm;clear hqu e1 e2 e3 e4 e5 e6 hvs hOl ha0 hpm;obtain⟨Bv,hBv⟩:∃Bv,Bv=w2.heap.size:=⟨_,rfl⟩;obtain⟨B9,hB9⟩:∃B9,B9=w2.heap.size+1:=⟨_,rfl⟩;have hpm4:=(((Mods.refl (fun _=>False) w2).alloc (.cells #[.int .i64 1,.int .i64 D.length,.slice none 0 0,.int .i64 0] 152)).alloc (.cells #[.pointer (some ⟨w2.heap.size,0,none⟩)] 149)).at HV.out.2.2.2.2.2.2.2.2 id
     have hT4:Turns (arF S) ((Bv,Is (dq ⟨Bv,1,D.length,.slice none 0 0,[],0⟩))::(B9,Is (cV Bv))::(B7,Is (eU .nilIface))::(B6,Is (cB 0))::(B3,Is (dg S.a))::arF S) w ((w2.alloc (.cells #[.int .i64 1,.int .i64 D.length,.slice none 0 0,.int .i64 0] 152)).alloc (.cells #[.pointer (some ⟨w2.heap.size,0,none⟩)] 149)):=by
      have h:=(HT2.out.Q8 (dq ⟨Bv,1,D.length,.slice none 0 0,[],0⟩)).Q8 (cV Bv);rw[World.size_alloc,<- hB9,HH.out.2.2.2.2.2.2.2.2.2.2.1]at h;have h2:=h.to (Perm.swap _ _ _);rw[<- hBv]at h2 ⊢;exact h2
     have hP4:=HV.b;have HW:=Hq4 hpm4 hT4 hBv hB9;clear hpm4 hT4 hP4;by_cases hvn:vs=[]
     ·subst hvn;have hvs0:af S.ps l=[]:=HV.a.symm;have HN0:=qqH hvs0;clear hvs0 hBv hB9;go_upto_region 13 with(first|(refine ez eb rfl _ _ rfl Tryz.underlying119 HW.a HH.b.paths.map (gz _) l rfl rfl HV.g ?_;rw[cY,HV.b])|fail);have HNUM:Hid (1=eM (af S.ps l)+1):=qqH (by rw[HN0.out];rfl);have hT5:=HW.b.Q8 (cT (.slice none 0 0));simp only[World.size_alloc]at hT5;rw[<- HW.x,<- HW.c]at hT5 ⊢;rw[HH.out.2.2.2.2.2.2.2.2.2.2.1];refine AV S l D sl cap b HH.b HH.c HH.d HD.b.symm hll (by omega) HH.f B3 B6 B7 B9 (B9+1) Bv 1 HNUM.out w _ hT5 HH.e HH.h _ (fun e w' hp=>?_) (by assumption);refine .inr ⟨HG.out,HD.b.symm,by omega,?_,?_⟩
      ·have:=HQ.out;rw[HH.out.2.2.2.2.2.2.2.2.2.2.2.1]at this;omega
      ·have hnum:=HNUM.out;have hnum2:((1:Nat):Int)=(eM (af S.ps l):Int)+1:=by omega
       rcases hp with⟨sp,chs,h1,h2,h3,h4,h5⟩|⟨S',V,h1,h2,h3,h4,h5⟩
       ·exact .inl ⟨sp,chs,h1,h2,h3,by rw[<- hnum2];exact h4,h5⟩
       ·exact .inr ⟨S',V,by rw[<- hnum2];exact h1,h2,h3,h4,h5⟩
     ·obtain⟨g,off,hg,hcell⟩:=HV.e (by rw[length_map];exact length_pos_iff.2 hvn);subst hg;obtain⟨U,hU⟩:∃U,vs.getLast?=some U:=⟨_,getLast?_eq_some_getLast hvn⟩;have hvl:0<vs.length:=length_pos_iff.2 hvn
      have hUe:U=vs[vs.length-1]:=by
       rw[getLast?_eq_getElem?,getElem?_eq_getElem (by omega)]at hU;exact(Option.some.inj hU).symm
      have hUm:U∈vs:=by rw[hUe];exact getElem_mem _
      have hc1:w2.cell? ⟨g,off+(vs.length-1),none⟩=some (ee U):=by rw[hcell (vs.length-1) (by rw[length_map];omega),getElem_map,hUe]
      have hc2:=HV.f U hUm
      have hvb:vs.length<=90000/\U.num<=4294967296+90000:=by
       obtain⟨p',hp',_,h2⟩:=bD (ps:=S.ps) (l:=l) (by rw[<- HV.a];exact hvn);rw[<- HV.a]at h2;have h3:=HH.c.vers p' hp';have h4:=HH.d;rw[h2]at h3;have h5:=(h3.2.2 U hUm).1;omega
      have hs4:=((Mods.refl (fun _=>False) w2).alloc (.cells #[.int .i64 1,.int .i64 D.length,.slice none 0 0,.int .i64 0] 152)).alloc (.cells #[.pointer (some ⟨w2.heap.size,0,none⟩)] 149);have hc1':=g8 hs4 hc1;have hc2':=hs4.at hc2 id;have HNUM:Hid (U.num+1=eM (af S.ps l)+1):=qqH (by rw[<- HV.a];unfold eM;rw[hU];rfl);obtain⟨m,hm⟩:∃m,m=vs.length:=⟨_,rfl⟩;rw[<- hm]at hc1 hc1' hvl hvb;have hvl2:(0:Int)<(m:Int):=by omega
      have HU:=Hq4 hc1' hc2' hvb hm;clear hcell hU hUe hUm hc2 hs4 hc1 hc1' hc2' hvb hBv hB9;have HV2:=HV.b;rw[<- hm]at HV2;have HVV:=qqH HV2;clear HV2 hm;go_upto_region 11 with(first|(refine ez eb rfl _ _ rfl Tryz.underlying119 HW.a HH.b.paths.map (gz _) l rfl rfl HV.g ?_;rw[cY,HVV.out])|fail);rw[<- HW.x,<- HW.c];have h:=HW.b;have q1:=HU.a;have q2:=HU.b;rw[<- HW.c]at h q1 q2;generalize (w2.alloc _).alloc _=W at h q1 q2 ⊢;have k9:=aa h.sat.tail.Q5 0 (v:=.pointer (some ⟨Bv,0,none⟩)) rfl;have kU:=aa q2 0 (v:=.int .i64 U.num) rfl;unfold ee at q1;have hm1:1<=m:=by omega
      have hnu:=HU.c;have g1:IntKind.i64.wrap ((m:Int)-1)=(m:Int)-1:=IntWalk.i64_in _ (by omega);have g2:(0:Int)<=(m:Int)-1:=by omega
      have g3:(m:Int)-1<m:=by omega
      have g4:((m:Int)-1).toNat=m-1:=by omega
      have g6:(1:Int)<=(m:Int):=by omega
      have g7:(0:Int)<(m:Int):=by omega
      have g5:IntKind.i64.wrap ((U.num:Int)+1)=(U.num:Int)+1:=IntWalk.i64_in _ (by omega);have H0:=qqH h;clear h q2;refine wp_region_still_tail 13 HM.out (by kernel_rfl) ?_;simp only[QE,take_zero,QD,drop_zero];repeat still_step
      refine wpStill_nil ?_;refine ai rfl (bu 3 (.tmp 74) (.tmp 72) rfl Bv 0 (fC ⟨Bv,1,D.length,.slice none 0 0,[],0⟩) 152 (.int .i64 (U.num+1)) H0.out.drew rfl rfl (by simp[fC]) (by kernel_rfl) rfl rfl ?_);intro w5 hT5;have HT5:=qqH (show Turns (arF S) ((Bv,Is (dq ⟨Bv,U.num+1,D.length,.slice none 0 0,[],0⟩))::(B9,Is (cV Bv))::(B7,Is (eU .nilIface))::(B6,Is (cB 0))::(B3,Is (dg S.a))::arF S) w w5 from hT5);clear hT5 k9 kU q1 g1 g2 g3 g4 g5 hnu;simp only[Act.put];go_upto_region 13 with(fail);have hT6:=HT5.out.Q8 (cT (.slice none 0 0));rw[HH.out.2.2.2.2.2.2.2.2.2.2.1];refine AV S l D sl cap b HH.b HH.c HH.d HD.b.symm hll (by omega) HH.f B3 B6 B7 B9 w5.heap.size Bv (U.num+1) HNUM.out w _ hT6 HH.e HH.h _ (fun e w' hp=>?_) (by assumption);refine .inr ⟨HG.out,HD.b.symm,by omega,?_,?_⟩
      ·have:=HQ.out;rw[HH.out.2.2.2.2.2.2.2.2.2.2.2.1]at this;omega
      ·have hnum:=HNUM.out;have hnum2:(((U.num+1):Nat):Int)=(eM (af S.ps l):Int)+1:=by omega
       rcases hp with⟨sp,chs,h1,h2,h3,h4,h5⟩|⟨S',V,h1,h2,h3,h4,h5⟩
       ·exact .inl ⟨sp,chs,h1,h2,h3,by rw[<- hnum2];exact h4,h5⟩
       ·exact .inr ⟨S',V,by rw[<- hnum2];exact h1,h2,h3,h4,h5⟩
end
section
theorem Ij{h:Int}{n:Nat}(e:eV h n=true):16<=n:=by
 rcases Nat.lt_or_ge n 16 with h'|h'
 ·rw[Ik h']at e;cases e
 ·exact h'
theorem xR(l:List UInt8):∀h n,n<256->∀i (hi:i<(dh h n l).length),1<=(dh h n l)[i]/\(dh h n l)[i]<=256/\(i+1<(dh h n l).length->16<=(dh h n l)[i]):=by
 induction l with
 | nil=>intro h n _ i hi;simp[dh]at hi
 | cons c cs ih =>
  intro h n hn i
  cases he:eV (fu h c.toNat) (n+1)
  ·by_cases hc:cs=[]
   ·subst hc;rw[tI];intro hi;have hi0:i=0:=by simp at hi;omega
    subst hi0;refine⟨?_,?_,?_⟩
    ·simp
    ·simp;omega
    ·simp
   ·rw[zQ _ _ _ _ he hc]
    have hn1:n+1<256:=by
     rcases Nat.lt_or_ge (n+1) 256 with h'|h'
     ·exact h'
     ·rw[tM h']at he;cases he
    exact ih _ _ hn1 i
  ·rw[wn _ _ _ _ he];intro hi
   cases i with
   | zero=>exact⟨by simp,by simp;omega,fun _=>by have:=Ij he;simpa using this⟩
   | succ i =>
    have hi':i<(dh 0 0 cs).length:=by simpa using hi
    have:=ih 0 0 (by omega) i hi';simpa using this
theorem vx(l:List UInt8)(i:Nat)(hi:i<(aL l).length):1<=(aL l)[i]/\(aL l)[i]<=256/\(i+1<(aL l).length->16<=(aL l)[i]) :=
 xR l 0 0 (by omega) i hi
end
section
open Go.RowKit
theorem BW(d:Nat)(L:DevL)(q:Int)(w:World)(h:Sat w (az d L))(hL:DevOk L)(hn:16<=L.n)(hn2:L.n<=1073741824)(hch:L.chs.length<=137438953472)(hz:∀k,k<2->aC L.now k=ak 128):
  Calls Tryz.prog 22 #[.pointer (some ⟨d,0,none⟩),.int .i64 q] w (qy d L q w):=by
 have HS:=qqH (kI d L w h);have hzt:cf L.now 2=true:=by unfold cf;exact decide_eq_true hz
 have hu:=GF d L w h hL hn (fun k hk=>by rw[hz k hk];exact ky);rw[hzt]at hu;have HU:=qqH hu;have HF:Hid (∀W,Sat W (az d L)->Calls Tryz.prog 51 #[.pointer (some ⟨d,0,none⟩),.int .i64 q] W (qy d L q W)):=qqH (fun W hW=>Ab d L q W hW hL hn hn2 hch);have HH:=qqH h;clear h hL hn2 hch hz hzt hu;have hn':¬(L.n:Int)<16:=by omega
 go_enter Tryz.func22,Tryz.ntmps22;go_wp2_with fail;refine HS.out.mono ?_;rintro e w' ⟨rfl,rfl⟩;go_wp2_with fail;refine HU.out.mono ?_;rintro e w1 ⟨rfl,hs1⟩;have H1:=qqH hs1;clear hs1;go_wp2_with fail;refine(HF.out _ (HH.out.same H1.out)).mono ?_;rintro e w2 ⟨a,ab,pm,tm,cm,ch,L',rfl,hT,hr⟩;have H2:=Hq2 hT hr;clear hT hr;go_wp2_with fail;go_ret2;exact⟨a,ab,pm,tm,cm,ch,L',rfl,Turns.Qg HH.out H1.out H2.a,H2.z⟩
end
section
open Go.RowKit Go.Maps
structure WorldL where
 blk:Nat
 d:Nat
 a:Option Nat
 r:Nat
 out:Value
 want:Value
 most:Value
theorem EH{l s:Bs}{o k:Nat}(h:128*(k+1)<=o)(hl:o<=l.length):aC (aV l o s) k=aC l k:=by
 unfold aC aV;have h1:(l.take o).length=o:=by rw[length_take];omega
 rw[append_assoc,drop_append_of_le_length (by omega),take_append_of_le_length (by rw[length_drop,h1];omega),drop_take,take_take,Nat.min_eq_left (by omega)]
def kW(a pm tm cm d ab ch:Nat)(q:Int)(L:DevL):AS where
 a:=a
 X:=⟨pm,tm,cm,0,0,0,d,ab,1,c9 q,false,.nilIface⟩
 A:=⟨2+ap L.n,ap L.n,0,ak 128,ch,[]⟩
 L:=L
 ps:=[]
 pc:=0
 cs:=[]
 cc:=0
 ts:=[]
 tc:=0
 data:=[]
 K:=[]
theorem Gr{L L':DevL}(hL:DevOk L)(hn:16<=L.n)(hnow:L'.now=aV (fZ L.now (2+ap L.n) 0 (ak 128) (ap L.n)) 128 (bi 1 0)):eB L'.now (2+ap L.n) (ap L.n) []:=by
 have hh:2+ap L.n+ap L.n<=L.n:=by unfold ap;omega
 have hll:=hL.nowL;have h1:=tH (l:=L.now) (ws:=ak (128*ap L.n)) (first:=2+ap L.n) (count:=ap L.n) (end_:=0) (by omega) rfl (an _) (by omega);simp only[take_zero,Nat.zero_div,Nat.mul_zero,List.drop_nil,nil_append,Nat.zero_mod,Nat.sub_zero]at h1;have hcl:(fZ L.now (2+ap L.n) 0 (ak 128) (ap L.n)).length=128*L.n:=jB hll (an _) _ (by omega);have h2:=jZ (l:=fZ L.now (2+ap L.n) 0 (ak 128) (ap L.n)) (s:=bi 1 0) (first:=1) (count:=1) (q:=0) (f2:=2+ap L.n) (c2:=ap L.n) (by rw[bZ];omega) (by rw[hcl];omega) (by omega);refine⟨?_,by simp⟩;rw[hnow,h2];exact h1.1.1
theorem Je{L L':DevL}(hL:DevOk L)(hL':DevOk L')(hn:16<=L.n)(hn2:L.n<=1073741824)(hnn:L'.n=L.n)(hnow:L'.now=aV (fZ L.now (2+ap L.n) 0 (ak 128) (ap L.n)) 128 (bi 1 0))(a pm tm cm d ab ch:Nat)(q:Int):
  ArOk (kW a pm tm cm d ab ch q L') where
 dev:=hL'
 n16:=by show 16<=L'.n;omega
 nmax:=by show L'.n<=_;omega
 area:=⟨an _,by show([]:List (Nat×Nat×Nat)).length<=2;simp,fun s hs=>by cases hs⟩
 first:=by show 2+ap L'.n=2+1%2*ap L'.n;omega
 count:=rfl
 end_:=rfl
 tail:=by show ak 128=bL [];unfold bL dj;simp
 dat:=by
  show eB L'.now (2+ap L'.n) (ap L'.n) []
  rw[hnn];exact Gr hL hn hnow
 paths:=⟨⟨nodup_nil,nodup_nil,(fun e he=>by cases he),(fun e he=>by cases he)⟩,(fun p hp=>by cases hp)⟩
 tags:=⟨⟨nodup_nil,nodup_nil,(fun e he=>by cases he),(fun e he=>by cases he)⟩,(fun p hp=>by cases hp)⟩
 chunks:=⟨⟨nodup_nil,nodup_nil,(fun e he=>by cases he),(fun e he=>by cases he)⟩,(fun p hp=>by cases hp)⟩
 kin:=fun k=>Perm.refl _
 kat:=fun e he=>by cases he
 vers:=fun p hp=>by cases hp
 some:=fun p hp=>by cases hp
 sound:=rfl
 ep:=by show(1:Nat)<4294967296;omega
theorem Kr{L':DevL}(hch:L'.chs=[])(a pm tm cm d ab ch:Nat)(q:Int)(hq:q<=9223372036854775807):ArB (kW a pm tm cm d ab ch q L') 0 where
 K:=by simp[kW]
 np:=by simp[kW]
 nt:=by simp[kW]
 vers:=fun p hp=>by cases hp
 tags:=fun p hp=>by cases hp
 used:=by simp[kW]
 sc:=by simp[kW]
 sb:=by simp[kW]
 quota:=by show(c9 q).natAbs<=_;unfold c9;split<;>omega
 chs:=by show L'.chs.length<=_;rw[hch];simp
def nm(n:Nat)(q:Int)(d:Nat)(S:AS):Prop :=
 ArOk S/\ArB S 0/\S.X.closed=false/\S.X.quota=c9 q/\S.X.used=0/\S.X.sc=0/\S.X.sb=0/\S.ps=[]/\S.ts=[]/\S.K=[]/\S.data=[]/\S.L.n=n/\S.X.d=d/\S.X.ep=1/\S.L.chs=[]/\aC S.L.now 1=bi 1 0/\aC S.L.now 0=ak 128
theorem sR(d:Nat)(L:DevL)(q:Int)(w:World)(h:Sat w (az d L))(hL:DevOk L)(hn:16<=L.n)(hn2:L.n<=1073741824)(hch:L.chs.length<=137438953472)(hz:∀k,k<2->aC L.now k=ak 128)(hq:q<=9223372036854775807):
  Calls Tryz.prog 22 #[.pointer (some ⟨d,0,none⟩),.int .i64 q] w (fun e w'=>∃S,e=.returned (.tuple #[.pointer (some ⟨S.a,0,none⟩),.nilIface])/\nm L.n q d S/\Turns (az d L) (arF S) w w'):=by
 refine(BW d L q w h hL hn hn2 hch hz).mono ?_;rintro e w' ⟨a,ab,pm,tm,cm,ch,L',rfl,hT,hL',hLn,hnow,_,hchs⟩;have hh:2+ap L.n+ap L.n<=L.n:=by unfold ap;omega
 have hcl:(fZ L.now (2+ap L.n) 0 (ak 128) (ap L.n)).length=128*L.n:=jB hL.nowL (an _) _ (by omega);refine⟨kW a pm tm cm d ab ch q L',rfl,⟨Je hL hL' hn hn2 hLn hnow a pm tm cm d ab ch q,Kr hchs a pm tm cm d ab ch q hq,rfl,rfl,rfl,rfl,rfl,rfl,rfl,rfl,rfl,hLn,rfl,rfl,hchs,?_,?_⟩,?_⟩
 ·show aC L'.now 1=_;rw[hnow];unfold aC aV;have h1:((fZ L.now (2+ap L.n) 0 (ak 128) (ap L.n)).take 128).length=128*1:=by rw[length_take,hcl];omega
  rw[append_assoc,drop_left' h1,take_left' (bZ _ _)]
 ·show aC L'.now 0=_;rw[hnow,EH (by omega) (by rw[hcl];omega),tG (an _) (by rw[hL.nowL];omega),EH (by omega) (by rw[hL.nowL];omega)];exact hz 0 (by omega)
 ·refine hT.to ?_;unfold arF kW aF b8 aM gm;rw[<- hLn];simp only[map_nil,aQ,flatMap_nil];exact ae
theorem Jf:∀(l:List Nat),(∀i (h:i<l.length),i+1<l.length->16<=l[i])->16*(l.length-1)<=l.sum
 | [],_=>by simp
 | [a],_=>by simp
 | a::b::r,h=>by
  have h1:=h 0 (by simp) (by simp)
  have h2:=Jf (b::r) (fun i hi hj=>by have:=h (i+1) (by simpa using hi) (by simpa using hj);simpa using this)
  simp only[length_cons,sum_cons,getElem_cons_zero]at h1 h2 ⊢
  omega
theorem ue(D:Bs):(aL D).length<=D.length / 16+1:=by
 have h:=Jf (aL D) (fun i hi hj=>(vx D i hi).2.2 hj);rw[iW]at h;omega
theorem mo:∀(l:List Nat) (d:Bs),(cX l d).flatten=d.take l.sum
 | [],d=>by simp[cX]
 | n::r,d=>by
  simp only[cX,flatten_cons,sum_cons,mo r]
  rw[take_add]
theorem vm(D:Bs):(aB D).flatten=D:=by
 unfold aB;rw[mo,iW,take_length]
theorem wk{S:AS}(hok:ArOk S):∀{l:List Bs} {m:List (Nat×Nat)},m.length=l.length->(∀e∈l.zip m,e∈S.K)->m.flatMap (bm S.K)=l.flatten
 | [],[],_,_=>rfl
 | c::l,q::m,h,hz=>by
  rw[flatMap_cons,flatten_cons,pF hok (hz (c,q) (by simp)),wk hok (by simpa using h) (fun e he=>hz e (by simp[he]))]
theorem zK{S:AS}(hok:ArOk S){D:Bs}{V:VerL}(hl:V.chs.length=(aB D).length)(hz:∀e∈(aB D).zip V.chs,e∈S.K):da S V=D:=by
 unfold da;rw[wk hok hl hz,vm]
abbrev kJ:=Int×Bs×Int
def cQ(S:AS)(V:VerL):kJ:=((V.num:Int),da S V,V.held)
def fA(v:RVer):kJ:=(v.num,v.cont,v.held)
def aD(vs:List RVer)(p:Bs):List RVer:=vs.filter (fun v=>decide (v.path=p))
def jI(p:fq):Bs×Bs×Int:=(p.key,p.g.1,p.g.2)
def ql(t:RTag):Bs×Bs×Int:=(t.name,t.path,t.num)
def iz(ts:List RTag)(p:Bs)(n:Int):Int:=(ts.countP (fun t=>decide (t.path=p/\t.num=n)):Nat)
structure Link (S:AS) (R:RefL):Prop where
 closed:R.closed=S.X.closed
 quota:R.quota=S.X.quota
 used:S.X.used=(eT R.vs:Nat)
 vers:∀p,(af S.ps p).map (cQ S)=(aD R.vs p).map fA
 sorted:R.vs.Pairwise (fun a b=>bJ b.path a.path=false)
 asc:∀p,((aD R.vs p).map (·.num)).Pairwise (·<·)
 each:∀v∈R.vs,1<=v.num/\aw v.path=true/\v.cont.length<=4000
 tags:(S.ts.map jI).Perm (R.ts.map ql)
 tsort:R.ts.Pairwise (fun a b=>bJ a.name b.name=true)
 teach:∀t∈R.ts,aw t.name=true/\∃v∈R.vs,v.path=t.path/\v.num=t.num
 held:∀v∈R.vs,v.held=iz R.ts v.path v.num
def Aa:List kJ->Int->Option kJ
 | [],_=>none
 | v::r,n=>if v.1=n\/(n=0/\r=[])then some v else Aa r n
theorem wy(S:AS)(n:Int):∀l:List VerL,Aa (l.map (cQ S)) n=(it l n).map (cQ S)
 | []=>rfl
 | V::r=>by
  simp only[map_cons,Aa,it,wy S n r,map_eq_nil_iff]
  have e:(cQ S V).1=(V.num:Int):=rfl
  rw[e]
  split<;>rfl
def Az(l:List kJ)(n:Int):Option kJ:=(l.filter (fun t=>decide (t.1=n\/n=0))).getLast?
theorem wx{n:Int}:∀{l:List kJ},(∀t∈l,n<t.1)->n≠0->l.filter (fun t=>decide (t.1=n\/n=0))=[]
 | [],_,_=>rfl
 | t::r,h,h0=>by
  rw[filter_cons_of_neg (by have:=h t (by simp);simp;omega)]
  exact wx (fun x hx=>h x (by simp[hx])) h0
theorem oP{n:Int}:∀{l:List kJ},(l.map (·.1)).Pairwise (·<·)->(∀t∈l,1<=t.1)->Aa l n=Az l n
 | [],_,_=>rfl
 | t::r,hp,h1=>by
  rw[map_cons,pairwise_cons]at hp
  have ht:=h1 t (by simp)
  simp only[Aa,Az]
  by_cases h0:n=0
  ·subst h0
   have hne:¬t.1=0:=by omega
   have hall:∀(x:List kJ),x.filter (fun t=>decide (t.1=0\/(0:Int)=0))=x:=fun x=>by rw[filter_eq_self];simp
   rw[hall]
   cases r with
   | nil=>simp
   | cons a r' =>
    rw[if_neg (by simp[hne])]
    rw[oP (l:=a::r') hp.2 (fun x hx=>h1 x (by simp[hx]))]
    unfold Az
    rw[hall,getLast?_cons_cons]
  ·by_cases hn:t.1=n
   ·rw[if_pos (.inl hn),filter_cons_of_pos (by simp[hn])]
    rw[wx (fun x hx=>by rw[<- hn];exact hp.1 x.1 (mem_map.2 ⟨x,hx,rfl⟩)) h0]
    rfl
   ·rw[if_neg (by simp[hn,h0]),filter_cons_of_neg (by simp[hn,h0])]
    exact oP (n:=n) hp.2 (fun x hx=>h1 x (by simp[hx]))
theorem mC(vs:List RVer)(p:Bs)(n:Int):∀k,k<=vs.length->(if 0<=bW vs p n k then vs[(bW vs p n k).toNat]? else none)=((vs.take k).filter (ic p n)).getLast?
 | 0,_=>by simp[bW]
 | k+1,hk=>by
  rw[rz (by omega),QH (by omega),filter_append]
  by_cases h:ic p n vs[k]=true
  ·rw[if_pos h,if_pos (by omega),filter_cons_of_pos h]
   simp
  ·rw[if_neg h,filter_cons_of_neg h,filter_nil,append_nil]
   exact mC vs p n k (by omega)
theorem pg(R:RefL)(p:Bs)(n:Int):oh R p n=(R.vs.filter (ic p n)).getLast?:=by
 unfold oh;rw[mC R.vs p n _ (Nat.le_refl _),take_length]
theorem yh(vs:List RVer)(p:Bs)(n:Int):vs.filter (ic p n)=(aD vs p).filter (fun v=>decide (v.num=n\/n=0)):=by
 unfold aD;rw[filter_filter];congr 1;funext v;unfold ic;by_cases h1:v.path=p<;>by_cases h2:v.num=n<;>by_cases h3:n=0<;>simp[h1,h2,h3]
theorem FX(l:List RVer)(n:Int):Az (l.map fA) n=((l.filter (fun v=>decide (v.num=n\/n=0))).getLast?).map fA:=by
 unfold Az;rw[filter_map,getLast?_map];rfl
theorem Link.find{S:AS}{R:RefL}(L:Link S R)(p:Bs)(n:Int):(it (af S.ps p) n).map (cQ S)=(oh R p n).map fA:=by
 rw[<- wy,L.vers,oP,FX,pg,yh]
 ·have:=L.asc p;rw[map_map];exact this
 ·intro t ht;obtain⟨v,hv,rfl⟩:=mem_map.1 ht;exact(L.each v (mem_filter.1 hv).1).1
theorem Link.err{S:AS}{R:RefL}(L:Link S R){l:Bs}{n k:Int}(h:ip S l n k):cz R l n=.error k:=by
 unfold cz;rw[L.closed];rcases h with⟨h1,rfl⟩|⟨h1,h2,rfl⟩|⟨h1,h2,h3,rfl⟩
 ·rw[if_pos h1]
 ·rw[h1,if_neg (by simp),h2,if_neg (by simp)]
 ·rw[h1,if_neg (by simp),h2,if_pos rfl];have:=L.find l n;rw[h3,Option.map_none]at this;rw[Option.map_eq_none_iff.1 this.symm]
theorem Link.found{S:AS}{R:RefL}(L:Link S R){l:Bs}{n:Int}{V:VerL}(h:gB S l n V):∃v,cz R l n=.ok v/\fA v=cQ S V/\v∈R.vs/\v.path=l:=by
 unfold cz;rw[L.closed,h.1,if_neg (by simp),h.2.1,if_pos rfl];have h1:=L.find l n;rw[h.2.2,Option.map_some]at h1;obtain⟨v,hv,hv2⟩:=Option.map_eq_some_iff.1 h1.symm;have h3:=hv;rw[pg]at h3;have h4:=mem_filter.1 (mem_of_getLast? h3);refine⟨v,by rw[hv],hv2,h4.1,?_⟩;have:=h4.2;unfold ic at this;simp only[Bool.and_eq_true,decide_eq_true_eq]at this;exact this.1
theorem ip.pos{S:AS}{l:Bs}{n k:Int}(h:ip S l n k):k=9\/k=1\/k=3:=by
 rcases h with⟨_,h⟩|⟨_,_,h⟩|⟨_,_,_,h⟩<;>omega
theorem wA{S:AS}{l:Bs}{n k:Int}{V:VerL}(h:gB S l n V)(h2:ip S l n k):False:=by
 rcases h2 with⟨h1,_⟩|⟨_,h1,_⟩|⟨_,_,h1,_⟩
 ·rw[h.1]at h1;cases h1
 ·rw[h.2.1]at h1;cases h1
 ·rw[h.2.2]at h1;cases h1
theorem gB.uniq{S:AS}{l:Bs}{n:Int}{V V':VerL}(h:gB S l n V)(h2:gB S l n V'):V=V':=by
 have:=h.2.2;rw[h2.2.2]at this;exact(Option.some.inj this).symm
def bK(S:AS)(sp:List (Nat×Nat×Nat)):AS:={ S with A:={ S.A with spare:=sp } }
theorem ArOk.spare{S:AS}(h:ArOk S){sp:List (Nat×Nat×Nat)}(ha:AreaOk { S.A with spare:=sp }):ArOk (bK S sp) where
 dev:=h.dev
 n16:=h.n16
 nmax:=h.nmax
 area:=ha
 first:=h.first
 count:=h.count
 end_:=h.end_
 tail:=h.tail
 dat:=h.dat
 paths:=h.paths
 tags:=h.tags
 chunks:=h.chunks
 kin:=h.kin
 kat:=h.kat
 vers:=h.vers
 some:=h.some
 sound:=h.sound
 ep:=h.ep
theorem ArB.spare{S:AS}{b:Nat}(h:ArB S b)(sp:List (Nat×Nat×Nat)):ArB (bK S sp) b where
 K:=h.K
 np:=h.np
 nt:=h.nt
 vers:=h.vers
 tags:=h.tags
 used:=h.used
 sc:=h.sc
 sb:=h.sb
 quota:=h.quota
 chs:=h.chs
theorem Link.spare{S:AS}{R:RefL}(L:Link S R)(sp:List (Nat×Nat×Nat)):Link (bK S sp) R where
 closed:=L.closed
 quota:=L.quota
 used:=L.used
 vers:=L.vers
 sorted:=L.sorted
 asc:=L.asc
 each:=L.each
 tags:=L.tags
 tsort:=L.tsort
 teach:=L.teach
 held:=L.held
end
section
open Go.RowKit
end
section
open Go.RowKit Go.Maps
structure SlB where
 val:Value
 bs:Bs
def oC(l:List Bs)(c:Bs):List Bs:=if c∈l then l else l++[c]
def eF(l:List Bs)(cs:List Bs):List Bs:=cs.foldl oC l
theorem E9(l cs:List Bs):(eF l cs).length<=l.length+cs.length:=by
 unfold eF;induction cs generalizing l with
 | nil=>simp
 | cons c r ih =>
  have h1:=ih (oC l c);have h2:(oC l c).length<=l.length+1:=by unfold oC;split<;>simp
  simp only[foldl_cons,length_cons];omega
structure OpL where
 kind:Int
 a:Int
 b:Int
 c:Int
 s:Bs
 t:Bs
 dv:Value
 d:Bs
def opV(o:OpL):List Value:=[.int .i64 o.kind,.int .i64 o.a,.int .i64 o.b,.int .i64 o.c,str o.s,str o.t,o.dv]
def uo(l:List OpL):List Value:=l.flatMap opV
def I63(n:Int):Prop:=-9223372036854775808<=n/\n<=9223372036854775807
structure OpOk (w:World) (o:OpL):Prop where
 a:I63 o.a
 b:I63 o.b
 c:I63 o.c
 s:o.s.length<=1125899906842624
 t:o.t.length<=1125899906842624
 d:o.d.length<=1125899906842624
 dv:∃sl cap,o.dv=.slice sl o.d.length cap/\o.d.length<=cap/\cap<=9223372036854775807/\al w sl (o.d.map am)
theorem jo(l:List OpL):(uo l).length=l.length*7:=by
 induction l with
 | nil=>rfl
 | cons a r ih=>simp only[uo,flatMap_cons,length_append,length_cons]at ih ⊢;rw[ih];simp[opV];omega
theorem yo:∀(l:List OpL) (i:Nat) (h:i<l.length) (j:Nat) (_:j<7),(uo l)[i*7+j]?=(opV l[i])[j]?
 | [],i,h,_,_=>by simp at h
 | a::r,0,_,j,hj=>by
  simp only[uo,flatMap_cons,Nat.zero_mul,Nat.zero_add,getElem_cons_zero]
  rw[getElem?_append_left (by simpa[opV]using hj)]
 | a::r,i+1,h,j,hj=>by
  simp only[uo,flatMap_cons,getElem_cons_succ]
  rw[getElem?_append_right (by simp[opV];omega),show(i+1)*7+j-(opV a).length=i*7+j by simp[opV];omega]
  exact yo r i (by simpa using h) j hj
theorem KM{w:World}{sl:Option Addr}{l:List OpL}(h:al w sl (uo l)){i:Nat}(hi:i<l.length):∃g off,sl=some ⟨g,off,none⟩ /\
  w.cell? ⟨g,off+i*7,none⟩=some (.int .i64 l[i].kind)/\w.cell? ⟨g,off+i*7+1,none⟩=some (.int .i64 l[i].a)/\w.cell? ⟨g,off+i*7+2,none⟩=some (.int .i64 l[i].b)/\w.cell? ⟨g,off+i*7+3,none⟩=some (.int .i64 l[i].c) /\
  w.cell? ⟨g,off+i*7+4,none⟩=some (str l[i].s)/\w.cell? ⟨g,off+i*7+5,none⟩=some (str l[i].t)/\w.cell? ⟨g,off+i*7+6,none⟩=some l[i].dv:=by
 obtain⟨g,off,e,hc⟩:=h (by rw[jo];omega)
 have key:∀j (hj:j<7) (v:Value),(opV l[i])[j]?=some v->w.cell? ⟨g,off+i*7+j,none⟩=some v:=by
  intro j hj v hv;have h1:=hc (i*7+j) (by rw[jo];omega);rw[<- Nat.add_assoc]at h1;rw[h1];have h2:=yo l i hi j hj;rw[hv,getElem?_eq_getElem (by rw[jo];omega)]at h2;exact h2
 exact⟨g,off,e,key 0 (by omega) _ rfl,key 1 (by omega) _ rfl,key 2 (by omega) _ rfl,key 3 (by omega) _ rfl,key 4 (by omega) _ rfl,key 5 (by omega) _ rfl,key 6 (by omega) _ rfl⟩
def rP(o:OpL):Nat:=o.s.length+o.t.length+o.d.length
def dy(l:List OpL):Nat:=(l.map rP).sum
def lZ(l:List OpL):Bool:=decide (l.length<=400)&&decide (dy l<=60000)
theorem rR{l:List OpL}{k:Nat}(h:k<l.length):dy (l.take (k+1))=dy (l.take k)+rP l[k]:=by
 unfold dy;rw[QH h,map_append,sum_append];simp
theorem qQ(l:List OpL)(k:Nat):dy (l.take k)<=dy l:=by
 unfold dy;have:(l.map rP).sum=((l.take k).map rP).sum+((l.drop k).map rP).sum:=by rw[<- sum_append,<- map_append,take_append_drop]
 omega
theorem Bn(l:List OpL)(sl:Option Addr)(cap:Nat)(w:World)(h:al w sl (uo l))(hok:∀o∈l,OpOk w o)(hcap:l.length<=1125899906842624):
  Calls Tryz.prog 13 #[.slice sl l.length cap] w (fun e w'=>e=.returned (.bool (lZ l))/\aX w w'):=by
 have HH:=Hq2 h hok;clear h hok;go_enter Tryz.func13,Tryz.ntmps13;by_cases h4:400<l.length
 ·have hfin:lZ l=false:=by unfold lZ;rw[decide_eq_false (by omega)];rfl
  have HF:=qqH hfin;clear hfin;go_wp2_with fail;go_ret;exact ⟨by rw[HF.out];rfl,Mods.refl _ _⟩
 ·go_wp2_with fail;go_loopw [3,4] (fun n i wr=>∃k:Nat,k<=l.length/\i=.int .i64 k/\n=.int .i64 (dy (l.take k):Nat)/\dy (l.take k)<=60000/\aX w wr) (fun _ i _=>l.length-(intOf i).toNat)
  case atStart=>exact⟨0,Nat.zero_le _,rfl,rfl,by simp[dy],Mods.refl _ _⟩
  case round =>
   obtain⟨k,hk,rfl,rfl,hle,hs⟩:=hrel;by_cases hlt:k<l.length
   ·obtain⟨g,off,hg,-,-,-,-,h5,h6,h7⟩:=KM (HH.a.keep hs (fun _ _ _=>id)) hlt;have hoo:=HH.z l[k] (getElem_mem hlt);obtain⟨dsl,dcap,hdv,-,-,-⟩:=hoo.dv;rw[hdv]at h7;have hnx:=rR hlt;have hb1:=hoo.s;have hb2:=hoo.t;have hb3:=hoo.d;unfold rP at hnx;subst hg;obtain⟨os,hos⟩:∃os,os=l[k].s:=⟨_,rfl⟩;obtain⟨ot,hot⟩:∃ot,ot=l[k].t:=⟨_,rfl⟩;obtain⟨od,hod⟩:∃od,od=l[k].d:=⟨_,rfl⟩;rw[<- hos]at h5 hnx hb1;rw[<- hot]at h6 hnx hb2;rw[<- hod]at h7 hnx hb3;obtain⟨n,hn⟩:∃n,n=dy (l.take k):=⟨_,rfl⟩;rw[<- hn]at hnx hle ⊢;have hw1:wrap64 ((n:Int)+os.length)=(n:Int)+os.length:=IntWalk.wrap64_in _ (by omega);have hw2:wrap64 ((n:Int)+os.length+ot.length)=(n:Int)+os.length+ot.length:=IntWalk.wrap64_in _ (by omega);have hw3:wrap64 ((n:Int)+os.length+ot.length+od.length)=(n:Int)+os.length+ot.length+od.length:=IntWalk.wrap64_in _ (by omega);have HX:=Hq2 hnx hs;have hk4:k<=400:=by omega
    clear hnx hs hoo hdv hos hot hod hn;by_cases hbig:(60000:Int)<(n:Int)+os.length+ot.length+od.length
    ·have hfin:lZ l=false:=by
      unfold lZ;have h1:=qQ l (k+1);rw[HX.a]at h1;rw[decide_eq_false (p:=dy l<=60000) (by omega),Bool.and_false]
     have HF:=qqH hfin;clear hfin;go_upto_region 7 with(fail);go_quiet (fail);go_wp2_with fail;go_ret;exact ⟨by rw[HF.out];rfl,HX.z.drewN _⟩
    ·have hbig':¬(n:Int)+os.length+ot.length+od.length>60000:=hbig;go_upto_region 7 with(fail);go_quiet (fail);go_wp2_with fail;go_roundw
     case rel=>exact⟨k+1,by omega,by go_num,by rw[HX.a];go_num,by rw[HX.a];omega,HX.z.drewN _⟩
     case measure=>simp[intOf];omega
   ·obtain rfl:k=l.length:=by omega
    rw[take_length]at hle;have hfin:lZ l=true:=by unfold lZ;rw[decide_eq_true (by omega),decide_eq_true hle];rfl
    have HF:=qqH hfin;clear hfin;go_wp2_with fail;go_ret;exact ⟨by rw[HF.out];rfl,hs⟩
theorem Im{w:World}{sl:Option Addr}{l:List EntL}(h:al w sl (l.flatMap cr)){i:Nat}(hi:i<l.length):∃g off,sl=some ⟨g,off,none⟩ /\
  w.cell? ⟨g,off+i*4,none⟩=some (str l[i].p)/\w.cell? ⟨g,off+i*4+1,none⟩=some (.int .i64 l[i].latest)/\w.cell? ⟨g,off+i*4+2,none⟩=some (.int .i64 l[i].size)/\w.cell? ⟨g,off+i*4+3,none⟩=some (.int .i64 l[i].n):=by
 obtain⟨g,off,e,hc⟩:=h (by rw[gG];omega)
 have key:∀j (hj:j<4) (v:Value),(cr l[i])[j]?=some v->w.cell? ⟨g,off+i*4+j,none⟩=some v:=by
  intro j hj v hv;have h1:=hc (i*4+j) (by rw[gG];omega);rw[<- Nat.add_assoc]at h1;rw[h1];have h2:=pR l (i*4+j) (by omega);rw[show(i*4+j) / 4=i by omega,show(i*4+j)%4=j by omega]at h2;simp only[getElem!_toArray,getElem!_pos l i hi]at h2;rw[getElem?_eq_getElem (by rw[gG];omega)]at h2;rw[h2]
  have:(cr l[i])[j]! = v := by
   rw[getElem!_eq_getElem?_getD,hv];rfl
  rw[this]
 exact⟨g,off,e,key 0 (by omega) _ rfl,key 1 (by omega) _ rfl,key 2 (by omega) _ rfl,key 3 (by omega) _ rfl⟩
def rq(es rs:List EntL)(w:World)(e:Ending)(w':World):Prop:=∃b,e=.returned (.bool b)/\(es=rs->b=true)/\aX w w'
theorem qi(es rs:List EntL)(a1 a2:Option Addr)(c1 c2:Nat)(w:World)(h1:al w a1 (es.flatMap cr))(h2:al w a2 (rs.flatMap cr))(hx:es.length<=1000000)(hy:rs.length<=1000000):
  Calls Tryz.prog 91 #[.slice a1 es.length c1,.slice a2 rs.length c2] w (rq es rs w):=by
 have HH:=Hq2 h1 h2;clear h1 h2;go_enter Tryz.func91,Tryz.ntmps91;by_cases hl:es.length=rs.length
 ·have hlI:((es.length:Int) != (rs.length:Int))=false:=by simp[hl]
  have HL:=qqH hl;clear hl;go_wp2_with fail;go_loopw [5] (fun i wr=>∃k:Nat,k<=es.length/\i=.int .i64 k/\aX w wr) (fun i _=>es.length-(intOf i).toNat)
  case atStart=>exact⟨0,Nat.zero_le _,rfl,Mods.refl _ _⟩
  case round =>
   obtain⟨k,hk,rfl,hs⟩:=hrel;by_cases hlt:k<es.length
   ·obtain⟨g,off,hg,p0,p1,p2,p3⟩:=Im (HH.a.keep hs (fun _ _ _=>id)) hlt;obtain⟨g',off',hg',q0,q1,q2,q3⟩:=Im (HH.z.keep hs (fun _ _ _=>id)) (i:=k) (by rw[<- HL.out];exact hlt);have hkr:k<rs.length:=by rw[<- HL.out];exact hlt
    subst hg;subst hg';obtain⟨x,hxd⟩:∃x,x=es[k]:=⟨_,rfl⟩;obtain⟨y,hyd⟩:∃y,y=rs[k]:=⟨_,rfl⟩;rw[<- hxd]at p0 p1 p2 p3;rw[<- hyd]at q0 q1 q2 q3;obtain⟨xp,xl,xs,xn⟩:=x;obtain⟨yp,yl,ys,yn⟩:=y;simp only at p0 p1 p2 p3 q0 q1 q2 q3;have HX:=Hq3 hxd hyd hs;clear hxd hyd hs
    have hno:∀(h:¬(⟨xp,xl,xs,xn⟩:EntL)=⟨yp,yl,ys,yn⟩) (W:World),aX w W->rq es rs w (.returned (.bool false)) W:=fun h W hW=>⟨false,rfl,fun he=>by
     exfalso;apply h;have e1:=HX.a;have e2:=HX.b;subst he;rw[e1,e2],hW⟩
    have HNO:=qqH hno;clear hno;by_cases c1:xp=yp
    ·have c1':=c1.symm;clear c1;subst c1';by_cases c2:xl=yl
     ·subst c2;by_cases c3:xs=ys
      ·subst c3;by_cases c4:xn=yn
       ·subst c4;go_upto_region 6 with(fail);go_quiet (fail);go_wp2_with fail;go_roundw
        case rel=>exact⟨k+1,by omega,by go_num,HX.y.drewN _⟩
        case measure=>simp[intOf];omega
       ·have d4:(xn != yn)=true:=by simp[c4]
        go_upto_region 6 with(fail);go_quiet (fail);go_wp2_with fail;go_ret;exact HNO.out (by simp[c4]) _ (HX.y.drewN _)
      ·have d3:(xs != ys)=true:=by simp[c3]
       go_upto_region 6 with(fail);go_quiet (fail);go_wp2_with fail;go_ret;exact HNO.out (by simp[c3]) _ (HX.y.drewN _)
     ·have d2:(xl != yl)=true:=by simp[c2]
      go_upto_region 6 with(fail);go_quiet (fail);go_wp2_with fail;go_ret;exact HNO.out (by simp[c2]) _ (HX.y.drewN _)
    ·have d1:(xp==yp)=false:=by simp[c1]
     go_upto_region 6 with(fail);go_quiet (fail);go_wp2_with fail;go_ret;exact HNO.out (by simp[c1]) _ (HX.y.drewN _)
   ·obtain rfl:k=es.length:=by omega
    go_wp2_with fail;go_ret;exact ⟨true,rfl,fun _=>rfl,hs⟩
 ·have hlI:((es.length:Int) != (rs.length:Int))=true:=by simp;omega
  go_wp2_with fail;go_ret;exact ⟨false,rfl,fun he=>by subst he;exact absurd rfl hl,Mods.refl _ _⟩
structure WS where
 U:WorldL
 S:AS
 R:RefL
 P:dE
 M:List SlB
 O:Bs
 J:HF:=[]
def oO(o:OpL):Obj:=.cells (opV o).toArray 65 (0,0)
def opA(o:OpL):Value:=.agg (opV o).toArray
def Mi(X:WS)(sp:List (Nat×Nat×Nat))(ov wv:Value)(D:Bs):WS:={ X with U:={ X.U with out:=ov,want:=wv },S:=bK X.S sp,O:=D }
theorem qM(n:Int)(w:World):Calls Tryz.prog 41 #[.int .i64 n] w (fun e w'=>e=.returned (.int .i64 n)/\w'=w):=by
 go_enter Tryz.func41,Tryz.ntmps41;go_wp2_with fail;go_ret;exact ⟨rfl,rfl⟩
end
section
section
variable {P:Program} {w:World}
def Hu(ops:Array Oper)(n:Nat):Bool:=(range ops.size).all fun t=>decide (t<=n) || (range t).any fun j=>decide (n<=j)&&Region.waitsFor .any ops t j
def KI(l:List Oper)(n:Nat):Bool :=
 (l.take (n+1)).all (fun o=>o.guard.isNone)&&(range (n+1)).all (fun i=>(l[i]?).all fun o=>o.after.toList.all fun e => !Region.binds .any e || decide (e.on<i))&&decide (n<l.length)&&Hu l.toArray n &&
 Region.lexTailB .any (l.take (n+1)).toArray n&&Region.noSelect l.toArray&&Region.lexFrom .any l.toArray (l.length-(n+1)) (n+1) (Array.replicate (n+1) true++Array.replicate (l.length-(n+1)) false)
theorem Ah(c:Array Bool)(m k:Nat):(c++Array.replicate m false).getD k false=c.getD k false:=by
 rcases Nat.lt_or_ge k c.size with h|h
 ·simp[Array.getElem?_append,h]
 ·rcases Nat.lt_or_ge (k-c.size) m with h2|h2
  ·simp[Array.getElem?_append,Nat.not_lt.2 h,h2]
  ·have:¬k<c.size+m:=by omega
   simp[Array.getElem?_append,Nat.not_lt.2 h,Nat.not_lt.2 h2]
theorem Hp{c:Array Bool}{m k:Nat}{x:Bool}(h:k<c.size):(c++Array.replicate m false).getD k x=c.getD k x:=by simp[Array.getElem?_append,h]
theorem nI{l:List Oper}{n m:Nat}(_:n<l.length){c:Array Bool}(hc:c.size=n+1){i:Nat}(hi:i<=n):i∈Region.ready .any l.toArray (c++Array.replicate m false)↔i∈Region.ready .any (l.take (n+1)).toArray c:=by
 have e:(l.take (n+1)).toArray[i]?=l.toArray[i]?:=by simp[Nat.lt_succ_of_le hi]
 rw[mem_ready,mem_ready,e,Hp (by omega)];simp only[Ah]
theorem wV{l:List Oper}{n m:Nat}{c:Array Bool}(hc:c.size=n+1)(hb:Hu l.toArray n=true){i:Nat}(hi:n<i)(h:i∈Region.ready .any l.toArray (c++Array.replicate m false)):c.getD n false=true:=by
 obtain⟨-,o,h2,h3⟩:=mem_ready.1 h;have hil:i<l.toArray.size:=(Array.getElem?_eq_some_iff.1 h2).1;have h4:=all_eq_true.1 hb i (mem_range.2 hil);simp only[Bool.or_eq_true,decide_eq_true_eq,Nat.not_le.2 hi,false_or]at h4;obtain⟨j,hj,hj2⟩:=any_eq_true.1 h4;simp only[Bool.and_eq_true,decide_eq_true_eq]at hj2;obtain⟨o',ho',e,he,hbi,rfl⟩:=Region.waitsFor_spec hj2.2;obtain rfl:=Option.some.inj (h2.symm.trans ho');have h5:=h3 e he hbi;rw[Ah]at h5
 have:e.on<c.size:=by
  rcases Nat.lt_or_ge e.on c.size with h|h
  ·exact h
  ·simp[Array.getElem?_eq_none h]at h5
 have:e.on=n:=by omega
 rw[<- this];exact h5
theorem EJ{c r:Array Bool}{i:Nat}(h:i<c.size):(c++r).setIfInBounds i true=c.setIfInBounds i true++r:=by rw[Array.setIfInBounds_append_left h]
theorem Gq{l:List Oper}{n i:Nat}{K:Act->Prop}{a:Act}(hi:i<=n)(hg:∀o∈l.take (n+1),o.guard=none)(h:stOp P (l.take (n+1)).toArray w i K a):stOp P l.toArray w i K a:=by
 have e:(l.take (n+1)).toArray[i]?=l.toArray[i]?:=by simp[Nat.lt_succ_of_le hi]
 unfold stOp at h ⊢;rw[<- e];split at h
 ·exact h
 ·rename_i o ho
  have hm:o∈l.take (n+1):=by
   have:(l.take (n+1))[i]?=some o:=by simpa using ho
   exact mem_of_getElem? this
  have hw:∀y,Region.wanted o y=true:=fun y=>by simp[Region.wanted,hg o hm]
  rw[hw]at h ⊢;exact h
theorem El{l:List Oper}{n m g:Nat}{Q:Exit->Act->World->Prop}{L:Array Bool->Act->Prop}(hn:n<l.length)(hb:Hu l.toArray n=true)(hg:∀o∈l.take (n+1),o.guard=none)(hL:∀c a,c.size=n+1->c.getD n false=false->L c a->wpAny P .any l.toArray Q g (c++Array.replicate m false) a w):∀(f:Nat) (c:Array Bool) (a:Act),c.size=n+1->c.getD n false=false->wpAnyL P .any (l.take (n+1)).toArray w n L f c a->wpAny P .any l.toArray Q (f+g) (c++Array.replicate m false) a w
 | 0,c,a,hc,hu,h=>by rw[Nat.zero_add];exact hL c a hc hu h
 | f+1,c,a,hc,hu,h=>by
  rw[show f+1+g=(f+g)+1 by omega]
  obtain⟨i0,hi0⟩:=exists_mem_of_ne_nil _ h.1
  refine⟨fun h0=>?_,fun i hi=>?_⟩
  ·have h1:=(nI (m:=m) hn hc (by have:=(h.2 i0 hi0).1;omega)).2 hi0
   rw[h0]at h1;cases h1
  ·rcases Nat.lt_or_ge n i with hlt|hle
   ·have:=wV hc hb hlt hi
    rw[hu]at this;cases this
   ·obtain⟨h1,h2⟩:=h.2 i ((nI hn hc hle).1 hi)
    refine wpOp_of_stOp (fun a' h'=>?_) (Gq hle hg h2)
    rw[EJ (by omega)]
    exact El hn hb hg hL f _ a' (by simp[hc]) (by rw[getD_set_ne false (by omega)];exact hu) h'
theorem Ci{ops:Array Oper}{c:Array Bool}(hb:∀i o,ops[i]?=some o->∀e∈o.after,Region.binds .any e=true->e.on<i)(h:Region.ready .any ops c=[])(hc:c.size=ops.size):∀i,i<c.size->c.getD i false=true:=by
 intro i;induction i using Nat.strongRecOn with
 | _ i ih =>
  intro hi
  cases hl:c.getD i false with
  | true=>rfl
  | false =>
   exfalso;have ho:ops[i]?=some ops[i]:=Array.getElem?_eq_getElem (by omega);have:i∈Region.ready .any ops c:=mem_ready.2 ⟨getD_in hi hl,_,ho,fun e he hbi=>ih e.on (hb i _ ho e he hbi) (by have:=hb i _ ho e he hbi;omega)⟩;rw[h]at this;cases this
theorem jq{id:Nat}{Q:Exit->Act->World->Prop}{a:Act}{l:List Oper}{o:Oper}(n:Nat)(hm:P.follows .mixedOrders=true)(hB:KI l n=true)(ho:l[n]?=some o)(h:wpStill P (l.take (n+1)).toArray w.drew (fun a'=>o.wp P a' w.drew (fun a2 w2=>wpStill P l.toArray w2 (fun a3=>Q .normal a3 w2) (l.drop (n+1)) a2) Q) (l.take n) a):(Code.region id l.toArray true).wp P Q a w:=by
 simp only[KI,Bool.and_eq_true,decide_eq_true_eq]at hB;obtain⟨⟨⟨⟨⟨⟨hgu,hba⟩,hn⟩,hbk⟩,hlt⟩,hns⟩,hlf⟩:=hB;have hg:∀o∈l.take (n+1),o.guard=none:=fun o ho=>by simpa using all_eq_true.1 hgu o ho
 simp only[Region.lexTailB,Bool.and_eq_true,decide_eq_true_eq]at hlt;obtain⟨⟨⟨⟨hsel,hn1⟩,hs⟩,hch⟩,hlex⟩:=hlt;have hsz:(l.take (n+1)).toArray.size=n+1:=by simp;omega
 have htl:(l.take n).length=n:=by simp;omega
 rw[hsz]at hlex hn1
 have inv0:HeadInv .any (l.take (n+1)).toArray n (Array.replicate (n+1) false) :=
  ⟨by rw[hsz];simp,fun j oj _ hl=>(by rw[getD_replicate_false]at hl;cases hl),fun t _ ht=>getD_in (by rw[hsz]at ht;simpa using ht) (getD_replicate_false _ _)⟩
 have H:=wpAnyL_lex (P:=P) (md:=.any) (w:=w.drew) (g:=n+1-n) hsel hs hch (by omega) (l.take n) 0 (Array.replicate (n+1) false) a (fun j hj=>by
  rw[htl]at hj;simp[hj,Nat.lt_succ_of_lt hj]) (by simpa using htl) inv0 (by rw[htl];exact hlex) h
 rw[htl,show n+1-n=1 by omega]at H;obtain⟨m,hmm⟩:∃m,m=l.length-(n+1):=⟨_,rfl⟩
 have hrep:Array.replicate l.toArray.size false=Array.replicate (n+1) false++Array.replicate m false:=by
  rw[Array.replicate_append_replicate];congr 1;simp;omega
 refine wp_region_any hm ?_;rw[hrep,show l.toArray.size=n+(1+m) by simp;omega];refine El hn hbk hg (fun c a' hc hu hL=>?_) n _ a (by simp) (getD_replicate_false _ _) H;obtain⟨hq,hw⟩:=hL;simp only[Region.seqB,Bool.and_eq_true,decide_eq_true_eq,isEmpty_iff]at hq
 have hall:c.setIfInBounds n true=Array.replicate (n+1) true:=by
  have h1:=Ci (ops:=(l.take (n+1)).toArray) (c:=c.setIfInBounds n true) (fun i o' ho' e he hbi=>by
   have hi:i<n+1:=by have:=(Array.getElem?_eq_some_iff.1 ho').1;omega
   have h2:=all_eq_true.1 hba i (mem_range.2 hi);have h3:l[i]?=some o':=by simpa[getElem?_take,hi]using ho'
   rw[h3]at h2;simp only[Option.all_some]at h2;have h4:=all_eq_true.1 h2 e (by simpa using he);simpa[hbi]using h4) hq.2 (by rw[hsz];simpa using hc)
  refine Array.ext (by simp[hc]) fun i hi1 hi2=>?_
  have h2:=h1 i hi1;rw[Array.getElem_replicate];rw[Array.getD_eq_getD_getElem?,Array.getElem?_eq_getElem hi1]at h2;exact h2
 have hwn:∀y,Region.wanted o y=true:=fun y=>by
  have:o∈l.take (n+1):=by
   have h1:(l.take (n+1))[n]?=some o:=by simpa[getElem?_take]using ho
   exact mem_of_getElem? h1
  simp[Region.wanted,hg o this]
 have hon:l.toArray[n]?=some o:=by simpa using ho
 rw[Nat.add_comm 1 m];refine⟨fun h0=>?_,fun i hi=>?_⟩
 ·have:n∈Region.ready .any l.toArray (c++Array.replicate m false):=(nI hn hc (Nat.le_refl n)).2 (by rw[hq.1];simp);rw[h0]at this;cases this
 ·have hin:i=n:=by
   rcases Nat.lt_or_ge n i with hlt|hle
   ·have:=wV hc hbk hlt hi;rw[hu]at this;cases this
   ·have:=(nI hn hc hle).1 hi;rw[hq.1]at this;simpa using this
  subst hin;unfold wpOp;simp only[hon,hwn,if_true];refine .inl (Oper.wp_mono (fun a2 w2 h2=>?_) hw);rw[EJ (by omega),hall];have h3:=wpAnyS_lex (P:=P) (md:=.any) (w:=w2) hns (l.drop (i+1)) (i+1) (Array.replicate (i+1) true++Array.replicate m false) a2 (fun j=>by simp[getElem?_drop]) (by rw[length_drop,<- hmm];rw[<- hmm]at hlf;exact hlf) h2;rw[length_drop,<- hmm]at h3;exact wpAny_of_still (fun _ h=>h) _ _ _ h3
end
end
section
open Go.RowKit Go.Maps
theorem mR(vs:List RVer)(v:RVer)(p:Bs):aD (vs++[v]) p=aD vs p++(if v.path=p then[v]else[]):=by
 unfold aD;rw[filter_append];congr 1;by_cases h:v.path=p<;>simp[h]
def rF(vs:List RVer)(p:Bs):EntL:=⟨p,((aD vs p).getLast?.map (·.num)).getD 0,((aD vs p).getLast?.map (fun v=>(v.cont.length:Int))).getD 0,(aD vs p).length⟩
structure EntInv (pre:Bs) (vs:List RVer) (es:List EntL):Prop where
 asc:es.Pairwise (fun a b=>bJ a.p b.p=true)
 ent:∀e∈es,pre.isPrefixOf e.p=true/\(∃v∈vs,v.path=e.p)/\e=rF vs e.p
 all:∀v∈vs,pre.isPrefixOf v.path=true->∃e∈es,e.p=v.path
theorem mJ{vs:List RVer}{v:RVer}{p:Bs}(h:¬v.path=p):rF (vs++[v]) p=rF vs p:=by
 unfold rF;rw[mR,if_neg h,append_nil]
theorem oM{vs:List RVer}{v:RVer}:rF (vs++[v]) v.path=⟨v.path,v.num,v.cont.length,(aD vs v.path).length+1⟩:=by
 unfold rF;rw[mR,if_pos rfl];simp
theorem EntInv.step{pre:Bs}{vs:List RVer}{es:List EntL}(h:EntInv pre vs es){v:RVer}(hs:∀u∈vs,bJ v.path u.path=false):EntInv pre (vs++[v]) (gN pre es v):=by
 unfold gN;by_cases hp:pre.isPrefixOf v.path=true
 ·rw[if_pos hp]
  have hle:∀e∈es,bJ v.path e.p=false:=fun e he=>by
   obtain⟨u,hu,e1⟩:=(h.ent e he).2.1;rw[<- e1];exact hs u hu
  rcases eq_nil_or_concat es with rfl|⟨es0,e,rfl⟩
  ·have hno:aD vs v.path=[]:=by
    unfold aD;rw[filter_eq_nil_iff];intro u hu;simp only[decide_eq_true_eq];intro e1;obtain⟨x,hx,-⟩:=h.all u hu (by rw[e1];exact hp)
    cases hx
   have e1:mK (eL [] v.path) v.num v.cont.length=[⟨v.path,v.num,v.cont.length,0+1⟩]:=rfl;rw[e1];refine⟨pairwise_singleton _ _,fun e he=>?_,fun u hu hpu=>?_⟩
   ·obtain rfl:=mem_singleton.1 he;refine⟨hp,⟨v,by simp,rfl⟩,?_⟩;simp only;rw[oM,hno];rfl
   ·rcases mem_append.1 hu with hu|hu
    ·obtain⟨x,hx,-⟩:=h.all u hu hpu;cases hx
    ·obtain rfl:=mem_singleton.1 hu;exact⟨_,mem_singleton.2 rfl,rfl⟩
  ·rw[concat_eq_append]at h hle ⊢;have hpw:=pairwise_append.1 h.asc;by_cases hep:e.p=v.path
   ·have e1:eL (es0++[e]) v.path=es0++[e]:=by unfold eL;rw[if_pos (by simp[hep])]
    rw[e1,kr];have hn:=(h.ent e (by simp)).2.2;have hen:e.n=((aD vs v.path).length:Nat):=by rw[hn,<- hep];rfl
    have hlt:∀x∈es0,bJ x.p v.path=true:=fun x hx=>by have:=hpw.2.2 x hx e (by simp);rw[hep]at this;exact this
    refine⟨pairwise_append.2 ⟨hpw.1,pairwise_singleton _ _,fun x hx y hy=>?_⟩,fun x hx=>?_,fun u hu hpu=>?_⟩
    ·obtain rfl:=mem_singleton.1 hy;simp only;rw[hep];exact hlt x hx
    ·rcases mem_append.1 hx with hx|hx
     ·obtain⟨a1,⟨u,hu,a2⟩,a3⟩:=h.ent x (by simp[hx]);refine⟨a1,⟨u,by simp[hu],a2⟩,?_⟩;rw[mJ]
      ·exact a3
      ·intro e2;have:=hlt x hx;rw[e2,b5]at this;cases this
     ·obtain rfl:=mem_singleton.1 hx;refine⟨by simp only;rw[hep];exact hp,⟨v,by simp,hep.symm⟩,?_⟩;simp only;rw[hep,oM,hen]
    ·rcases mem_append.1 hu with hu|hu
     ·obtain⟨x,hx,a1⟩:=h.all u hu hpu;rcases mem_append.1 hx with hx|hx
      ·exact⟨x,by simp[hx],a1⟩
      ·obtain rfl:=mem_singleton.1 hx;exact⟨_,mem_append_right _ (mem_singleton.2 rfl),a1⟩
     ·obtain rfl:=mem_singleton.1 hu;exact⟨_,mem_append_right _ (mem_singleton.2 rfl),hep⟩
   ·have e1:eL (es0++[e]) v.path=es0++[e]++[⟨v.path,0,0,0⟩]:=by unfold eL;rw[if_neg (by simp[hep])]
    rw[e1,kr]
    have hlt:∀x∈es0++[e],bJ x.p v.path=true:=fun x hx=>by
     cases hb:bJ x.p v.path with
     | true=>rfl
     | false =>
      have hxe:=jX _ _ hb (hle x hx);exfalso;rcases mem_append.1 hx with hx2|hx2
      ·have h2:=hpw.2.2 x hx2 e (by simp);rw[hxe]at h2;have:=hle e (by simp);rw[h2]at this;cases this
      ·obtain rfl:=mem_singleton.1 hx2;exact hep hxe
    have hno:aD vs v.path=[]:=by
     unfold aD;rw[filter_eq_nil_iff];intro u hu;simp only[decide_eq_true_eq];intro e2;obtain⟨x,hx,e3⟩:=h.all u hu (by rw[e2];exact hp);have:=hlt x hx;rw[e3,e2,b5]at this;cases this
    refine⟨pairwise_append.2 ⟨h.asc,pairwise_singleton _ _,fun x hx y hy=>?_⟩,fun x hx=>?_,fun u hu hpu=>?_⟩
    ·obtain rfl:=mem_singleton.1 hy;exact hlt x hx
    ·rcases mem_append.1 hx with hx|hx
     ·obtain⟨a1,⟨u,hu,a2⟩,a3⟩:=h.ent x hx;refine⟨a1,⟨u,by simp[hu],a2⟩,?_⟩;rw[mJ]
      ·exact a3
      ·intro e2;have:=hlt x hx;rw[e2,b5]at this;cases this
     ·obtain rfl:=mem_singleton.1 hx;refine⟨hp,⟨v,by simp,rfl⟩,?_⟩;simp only;rw[oM,hno];rfl
    ·rcases mem_append.1 hu with hu|hu
     ·obtain⟨x,hx,a1⟩:=h.all u hu hpu;exact⟨x,mem_append_left _ hx,a1⟩
     ·obtain rfl:=mem_singleton.1 hu;exact⟨_,mem_append_right _ (mem_singleton.2 rfl),rfl⟩
 ·rw[if_neg hp];refine⟨h.asc,fun e he=>?_,fun u hu hpu=>?_⟩
  ·obtain⟨a1,⟨u,hu,a2⟩,a3⟩:=h.ent e he;refine⟨a1,⟨u,by simp[hu],a2⟩,?_⟩;rw[mJ]
   ·exact a3
   ·intro e2;rw[e2]at hp;exact hp a1
  ·rcases mem_append.1 hu with hu|hu
   ·exact h.all u hu hpu
   ·obtain rfl:=mem_singleton.1 hu;exact absurd hpu hp
theorem wu(pre:Bs){vs:List RVer}(hs:vs.Pairwise (fun a b=>bJ b.path a.path=false)):∀k,k<=vs.length->EntInv pre (vs.take k) (eW pre (vs.take k))
 | 0,_=>⟨Pairwise.nil,(fun e he=>by cases he),(fun v hv=>by cases hv)⟩
 | k+1,hk=>by
  rw[tP (by omega),QH (by omega)]
  refine(wu pre hs k (by omega)).step (fun u hu=>?_)
  have h1:=pairwise_iff_getElem.1 hs
  obtain⟨i,hi,rfl⟩:=getElem_of_mem hu
  rw[length_take]at hi
  rw[getElem_take]
  exact h1 i k (by omega) (by omega) (by omega)
theorem Fx(pre:Bs){vs:List RVer}(hs:vs.Pairwise (fun a b=>bJ b.path a.path=false)):EntInv pre vs (eW pre vs):=by
 have:=wu pre hs vs.length (Nat.le_refl _);rwa [take_length]at this
theorem wY:∀{l m:List EntL},l.Pairwise (fun a b=>bJ a.p b.p=true)->m.Pairwise (fun a b=>bJ a.p b.p=true)->(∀x,x∈l↔x∈m)->l=m
 | [],[],_,_,_=>rfl
 | [],b::m,_,_,h=>by have:=(h b).2 (by simp);cases this
 | a::l,[],_,_,h=>by have:=(h a).1 (by simp);cases this
 | a::l,b::m,hl,hm,h=>by
  rw[pairwise_cons]at hl hm
  have hirr:∀x y:EntL,bJ x.p y.p=true->x≠y:=fun x y hxy e=>by rw[e,b5]at hxy;cases hxy
  have hab:a=b:=by
   rcases mem_cons.1 ((h a).1 (by simp))with h1|h1
   ·exact h1
   ·rcases mem_cons.1 ((h b).2 (by simp))with h2|h2
    ·exact h2.symm
    ·have h3:=hm.1 a h1;have h4:=hl.1 b h2;rw[lE h3]at h4;cases h4
  subst hab;congr 1;refine wY hl.2 hm.2 (fun x=>⟨fun hx=>?_,fun hx=>?_⟩)
  ·rcases mem_cons.1 ((h x).1 (by simp[hx]))with h1|h1
   ·exact absurd h1.symm (hirr _ _ (hl.1 x hx))
   ·exact h1
  ·rcases mem_cons.1 ((h x).2 (by simp[hx]))with h1|h1
   ·exact absurd h1.symm (hirr _ _ (hm.1 x hx))
   ·exact h1
theorem Ip{ps:List aW}(hn:(ps.map (·.key)).Nodup):∀{p:aW},p∈ps->ps.find? (fun q=>decide (q.key=p.key))=some p:=by
 induction ps with
 | nil=>intro p hp;cases hp
 | cons a r ih =>
  intro p hp;rw[map_cons,nodup_cons]at hn;rcases mem_cons.1 hp with rfl|hp
  ·rw[find?_cons_of_pos (by simp)]
  ·rw[find?_cons_of_neg (by
    simp only[decide_eq_true_eq];intro e;exact hn.1 (e ▸ mem_map.2 ⟨p,hp,rfl⟩))]
   exact ih hn.2 hp
theorem j6{ps:List aW}{c:Nat}(h:PathsOk ps c):(ps.map (·.key)).Nodup:=by
 have:=h.map.nodup;rw[map_map]at this;exact this
theorem eD{ps:List aW}{c:Nat}(h:PathsOk ps c){p:aW}(hp:p∈ps):af ps p.key=p.g:=by
 unfold af gOf;rw[Ip (j6 h) hp]
theorem Link.pEnt{S:AS}{R:RefL}(L:Link S R)(hok:ArOk S){p:aW}(hp:p∈S.ps):pEnt p=rF R.vs p.key/\aD R.vs p.key≠[]:=by
 have hv:=L.vers p.key;rw[eD hok.paths hp]at hv;have hne:=hok.some p hp;have hlen:=congrArg length hv;rw[length_map,length_map]at hlen;have hne2:aD R.vs p.key≠[]:=fun e=>by rw[e]at hlen;exact hne (length_eq_zero_iff.1 hlen)
 refine⟨?_,hne2⟩;have hl:=congrArg getLast? hv;rw[getLast?_map,getLast?_map]at hl;unfold Go.Proofs.YtdhobpbngkainaaGreatDoor.pEnt rF AA
 obtain⟨V,hV⟩:∃V,p.g.getLast?=some V:=by
  cases h:p.g.getLast? with
  | none=>exact absurd (getLast?_eq_none_iff.1 h) hne
  | some V=>exact⟨V,rfl⟩
 obtain⟨v,hv2⟩:∃v,(aD R.vs p.key).getLast?=some v:=by
  cases h:(aD R.vs p.key).getLast? with
  | none=>exact absurd (getLast?_eq_none_iff.1 h) hne2
  | some v=>exact⟨v,rfl⟩
 rw[hV,hv2]at hl;simp only[Option.map_some,Option.some.injEq]at hl;rw[hV,hv2];have h1:(V.num:Int)=v.num:=congrArg (fun t:kJ=>t.1) hl;have h2:da S V=v.cont:=congrArg (fun t:kJ=>t.2.1) hl;have h3:(da S V).length=V.size:=lj hok hp (mem_of_getLast? hV);simp only[Option.getD_some,Option.map_some,h1,EntL.mk.injEq,true_and];exact⟨by rw[<- h3,h2],by rw[hlen]⟩
theorem Link.list{S:AS}{R:RefL}(L:Link S R)(hok:ArOk S)(pre:Bs){es:List EntL}(h:Cd (eG pre S.ps) es):es=eW pre R.vs:=by
 have hI:=Fx pre L.sorted
 have hmem:∀x,x∈es↔∃p∈S.ps,pre.isPrefixOf p.key=true/\x=Go.Proofs.YtdhobpbngkainaaGreatDoor.pEnt p:=fun x=>by
  rw[h.1.mem_iff];unfold eG;simp only[mem_map,mem_filter];exact⟨fun⟨p,⟨h1,h2⟩,h3⟩=>⟨p,h1,h2,h3.symm⟩,fun⟨p,h1,h2,h3⟩=>⟨p,⟨h1,h2⟩,h3.symm⟩⟩
 refine wY ?_ hI.asc (fun x=>?_)
 ·have hnd:(es.map (·.p)).Nodup:=by
   have h1:(es.map (·.p)).Perm ((eG pre S.ps).map (·.p)):=h.1.map _;rw[h1.nodup_iff];unfold eG;rw[map_map];have h2:=j6 hok.paths;have h3:(S.ps.filter (fun p=>pre.isPrefixOf p.key)).map (fun p=>p.key)=((S.ps.filter (fun p=>pre.isPrefixOf p.key)).map ((·.p) ∘ Go.Proofs.YtdhobpbngkainaaGreatDoor.pEnt)):=rfl;rw[<- h3];exact Nodup.sublist (filter_sublist.map _) h2
  rw[pairwise_iff_getElem];intro i j hi hj hij;have h2:=h.2 i j hij hj hi
  cases hb:bJ es[i].p es[j].p with
  | true=>rfl
  | false =>
   exfalso;have he:=jX _ _ hb h2;have h3:=(pairwise_iff_getElem.1 hnd) i j (by simpa using hi) (by simpa using hj) hij;simp only[getElem_map]at h3;exact h3 he
 ·rw[hmem];refine⟨fun⟨p,hp,hpre,he⟩=>?_,fun hx=>?_⟩
  ·obtain⟨h1,h2⟩:=L.pEnt hok hp;obtain⟨v,hv⟩:=exists_mem_of_ne_nil _ h2;obtain⟨hv1,hv2⟩:=mem_filter.1 hv;simp only[decide_eq_true_eq]at hv2;obtain⟨e,he2,he3⟩:=hI.all v hv1 (by rw[hv2];exact hpre);have h3:=(hI.ent e he2).2.2;rw[he3,hv2]at h3;rw[he,h1,<- h3];exact he2
  ·obtain⟨h1,⟨v,hv1,hv2⟩,h3⟩:=hI.ent x hx
   have hne:af S.ps x.p≠[]:=fun e=>by
    have h4:=L.vers x.p;rw[e]at h4;have h5:v∈aD R.vs x.p:=mem_filter.2 ⟨hv1,by simpa using hv2⟩;have h6:=congrArg length h4;rw[length_map,length_map]at h6;have:=length_pos_of_mem h5;simp only[length_nil]at h6;omega
   obtain⟨p,hp,hk,-⟩:=bD hne;refine⟨p,hp,by rw[hk];exact h1,?_⟩;rw[(L.pEnt hok hp).1,hk];exact h3
theorem kp{K K':List (Bs×Nat×Nat)}{q:Nat×Nat}(h:∃e∈K,e.2=q):bm (K++K') q=bm K q:=by
 unfold bm;rw[find?_append];obtain⟨e,he,hq⟩:=h
 cases hf:K.find? (fun e=>decide (e.2=q))with
 | some x=>simp
 | none=>exact absurd hq (by simpa using find?_eq_none.1 hf e he)
theorem gt{α β:Type}{f g:α->List β}:∀{l:List α},(∀x∈l,f x=g x)->l.flatMap f=l.flatMap g
 | [],_=>rfl
 | a::r,h=>by rw[flatMap_cons,flatMap_cons,h a (by simp),gt (fun x hx=>h x (by simp[hx]))]
theorem tB{S S':AS}{K':List (Bs×Nat×Nat)}(hK:S'.K=S.K++K'){V:VerL}(h:∀q∈V.chs,∃e∈S.K,e.2=q):da S' V=da S V:=by
 unfold da;rw[hK];exact gt (fun q hq=>kp (h q hq))
theorem tr{vs:List RVer}(hs:vs.Pairwise (fun a b=>bJ b.path a.path=false))(p:Bs):∀k,k<=vs.length->(∀i (h:i<vs.length),i<ir vs p k->bJ p vs[i].path=false)/\(∀i (h:i<vs.length),ir vs p k<=i->i<k->bJ p vs[i].path=true)
 | 0,_=>⟨fun i _ h=>by simp[ir]at h,fun i _ _ h=>by omega⟩
 | k+1,hk=>by
  obtain⟨h1,h2⟩:=tr hs p k (by omega)
  rw[vY (by omega)]
  cases hb:bJ p vs[k].path with
  | true =>
   rw[if_pos rfl]
   refine⟨h1,fun i hi h3 h4=>?_⟩
   by_cases hik:i=k
   ·subst hik;exact hb
   ·exact h2 i hi h3 (by omega)
  | false =>
   rw[if_neg (by simp)]
   refine⟨fun i hi h3=>?_,fun i hi h3 h4=>by omega⟩
   by_cases hik:i=k
   ·subst hik;exact hb
   ·have h5:=pairwise_iff_getElem.1 hs i k hi (by omega) (by omega)
    cases hb2:bJ p vs[i].path with
    | false=>rfl
    | true =>
     exfalso
     cases h6:bJ vs[k].path p with
     | true=>rw[gQ h6 hb2]at h5;cases h5
     | false =>
      have:=jX _ _ hb h6
      rw[this]at hb2
      rw[h5]at hb2;cases hb2
theorem Ap{vs:List RVer}(hs:vs.Pairwise (fun a b=>bJ b.path a.path=false))(p:Bs):(∀v∈vs.take (ir vs p vs.length),bJ p v.path=false)/\(∀v∈vs.drop (ir vs p vs.length),bJ p v.path=true):=by
 obtain⟨h1,h2⟩:=tr hs p vs.length (Nat.le_refl _);refine⟨fun v hv=>?_,fun v hv=>?_⟩
 ·obtain⟨i,hi,rfl⟩:=getElem_of_mem hv;rw[length_take]at hi;rw[getElem_take];exact h1 i (by omega) (by omega)
 ·obtain⟨i,hi,rfl⟩:=getElem_of_mem hv;rw[length_drop]at hi;rw[getElem_drop];exact h2 _ (by omega) (by omega) (by omega)
theorem C4{vs:List RVer}(hs:vs.Pairwise (fun a b=>bJ b.path a.path=false)){p:Bs}{x:RVer}(hx:x.path=p):(cN vs p x).Pairwise (fun a b=>bJ b.path a.path=false):=by
 obtain⟨h1,h2⟩:=Ap hs p;have h3:(vs.take (ir vs p vs.length)++vs.drop (ir vs p vs.length)).Pairwise (fun a b=>bJ b.path a.path=false):=by rw[take_append_drop];exact hs
 rw[pairwise_append]at h3;unfold cN;rw[pairwise_append,pairwise_append];refine⟨⟨h3.1,pairwise_singleton _ _,fun a ha b hb=>?_⟩,h3.2.1,fun a ha b hb=>?_⟩
 ·obtain rfl:=mem_singleton.1 hb;rw[hx];exact h1 a ha
 ·rcases mem_append.1 ha with ha|ha
  ·exact h3.2.2 a ha b hb
  ·obtain rfl:=mem_singleton.1 ha;rw[hx];exact lE (h2 b hb)
theorem C2{vs:List RVer}(hs:vs.Pairwise (fun a b=>bJ b.path a.path=false)){p:Bs}{x:RVer}(hx:x.path=p)(q:Bs):aD (cN vs p x) q=if q=p then aD vs p++[x]else aD vs q:=by
 obtain⟨h1,h2⟩:=Ap hs p
 have hsplit:∀q,aD vs q=aD (vs.take (ir vs p vs.length)) q++aD (vs.drop (ir vs p vs.length)) q:=fun q=>by
  unfold aD;rw[<- filter_append,take_append_drop]
 have hno:aD (vs.drop (ir vs p vs.length)) p=[]:=by
  unfold aD;rw[filter_eq_nil_iff];intro v hv;simp only[decide_eq_true_eq];intro e;have:=h2 v hv;rw[e,b5]at this;cases this
 have e1:aD (cN vs p x) q=aD (vs.take (ir vs p vs.length)) q++(if p=q then[x]else[])++aD (vs.drop (ir vs p vs.length)) q:=by
  unfold cN aD;rw[filter_append,filter_append];congr 2;by_cases h:p=q<;>simp[hx,h]
 rw[e1];by_cases hq:q=p
 ·subst hq;rw[if_pos rfl,if_pos rfl,hsplit,hno,append_nil,append_nil]
 ·rw[if_neg (fun e=>hq e.symm),if_neg hq,append_nil,<- hsplit]
theorem lO{vs:List RVer}{p:Bs}{x v:RVer}:v∈cN vs p x↔v∈vs\/v=x:=by
 unfold cN;rw[mem_append,mem_append,mem_singleton];constructor
 ·rintro((h|h)|h)
  ·exact .inl (mem_of_mem_take h)
  ·exact .inr h
  ·exact .inl (mem_of_mem_drop h)
 ·rintro(h|h)
  ·rw[<- take_append_drop (ir vs p vs.length) vs]at h;rcases mem_append.1 h with h|h
   ·exact .inl (.inl h)
   ·exact .inr h
  ·exact .inl (.inr h)
theorem IG{vs:List RVer}{p:Bs}{x:RVer}:eT (cN vs p x)=eT vs+x.cont.length:=by
 unfold cN eT;rw[map_append,map_append,sum_append,sum_append]
 have:(vs.map (·.cont.length)).sum=((vs.take (ir vs p vs.length)).map (·.cont.length)).sum+((vs.drop (ir vs p vs.length)).map (·.cont.length)).sum:=by
  rw[<- sum_append,<- map_append,take_append_drop]
 simp only[map_cons,map_nil,sum_cons,sum_nil];omega
theorem Eo{vs:List RVer}{p:Bs}{x:RVer}:(cN vs p x).length=vs.length+1:=by
 unfold cN;have:=xI vs p vs.length;simp;omega
theorem nH(vs:List RVer)(p:Bs):∀k,k<=vs.length->gU vs p k=((aD (vs.take k) p).getLast?.map (·.num)).getD 0+1
 | 0,_=>by simp[gU,aD]
 | k+1,hk=>by
  rw[wM (by omega),QH (by omega),mR]
  by_cases h:vs[k].path=p
  ·rw[if_pos h,if_pos h];simp
  ·rw[if_neg h,if_neg h,append_nil]
   exact nH vs p k (by omega)
theorem Link.nr{S:AS}{R:RefL}(L:Link S R)(l:Bs):gU R.vs l R.vs.length=(eM (af S.ps l):Nat)+1:=by
 rw[nH _ _ _ (Nat.le_refl _),take_length];have h:=congrArg getLast? (L.vers l);rw[getLast?_map,getLast?_map]at h;unfold eM
 cases h1:(af S.ps l).getLast? with
 | none =>
  rw[h1]at h
  cases h2:(aD R.vs l).getLast? with
  | none=>rfl
  | some v=>rw[h2]at h;cases h
 | some V =>
  rw[h1]at h
  cases h2:(aD R.vs l).getLast? with
  | none=>rw[h2]at h;cases h
  | some v =>
   rw[h2]at h;simp only[Option.map_some,Option.some.injEq]at h;have:(V.num:Int)=v.num:=congrArg (fun t:kJ=>t.1) h;simp only[Option.map_some,Option.getD_some];omega
theorem CZ{ts:List RTag}{p:Bs}{n:Int}(h:∀t∈ts,¬(t.path=p/\t.num=n)):iz ts p n=0:=by
 unfold iz;rw[countP_eq_zero.2 (fun t ht=>by simpa using h t ht)];rfl
theorem Link.put{S S':AS}{R:RefL}(L:Link S R)(hok:ArOk S)(hok':ArOk S'){l D:Bs}{V:VerL}(h:PutStep S S' l D V)(hl:aw l=true)(hD:D.length<=4000){vv cv:Value}:
  Link S' { R with vv:=vv,vs:=cN R.vs l ⟨l,gU R.vs l R.vs.length,D,cv,0⟩ }:=by
 have hnr:=L.nr l
 have hpos:∀v∈aD R.vs l,1<=v.num/\v.num<gU R.vs l R.vs.length:=by
  intro v hv;refine⟨(L.each v (mem_filter.1 hv).1).1,?_⟩;rw[nH _ _ _ (Nat.le_refl _),take_length];have ha:=L.asc l;obtain⟨i,hi,rfl⟩:=getElem_of_mem hv;rw[getLast?_eq_getElem?,getElem?_eq_getElem (by omega)];simp only[Option.map_some,Option.getD_some];by_cases hlast:i=(aD R.vs l).length-1
  ·subst hlast;omega
  ·have:=pairwise_iff_getElem.1 ha i ((aD R.vs l).length-1) (by simpa using hi) (by simp;omega) (by omega);simp only[getElem_map]at this;omega
 obtain⟨x,hx⟩:∃x:RVer,x=⟨l,gU R.vs l R.vs.length,D,cv,0⟩:=⟨_,rfl⟩;have hxp:x.path=l:=by rw[hx]
 have hins:=C2 L.sorted hxp;rw[hx]at hins;have hnr1:1<=gU R.vs l R.vs.length:=by rw[hnr];omega
 refine⟨?_,?_,?_,fun p=>?_,C4 L.sorted rfl,fun p=>?_,fun v hv=>?_,?_,L.tsort,fun t ht=>?_,fun v hv=>?_⟩
 ·simp only;rw[h.closed];exact L.closed
 ·simp only;rw[h.quota];exact L.quota
 ·simp only;rw[h.used,L.used,IG];simp only;omega
 ·simp only;rw[h.vers,hins]
  have hold:∀q,(af S.ps q).map (cQ S')=(af S.ps q).map (cQ S):=fun q=>by
   refine map_congr_left (fun V' hV'=>?_);obtain⟨p',hp',hk,hg⟩:=bD (ne_nil_of_mem hV');unfold cQ;rw[tB h.K (hok.vers p' hp' V' (hg ▸ hV')).1]
  by_cases hp:p=l
  ·subst hp;rw[if_pos rfl,if_pos rfl,map_append,map_append,hold,L.vers];congr 1;simp only[map_cons,map_nil,cQ,fA];rw[zK hok' h.nchs h.chs,h.held,h.num,hnr];simp
  ·rw[if_neg hp,if_neg hp,hold,L.vers]
 ·simp only;rw[hins];by_cases hp:p=l
  ·subst hp;rw[if_pos rfl,map_append,pairwise_append];refine⟨L.asc p,pairwise_singleton _ _,fun a ha b hb=>?_⟩;obtain⟨v,hv,rfl⟩:=mem_map.1 ha;simp only[map_cons,map_nil,mem_singleton]at hb;subst hb;exact(hpos v hv).2
  ·rw[if_neg hp];exact L.asc p
 ·rcases lO.1 hv with hv|rfl
  ·exact L.each v hv
  ·exact⟨hnr1,hl,hD⟩
 ·simp only;rw[h.ts];exact L.tags
 ·obtain⟨h1,v,hv,h2⟩:=L.teach t ht;exact⟨h1,v,lO.2 (.inl hv),h2⟩
 ·rcases lO.1 hv with hv|rfl
  ·exact L.held v hv
  ·refine(CZ (fun t ht=>?_)).symm;rintro⟨e1,e2⟩;obtain⟨-,v,hv,e3,e4⟩:=L.teach t ht;simp only at e1 e2;have:=hpos v (mem_filter.2 ⟨hv,by simp[e3,e1]⟩);omega
end
section
open Go.RowKit Go.Maps
end
section
open Go.RowKit Go.Maps
theorem bP{l:Bs}(h:aw l=true):l.length<=20:=by
 unfold aw at h;simp only[Bool.and_eq_true,decide_eq_true_eq]at h;exact h.1.2
def kR(l:List VerL):List Int:=l.map (fun V=>(V.num:Int))
theorem EN{S:AS}{b:Nat}(hB:ArB S b)(l:Bs):(af S.ps l).length<=b:=by
 unfold af gOf
 cases hg:S.ps.find? (fun p=>decide (p.key=l))with
 | none=>simp
 | some p=>exact(hB.vers p (mem_of_find?_eq_some hg)).2.1
end
section
open Go.RowKit
def Hf(b:Bool)(w:World)(e:Ending)(w':World):Prop:=e=.returned (.bool b)/\jw w w'
theorem uK(a1 a2:Option Addr)(c1 c2:Nat)(xs ys:List UInt8)(w:World)(h1:al w a1 (xs.map am))(h2:al w a2 (ys.map am))(hx:xs.length<=1099511627776)(hy:ys.length<=1099511627776):
  Calls Tryz.prog 28 #[.slice a1 xs.length c1,.slice a2 ys.length c2] w (Hf (decide (xs=ys)) w):=by
 by_cases hl:xs.length=ys.length
 ·have hb:((xs.length:Int) != (ys.length:Int))=false:=by simp;omega
  have HL:=qqH hl;clear hl;go_enter Tryz.func28,Tryz.ntmps28;go_wp2;go_loopw [5] (fun i wr=>∃k:Nat,k<=xs.length/\i=.int .i64 k/\xs.take k=ys.take k/\jw w wr) (fun i _=>xs.length-(intOf i).toNat)
  case atStart=>exact⟨0,Nat.zero_le _,rfl,rfl,jw.refl _⟩
  case round =>
   obtain⟨k,hk,rfl,ht,n,rfl⟩:=hrel;have HT:=qqH ht;clear ht;by_cases hlt:k<xs.length
   ·have hlt2:k<ys.length:=by have:=HL.out;omega
    obtain⟨g1,o1,rfl,hc1⟩:=rB am h1 (by omega);obtain⟨g2,o2,rfl,hc2⟩:=rB am h2 (by omega);have k1:=hc1 k hlt;have k2:=hc2 k hlt2;unfold am at k1 k2;clear hc1 hc2 h1 h2;obtain⟨x,hxk⟩:∃x,x=xs[k]:=⟨_,rfl⟩;obtain⟨y,hyk⟩:∃y,y=ys[k]:=⟨_,rfl⟩;rw[<- hxk]at k1;rw[<- hyk]at k2;have HX:=Hq2 hxk hyk;clear hxk hyk;by_cases he:x=y
    ·have hq:(((x.toNat:Nat):Int) != ((y.toNat:Nat):Int))=false:=by simp[he]
     have HE:=qqH he;clear he;go_wp2;go_region;go_wp2;go_roundw
     case rel=>exact⟨k+1,by omega,by go_num,yH HT.out hlt hlt2 (by rw[<- HX.a,<- HX.z,HE.out]),(jw.drewN (jw.refl w) n).drew⟩
     case measure=>simp[intOf];omega
    ·have hq:(((x.toNat:Nat):Int) != ((y.toNat:Nat):Int))=true:=by
      simp only[bne_iff_ne];intro h;exact he (UInt8.toNat_inj.1 (by omega))
     have hne:decide (xs=ys)=false:=by
      apply decide_eq_false;rintro rfl;exact he (HX.a.trans HX.z.symm)
     have HN:=qqH hne;clear he hne;go_wp2;go_region;go_wp2;go_ret;exact⟨uA HN.out.symm,(jw.drewN (jw.refl w) n).drew⟩
   ·have hkx:k=xs.length:=by omega
    have heq:decide (xs=ys)=true:=by
     apply decide_eq_true;have:=HT.out;rw[hkx,take_length,take_of_length_le (by have:=HL.out;omega)]at this;exact this
    have HN:=qqH heq;clear heq hkx;go_wp2;go_ret;exact⟨uA HN.out.symm,jw.drewN (jw.refl w) n⟩
 ·have hb:((xs.length:Int) != (ys.length:Int))=true:=by simp;omega
  have hne:decide (xs=ys)=false:=by apply decide_eq_false;rintro rfl;exact hl rfl
  have HN:=qqH hne;clear hne;go_enter Tryz.func28,Tryz.ntmps28;go_wp2;go_ret;exact⟨uA HN.out.symm,jw.refl w⟩
end
section
open Go.RowKit
end
section
open Go.RowKit Go.Maps
def Mj(X:WS)(o:OpL)(vv cv:Value):RefL:={ X.R with vv:=vv,vs:=cN X.R.vs o.s ⟨o.s,gU X.R.vs o.s X.R.vs.length,o.d,cv,0⟩ }
def IW(X:WS)(o:OpL)(S':AS)(vv cv mv:Value)(M':List SlB):WS:={ U:={ X.U with most:=mv },S:=S',R:=Mj X o vv cv,P:=X.P++[(cv,o.d)],M:=M',O:=X.O,J:=X.J }
def BX(S:AS)(l D:Bs)(n:Int):Prop :=
 (S.X.closed=true/\n=9)\/(S.X.closed=false/\aw l=false/\n=1)\/(S.X.closed=false/\aw l=true/\4000<D.length/\n=2) \/
   (S.X.closed=false/\aw l=true/\D.length<=4000/\S.X.quota<S.X.used+D.length/\n=7)
theorem BX.ne{S:AS}{l D:Bs}{n:Int}(h:BX S l D n):n=9\/n=1\/n=2\/n=7:=by
 rcases h with⟨_,h⟩|⟨_,_,h⟩|⟨_,_,_,h⟩|⟨_,_,_,_,h⟩<;>omega
theorem Kc{S:AS}{R:RefL}(L:Link S R){b:Nat}(hB:ArB S b)(hb:b<=90000):∀v∈R.vs,0<=v.num/\v.num<=1099511627776:=fun v hv=>by
 have h1:=(L.each v hv).1
 have h2:v∈aD R.vs v.path:=mem_filter.2 ⟨hv,by simp⟩
 have h3:fA v∈(af S.ps v.path).map (cQ S):=by rw[L.vers];exact mem_map.2 ⟨v,h2,rfl⟩
 obtain⟨V,hV,hVv⟩:=mem_map.1 h3
 obtain⟨p,hp,-,hg⟩:=bD (ne_nil_of_mem hV)
 have h4:=((hB.vers p hp).2.2 V (hg ▸ hV)).1
 have h5:(V.num:Int)=v.num:=congrArg (fun t:kJ=>t.1) hVv
 omega
theorem A0{S:AS}{l D:Bs}(hl:l.length<=20){n s:Int}{chs:List (Nat×Nat)}(hc:chs.length=(aB D).length):(dX (bF S D)).length+(frame 2 (eC l n s (bt chs))).length<=2*D.length+100:=by
 have h1:=ue D;have h2:(aB D).length=(aL D).length:=by unfold aB;rw[du]
 have h3:=iV S D
 have h4:(bF S D).length<=(aB D).length:=by
  unfold bF
  have:∀(has l acc:List Bs),(cn has acc l).length<=acc.length+l.length:=by
   intro has l;induction l with
   | nil=>intro acc;simp[cn]
   | cons c r ih =>
    intro acc;simp only[cn];split
    ·have:=ih acc;simp only[length_cons];omega
    ·have:=ih (acc++[c]);simp only[length_append,length_cons,length_nil]at this ⊢;omega
  simpa using this (S.K.map (·.1)) (aB D) []
 rw[gH,jC,gc,hc];omega
end
section
open Go.RowKit Go.Maps
end
section
open Go.RowKit Go.Maps
def KW(ev:Value)(n:Int):Prop:=(ev=.nilIface/\n=0)\/ev=cO n
theorem KW.is{ev:Value}{n:Int}(h:KW ev n)(w:World):KE w ev n:=h.imp id .inl
end
section
open Go.RowKit Go.Maps
end
section
open Go.RowKit Go.Maps
def ni(L L':DevL):Prop:=DevOk L'/\L'.n=L.n/\L'.now=L.now/\L'.safe=L.now/\L'.chs=[]
def zj(S:AS)(w:World)(e:Ending)(w':World):Prop :=
 (S.X.closed=true/\e=.returned (cO 9)/\Turns (arF S) (arF S) w w') \/
 (S.X.closed=false/\e=.returned .nilIface/\∃L',ni S.L L'/\Turns (arF S) (arF { S with L:=L' }) w w')
theorem zn(X:ArchL)(h:X.broken=.nilIface):(bb X).setIfInBounds 11 .nilIface=bb X:=by
 unfold bb;rw[h];rfl
theorem oB(S:AS)(b:Nat)(w:World)(h:Sat w (arF S))(hok:ArOk S)(hB:ArB S b)(hb:b<=90000):
  Calls Tryz.prog 47 #[.pointer (some ⟨S.a,0,none⟩)] w (zj S w):=by
 have ha:=h.Q5;have hal:=ac ha;have HH:=Hq2 h hok;have hch:S.L.chs.length<=1099511627776:=by have:=hB.chs;omega
 cases hc:S.X.closed with
 | true =>
  have a10:w.cell? ⟨S.a,10,none⟩=some (.bool true):=by rw[<- hc];exact aa ha 10 rfl
  have HC:=qqH hc;clear h hok hB hb ha hc hch;go_enter Tryz.func47,Tryz.ntmps47;go_wp2_with fail;exact bodyPost_ret (results_tmp rfl _ _ _) rfl (.inl ⟨HC.out,rfl,Turns.refl HH.a⟩)
 | false =>
  have a10:w.cell? ⟨S.a,10,none⟩=some (.bool false):=by rw[<- hc];exact aa ha 10 rfl
  have a6:w.cell? ⟨S.a,6,none⟩=some (.pointer (some ⟨S.X.d,0,none⟩)):=aa ha 6 rfl;have a11:w.cell? ⟨S.a,11,none⟩=some .nilIface:=by rw[<- hok.sound];exact aa ha 11 rfl
  have HF:=qqH (ji S.X.d S.L w (h.sub (fun x=>by simp only[arF,ao,ah]<;>omega)) hok.dev hch);have HC:=qqH hc;clear h hok hB hb ha hc hch;go_enter Tryz.func47,Tryz.ntmps47;go_wp2_with fail;refine HF.out.mono ?_;rintro e w1 ⟨rfl,L',hT,hL⟩;have hT1:Turns (arF S) (arF { S with L:=L' }) w w1:=((Turns.refl HH.a).step (R:=(S.a,Is (aH S.X))::(aq S.X.ab S.X.d S.A++(aF S.X.pm S.ps S.pc++(b8 S.X.tm S.ts S.tc++aM S.X.cm S.cs S.cc)))) (by unfold arF;exact ae) hT).to (by unfold arF;exact ae);have HT:=Hq2 hL hT1;clear hT hL hT1;go_wp2_with ((refine ai rfl (bu 45 (.tmp 20) (.tmp 18) rfl S.a 11 (bb S.X) 128 .nilIface HT.z rfl rfl (by simp[bb]) (by kernel_rfl) rfl rfl ?_);rw[zn S.X HH.z.sound];intro w2 hT2;have b11:w2.cell? ⟨S.a,11,none⟩=some .nilIface:=(by rw[<- HH.z.sound];exact aa hT2.sat.Q5 11 rfl);have HT2:=qqH hT2;clear hT2;simp only[Act.put]));exact bodyPost_ret (results_tmp rfl _ _ _) rfl (.inr ⟨HC.out,rfl,L',HT.a,HT2.out⟩)
def ET(S:AS)(w:World)(e:Ending)(w':World):Prop :=
 (S.X.closed=true/\e=.returned (cO 9)/\Turns (arF S) (arF S) w w') \/
 (S.X.closed=false/\e=.returned .nilIface/\∃L',ni S.L L'/\Turns (arF S) (arF { S with L:=L',X:={ S.X with closed:=true } }) w w')
theorem yR(S:AS)(b:Nat)(w:World)(h:Sat w (arF S))(hok:ArOk S)(hB:ArB S b)(hb:b<=90000):
  Calls Tryz.prog 44 #[.pointer (some ⟨S.a,0,none⟩)] w (ET S w):=by
 have HS:=qqH (oB S b w h hok hB hb);have HH:=Hq2 h hok;clear h hok hB hb;go_enter Tryz.func44,Tryz.ntmps44;go_wp2_with fail;refine HS.out.mono ?_;rintro e w1 (⟨hc,rfl,hT⟩|⟨hc,rfl,L',hL,hT⟩)
 ·have HT:=Hq2 hc hT;have hal:=ac hT.sat.Q5;clear hc hT;unfold cO;go_wp2_with ((refine ai rfl (bu 4 (.tmp 8) (.const (.bool true)) rfl S.a 10 (bb S.X) 128 (.bool true) HT.z rfl rfl (by simp[bb]) (by kernel_rfl) rfl rfl ?_);intro w2 hT2;have HT2:=qqH hT2;clear hT2;simp only[Act.put]));go_ret;refine (.inl ⟨HT.a,rfl,?_⟩);have h2:=HT2.out;have e1:(bb S.X).setIfInBounds 10 (.bool true)=bb S.X:=by rw[<- HT.a];rfl
  rw[e1]at h2;exact h2
 ·have HT:=Hq3 hc hL hT;have hal:=ac hT.sat.Q5;clear hc hT hL;go_wp2_with ((refine ai rfl (bu 4 (.tmp 8) (.const (.bool true)) rfl S.a 10 (bb S.X) 128 (.bool true) HT.y rfl rfl (by simp[bb]) (by kernel_rfl) rfl rfl ?_);intro w2 hT2;have HT2:=qqH hT2;clear hT2;simp only[Act.put]));exact bodyPost_ret (results_tmp rfl _ _ _) rfl (.inr ⟨HT.a,rfl,L',HT.b,HT2.out⟩)
end
section
open Go.RowKit Go.Maps
end
section
open Go.RowKit Go.Maps
def js(S:AS)(L':DevL):AS:={ S with L:=L' }
def Ib(S:AS):AS:={ S with X:={ S.X with closed:=true } }
theorem ArOk.flush{S:AS}{L':DevL}(h:ArOk S)(hf:ni S.L L'):ArOk (js S L') where
 dev:=hf.1
 n16:=by show 16<=L'.n;rw[hf.2.1];exact h.n16
 nmax:=by show L'.n<=_;rw[hf.2.1];exact h.nmax
 area:=h.area
 first:=by show S.A.first=_;rw[h.first];show _=2+S.X.ep%2*ap L'.n;rw[hf.2.1]
 count:=by show S.A.count=ap L'.n;rw[hf.2.1];exact h.count
 end_:=h.end_
 tail:=h.tail
 dat:=by show eB L'.now S.A.first S.A.count S.data;rw[hf.2.2.1];exact h.dat
 paths:=h.paths
 tags:=h.tags
 chunks:=h.chunks
 kin:=h.kin
 kat:=h.kat
 vers:=h.vers
 some:=h.some
 sound:=h.sound
 ep:=h.ep
theorem ArB.flush{S:AS}{L':DevL}{b:Nat}(h:ArB S b)(hf:ni S.L L'):ArB (js S L') b where
 K:=h.K
 np:=h.np
 nt:=h.nt
 vers:=h.vers
 tags:=h.tags
 used:=h.used
 sc:=h.sc
 sb:=h.sb
 quota:=h.quota
 chs:=by show L'.chs.length<=_;rw[hf.2.2.2.2];simp
end
section
open Go.RowKit
theorem yz{P:Program}(w:World)(dT sT ty elem:TypeId)(k g n dCap:Nat)(s:Nat)(sCap:Nat)(cur cs:List Value)(t u:TypeId)(hu:P.underlying dT=some (.slice elem))(hs:(P.info? elem).map (·.size)=some k)(hg:w.heap[g]?=some (.cells cur.toArray t (0,0)))(hsr:w.heap[s]?=some (.cells cs.toArray u (0,0)))(hn:cs.length=n*k)(hc:cur.length=n*k)(h1:∀v∈cs,v.oneCell'=true):
  (Builtin.copy_ #[dT,sT] ty #[.slice (some ⟨g,0,none⟩) n dCap,.slice (some ⟨s,0,none⟩) n sCap]).run P w=.ok (goInt n) (w.setCells g 0 cs):=by
 have hl:=run_loadCells_list (P:=P) w ⟨s,0,none⟩ cs (fun j v hj=>by
  rw[Addr.add_lit,Nat.zero_add];exact aa hsr j (by simpa using hj))
 have hth:=dm hg 0 cs.length (by simp;omega);have hst:=run_storeCells_cells (P:=P) g 0 cs 0 w (fun j hj=>by have:=(hth j hj).1;simpa using this) (fun j hj=>by have:=(hth j hj).2;simpa using this) h1
 cases hq:P.info? elem with
 | none=>simp[hq]at hs
 | some i =>
  have hi:i.size=k:=by simpa[hq]using hs
  rw[hn]at hl;simp[Builtin.copy_,run_underlying hu,Builtin.lenOf,Builtin.firstCells,sizeOf,typeInfo,hq,hi,hl,hst]
theorem rp{P:Program}{w a0:World}{o:Oper}{a:Act}{K:Act->World->Prop}{Q:Exit->Act->World->Prop}{F G:HF}(d s:Operand)(dT sT:TypeId)(ho:o.op=.call { callee:=.builtin .copy,args:=#[d,s],argTypes:=#[dT,sT] })(elem:TypeId)(hu:P.underlying dT=some (.slice elem))(k:Nat)(hsz:(P.info? elem).map (·.size)=some k)(g n dCap sb sCap:Nat)(cur cs:List Value)(t u:TypeId)(hd:a.eval d=.slice (some ⟨g,0,none⟩) n dCap)(hs:a.eval s=.slice (some ⟨sb,0,none⟩) n sCap)(hT:Turns F ((g,Is (.cells cur.toArray t (0,0)))::G) a0 w)(hsr:w.heap[sb]?=some (.cells cs.toArray u (0,0)))(hn:cs.length=n*k)(hc:cur.length=n*k)(h1:∀v∈cs,v.oneCell'=true)(h:∀w',Turns F ((g,Is (.cells cs.toArray t (0,0)))::G) a0 w'->K (a.put o.dst (goInt n)) w'):Oper.wp P o a w K Q:=by
 have hrun:=yz (P:=P) w dT sT o.type elem k g n dCap sb sCap cur cs t u hu hsz hT.sat.Q5 hsr hn hc h1;have hq:=dI (C:=cur.toArray) hT.sat.Q5 cs (by simp;omega);unfold Oper.wp;simp[execOp,ho,resolve,invoke,builtin,hd,hs,hrun,Result.andThen];exact h _ (hT.Qa hq.2 hq.1)
def yU(d:Nat)(L:DevL)(w:World)(e:Ending)(w':World):Prop :=
 ∃d' L',e=.returned (.pointer (some ⟨d',0,none⟩))/\Turns (az d L) (az d' L'++az d L) w w'/\DevOk L'/\L'.n=L.n/\L'.now=L.now/\L'.safe=L.now/\L'.chs=[]
def jk(sb nb n:Nat)(chv:Value):Obj:=.cells #[.slice (some ⟨sb,0,none⟩) n n,.slice (some ⟨nb,0,none⟩) n n,chv,.int .i64 (-1)] 105 (0,0)
theorem vg(d:Nat)(L:DevL)(w:World)(h:Sat w (az d L))(hL:DevOk L):
  Calls Tryz.prog 15 #[.pointer (some ⟨d,0,none⟩)] w (yU d L w):=by
 have hd:=h.Q5;have c0:=aa hd 0 rfl;have hdl:=ac hd;have HN:=qqH (jr L.n hL.hn w);have HH:=Hq2 h hL;clear h hL hd;go_enter Tryz.func15,Tryz.ntmps15;go_wp2_with fail;refine HN.out.mono ?_;rintro e w1 ⟨c,M,rfl,hT,hM,hMn,hnow,hch⟩;have hd1:=hT.sat.Q5;have hT1:=(Turns.refl HH.a).Qb hT;have hMs:M.safe.length=128*L.n:=by rw[hM.safeL,hMn]
 have hMw:M.now.length=128*L.n:=by rw[hM.nowL,hMn]
 have H1:=Hq6 hT1 hM hMn hch hMs hMw;clear hT hM hMn hnow hch hd1 hT1 hMs hMw;go_wp2_with fail;obtain⟨Z2,hZ2⟩:∃Z2:HF,Z2=(M.nb,Is (.cells (ay M.now) 43 (0,0)))::(bN 110 129 M.chv M.chs.length (bG M.chs)++((L.sb,Is (.cells (ay L.safe) 43 (0,0)))::bN 110 129 L.chv L.chs.length (bG L.chs))):=⟨_,rfl⟩
 have k0:Turns (az d L) ((M.sb,Is (.cells (ay M.safe) 43 (0,0)))::((c,Is (jk M.sb M.nb L.n M.chv))::(d,Is (jk L.sb L.nb L.n L.chv))::(L.nb,Is (.cells (ay L.now) 43 (0,0)))::Z2)) w w1:=by
  refine H1.a.to ?_;rw[hZ2];unfold az jk;rw[H1.c];exact ae
 have HK:=Hq2 k0 hZ2;clear k0 hZ2;refine cL [([0,1,2,3,4,5,6,7],8,[])] [] HM.out (by kernel_rfl) fun W tW=>?_
 simp only[Mix,map_cons,map_nil,nth,QG,QF];have k0:=tW HK.a;clear tW;have g0:W.cell? ⟨c,0,none⟩=some (.slice (some ⟨M.sb,0,none⟩) L.n L.n):=aa (k0.sat.Q7 (b:=c) (o:=jk M.sb M.nb L.n M.chv) (by simp)) 0 rfl;have g1:W.cell? ⟨d,1,none⟩=some (.slice (some ⟨L.nb,0,none⟩) L.n L.n):=aa (k0.sat.Q7 (b:=d) (o:=jk L.sb L.nb L.n L.chv) (by simp)) 1 rfl;repeat still_step
 have hl1:(L.now.map am).length=L.n*128:=by rw[length_map,HH.z.nowL];omega
 have hl2:(M.safe.map am).length=L.n*128:=by rw[length_map,H1.e];omega
 refine wpStill_nil (rp (.tmp 13) (.tmp 17) 102 102 rfl 43 Tryz.underlying102 128 qj M.sb L.n L.n L.nb L.n (M.safe.map am) (L.now.map am) 43 43 rfl rfl k0 (k0.sat.Q7 (b:=L.nb) (o:=.cells (ay L.now) 43 (0,0)) (by simp)) hl1 hl2 (dA _) fun w2 hT2=>⟨rfl,?_⟩);simp only[Act.put,QA,QB,QC];refine wpStill_nil ?_;have hT2:Turns (az d L) ((M.sb,Is (.cells (ay L.now) 43 (0,0)))::((c,Is (jk M.sb M.nb L.n M.chv))::(d,Is (jk L.sb L.nb L.n L.chv))::(L.nb,Is (.cells (ay L.now) 43 (0,0)))::Z2)) w w2:=hT2;clear k0 g0 g1 hl1 hl2;have HT2:=qqH hT2;clear hT2;go_wp2_with fail
 have k0:Turns (az d L) ((M.nb,Is (.cells (ay M.now) 43 (0,0)))::((c,Is (jk M.sb M.nb L.n M.chv))::(d,Is (jk L.sb L.nb L.n L.chv))::(L.nb,Is (.cells (ay L.now) 43 (0,0)))::(M.sb,Is (.cells (ay L.now) 43 (0,0)))::(bN 110 129 M.chv M.chs.length (bG M.chs)++((L.sb,Is (.cells (ay L.safe) 43 (0,0)))::bN 110 129 L.chv L.chs.length (bG L.chs))))) w w2:=by
  refine HT2.out.to ?_;rw[HK.z];exact ae
 have HK3:=qqH k0;clear k0;refine cL [([0,1,2,3,4,5,6,7],8,[])] [] HM.out (by kernel_rfl) fun W tW=>?_
 simp only[Mix,map_cons,map_nil,nth,QG,QF];have k0:=tW HK3.out;clear tW;have g0:W.cell? ⟨c,1,none⟩=some (.slice (some ⟨M.nb,0,none⟩) L.n L.n):=aa (k0.sat.Q7 (b:=c) (o:=jk M.sb M.nb L.n M.chv) (by simp)) 1 rfl;have g1:W.cell? ⟨d,1,none⟩=some (.slice (some ⟨L.nb,0,none⟩) L.n L.n):=aa (k0.sat.Q7 (b:=d) (o:=jk L.sb L.nb L.n L.chv) (by simp)) 1 rfl;repeat still_step
 have hl1:(L.now.map am).length=L.n*128:=by rw[length_map,HH.z.nowL];omega
 have hl2:(M.now.map am).length=L.n*128:=by rw[length_map,H1.v];omega
 refine wpStill_nil (rp (.tmp 22) (.tmp 26) 102 102 rfl 43 Tryz.underlying102 128 qj M.nb L.n L.n L.nb L.n (M.now.map am) (L.now.map am) 43 43 rfl rfl k0 (k0.sat.Q7 (b:=L.nb) (o:=.cells (ay L.now) 43 (0,0)) (by simp)) hl1 hl2 (dA _) fun w3 hT3=>⟨rfl,?_⟩);simp only[Act.put,QA,QB,QC];refine wpStill_nil ?_;clear k0 g0 g1 hl1 hl2;have HT3:=qqH hT3;clear hT3;go_wp2_with fail;have hM:=H1.b;have hrow:=hM.row;rw[H1.d]at hrow;go_ret;refine ⟨c,{ M with n:=L.n,safe:=L.now,now:=L.now,chs:=[] },rfl,?_,⟨HH.z.hn,HH.z.nowL,HH.z.nowL,hrow,(fun _ hc=>by cases hc),rfl⟩,rfl,rfl,rfl,rfl⟩;have hT4:Turns (az d L) ((M.nb,Is (.cells (ay L.now) 43 (0,0)))::((c,Is (jk M.sb M.nb L.n M.chv))::(d,Is (jk L.sb L.nb L.n L.chv))::(L.nb,Is (.cells (ay L.now) 43 (0,0)))::(M.sb,Is (.cells (ay L.now) 43 (0,0)))::(bN 110 129 M.chv M.chs.length (bG M.chs)++((L.sb,Is (.cells (ay L.safe) 43 (0,0)))::bN 110 129 L.chv L.chs.length (bG L.chs))))) w w3:=HT3.out;rw[H1.d]at hT4;refine hT4.to ?_;unfold az jk;exact ae
end
section
open Go.RowKit Go.Maps
def xy(L L':DevL):Prop:=DevOk L'/\L'.n=L.n/\L'.now=L.now/\L'.safe=L.now/\L'.chs=[]
def Lr(R:RefL)(q:Int)(b':Nat)(vv' tv':Value):RefL:={ R with blk:=b',vv:=vv',tv:=tv',quota:=c9 q,closed:=false }
def Ls(X:WS)(q:Int)(d':Nat)(S':AS)(b':Nat)(vv' tv':Value):WS:={ X with U:={ X.U with d:=d',a:=some S'.a,r:=b' },S:=S',R:=Lr X.R q b' vv' tv' }
end
section
open Go.RowKit Go.Maps
theorem Reach.grow{D r:Bs}{at_:Nat}{s:PSt}(h:Reach D at_ s):at_<=D.length->Reach (D++r) at_ s:=by
 induction h with
 | zero=>exact fun _=>.zero
 | @next at_ s s' k body n h ho hs ih =>
  intro hl;refine .next (ih (by omega)) ?_ hs;refine kx ho ?_;rw[drop_append_of_le_length (by omega),take_append_of_le_length (by rw[length_drop];omega)]
theorem rI{D b c:Bs}{a:Nat}(h1:dw D a b)(h2:dw D a c):b=c:=by
 have e1:bM (D.drop a)=some (1,b,b.length+9):=kx h1.2 (by rw[take_take,Nat.min_self]);have e2:bM (D.drop a)=some (1,c,c.length+9):=kx h2.2 (by rw[take_take,Nat.min_self]);rw[e1]at e2;simp only[Option.some.injEq,Prod.mk.injEq,true_and]at e2;exact e2.1
theorem Jg{K:KL}{D:Bs}(hk:∀e∈K,e.2.2=e.1.length/\dw D e.2.1 e.1){c:Bs}{q:Nat×Nat}(he:(c,q)∈K):kj K (q.1:Int)=some q.2:=by
 unfold kj
 cases hf:K.find? (fun e=>decide ((e.2.1:Int)=q.1))with
 | none=>exact absurd (find?_eq_none.1 hf _ he) (by simp)
 | some x =>
  have hx:=mem_of_find?_eq_some hf;have hx2:=find?_some hf;simp only[decide_eq_true_eq]at hx2;have h1:=hk x hx;have h2:=hk _ he;have hpos:x.2.1=q.1:=by omega
  rw[hpos]at h1;have:=rI h1.2 h2.2;simp only[Option.map_some,Option.some.injEq];rw[h1.1,h2.1,this]
theorem qC{K:KL}{D:Bs}(hk:∀e∈K,e.2.2=e.1.length/\dw D e.2.1 e.1):∀{chs:List (Nat×Nat)},(∀q∈chs,∃e∈K,e.2=q)->dt (kj K) (bt chs)=some chs
 | [],_=>rfl
 | q::r,h=>by
  obtain⟨e,he,rfl⟩:=h q (by simp)
  have h1:=Jg hk (c:=e.1) (q:=e.2) he
  have h2:=qC hk (chs:=r) (fun x hx=>h x (by simp[hx]))
  unfold bt at h2 ⊢
  simp only[map_cons,dt,h1,h2,Int.toNat_natCast]
variable {D:Bs} {X:ArchL} {ps:List aW} {pc:Nat} {cs:List kg} {cc:Nat} {ts:List fq} {tc:Nat} {sz:List (Ent Int)} {szc at_:Nat} {s:PSt}
theorem CtOk.more(h:CtOk D X ps pc cs cc ts tc sz szc at_ s)(r:Bs):CtOk (D++r) X ps pc cs cc ts tc sz szc at_ s :=
 { h with
  reach:=h.reach.grow h.le
  le:=by have:=h.le;rw[length_append];omega
  kat:=fun e he=>by rw[take_append_of_le_length h.le];exact h.kat e he }
theorem qP(D:Bs){k:UInt8}{body:Bs}(hk:k≠0)(hb:body.length<65536):bM ((D++frame k body).drop D.length)=some (k,body,body.length+9):=by
 rw[drop_left];have:=ge k body [] hk hb;rwa [append_nil]at this
theorem CtOk.Qn{body:Bs}(h:CtOk D X ps pc cs cc ts tc sz szc D.length s)(hb:body.length<65536)(hD:D.length<=4294967296){v:Value}(hv:cd v (aY cs (ed body)++[(D.length,body.length)])):
  CtOk (D++frame 1 body) { X with sc:=X.sc+1,sb:=X.sb+body.length } ps pc (ef cs cc (ed body) v (aY cs (ed body)++[(D.length,body.length)])) (cw (cs.map aO) cc (ed body)) ts tc (gA sz szc (D.length:Int) (.int .i64 body.length)) (cw sz szc (D.length:Int)) (D++frame 1 body).length { s with K:=s.K++[(body,D.length,body.length)] }:=by
 have:=(h.more (frame 1 body)).chunk (qP D (by decide) hb) hD hv;rw[length_append,aJ];exact this
theorem CtOk.addVer{p:Bs}{num m b:Nat}{chs:List (Nat×Nat)}{cv v':Value}(h:CtOk D X ps pc cs cc ts tc sz szc D.length s)(hp:p.length<=20)(hnum:num<4294967296)(hm:m<65536)(hD:D.length<=4294967296)(hvl:(eC p num m (bt chs)).length<65536)(hc:∀q∈chs,∃e∈s.K,e.2=q)(hsum:(chs.map (·.2)).sum=m)(hcv:cd cv chs)(hv:eP v' (af ps p++[⟨b,num,m,cv,chs,0⟩])):
  CtOk (D++frame 2 (eC p num m (bt chs))) { X with used:=X.used+m } (kh ps pc p v' ⟨b,num,m,cv,chs,0⟩) (cw (ps.map aO) pc p) cs cc ts tc sz szc (D++frame 2 (eC p num m (bt chs))).length { s with H:=s.H++[⟨p,num,m,chs,0⟩] }:=by
 have hkd:∀e∈s.K,e.2.2=e.1.length/\dw D e.2.1 e.1:=fun e he=>by
  obtain⟨h1,-,h3⟩:=h.kat e he;rw[take_length]at h3;exact⟨h1,h3⟩
 have hr:=wU (p:=p) (num:=num) (size:=m) (ats:=bt chs) (by omega) hnum hm (fun n hn=>by
  obtain⟨q,hq,rfl⟩:=mem_map.1 hn;obtain⟨e,he,rfl⟩:=hc q hq;have:=(hkd e he).2.1;omega)
 have:=(h.more (frame 2 (eC p num m (bt chs)))).ver (by decide) (qP D (by decide) hvl) hr (qC hkd hc) hsum hcv hv;rw[length_append,aJ];exact this
theorem CtOk.addTag{p m:Bs}{n:Nat}(h:CtOk D X ps pc cs cc ts tc sz szc D.length s)(hp:p.length<=20)(hm:m.length<=20)(hok:OkS m)(hn:n<4294967296)(hbl:(dR p m n).length<65536):
  CtOk (D++frame 4 (dR p m n)) X (cP ps p n 1) pc cs cc (ef ts tc m (mx m (p,(n:Int))) (p,(n:Int))) (cw (ts.map aO) tc m) sz szc (D++frame 4 (dR p m n)).length { s with H:=fw s.H p n 1,T:=lS s.T (m,p,(n:Int)) }:=by
 have hs:fy D.length s 4 (dR p m n)=some { s with H:=fw s.H p n 1,T:=lS s.T (m,p,(n:Int)) }:=by
  unfold fy;rw[if_neg (by decide),qZ (.inl rfl) (by omega) (by omega) hn];dsimp only;rw[if_pos rfl]
 have:=(h.more (frame 4 (dR p m n))).tag (qP D (by decide) hbl) (by omega) (uQ h.tags hok (p,(n:Int))) (by rw[BD,h.tagT]) (AY _ _) (fun t ht=>by
  rcases AZ ht with rfl|ht
  ·exact⟨by show m.length<=255;omega,by show p.length<=255;omega,by show(0:Int)<=n;omega,by show(n:Int)<4294967296;omega⟩
  ·exact h.cnt.tag t ht) hs
 rw[length_append,aJ];exact this
theorem ln{κ:Type}{Ok:κ->Prop}{c:Nat}:MapOk Ok ([]:List (Ent κ)) c:=⟨nodup_nil,nodup_nil,(fun e he=>by cases he),(fun e he=>by cases he)⟩
theorem CtOk.empty{X:ArchL}(hX:X.used=0/\X.sc=0/\X.sb=0):CtOk [] X [] 0 [] 0 [] 0 [] 0 ([]:Bs).length ⟨[],[],[]⟩ where
 reach:=.zero
 le:=Nat.le_refl _
 cnt:=⟨by simp,(fun h hh=>by cases hh),(fun h hh=>by cases hh),(fun h hh=>by cases hh)⟩
 paths:=⟨ln,fun p hp=>by cases hp⟩
 chunks:=⟨ln,fun p hp=>by cases hp⟩
 tags:=⟨ln,fun p hp=>by cases hp⟩
 kin:=fun k=>by simp[aY,gOf]
 kat:=fun e he=>by cases he
 hist:=fun l=>by simp[af,gOf]
 nem:=fun p hp=>by cases hp
 chsK:=fun h hh=>by cases hh
 used:=by rw[hX.1];rfl
 sc:=by rw[hX.2.1];rfl
 sb:=by rw[hX.2.2];rfl
 map:=ln
 get:=fun k=>by simp[dB,kj]
 tagT:=rfl
end
section
open Go.RowKit Go.Maps
def Sec(now:Bs)(e n:Nat):Prop:=∃(us:Nat->Option (Nat×Nat)) (wh:Nat) (rest:List (Nat×Nat)),(∀k,k<2->eO now us k)/\ey (fB us 2)=(e,wh)::rest/\cf now 2=false/\wh<=n/\wh<4294967296
theorem Sec.to{now now':Bs}{e n n':Nat}(h:Sec now e n)(h0:∀k,k<2->aC now' k=aC now k)(hn:n<=n'):Sec now' e n':=by
 obtain⟨us,wh,rest,h1,h2,h3,h4,h5⟩:=h;refine⟨us,wh,rest,fun k hk=>by unfold eO;rw[h0 k hk];exact h1 k hk,h2,?_,by omega,h5⟩;rw[<- h3];unfold cf;exact decide_eq_decide.2 ⟨fun h j hj=>by rw[<- h0 j hj];exact h j hj,fun h j hj=>by rw[h0 j hj];exact h j hj⟩
structure Told (S:AS) (rs:fT) (H:List HV):Prop where
 ok:oA rs
 data:S.data=bn rs
 run:il 0 ⟨[],[],[]⟩ rs=some ⟨S.K,H,S.ts.map ex⟩
 hist:∀l,(af S.ps l).map bp=(H.filter (fun h=>decide (h.p=l))).map cy
 sec:Sec S.L.now S.X.ep S.data.length
 used:S.X.used=((H.map (·.size)).sum:Nat)
theorem d9(l:Bs)(k:Nat):aC l k=au l k 1:=by unfold aC au;rfl
theorem Told.flush{S:AS}{rs:fT}{H:List HV}(h:Told S rs H){L':DevL}(hf:L'.now=S.L.now):Told (js S L') rs H :=
 ⟨h.ok,h.data,h.run,h.hist,h.sec.to (fun k _=>by show aC L'.now k=_;rw[hf]) (Nat.le_refl _),h.used⟩
theorem Told.spare{S:AS}{rs:fT}{H:List HV}(h:Told S rs H)(sp:List (Nat×Nat×Nat)):Told (bK S sp) rs H:=⟨h.ok,h.data,h.run,h.hist,h.sec,h.used⟩
def zh(S S':AS):Prop:=(∀l,(af S'.ps l).map bp=(af S.ps l).map bp)/\S'.K=S.K/\S'.ts.map ex=S.ts.map ex
theorem EO{l l':List VerL}(h:l'.map bp=l.map bp):∀V'∈l',∃V∈l,bp V=bp V':=fun V' hV'=>by
 have:bp V'∈l.map bp:=by rw[<- h];exact mem_map.2 ⟨V',hV',rfl⟩
 obtain⟨V,hV,e⟩:=mem_map.1 this
 exact⟨V,hV,e⟩
theorem xr{S S':AS}(hK:S'.K=S.K):∀{l l':List VerL},l'.map bp=l.map bp->l'.map (cQ S')=l.map (cQ S)
 | [],[],_=>rfl
 | [],_::_,h=>by cases h
 | _::_,[],h=>by cases h
 | V::l,V'::l',h=>by
  simp only[map_cons,List.cons.injEq]at h ⊢
  refine⟨?_,xr hK h.2⟩
  have h1:=h.1
  unfold bp at h1
  simp only[Prod.mk.injEq]at h1
  unfold cQ da
  rw[hK,h1.1,h1.2.2.1,h1.2.2.2]
theorem OpenIs.eX{d:Nat}{L:DevL}{q:Int}{e:Nat}{D:Bs}{S:AS}(h:OpenIs d L q e D S):S.X.d=d/\S.X.ep=e/\S.X.quota=c9 q/\S.X.closed=false/\S.X.broken=.nilIface:=by
 obtain⟨us,sc,sb,hX⟩:=h.X;refine⟨?_,?_,?_,?_,?_⟩<;>(rw[hX];rfl)
theorem Told.open{S:AS}{rs:fT}{H:List HV}(h:Told S rs H)(hok:ArOk S){d':Nat}{L':DevL}{q:Int}{S':AS}(hn:L'.n=S.L.n)(hnow:L'.now=S.L.now)(ho:OpenIs d' L' q S.X.ep (au L'.now (2+S.X.ep%2*ap L'.n) (ap L'.n)) S'):
  ∃sz szc,CtOk (S.data++ak (128*S.A.count-S.data.length)) S'.X S'.ps S'.pc S'.cs S'.cc S'.ts S'.tc sz szc S.data.length ⟨S.K,H,S.ts.map ex⟩/\S'.K=S.K/\S'.data=S.data:=by
 have hD:au L'.now (2+S.X.ep%2*ap L'.n) (ap L'.n)=bn rs++ak (128*S.A.count-S.data.length):=by
  have h1:=hok.dat.1;have h2:S.A.first=2+S.X.ep%2*ap L'.n:=by rw[hok.first,hn]
  have h3:S.A.count=ap L'.n:=by rw[hok.count,hn]
  rw[hnow,<- h2,<- h3,h1,h.data]
 obtain⟨at_,s,sz,szc,hct,href,hdat,hK⟩:=ho.ct;rw[hD]at hct href hdat;obtain⟨rfl,rfl⟩:=nJ h.ok hct.reach href h.run;refine⟨sz,szc,by rw[h.data]at hct ⊢;exact hct,hK.symm,?_⟩;rw[hdat,take_left,h.data]
theorem Gg{S S':AS}(hok:ArOk S){d':Nat}{L':DevL}{q:Int}{D0 D:Bs}(hn:L'.n=S.L.n)(ho:OpenIs d' L' q S.X.ep D0 S'){sz:List (Ent Int)}{szc:Nat}{H:List HV}{rest:Bs}(hD:D=S.data++rest)(hct:CtOk D S'.X S'.ps S'.pc S'.cs S'.cc S'.ts S'.tc sz szc S.data.length ⟨S.K,H,S.ts.map ex⟩)(hK:S'.K=S.K)(hdat:S'.data=S.data):ArOk S':=by
 obtain⟨-,e2,-,-,e5⟩:=ho.eX
 have hversH:∀p∈S'.ps,∀V∈p.g,∃h∈H,cy h=bp V:=fun p hp V hV=>by
  have h1:=hct.hist p.key;rw[eD hct.paths hp]at h1;have h2:bp V∈p.g.map bp:=mem_map.2 ⟨V,hV,rfl⟩;rw[h1]at h2;obtain⟨h,hh,e⟩:=mem_map.1 h2;exact⟨h,(mem_filter.1 hh).1,e⟩
 refine⟨ho.dev.1,by rw[ho.dev.2.1,hn];exact hok.n16,by rw[ho.dev.2.1,hn];exact hok.nmax,⟨by rw[ho.A.2.2.2.1];exact l6 _,by rw[ho.A.2.2.2.2];simp,by rw[ho.A.2.2.2.2];intro s hs;cases hs⟩,by rw[ho.A.1,e2,ho.dev.2.1],by rw[ho.A.2.1,ho.dev.2.1],ho.A.2.2.1,ho.A.2.2.2.1,ho.dat,hct.paths,hct.tags,hct.chunks,?_,?_,?_,hct.nem,e5,by rw[e2];exact hok.ep⟩
 ·intro k;rw[hK];exact hct.kin k
 ·intro e he;rw[hK]at he;obtain⟨h1,-,h3⟩:=hct.kat e he;refine⟨h1,?_⟩;rw[hD,take_left]at h3;rw[hdat];exact h3
 ·intro p hp V hV;obtain⟨h,hh,e⟩:=hversH p hp V hV;obtain⟨h1,h2⟩:=hct.chsK h hh;unfold cy bp at e;simp only[Prod.mk.injEq]at e;rw[hK,<- e.2.1,<- e.2.2.1];exact⟨h1,h2⟩
theorem kA{S S':AS}{R R2:RefL}(L:Link S R)(hv:zh S S')(hu:S'.X.used=S.X.used)(hvs:R2.vs=R.vs)(hrt:R2.ts=R.ts)(hq:R2.quota=S'.X.quota)(hc:R2.closed=S'.X.closed):Link S' R2 where
 closed:=hc
 quota:=hq
 used:=by rw[hu,hvs];exact L.used
 vers:=fun p=>by rw[hvs,xr hv.2.1 (hv.1 p)];exact L.vers p
 sorted:=by rw[hvs];exact L.sorted
 asc:=fun p=>by rw[hvs];exact L.asc p
 each:=by rw[hvs];exact L.each
 tags:=by rw[hrt];have:=L.tags;rw[show S.ts.map jI=S'.ts.map jI from hv.2.2.symm]at this;exact this
 tsort:=by rw[hrt];exact L.tsort
 teach:=by rw[hrt,hvs];exact L.teach
 held:=by rw[hrt,hvs];exact L.held
theorem J7{S S':AS}(hok':ArOk S')(hv:zh S S'):S'.ps.length<=S.ps.length:=by
 have h1:(S'.ps.map (·.key)) ⊆ (S.ps.map (·.key)):=fun k hk=>by
  obtain⟨p,hp,rfl⟩:=mem_map.1 hk;have h2:=hv.1 p.key;rw[eD hok'.paths hp]at h2
  have hne:af S.ps p.key≠[]:=fun e=>by
   rw[e]at h2;exact hok'.some p hp (map_eq_nil_iff.1 h2)
  obtain⟨q,hq,hk,-⟩:=bD hne;exact mem_map.2 ⟨q,hq,hk⟩
 have h3:=(j6 hok'.paths).length_le_of_subset h1;simpa using h3
theorem I5{S S':AS}{b:Nat}(hB:ArB S b)(_:ArOk S)(hok':ArOk S')(hv:zh S S')(hu:S'.X.used=S.X.used)(hsc:S'.X.sc=S'.K.length)(hsb:S'.X.sb=((S'.K.map (·.1.length)).sum:Nat))(hsb2:(S.K.map (·.1.length)).sum<=65536*b)(hq:S'.X.quota.natAbs<=9223372036854775807)(hch:S'.L.chs=[])(hkl:∀p∈S'.ps,p.key.length<=255):ArB S' b where
 K:=by rw[hv.2.1];exact hB.K
 np:=Nat.le_trans (J7 hok' hv) hB.np
 nt:=by have:=congrArg length hv.2.2;rw[length_map,length_map]at this;rw[this];exact hB.nt
 vers:=fun p hp=>by
  have h2:=hv.1 p.key
  rw[eD hok'.paths hp]at h2
  have hne:af S.ps p.key≠[]:=fun e=>by
   rw[e]at h2
   exact hok'.some p hp (map_eq_nil_iff.1 h2)
  obtain⟨q,hq,hk,hg⟩:=bD hne
  have h3:=hB.vers q hq
  rw[<- hg]at h2
  refine⟨hkl p hp,?_,fun V hV=>?_⟩
  ·have:=congrArg length h2
   rw[length_map,length_map]at this
   rw[this];exact h3.2.1
  ·obtain⟨V0,hV0,e⟩:=EO h2 V hV
   have h4:=h3.2.2 V0 hV0
   unfold bp at e
   simp only[Prod.mk.injEq]at e
   rw[<- e.1,<- e.2.1,<- e.2.2.1,<- e.2.2.2]
   exact h4
 tags:=fun p hp=>by
  have h1:ex p∈S'.ts.map ex:=mem_map.2 ⟨p,hp,rfl⟩
  rw[hv.2.2]at h1
  obtain⟨p0,hp0,e⟩:=mem_map.1 h1
  have h2:=hB.tags p0 hp0
  unfold ex at e
  simp only[Prod.mk.injEq]at e
  rw[<- e.1,<- e.2.1,<- e.2.2];exact h2
 used:=by rw[hu];exact hB.used
 sc:=by rw[hsc,hv.2.1];have:=hB.K;omega
 sb:=by rw[hsb,hv.2.1];omega
 quota:=hq
 chs:=by rw[hch];simp
theorem lU:∀(l:List Bs) (a:Nat) (s:PSt),il a s (l.map (fun c=>(1,c)))=some { s with K:=s.K++ck a l }
 | [],a,s=>by simp[il,ck]
 | c::l,a,s=>by
  simp only[map_cons,il,fy,if_true,Option.bind_some,ck]
  rw[lU l]
  simp only[Option.some.injEq,PSt.mk.injEq,and_true,append_assoc,cons_append,nil_append]
  rw[Nat.add_assoc]
theorem zR(l:List Bs):bn (l.map (fun c=>((1:UInt8),c)))=dX l:=by
 unfold bn dX;rw[map_map];rfl
theorem Ia{S:AS}(hok:ArOk S){chs:List (Nat×Nat)}(h:∀q∈chs,∃e∈S.K,e.2=q):dt (kj S.K) (bt chs)=some chs:=qC hok.kat h
theorem ui:∀{l:List Nat} {n:Nat},n∈l->n<=l.sum
 | a::r,n,h=>by
  rw[sum_cons]
  rcases mem_cons.1 h with rfl|h
  ·omega
  ·have:=ui h;omega
theorem Told.put{S S':AS}{rs:fT}{H:List HV}(h:Told S rs H)(hok:ArOk S)(hok':ArOk S'){l D:Bs}{V:VerL}(hp:PutStep S S' l D V)(hl:l.length<=20)(hD:D.length<=4000)(hnum:V.num<4294967296)(hdl:S'.data.length<4294967296):
  Told S' (rs++(bF S D).map (fun c=>(1,c))++[(2,eC l V.num V.size (bt V.chs))]) (H++[⟨l,V.num,V.size,V.chs,0⟩]):=by
 have hfl:∀c∈bF S D,c.length<65536:=fun c hc=>by
  have h1:=iV S D;have h2:c.length<=((bF S D).map length).sum:=ui (mem_map.2 ⟨c,hc,rfl⟩);omega
 have hVm:V∈af S'.ps l:=by rw[hp.vers,if_pos rfl];simp
 obtain⟨p,hpm,-,hpg⟩:=bD (ne_nil_of_mem hVm);have hV:=hok'.vers p hpm V (hpg ▸ hVm)
 have hdat:S'.data=bn (rs++(bF S D).map (fun c=>(1,c))++[(2,eC l V.num V.size (bt V.chs))]):=by
  rw[hp.data,co,co,zR,h.data];simp[bn]
 have hvl:(eC l V.num V.size (bt V.chs)).length<65536:=by
  have h1:=gc l V.num V.size V.chs;rw[aJ]at h1;have h2:=ue D;have h3:=hp.nchs;have h4:(aB D).length=(aL D).length:=by unfold aB;rw[du]
  omega
 refine⟨fun r hr=>?_,hdat,?_,fun m=>?_,?_,?_⟩
 ·rcases mem_append.1 hr with hr|hr
  ·rcases mem_append.1 hr with hr|hr
   ·exact h.ok r hr
   ·obtain⟨c,hc,rfl⟩:=mem_map.1 hr;exact⟨show(1:UInt8)≠0 by decide,hfl c hc⟩
  ·obtain rfl:=mem_singleton.1 hr;exact⟨show(2:UInt8)≠0 by decide,hvl⟩
 ·have hr:=wU (p:=l) (num:=V.num) (size:=V.size) (ats:=bt V.chs) (by omega) hnum (by rw[hp.size];omega) (fun n hn=>by
   obtain⟨q,hq,rfl⟩:=mem_map.1 hn;obtain⟨e,he,rfl⟩:=hV.1 q hq;have:=(hok'.kat e he).2.1;omega)
  rw[dM,dM,h.run,Option.bind_some,lU,Option.bind_some];have hKe:S.K++ck (0+(bn rs).length) (bF S D)=S'.K:=by rw[hp.K,Nat.zero_add,<- h.data]
  simp only[il,fy];rw[if_neg (by decide),hr];dsimp only;rw[hKe,Ia hok' hV.1];dsimp only;rw[if_pos hV.2.symm,hp.ts];rfl
 ·rw[hp.vers,filter_append,map_append];by_cases hm:m=l
  ·subst hm;rw[if_pos rfl,map_append,h.hist];congr 1;simp[bp,cy,hp.held]
  ·rw[if_neg hm,h.hist];have:¬l=m:=fun e=>hm e.symm
   simp[this]
 ·rw[hp.ep];exact h.sec.to (fun k hk=>by rw[d9,hp.other k 1 (.inl (by rw[hok.first];omega)),<- d9]) (by rw[hp.data];simp)
 ·rw[hp.used,h.used,map_append,sum_append];simp[hp.size]
def L0(k:Nat):Option (Nat×Nat):=if k=1 then some (1,0)else none
theorem Kq{now:Bs}(h1:aC now 1=bi 1 0)(h0:aC now 0=ak 128)(n:Nat):Sec now 1 n:=by
 refine⟨L0,0,[],fun k hk=>?_,rfl,?_,by omega,by omega⟩
 ·rcases(show k=0\/k=1 by omega)with rfl|rfl
  ·exact .inl ⟨rfl,fun e wh _ _ _ h=>rn e wh (by rw[<- h,h0])⟩
  ·exact .inr ⟨1,0,rfl,h1,rfl,by omega,by omega⟩
 ·unfold cf;refine decide_eq_false (fun hz=>rn 1 0 ?_);rw[<- h1];exact hz 1 (by omega)
theorem mf{n:Nat}{q:Int}{d:Nat}{S:AS}(h:nm n q d S):Told S [] []:=by
 obtain⟨-,-,-,-,h5,-,-,h8,h9,h10,h11,-,-,h14,-,h16,h17⟩:=h;exact⟨(fun r hr=>by cases hr),by rw[h11];rfl,by rw[h10,h9];rfl,fun l=>by rw[h8];rfl,by rw[h14];exact Kq h16 h17 _,by rw[h5];rfl⟩
theorem oY{n:Nat}{q:Int}{d:Nat}{S:AS}(h:nm n q d S){R:RefL}(hv:R.vs=[])(ht:R.ts=[])(hq:R.quota=c9 q)(hc:R.closed=false):Link S R:=by
 obtain⟨-,-,h3,h4,h5,-,-,h8,h9,-⟩:=h;refine⟨by rw[hc,h3],by rw[hq,h4],by rw[h5,hv];rfl,fun p=>by rw[h8,hv];rfl,by rw[hv];exact Pairwise.nil,fun p=>by rw[hv];exact Pairwise.nil,(by rw[hv];intro v hv;cases hv),by rw[h9,ht];exact Perm.refl _,by rw[ht];exact Pairwise.nil,(by rw[ht];intro v hv;cases hv),(by rw[hv];intro v hv;cases hv)⟩
def mT(S:AS)(L':DevL)(r:Bs):AS:={ S with A:={ S.A with end_:=(S.data++r).length,tail:=bL (S.data++r) },L:=L',data:=S.data++r }
structure RecIs (S:AS) (L':DevL) (r:Bs):Prop where
 dev:DevOk L'
 n:L'.n=S.L.n
 dat:eB L'.now S.A.first S.A.count (S.data++r)
 oth:∀f2 c2,(f2+c2<=S.A.first\/S.A.first+S.A.count<=f2)->au L'.now f2 c2=au S.L.now f2 c2
 chs:L'.chs.length<=S.L.chs.length+r.length
theorem yx{S:AS}{L':DevL}{r:Bs}(hok:ArOk S)(h:RecIs S L' r):ArOk (mT S L' r) where
 dev:=h.dev
 n16:=by show 16<=L'.n;rw[h.n];exact hok.n16
 nmax:=by show L'.n<=_;rw[h.n];exact hok.nmax
 area:=⟨l6 _,hok.area.few,hok.area.caps⟩
 first:=by show S.A.first=2+S.X.ep%2*ap L'.n;rw[h.n];exact hok.first
 count:=by show S.A.count=ap L'.n;rw[h.n];exact hok.count
 end_:=rfl
 tail:=rfl
 dat:=h.dat
 paths:=hok.paths
 tags:=hok.tags
 chunks:=hok.chunks
 kin:=hok.kin
 kat:=fun e he=>⟨(hok.kat e he).1,(hok.kat e he).2.more⟩
 vers:=hok.vers
 some:=hok.some
 sound:=hok.sound
 ep:=hok.ep
def mw(sb:Nat)(rv:Value)(r:Bs):HF:=(sb,Is (.cells #[rv] 38 (0,0)))::aI rv r
def yQ(S:AS)(J:HF)(r:Bs)(w:World)(e:Ending)(w':World):Prop :=
 (128*S.A.count<S.data.length+r.length/\e=.returned (cO 8)/\aX w w') \/
 (S.data.length+r.length<=128*S.A.count/\e=.returned .nilIface/\∃L',RecIs S L' r/\Turns (arF S++J) (arF (mT S L' r)++J) w w')
theorem kK(S:AS)(hok:ArOk S)(b:Nat)(hB:ArB S b)(hb:b<=90000)(rv:Value)(r:Bs)(sb:Nat)(w:World)(h:Sat w (arF S++mw sb rv r))(hr:bOk rv r)(hrl:r.length<=70000):
  Calls Tryz.prog 82 #[.pointer (some ⟨S.a,0,none⟩),.slice (some ⟨sb,0,none⟩) 1 1] w (yQ S (mw sb rv r) r w):=by
 have hsbo:=h.Q7 (b:=sb) (o:=.cells #[rv] 38 (0,0)) (by simp[mw]);have hT0:=(Turns.refl h).to (H:=((S.a,Is (aH S.X))::(aq S.X.ab S.X.d S.A++az S.X.d S.L))++((aF S.X.pm S.ps S.pc++(b8 S.X.tm S.ts S.tc++aM S.X.cm S.cs S.cc))++mw sb rv r)) (by unfold arF;exact ae);have hsum:fM [r]=r.length:=by simp[fM]
 have hout:∀x,x∈dom (mw sb rv r)->x∉dom (aq S.X.ab S.X.d S.A++az S.X.d S.L):=fun x hx hd =>
  hT0.sat.Qh (b:=x) (by rw[gF];exact mem_cons_of_mem _ hd) (by rw[cJ];exact mem_append_right _ hx)
 have hsub:Sat w (aI rv r):=h.sub (fun x=>by unfold mw;simp only[ah,ao];omega)
 refine(pJ S.a S.X S.X.ab S.X.d rfl S.A S.L S.data [r] [rv] (some ⟨sb,0,none⟩) 1 w hT0.sat.left hok.sound hok.dev hok.fits hok.nmax hok.end_ hok.tail hok.dat rfl (by simp) (by rw[hsum];omega) (by have:=hB.chs;rw[hsum];omega)
  (fun _=>⟨sb,0,rfl,fun j hj=>by
   obtain rfl:j=0:=by simp at hj;omega
   exact aa hsbo 0 rfl⟩) (fun x hx=>?_) (fun k h1 h2=>?_)).mono ?_
 ·simp only[Option.some.injEq]at hx;subst hx;exact hout sb (by simp[mw])
 ·obtain rfl:k=0:=by simp at h1;omega
  obtain⟨ka,kc,ke,-,kcap,kcells,kown⟩:=aP (dr hsub hr);refine⟨ka,kc,ke,kcap,Ey (dr hsub hr) ke,kcells,fun x hx=>?_⟩;have hin:x.block∈dom (aI rv r):=(ff _ _ _ _ _ _).2 (kown x hx);exact⟨hout x.block (by unfold mw;rw[gF];exact mem_cons_of_mem _ hin),hsub.lt hin⟩
 ·rintro e w' (⟨h1,rfl,hs⟩|⟨h1,rfl,L',hT,g1,g2,g3,g4,g5⟩)
  ·rw[hsum]at h1;exact .inl ⟨h1,rfl,hs⟩
  ·rw[hsum]at h1;have hf:[r].flatten=r:=by simp
   rw[hf]at hT g3 g5;refine .inr ⟨h1,rfl,L',⟨g1,g2,g3,g4,g5⟩,?_⟩;have h5:=hT0.step (F:=aq S.X.ab S.X.d S.A++az S.X.d S.L) (R:=(S.a,Is (aH S.X))::((aF S.X.pm S.ps S.pc++(b8 S.X.tm S.ts S.tc++aM S.X.cm S.cs S.cc))++mw sb rv r)) ae hT;refine h5.to ?_;unfold arF mT;exact ae
def ib(S:AS)(p:Bs)(ns:List Int)(v':Value)(L':DevL):AS :=
 { mT S L' (frame 3 (dZ p ns))with X:=i5 S.X (S.X.used-(bX ns (af S.ps p):Nat)),ps:=ga S.ps S.pc p v' ns }
theorem Ir{S:AS}{p:Bs}{ns:List Int}{v':Value}{L':DevL}(hok:ArOk S)(h:RecIs S L' (frame 3 (dZ p ns)))(hl:OkS p)(hv:eP v' (dD ns (af S.ps p)))(hne:af S.ps p≠[]):ArOk (ib S p ns v' L'):=by
 have hr:=yx hok h;obtain⟨q,hq,hqk,hqg⟩:=jJ hne;refine { hr with paths:=zZ hok.paths hl hv hne,some:=wq hok.some,vers:=fun x hx V hV=>?_ };have hx2:x∈ga S.ps S.pc p v' ns:=hx;unfold ga at hx2;split at hx2
 ·exact hok.vers x (mem_filter.1 hx2).1 V hV
 ·rcases fx hx2 with⟨h1,_⟩|⟨_,_,h3⟩
  ·exact hok.vers x h1 V hV
  ·rw[h3]at hV;exact hok.vers q hq V (hqg ▸ (mem_filter.1 hV).1)
def jV(S:AS)(p:Bs)(ns:List Int)(J:HF)(w:World)(e:Ending)(w':World):Prop :=
 (128*S.A.count<S.data.length+(frame 3 (dZ p ns)).length/\e=.returned (cO 8)/\Turns (arF S++J) (arF S++J) w w') \/
 (S.data.length+(frame 3 (dZ p ns)).length<=128*S.A.count/\e=.returned .nilIface/\∃v' L',RecIs S L' (frame 3 (dZ p ns))/\eP v' (dD ns (af S.ps p))/\Turns (arF S++J) (arF (ib S p ns v' L')++J) w w')
theorem Jj{S:AS}{b:Nat}(_:ArOk S)(hB:ArB S b)(hb:b<=90000)(p:Bs):rt S.X.used (af S.ps p):=by
 have hu:=hB.used;by_cases hne:af S.ps p=[]
 ·rw[hne];exact⟨by omega,by omega,by simp,by simp⟩
 ·obtain⟨q,hq,hqk,hqg⟩:=jJ hne;have h1:=hB.vers q hq
  have h2:((af S.ps p).map (·.size)).sum<=65536*b*(af S.ps p).length:=by
   rw[hqg]
   have:∀l:List VerL,(∀V∈l,V.size<=65536*b)->(l.map (·.size)).sum<=65536*b*l.length:=fun l=>by
    induction l with
    | nil=>intro _;simp
    | cons V r ih =>
     intro h;have h1:=h V (by simp);have h2:=ih (fun x hx=>h x (by simp[hx]));simp only[map_cons,sum_cons,length_cons,Nat.mul_add,Nat.mul_one];omega
   exact this _ (fun V hV=>(h1.2.2 V hV).2.2.1)
  have h3:(af S.ps p).length<=b:=by rw[hqg];exact h1.2.1
  have h4:65536*b*(af S.ps p).length<=65536*90000*90000:=Nat.mul_le_mul (Nat.mul_le_mul (Nat.le_refl _) hb) (by omega);exact⟨by omega,by omega,by omega,by omega⟩
theorem qh(S:AS)(hok:ArOk S)(b:Nat)(hB:ArB S b)(hb:b<=90000)(p:Bs)(v:Value)(ns:List Int)(w:World)(h:Sat w (arF S++cA v ns))(hio:iOk v ns)(hp:p.length<=255)(hn:∀n∈ns,I64 n)(hnl:ns.length<=15000)(hne:af S.ps p≠[]):
  Calls Tryz.prog 110 #[.pointer (some ⟨S.a,0,none⟩),str p,v] w (jV S p ns (cA v ns) w):=by
 obtain⟨sl,cap,hv,-,-,hcs,-⟩:=aP (aR h.right hio);have hrl:(frame 3 (dZ p ns)).length<=70000:=by simp only[aJ,dZ,length_append,bI,cH];omega
 have HW:=qqH (fun W (hW:aX w W)=>su 3 p sl cap ns W (hcs.keep hW (fun _ _ _=>id)) hp hn (by omega));obtain⟨rec,hrec⟩:∃rec,rec=frame 3 (dZ p ns):=⟨_,rfl⟩;rw[<- hrec]at HW hrl;have hal:S.a<w.heap.size:=ac (h.Q7 (b:=S.a) (o:=aH S.X) (by simp[arF]));have HH:=Hq8 h hio hok hB hne hrec hp hrl;clear h hio hok hB hne hrec hcs hp hn hrl;subst hv;go_enter Tryz.func110,Tryz.ntmps110;go_wp2_with fail;refine(HW.out _ (Mods.refl _ _)).mono ?_;rintro e w1 ⟨rv,rfl,hbo,hT1⟩;obtain⟨ra,rc,hrv,-⟩:=aP (dr hT1.sat hbo);subst hrv;have hT2:=((Turns.refl HH.a).Qb hT1).Q8 (.cells #[.slice ra rec.length rc] 38);have hT3:=hT2.to (H:=(arF S++mw w1.heap.size (.slice ra rec.length rc) rec)++cA (.slice sl ns.length cap) ns) (by unfold mw;exact ae);have HC:=qqH (kK S HH.c b HH.d hb (.slice ra rec.length rc) rec w1.heap.size _ hT3.sat.left hbo HH.t);have hal2:=ac (hT3.sat.Q7 (b:=S.a) (o:=aH S.X) (by simp[arF]));have H3:=qqH hT3;clear hT1 hT2 hT3 hbo;go_wp2_with fail;refine HC.out.mono ?_;rintro e w2 (⟨hful,rfl,hs⟩|⟨hfit,rfl,L',hR,hT4⟩)
 ·have H4:=Hq2 hful (H3.out.Q9 hs);clear hful hs;go_wp2_with fail;go_ret;refine (.inl ⟨by rw[<- HH.f];exact H4.a,rfl,?_⟩);exact H4.z.drop (fun x=>by simp only[ah];omega)
 ·have hT5:=H3.out.step (Perm.refl _) hT4;have hT6:=hT5.to (H:=((S.a,Is (aH S.X))::(aF S.X.pm S.ps S.pc++cA (.slice sl ns.length cap) ns))++((aq S.X.ab S.X.d (mT S L' rec).A++(az S.X.d L'++(b8 S.X.tm S.ts S.tc++aM S.X.cm S.cs S.cc)))++mw w1.heap.size (.slice ra rec.length rc) rec)) (by unfold arF mT;exact ae);have HD:=qqH (tL S.a S.X S.ps S.pc p (.slice sl ns.length cap) ns w2 hT6.sat.left HH.b HH.c.paths (by unfold OkS;have:=HH.g;omega) HH.e (Jj HH.c HH.d hb p) (by omega));have hal3:S.a<w2.heap.size:=ac hT6.sat.Q5;have H6:=Hq3 hT6 hfit hR;clear hT4 hT5 hT6 hfit hR;go_wp2_with fail;refine HD.out.mono ?_;rintro e w3 ⟨v',rfl,hv',hT7⟩;have H7:=Hq2 hv' (H6.a.step (Perm.refl _) hT7);clear hv' hT7;go_wp2_with fail;go_ret;refine (.inr ⟨by rw[<- HH.f];exact H6.b,rfl,v',L',by rw[<- HH.f];exact H6.y,H7.a,?_⟩);refine H7.z.drop (fun x=>?_);unfold ib arF mT i5;rw[<- HH.f];simp only[ao,ah];omega
theorem lQ(k:UInt8)(m p:Bs)(n:Int)(w:World):Calls Tryz.prog 113 #[.int .u8 k.toNat,qU m p n] w (fun e w'=>e=.returned (.agg #[.int .u8 k.toNat,str p,str m,.int .i64 n])/\aX w w'):=by
 unfold qU;go_enter Tryz.func113,Tryz.ntmps113;go_upto_region 1 with(fail);generalize hW:(w.alloc _).alloc _=W;have hs:aX w W:=by rw[<- hW];exact((Mods.refl _ w).alloc _).alloc _
 have hbo:W.heap[w.heap.size]?=some (.cells #[str m,str p,.int .i64 n] 230 (0,0)):=by rw[<- hW];exact((Mods.refl (fun _=>False) _).alloc _).at (aK w _) id
 have hro:W.heap[w.heap.size+1]?=some (.cells #[.int .u8 0,.string ⟨#[]⟩,.string ⟨#[]⟩,.int .i64 0] 233 (0,0)):=by
  rw[<- hW];have:=aK (w.alloc (.cells #[str m,str p,.int .i64 n] 230)) (.cells #[.int .u8 0,.string ⟨#[]⟩,.string ⟨#[]⟩,.int .i64 0] 233);rwa [World.size_alloc]at this
 have b0:W.cell? ⟨w.heap.size,0,none⟩=some (str m):=aa hbo 0 rfl;have b1:W.cell? ⟨w.heap.size,1,none⟩=some (str p):=aa hbo 1 rfl;have b2:W.cell? ⟨w.heap.size,2,none⟩=some (.int .i64 n):=aa hbo 2 rfl;obtain⟨q1,q2⟩:=dI hro [.int .u8 k.toNat,str p,str m,.int .i64 n] (by simp);have HX:=Hq3 (dm (C:=#[.int .u8 0,.string ⟨#[]⟩,.string ⟨#[]⟩,.int .i64 0]) hro 0 4 (by simp)) q1 (hs.trans' q2 (fun i hi=>.inr (by omega)));clear hW hs hbo hro q1 q2;go_wp2_with ((refine wpList_store_mid rfl 233 (.tmp 4) (.tmp 13) rfl (w.heap.size+1) 0 #[.int .u8 k.toNat,str p,str m,.int .i64 n] rfl rfl HX.a (by kernel_rfl) (by simp[Value.oneCell']) ?_));refine bodyPost_ret (results_cell_row rfl _ _ (w.heap.size+1) 233 _ (0,0) _ rfl HX.b Tryz.underlying233 rfl (by kernel_rfl)) rfl ?_;exact⟨rfl,HX.y⟩
def KB:Value:=.agg #[.string ⟨#[]⟩,.string ⟨#[]⟩,.int .i64 0]
theorem kf(w:World):(zeroValue 230).run Tryz.prog w=.ok KB w:=by kernel_rfl
def yG(S:AS)(m p:Bs)(n:Nat)(L':DevL):AS:={ mT S L' (frame 4 (dR p m n))with ps:=cP S.ps p n 1,ts:=ef S.ts S.tc m (mx m (p,(n:Int))) (p,(n:Int)),tc:=cw (S.ts.map aO) S.tc m }
def mZ(S:AS)(m p:Bs)(n:Int)(L':DevL):AS:={ mT S L' (frame 5 (dR p m n))with ps:=cP S.ps p n (-1),ts:=bH S.ts m }
theorem En{S S':AS}(h:ArOk S'){p:Bs}{n d:Int}{ts:List fq}{tc:Nat}(ht:TagsOk ts tc)(hS:S={ S' with ps:=cP S'.ps p n d,ts:=ts,tc:=tc }):ArOk S:=by
 subst hS;refine { h with paths:=Al h.paths p n d,tags:=ht,some:=wG h.some,vers:=fun q hq V hV=>?_ };obtain⟨q0,hq0,rfl⟩:=mem_map.1 (show q∈cP S'.ps p n d from hq);split at hV
 ·obtain⟨V0,hV0,rfl⟩:=mem_map.1 hV;have:=h.vers q0 hq0 V0 hV0;obtain⟨-,-,e3,-,e5⟩:=gy n d V0;rw[e3,e5];exact this
 ·exact h.vers q0 hq0 V hV
theorem BC{ts:List fq}{tc:Nat}(h:TagsOk ts tc){m:Bs}(hm:OkS m)(g:Bs×Int):TagsOk (ef ts tc m (mx m g) g) (cw (ts.map aO) tc m):=by
 refine⟨by rw[iE];exact h.map.put hm _,fun q hq=>?_⟩;rcases fx hq with⟨h1,_⟩|⟨h1,h2,h3⟩
 ·exact h.val q h1
 ·rw[h1,h2,h3]
theorem BB{ts:List fq}{tc:Nat}(h:TagsOk ts tc)(m:Bs):TagsOk (bH ts m) tc :=
 ⟨by rw[mG];exact h.map.del m,fun q hq=>h.val q (mem_filter.1 hq).1⟩
theorem Kt{S:AS}{m p:Bs}{n:Nat}{L':DevL}(hok:ArOk S)(h:RecIs S L' (frame 4 (dR p m n)))(hm:OkS m):ArOk (yG S m p n L') :=
 En (S':=mT S L' (frame 4 (dR p m n))) (yx hok h) (BC hok.tags hm (p,(n:Int))) rfl
theorem GB{S:AS}{m p:Bs}{n:Int}{L':DevL}(hok:ArOk S)(h:RecIs S L' (frame 5 (dR p m n))):ArOk (mZ S m p n L') :=
 En (S':=mT S L' (frame 5 (dR p m n))) (yx hok h) (BB hok.tags m) rfl
def Ce(S:AS)(m p:Bs)(n k:Int):Prop :=
 (S.X.closed=true/\k=9)\/(S.X.closed=false/\(aw m&&aw p)=false/\k=1)\/(aw m=true/\aw p=true/\S.X.closed=false/\ip S p n k)\/(∃V,aw m=true/\gB S p n V/\((gJ S.ts m=true/\k=6)\/(gJ S.ts m=false/\128*S.A.count<S.data.length+(frame 4 (dR p m V.num)).length/\k=8)))
def JB(S:AS)(m p:Bs)(n:Int)(w:World)(e:Ending)(w':World):Prop :=
 (∃k,Ce S m p n k/\e=.returned (cO k)/\Turns (arF S) (arF S) w w') \/
 (∃V L',aw m=true/\gB S p n V/\gJ S.ts m=false/\S.data.length+(frame 4 (dR p m V.num)).length<=128*S.A.count/\e=.returned .nilIface/\RecIs S L' (frame 4 (dR p m V.num))/\Turns (arF S) (arF (yG S m p V.num L')) w w')
theorem Em{S:AS}{b:Nat}(hB:ArB S b)(hb:b<=90000)(p:Bs):∀V∈af S.ps p,V.held.natAbs<=1099511627776:=fun V hV=>by
 obtain⟨q,hq,-,hqg⟩:=jJ (ne_nil_of_mem hV)
 have:=((hB.vers q hq).2.2 V (hqg ▸ hV)).2.2.2
 omega
theorem E6(S:AS)(m l:Bs)(n:Int)(b:Nat)(w:World)(h:Sat w (arF S))(hok:ArOk S)(hB:ArB S b)(hb:b<=90000):
  Calls Tryz.prog 66 #[.pointer (some ⟨S.a,0,none⟩),str m,str l,.int .i64 n] w (JB S m l n w):=by
 have HBg:=qqH (fun W (hW:aX w W) (h0:W.cell? ⟨w.heap.size,0,none⟩=some (str m)) (h1:W.cell? ⟨w.heap.size,1,none⟩=some (str l))=>ko S.a S.X (some ⟨w.heap.size,0,none⟩) 2 [m,l] W (hW.at h.Q5 id) (fun _=>⟨_,_,rfl,fun j hj=>by
  rcases(show j=0\/j=1 by simp at hj;omega)with rfl|rfl
  ·exact h0
  ·exact h1⟩) (by simp))
 have HF:=qqH (fun W (hW:aX w W)=>lJ S.a S.X S.ps S.pc l n W (h.same hW).Q5 ((h.same hW).tail.right.right.left) hok.paths);have hal:=ac h.Q5;have HH:=Hq4 h hok hB hb;clear h hok hB hb;go_enter Tryz.func66,Tryz.ntmps66;go_wp2_with fail;have hal0:=aK w (.cells #[str m,str l] 9);refine(HBg.out _ ((Mods.refl _ w).alloc _) (aa hal0 0 rfl) (aa hal0 1 rfl)).mono ?_;rintro e w1 ⟨rfl,hs1⟩;have hs2:aX w w1:=((Mods.refl _ w).alloc _).trans hs1;obtain⟨cl,hcl⟩:∃cl,cl=S.X.closed:=⟨_,rfl⟩;obtain⟨pb,hpb⟩:∃pb,pb=(aw m&&aw l):=⟨_,rfl⟩;have e1:([m,l].all aw)=pb:=by simp[hpb]
 rw[e1,<- hcl];have HD:=Hq3 hcl hpb hs2;clear hcl hpb hs2 hs1 e1 hal0
 cases cl with
 | true =>
  simp only[if_true];unfold cO;go_wp2_with fail;go_ret;refine (.inl ⟨9,.inl ⟨HD.a.symm,rfl⟩,rfl,Turns.same HH.a HD.y⟩)
 | false =>
  cases pb with
  | false =>
   simp only[Bool.false_eq_true,if_false];unfold cO;go_wp2_with fail;go_ret;refine (.inl ⟨1,.inr (.inl ⟨HD.a.symm,HD.b.symm,rfl⟩),rfl,Turns.same HH.a HD.y⟩)
  | true =>
   simp only[Bool.false_eq_true,if_false,if_true];have hpaths:aw m=true/\aw l=true:=by have:=HD.b.symm;simpa using this
   have HP:=qqH hpaths;clear hpaths;go_wp2_with fail;refine(HF.out _ HD.y).mono ?_;intro e w2 hp;obtain⟨hs,⟨k,hk,rfl⟩|⟨V,hV,rfl⟩⟩:=lK hp
   ·have HK:=Hq2 hk (HD.y.trans hs);clear hp hs hk;unfold cO;go_wp2_with fail;go_ret;refine (.inl ⟨k,.inr (.inr (.inl ⟨HP.a,HP.z,HD.a.symm,HK.a⟩)),rfl,(Turns.same HH.a HK.z)⟩)
   ·have hT1:Turns (arF S) (arF S) w w2:=Turns.same HH.a (HD.y.trans hs);obtain⟨p,hpm,hpk,hVp⟩:=sH hV.2.2;have hps:Sat w2 (er p.val p.g):=Sat.flat (f:=fun p:aW=>er p.val p.g) (hT1.sat.tail.right.right.left).tail hpm;have hvo:=(Sat.flat (f:=bT) hps.right hVp:Sat w2 (bT V)).Q5;have v0:w2.cell? ⟨V.blk,0,none⟩=some (.int .i64 V.num):=aa hvo 0 rfl;have hvl:=ac hvo;have hnum:=(((HH.c.vers p hpm).2.2 V hVp).1);have hne:af S.ps l≠[]:=fun e=>by have:=hV.2.2;rw[e]at this;cases this
    have a1:w2.cell? ⟨S.a,1,none⟩=some (.map (some S.X.tm)):=aa hT1.sat.Q5 1 rfl;have hal2:=ac hT1.sat.Q5;have htm:=hT1.sat.Q7 (b:=S.X.tm) (o:=aQ str (S.ts.map aO) S.tc) (by simp[arF,b8]);have hOm:OkS m:=by have:=bP HP.a;unfold OkS;omega
    obtain⟨hb,hhb⟩:∃hb,hb=ix (S.ts.map aO) m:=⟨_,rfl⟩
    obtain⟨x0,x1,x2,hz⟩:∃x0 x1:Bs,∃x2:Int,(dB (S.ts.map aO) m).getD KB=.agg #[str x0,str x1,.int .i64 x2]:=by
     cases hg:dB (S.ts.map aO) m with
     | none=>exact⟨[],[],0,rfl⟩
     | some u =>
      obtain⟨e,he,hek,hev⟩:=lk hg;obtain⟨q,hq,rfl⟩:=mem_map.1 he;have h3:=HH.b.tags.val q hq;refine⟨q.key,q.g.1,q.g.2,?_⟩;have:u=q.val:=hev.symm;rw[this,h3];rfl
    have HV:=Hq7 hV hT1 htm hOm hhb hz hne;clear hp hs hV hT1 hps hvo hpm hpk hVp hne htm hOm hhb hz;unfold ee;have hhg:gJ S.ts m=hb:=by rw[HV.e,pZ]
    have HG:=qqH hhg;clear hhg
    cases hb with
    | true =>
     go_wp2_with (at_lookup;refine ai rfl (iI eb (.tmp 39) (.tmp 40) rfl Tryz.underlying120 HV.c HH.b.tags.map (kf _) m rfl rfl HV.d ?_);rw[HV.f,<- HV.e]);go_ret;refine (.inl ⟨6,.inr (.inr (.inr ⟨V,HP.a,HV.a,.inl ⟨HG.out,rfl⟩⟩)),rfl,HV.b.alloc _⟩)
    | false =>
     go_upto_region 11 with(at_lookup;refine ai rfl (iI eb (.tmp 39) (.tmp 40) rfl Tryz.underlying120 HV.c HH.b.tags.map (kf _) m rfl rfl HV.d ?_);rw[HV.f,<- HV.e]);generalize hW:(w2.alloc _).alloc _=W
     have hT2:Turns (arF S) ((w2.heap.size+1,Is (.cells #[str m,str l,.int .i64 V.num] 230 (0,0)))::arF S) w W:=by
      rw[<- hW];have:=(HV.b.alloc (.cells #[str x0,str x1,.int .i64 x2] 230)).Q8 (.cells #[str m,str l,.int .i64 V.num] 230);rwa [World.size_alloc]at this
     have hbo:=hT2.sat.Q5;have d0:W.cell? ⟨w2.heap.size+1,0,none⟩=some (str m):=aa hbo 0 rfl;have d1:W.cell? ⟨w2.heap.size+1,1,none⟩=some (str l):=aa hbo 1 rfl;have d2:W.cell? ⟨w2.heap.size+1,2,none⟩=some (.int .i64 V.num):=aa hbo 2 rfl;obtain⟨pb,hpb⟩:∃pb,pb=w2.heap.size+1:=⟨_,rfl⟩;rw[<- hpb]at hT2 d0 d1 d2 ⊢;have H2:=qqH hT2;clear hW hT2 hbo hpb;go_wp2_with fail;refine(lQ 4 m l V.num _).mono ?_;rintro e w3 ⟨rfl,hs3⟩;obtain⟨rec,hrec⟩:∃rec,rec=frame 4 (dR l m V.num):=⟨_,rfl⟩
     have hrl:rec.length<=70000:=by
      have:=bP HP.a;have:=bP HP.z;rw[hrec];simp only[aJ,dR,length_append,bI,bV];omega
     have hWr:=kd 4 l m V.num w3 (by have:=bP HP.z;omega) (by have:=bP HP.a;omega) (by unfold I64;have:=HH.x;omega);rw[<- hrec]at hWr;have HW:=qqH hWr;have H3:=Hq3 (H2.out.Q9 hs3) hrec hrl;clear hs3 hrec hrl hWr d0 d1 d2;go_wp2_with fail;refine HW.out.mono ?_;rintro e w4 ⟨rv,rfl,hbo,hT4⟩;obtain⟨ra,rc,hrv,-⟩:=aP (dr hT4.sat hbo);subst hrv;have hT5:=((H3.a.Qb hT4).Q8 (.cells #[.slice ra rec.length rc] 38)).to (H:=(arF S++mw w4.heap.size (.slice ra rec.length rc) rec)++[(pb,Is (.cells #[str m,str l,.int .i64 V.num] 230 (0,0)))]) (by unfold mw;exact ae);have HC:=qqH (kK S HH.b b HH.c HH.x (.slice ra rec.length rc) rec w4.heap.size _ hT5.sat.left hbo H3.y);have hal4:=ac (hT5.sat.Q7 (b:=S.a) (o:=aH S.X) (by simp[arF]));have H5:=qqH hT5;clear hT4 hT5 hbo;go_wp2_with fail;refine HC.out.mono ?_;rintro e w5 (⟨hful,rfl,hs⟩|⟨hfit,rfl,L',hR,hT6⟩)
     ·have H6:=Hq2 hful (H5.out.Q9 hs);clear hful hs;unfold cO;go_wp2_with fail;go_ret;refine (.inl ⟨8,.inr (.inr (.inr ⟨V,HP.a,HV.a,.inr ⟨HG.out,by rw[<- H3.b];exact H6.a,rfl⟩⟩)),rfl,?_⟩);exact H6.z.drop (fun x=>by simp only[ah];omega)
     ·have hT7:=H5.out.step (Perm.refl _) hT6;have hT8:=hT7.to (H:=jE S.a S.X S.ps S.pc S.ts S.tc++((aq S.X.ab S.X.d (mT S L' rec).A++(az S.X.d L'++aM S.X.cm S.cs S.cc))++(mw w4.heap.size (.slice ra rec.length rc) rec++[(pb,Is (.cells #[str m,str l,.int .i64 V.num] 230 (0,0)))]))) (by unfold arF mT jE;exact ae);have hbo8:=hT8.sat.Q7 (b:=pb) (o:=.cells #[str m,str l,.int .i64 V.num] 230 (0,0)) (by simp);have d0:w5.cell? ⟨pb,0,none⟩=some (str m):=aa hbo8 0 rfl;have d1:w5.cell? ⟨pb,1,none⟩=some (str l):=aa hbo8 1 rfl;have d2:w5.cell? ⟨pb,2,none⟩=some (.int .i64 V.num):=aa hbo8 2 rfl;have hal5:S.a<w5.heap.size:=ac (hT8.sat.Q7 (b:=S.a) (o:=aH S.X) (by simp[jE]));have H8:=Hq3 hT8 hfit hR;clear hT6 hT7 hT8 hbo8 hfit hR;go_wp2_with fail;refine wp_region_still_tail 4 HM.out (by kernel_rfl) ?_;simp only[QE,take_zero,QD,drop_zero];repeat still_step
      refine wpStill_nil ?_;change wpList _ _ _ _ _ w5.drew;have hT9:=H8.a.drew;have HPn:=qqH (wS S.a S.X S.ps S.pc S.ts S.tc m l V.num w5.drew ⟨hT9.sat.left,HH.b.paths,HH.b.tags,HV.d,by unfold OkS;have:=bP HP.z;omega,by have:=EN HH.c l;have:=HH.x;omega,Em HH.c HH.x l⟩);have H9:=qqH hT9;clear hT9 d0 d1 d2;go_wp2_with fail;refine HPn.out.mono ?_;rintro e w6 ⟨rfl,hT10⟩;have H10:=qqH (H9.out.step (Perm.refl _) hT10);clear hT10;go_wp2_with fail;go_ret;refine (.inr ⟨V,L',HP.a,HV.a,HG.out,by rw[<- H3.b];exact H8.b,rfl,by rw[<- H3.b];exact H8.y,?_⟩);refine H10.out.drop (fun x=>?_);unfold yG arF mT jE;rw[<- H3.b];simp only[ao,ah];omega
theorem Told.more{S S':AS}{rs:fT}{H H':List HV}(h:Told S rs H)(hok:ArOk S){L':DevL}{k:UInt8}{body:Bs}(hr:RecIs S L' (frame k body))(hk:k≠0)(hb:body.length<65536)(hd:S'.data=S.data++frame k body)(hL:S'.L=L')(hX:S'.X.ep=S.X.ep)(hrun:fy (bn rs).length ⟨S.K,H,S.ts.map ex⟩ k body=some ⟨S'.K,H',S'.ts.map ex⟩)(hh:∀l,(af S'.ps l).map bp=(H'.filter (fun h=>decide (h.p=l))).map cy)(hu:S'.X.used=((H'.map (·.size)).sum:Nat)):Told S' (rs++[(k,body)]) H' where
 ok:=fun r hr=>by
  rcases mem_append.1 hr with hr|hr
  ·exact h.ok r hr
  ·obtain rfl:=mem_singleton.1 hr
   exact⟨hk,hb⟩
 data:=by rw[hd,co,h.data];simp[bn]
 run:=by
  rw[dM,h.run,Option.bind_some,Nat.zero_add]
  simp only[il,hrun,Option.bind_some]
 hist:=hh
 sec:=by rw[hX];exact h.sec.to (fun k hk=>by rw[hL,d9,hr.oth k 1 (.inl (by rw[hok.first];omega)),<- d9]) (by rw[hd];simp)
 used:=hu
theorem FU(ns:List Int)(vs:List VerL):(dD ns vs).map bp=(vs.map bp).filter (fun t => !ns.contains (t.1:Int)):=by
 rw[filter_map];rfl
theorem It(ns:List Int)(vs:List VerL):bX ns vs=(((vs.map bp).filter (fun t=>ns.contains (t.1:Int))).map (·.2.1)).sum:=by
 unfold bX;rw[filter_map,map_map];rfl
theorem Fu(H:List HV)(p:Bs)(ns:List Int):(H.map (·.size)).sum=((jt H p ns).map (·.size)).sum+(((((H.filter (fun h=>decide (h.p=p))).map cy).filter (fun t=>ns.contains (t.1:Int))).map (·.2.1)).sum):=by
 have h1:(H.map (·.size)).sum=(((H.filter (fun h=>decide (h.p=p)&&ns.contains (h.num:Int)))++(H.filter (fun h => !(decide (h.p=p)&&ns.contains (h.num:Int))))).map (·.size)).sum:=((filter_append_perm _ H).symm.map _).sum_nat;rw[map_append,sum_append]at h1
 have h2:(((H.filter (fun h=>decide (h.p=p))).map cy).filter (fun t=>ns.contains (t.1:Int))).map (·.2.1)=(H.filter (fun h=>decide (h.p=p)&&ns.contains (h.num:Int))).map (·.size):=by
  rw[filter_map,map_map,filter_filter]
  have:H.filter (fun h=>((fun t:Nat×Nat×List (Nat×Nat)×Int=>ns.contains (t.1:Int)) ∘ cy) h&&decide (h.p=p))=H.filter (fun h=>decide (h.p=p)&&ns.contains (h.num:Int)):=filter_congr fun h _=>by
   show(ns.contains (h.num:Int)&&_)=_;rw[Bool.and_comm]
  rw[this];rfl
 rw[h2];unfold jt;omega
theorem Told.gone{S:AS}{rs:fT}{H:List HV}(h:Told S rs H)(hok:ArOk S){p:Bs}{ns:List Int}{v':Value}{L':DevL}(hr:RecIs S L' (frame 3 (dZ p ns)))(hp:p.length<=20)(hn:∀n∈ns,0<=n/\n<4294967296)(hnl:ns.length<=15000)(hne:af S.ps p≠[]):
  Told (ib S p ns v' L') (rs++[(3,dZ p ns)]) (jt H p ns):=by
 have hany:H.any (fun h=>decide (h.p=p))=true:=by
  rw[any_eq_true];have h1:=congrArg length (h.hist p);rw[length_map,length_map]at h1
  have h2:H.filter (fun h=>decide (h.p=p))≠[]:=fun e=>by
   rw[e]at h1;exact hne (length_eq_zero_iff.1 h1)
  obtain⟨x,hx⟩:=exists_mem_of_ne_nil _ h2;exact⟨x,mem_filter.1 hx⟩
 have hs:=Fu H p ns;rw[<- h.hist,<- It]at hs;refine h.more hok hr (by decide) (by unfold dZ;rw[length_append,bI,cH];omega) rfl rfl rfl ?_ (fun l=>?_) ?_
 ·unfold fy;rw[if_neg (by decide),DB (by omega) hn];dsimp only;rw[if_pos hany];rfl
 ·show(af (ga S.ps S.pc p v' ns) l).map bp=_;rw[lH];unfold jt;rw[filter_filter];by_cases hl:l=p
  ·subst hl;rw[if_pos rfl,FU,h.hist,filter_map,filter_filter];congr 1;refine filter_congr fun x _=>?_
   by_cases hx:x.p=l
   ·simp only[Function.comp_apply,cy,hx,decide_true,Bool.true_and,Bool.and_true]
   ·simp only[hx,decide_false,Bool.false_and,Bool.and_false]
  ·rw[if_neg hl,h.hist];congr 1;refine filter_congr fun x _=>?_
   by_cases hx:x.p=l
   ·have:¬x.p=p:=fun e=>hl (hx.symm.trans e)
    simp[hx,hl]
   ·simp[hx]
 ·show S.X.used-(bX ns (af S.ps p):Nat)=_;rw[h.used];omega
theorem wF(H:List HV)(p:Bs)(n d:Int):((fw H p n d).map (·.size)).sum=(H.map (·.size)).sum:=by
 unfold fw;rw[map_map];congr 1;refine map_congr_left fun x _=>?_
 simp only[Function.comp_apply];split<;>rfl
def tb2(n d:Int)(t:Nat×Nat×List (Nat×Nat)×Int):Nat×Nat×List (Nat×Nat)×Int:=if(t.1:Int)=n then(t.1,t.2.1,t.2.2.1,t.2.2.2+d)else t
theorem t8{S:AS}{H:List HV}(h:∀l,(af S.ps l).map bp=(H.filter (fun h=>decide (h.p=l))).map cy)(p:Bs)(n d:Int)(l:Bs):(af (cP S.ps p n d) l).map bp=((fw H p n d).filter (fun h=>decide (h.p=l))).map cy:=by
 have e0:(fw H p n d).filter (fun h=>decide (h.p=l))=(H.filter (fun h=>decide (h.p=l))).map (fun h=>if h.p=p/\(h.num:Int)=n then { h with held:=h.held+d } else h):=by
  unfold fw;rw[filter_map];congr 1;refine filter_congr fun x _=>?_
  simp only[Function.comp_apply];split<;>rfl
 rw[gT,e0,map_map];by_cases hl:l=p
 ·subst hl;rw[if_pos rfl,map_map];have h1:=congrArg (List.map (tb2 n d)) (h l);rw[map_map,map_map]at h1;refine Eq.trans (map_congr_left fun V _=>?_) (h1.trans (map_congr_left fun x hx=>?_))
  ·show bp (di n d V)=tb2 n d (bp V);unfold tb2 di;by_cases hV:(V.num:Int)=n
   ·rw[if_pos hV,if_pos (show((bp V).1:Int)=n from hV)];rfl
   ·rw[if_neg hV,if_neg (show ¬((bp V).1:Int)=n from hV)]
  ·have hx2:x.p=l:=by simpa using(mem_filter.1 hx).2
   show tb2 n d (cy x)=cy (if x.p=l/\(x.num:Int)=n then { x with held:=x.held+d } else x);unfold tb2;by_cases hV:(x.num:Int)=n
   ·rw[if_pos (show((cy x).1:Int)=n from hV),if_pos ⟨hx2,hV⟩];rfl
   ·rw[if_neg (show ¬((cy x).1:Int)=n from hV),if_neg (fun e=>hV e.2)]
 ·rw[if_neg hl,h l];refine map_congr_left fun x hx=>?_
  have hx2:x.p=l:=by simpa using(mem_filter.1 hx).2
  simp only[Function.comp_apply];rw[if_neg (fun e=>hl (hx2.symm.trans e.1))]
theorem IV(ts:List fq)(c:Nat)(m:Bs)(v:Value)(g:Bs×Int):(ef ts c m v g).map ex=lS (ts.map ex) (m,g.1,g.2):=by
 have e:(ts.map ex).any (fun t=>decide (t.1=m))=gJ ts m:=by unfold gJ;rw[any_map];rfl
 unfold ef lS;rw[e];split
 ·rw[map_map,map_map];refine map_congr_left fun x _=>?_
  simp only[Function.comp_apply];by_cases hx:x.key=m
  ·rw[if_pos hx,if_pos (show(ex x).1=m from hx)];simp[ex,hx]
  ·rw[if_neg hx,if_neg (show ¬(ex x).1=m from hx)]
 ·simp[ex]
theorem ur{p m:Bs}(hp:p.length<=20)(hm:m.length<=20)(n:Int):(dR p m n).length<=60:=by
 unfold dR;simp only[length_append,bI,bV];omega
theorem Told.tag{S:AS}{rs:fT}{H:List HV}(h:Told S rs H)(hok:ArOk S){m p:Bs}{n:Nat}{L':DevL}(hr:RecIs S L' (frame 4 (dR p m n)))(hp:p.length<=20)(hm:m.length<=20)(hn:n<4294967296):
  Told (yG S m p n L') (rs++[(4,dR p m n)]) (fw H p n 1):=by
 refine h.more hok hr (by decide) (by have:=ur hp hm n;omega) rfl rfl rfl ?_ (fun l=>t8 h.hist p n 1 l) ?_
 ·unfold fy;rw[if_neg (by decide),qZ (.inl rfl) (by omega) (by omega) hn];dsimp only;rw[if_pos rfl];show _=some (PSt.mk S.K _ ((ef S.ts S.tc m (mx m (p,(n:Int))) (p,(n:Int))).map ex));rw[IV]
 ·show S.X.used=_;rw[h.used,wF]
theorem Told.Qm{S:AS}{rs:fT}{H:List HV}(h:Told S rs H)(hok:ArOk S){m p:Bs}{n:Nat}{L':DevL}(hr:RecIs S L' (frame 5 (dR p m n)))(hp:p.length<=20)(hm:m.length<=20)(hn:n<4294967296):
  Told (mZ S m p n L') (rs++[(5,dR p m n)]) (fw H p n (-1)):=by
 refine h.more hok hr (by decide) (by have:=ur hp hm n;omega) rfl rfl rfl ?_ (fun l=>t8 h.hist p n (-1) l) ?_
 ·unfold fy;rw[if_neg (by decide),qZ (.inr rfl) (by omega) (by omega) hn];dsimp only;rw[if_neg (by decide)];show _=some (PSt.mk S.K _ ((bH S.ts m).map ex));unfold zT bH;rw[filter_map];rfl
 ·show S.X.used=_;rw[h.used,wF]
end
end Go.Proofs.YtdhobpbngkainaaGreatDoor
