/- Ours. A part of the proof, made small by a program. -/
import Derived.Test.YtdhobpbngkainaaGreatDoorGb05
set_option maxRecDepth 100000
set_option maxHeartbeats 16000000
namespace Go.Proofs.YtdhobpbngkainaaGreatDoor
open List Go.Proofs.Tryz
section
open Go.RowKit Go.Maps
def bt(K:List (Bs×Nat×Nat))(q:Nat×Nat):Bs:=((K.find? (fun e=>decide (e.2=q))).map (·.1)).getD []
def gB(S:AS)(V:Oe):Bs:=V.N8.flatMap (bt S.K)
theorem Lt{S:AS}(h:Oo S){c c':Bs}{q:Nat×Nat}(h1:(c,q)∈S.K)(h2:(c',q)∈S.K):c=c' :=
 mN ((h.Pm _ h1).2.Qd h.dat) ((h.Pm _ h2).2.Qd h.dat) ((h.Pm _ h1).1.symm.trans (h.Pm _ h2).1)
theorem nH{S:AS}(h:Oo S){c:Bs}{q:Nat×Nat}(hq:(c,q)∈S.K):bt S.K q=c:=by
 unfold bt
 cases hf:S.K.find? (fun e=>decide (e.2=q))with
 | none=>rw[find?_eq_none]at hf;exact absurd Nh (hf _ hq)
 | some e =>
  have h1:=mem_of_find?_eq_some hf;have h2:e.2=q:=by simpa using find?_some hf
  have h3:(e.1,q)∈S.K:=by rw[<- h2];exact h1
  simpa using Lt h h3 hq
theorem nT{S:AS}{l:Bs}{n:Int}{V:Oe}(hf:iW (ah S.ps l) n=some V):∃p∈S.ps,p.key=l/\V∈p.g:=by
 have key:∀(l:List Oe),iW l n=some V->V∈l:=by
  intro l;induction l with
  | nil=>intro h;simp[iW]at h
  | cons v r ih =>
   intro h;unfold iW at h;split at h
   ·simp only[NY]at h;subst h;simp
   ·exact mem_cons_of_mem _ (ih h)
 have hm:=key _ hf;unfold ah Qr at hm
 cases hg:S.ps.find? (fun p=>decide (p.key=l))with
 | none=>rw[hg]at hm;simp at hm
 | some p=>rw[hg]at hm;exact⟨p,mem_of_find?_eq_some hg,by simpa using find?_some hg,hm⟩
theorem IG{S:AS}(h:Oo S){p:bf}(hp:p∈S.ps){V:Oe}(hV:V∈p.g){q:Nat×Nat}(hq:q∈V.N8):(bt S.K q,q)∈S.K:=by
 obtain⟨e,he,rfl⟩:=(h.vers p hp V hV).1 q hq;have:=nH h (c:=e.1) (q:=e.2) he;rw[this];exact he
theorem qZ{S:AS}(h:Oo S){p:bf}(hp:p∈S.ps){V:Oe}(hV:V∈p.g):(gB S V).length=V.size:=by
 rw[(h.vers p hp V hV).2]
 have key:∀l:List (Nat×Nat),(∀q∈l,(bt S.K q,q)∈S.K)->(l.flatMap (bt S.K)).length=(l.map (·.2)).sum:=by
  intro l;induction l with
  | nil=>intro _;rfl
  | cons q r ih =>
   intro hq;rw[flatMap_cons,NM,ih (fun x hx=>hq x (by simp[hx])),map_cons,sum_cons,(h.Pm _ (hq q Nh)).1]
 exact key _ (fun q hq=>IG h hp hV hq)
def kB(S:AS)(l:Bs)(n:Int)(k:Int):Prop :=
 (S.X.closed=true/\k=9)\/(S.X.closed=false/\az l=false/\k=1)\/(S.X.closed=false/\az l=true/\iW (ah S.ps l) n=none/\k=3)
def iU(S:AS)(l:Bs)(n:Int)(V:Oe):Prop:=S.X.closed=false/\az l=true/\iW (ah S.ps l) n=some V
theorem i7{S:AS}{l:Bs}{n:Int}{w w':World}{e:Ending}(h:zx S.X S.ps l n w e w'):
  aV w w'/\((∃k,kB S l n k/\e=.returned (.tuple #[.pointer none,cr k]))\/(∃V,iU S l n V/\e=.returned (.tuple #[dN V,.nilIface]))):=by
 obtain⟨he,hs⟩:=h;refine⟨hs,?_⟩
 cases hc:S.X.closed with
 | true=>rw[hc,NR rfl]at he;exact .inl ⟨9,.inl ⟨hc,rfl⟩,he⟩
 | false =>
  rw[hc,NQ Nh]at he
  cases hp:az l with
  | false=>rw[hp,NQ Nh]at he;exact .inl ⟨1,.inr (.inl ⟨hc,hp,rfl⟩),he⟩
  | true =>
   rw[hp,NR rfl]at he
   cases hf:iW (ah S.ps l) n with
   | none=>rw[hf]at he;exact .inl ⟨3,.inr (.inr ⟨hc,hp,hf,rfl⟩),he⟩
   | some V=>rw[hf]at he;exact .inr ⟨V,⟨hc,hp,hf⟩,he⟩
def Eo(S:AS)(l:Bs)(n:Int)(w:World)(e:Ending)(w':World):Prop :=
 (∃k,kB S l n k/\e=.returned (.tuple #[.slice none 0 0,cr k])/\Turns (N9 S) (N9 S) w w') \/
 (∃V v sp,iU S l n V/\e=.returned (.tuple #[v,.nilIface])/\PE v (gB S V)/\Ov { S.A with spare:=sp }/\Turns (N9 S) (aJ v (gB S V)++N9 { S with A:={ S.A with spare:=sp } }) w w')
theorem xT{S:AS}(hok:Oo S){p:bf}(hp:p∈S.ps){V:Oe}(hV:V∈p.g){sl:Option Addr}{n cap:Nat}(hcv:V.cv=.slice sl n cap){W:World}(hs:Sat W (aG S.X.pm S.ps S.pc)):W.heap[V.blk]?=some (dB V)/\ak W sl (cZ V.N8):=by
 have hps:Sat W (ee p.val p.g):=Sat.flat (f:=fun p:bf=>ee p.val p.g) hs.tail hp;have hvf:Sat W (bN V):=Sat.flat (f:=bN) hps.right hV;obtain⟨sl2,cap2,h1,_,_,h4⟩:=fc hvf.tail ((hok.paths.rows p hp).2 V hV);rw[hcv]at h1;simp only[Value.slice.injEq]at h1;obtain⟨rfl,_,_⟩:=h1;exact⟨hvf.Q5,h4⟩
def LK(S:AS)(V:Oe)(w:World)(out i:Value)(W:World):Prop :=
 ∃(j:Nat) (sp:List (Nat×Nat×Nat)) (J:HF),j<=V.N8.length/\i=.int .i64 j/\PE out ((V.N8.take j).flatMap (bt S.K))/\Ov { S.A with spare:=sp }/\Turns (N9 S) (aJ out ((V.N8.take j).flatMap (bt S.K))++(N9 { S with A:={ S.A with spare:=sp } }++J)) w W
theorem wz(S:AS)(l:Bs)(n:Int)(b:Nat)(w:World)(h:Sat w (N9 S))(hok:Oo S)(hB:QU S b)(hb:b<=90000)(_:l.length<=9223372036854775807):
  Calls prog 27 #[.pointer (some ⟨S.a,0,none⟩),str l,.int .i64 n] w (Eo S l n w):=by
 have HF:=NZ (i6 S.a S.X S.ps S.pc l n w h.Q5 (h.tail.right.right.left) hok.paths);have HH:=OW h hok hB hb;clear h hok hB hb;go_enter func27,ntmps27;go_wp2_with fail;refine HF.o.mono ?_;intro e w1 hp;obtain⟨hs,⟨k,hk,rfl⟩|⟨V,hV,rfl⟩⟩:=i7 hp
 ·have HK:=Ob hk hs;clear hp hs hk;unfold cr;go_wp2_with fail;go_ret2;refine (.inl ⟨k,HK.a,rfl,(Turns.same HH.a HK.z)⟩)
 ·obtain⟨p,hpm,hpk,Sv⟩:=nT hV.2.2;have hT1:Turns (N9 S) (N9 S) w w1:=Turns.same HH.a hs;have hps:Sat w1 (ee p.val p.g):=Sat.flat (f:=fun p:bf=>ee p.val p.g) (hT1.sat.tail.right.right.left).tail hpm;have hvf:Sat w1 (bN V):=Sat.flat (f:=bN) hps.right Sv;have hpo:bQ V.cv V.N8:=(HH.b.paths.rows p hpm).2 V Sv;obtain⟨sl,cap,hcv,e2,e3,hcell⟩:=fc hvf.tail hpo;have v2:w1.cell? ⟨V.blk,2,none⟩=some (.slice sl V.N8.length cap):=by rw[<- hcv];exact aa hvf.Q5 2 rfl
  have hvl:=ae hvf.Q5
  have hcl:V.N8.length<=90000:=by
   have h1:=((HH.c.vers p hpm).2.2 V Sv).2.1;have:=HH.x;omega
  have HV:=Ry hV hpm Sv hT1 hcell hpo hcv;clear hp hs hV hpm hpk Sv hT1 hps hvf hpo hcv hcell;unfold dN;go_wp2_with fail;go_loopw [10,30] (fun out i wr=>LK S V w out i wr) (fun _ i _=>V.N8.length-(intOf i).toNat)
  case atStart=>exact⟨0,S.A.spare,[],Nat.zero_le _,rfl,go,HH.b.area,by rw[append_nil];exact HV.d⟩
  case round =>
   obtain⟨j,sp,J,hj,rfl,OB,hAo,hT⟩:=hrel;have HR:=Oz OB hAo hT;clear OB hAo hT;by_cases hlt:j<V.N8.length
   ·obtain⟨UM,hcells⟩:=xT HH.b HV.b HV.c HV.u (W:=wr) (HR.y.sat.sub (fun x=>by simp only[N9,ao,af]<;>omega));obtain⟨g,off,hg,hcell⟩:=hcells NI;subst hg;obtain⟨hc1,hc2⟩:=mY hcell hlt;obtain⟨q,hq⟩:=Na (V.N8[j]);rw[<- hq]at hc1 hc2;have Vd:=IG HH.b HV.b HV.c (q:=q) (by rw[hq];exact getElem_mem hlt);obtain⟨bo,OB⟩:=Na (bt S.K q);rw[<- OB]at Vd;have hq2:q.2=bo.length:=(HH.b.Pm _ Vd).1;have hbody:=(HH.b.Pm _ Vd).2.Qd HH.b.dat
    have htk:(V.N8.take (j+1)).flatMap (bt S.K)=(V.N8.take j).flatMap (bt S.K)++bo:=by
     rw[QH hlt,flatMap_append,OB,hq];simp
    have hlen:((V.N8.take j).flatMap (bt S.K)).length+bo.length<=137438953472:=by
     have h1:((V.N8.take (j+1)).flatMap (bt S.K)).length<=(gB S V).length:=by
      unfold gB;conv=>rhs;rw[<- take_append_drop (j+1) V.N8,flatMap_append,NM]
      omega
     rw[qZ HH.b HV.b HV.c,htk,NM]at h1;have h2:=((HH.c.vers p HV.b).2.2 V HV.c).2.2.1;have:=HH.x;omega
    obtain⟨B8,U7⟩:=Na wr.heap.size;obtain⟨bs,hbs⟩:=Na ((V.N8.take j).flatMap (bt S.K));rw[<- hbs]at htk hlen HR
    have OX:Turns (N9 S) (aq S.X.ab S.X.d { S.A with spare:=sp }++((B8,Is (aE q))::(aJ u10 bs++((S.a,Is (aL S.X))::(aA S.X.d S.L++(aG S.X.pm S.ps S.pc++(bX S.X.tm S.ts S.tc++(aQ S.X.cm S.cs S.cc++J)))))))) w (wr.alloc (aE q)):=by
     rw[U7];exact(HR.y.Q9 (aE q)).to Ns
    have WM:=NZ (lX S.a S.X S.X.ab S.X.d rfl { S.A with spare:=sp } S.L q.1 bo _ (wr.alloc (aE q)) OX.sat (fun x=>by simp only[ao,af];omega) HH.b.dev HR.b HH.b.fits HH.b.Px hbody);rw[<- hq2]at WM;have HQ:=RV Vd hq2 htk hlen OX U7;clear UM hcells hcell hq Vd OB hq2 hbody htk hlen OX U7 hbs;go_wp2_with fail;refine WM.o.mono ?_;rintro e w4 ⟨av,cv,sp2,rfl,P7,SS,Oj⟩;have Og:=HQ.e.trans Oj;obtain⟨av',cv',hev,-,-,hav,-⟩:=aP (dh Oj.sat.left P7);simp only[Value.slice.injEq,true_and]at hev;obtain⟨rfl,rfl⟩:=hev;rw[<- HQ.v];have Ox:Turns (N9 S) (aJ u10 bs++(N9 { S with A:={ S.A with spare:=sp2 } }++((B8,Is (aE q))::(aJ (.slice av bo.length cv) bo++J)))) w w4:=Og.to Ns;have H4:=Oz SS Ox hav;clear P7 SS Oj Og hav Ox;go_wp2_with ((refine ai rfl (fu (.tmp 43) (.tmp 44) rfl u10 bs rfl H4.b HR.a av bo.length cv rfl bo rfl H4.y HQ.d ?_);intro av2 SQ w6 Tm Ox _));go_roundw
    case rel =>
     refine⟨j+1,sp2,(B8,Is (aE q))::(aJ (.slice av bo.length cv) bo++J),Nb,by go_num,?_,H4.a,?_⟩
     ·rw[HQ.c];rw[NM]at Tm;exact Tm
     ·rw[HQ.c];rw[NM]at Ox;exact Ox
    case measure=>simp[intOf];omega
   ·obtain rfl:j=V.N8.length:=Nb
    rw[take_length]at HR;go_wp2_with fail;go_ret2;refine (.inr ⟨V,u10,sp,HV.a,rfl,HR.a,HR.b,?_⟩);exact HR.y.drop (fun x=>by unfold gB;simp only[af];omega)
theorem KH:(prog.info? 262).map (fun i=>(i.zero,i.size,i.bytes))=some (some (.agg #[str [],.int .i64 0,.int .i64 0,.int .i64 0]),4,40):=Nc
theorem zi{o:Oper}{a:Act}{w a0:World}{K:Act->World->Prop}{Q:Exit->Act->World->Prop}{F G:HF}(s x:Operand)(hop:o.op=.call { callee:=.builtin .append,args:=#[s,x],argTypes:=#[181,181] })(v:Value)(l:List OI)(hs:a.eval s=v)(hT:Turns F (ek v l++G) a0 w)(hok:qe v l)(nb:Nat)(hx:a.eval x=.slice (some ⟨nb,0,none⟩) 1 1)(r:OI)(hc:w.heap[nb]?=some (.cells (cz r).toArray 262 (0,0)))(hb:l.length<=1000000)(hk:∀v' w',qe v' (l++[r])->Turns F (ek v' (l++[r])++G) a0 w'->K (a.put o.dst v') w'):o.wp prog a w K Q:=by
 obtain⟨i0,hi0,hz1,hz2,hz3⟩:=info_parts KH;refine cL s x 181 262 i0 (.agg #[str [],.int .i64 0,.int .i64 0,.int .i64 0]) 4 40 hop underlying181 hi0 hz1 hz2 hz3 rfl Nk v l.length (l.flatMap cz) hs hT hok (some ⟨nb,0,none⟩) 1 1 hx (cz r) rfl (fun _=>⟨_,rfl,fun j u hu=>?_⟩) (fun u hu=>EG [r] u (by simpa using hu)) (by unfold maxLen;omega) Nb (fun v' w' h1 h2 h3=>?_)
 ·rw[Addr.add_lit,Nat.zero_add];exact aa hc j (by simpa using hu)
 ·exact hk v' w' (by unfold qe;rw[NM,flatMap_append];simpa using h1) (by unfold ek;rw[NM,flatMap_append];simpa using h2)
def IV(nb:Nat)(key:Bs)(U:Oe)(n:Nat):Nat×(Obj->Prop):=(nb,Is (.cells (cz ⟨key,U.num,U.size,n⟩).toArray 262 (0,0)))
def EO(l:List Oe):Oe:=(l.getLast?).getD ⟨0,0,0,.slice none 0 0,[],0⟩
def Mh(p:bf):OI:=⟨p.key,(EO p.g).num,(EO p.g).size,p.g.length⟩
def eY(pre:Bs)(l:List bf):List OI:=(l.filter (fun p=>pre.isPrefixOf p.key)).map Mh
def Ho(S:AS)(pre:Bs)(w:World)(e:Ending)(w':World):Prop :=
 (S.X.closed=true/\e=.returned (.tuple #[.slice none 0 0,cr 9])/\Turns (N9 S) (N9 S) w w') \/
 (S.X.closed=false/\∃v es,e=.returned (.tuple #[v,.nilIface])/\CE (eY pre S.ps) es/\qe v es/\Turns (N9 S) (ek v es++N9 S) w w')
def yb(S:AS)(pre:Bs)(w:World)(r:Nat)(v:Value)(W:World):Prop :=
 ∃done todo J,(done++todo).Perm S.ps/\qe v (eY pre done)/\Turns (N9 S) (ek v (eY pre done)++((r,Is (dI S.X.pm S.pc (done.map aR)))::(N9 S++J))) w W
def uy(r n:Nat)(w:World):Nat:=match w.heap[r]? with
 | some (.mapIter _ _ d _)=>n-d.size
 | _=>0
theorem NC{p:Prop}(h:p:=by simp[N9,aG]):p:=h
theorem tw(S:AS)(pre:Bs)(b:Nat)(w:World)(h:Sat w (N9 S))(hok:Oo S)(hB:QU S b)(hb:b<=90000):
  Calls prog 88 #[.pointer (some ⟨S.a,0,none⟩),str pre] w (Ho S pre w):=by
 have ha:=h.Q5;have hal:=ae ha
 cases hc:S.X.closed with
 | true =>
  have a10:w.cell? ⟨S.a,10,none⟩=some (.bool true):=by rw[<- hc];exact aa ha 10 rfl
  have HC:=Ob hc h;clear h hok hB hb ha hc;go_enter func88,ntmps88;go_wp2_with fail;exact bodyPost_ret (results_tmp2 rfl _ _ _) rfl (.inl ⟨HC.a,rfl,Turns.refl HC.z⟩)
 | false =>
  have a10:w.cell? ⟨S.a,10,none⟩=some (.bool false):=by rw[<- hc];exact aa ha 10 rfl
  have a0:w.cell? ⟨S.a,0,none⟩=some (.map (some S.X.pm)):=aa ha 0 rfl;have hpm:=h.Q7 (b:=S.X.pm) (o:=aU str (S.ps.map aR) S.pc) NC;obtain⟨r,hr⟩:=Na w.heap.size
  have Tn:yb S pre w r (.slice none 0 0) (w.alloc (dI S.X.pm S.pc ([]:List (OT Bs)))):=by
   refine⟨[],S.ps,[],Perm.refl _,⟨rfl,fun _=>⟨rfl,rfl⟩⟩,?_⟩;rw[hr,append_nil];exact(Turns.refl h).Q9 _
  have HH:=Uh h hok hB hb hc hpm hr Tn;clear h hok hB hb ha hc hpm hr Tn;go_enter func88,ntmps88;go_wp2_with ((refine ai rfl (E9 (.tmp 19) rfl underlying119 HH.f rfl ?_);rw[<- HH.g]));go_frame;go_loopw [6] (fun v wr=>yb S pre w r v wr) (fun _ wr=>uy r S.ps.length wr)
  case atStart=>exact HH.t
  case round =>
   obtain⟨done,todo,J,hperm,Ph,hT⟩:=hrel;have hT2:=hT.to (H:=(r,Is (dI S.X.pm S.pc (done.map aR)))::(ek u6 (eY pre done)++(N9 S++J))) ac;have UK:=hT2.sat.Q5;have hrm:=hT2.sat.Q7 (b:=S.X.pm) (o:=aU str (S.ps.map aR) S.pc) NC;have TW:(done.map aR++todo.map aR).Perm (S.ps.map aR):=by rw[<- NW];exact hperm.map _
   have hdl:done.length+todo.length=S.ps.length:=by rw[<- hperm.length_eq,NM]
   have hpl:S.ps.length<=90000:=Nat.le_trans HH.c.np HH.d;rcases xI (P:=prog) (ty:=0) UK hrm HH.b.paths.map TW with⟨ht,hnx⟩|⟨e,rest,w4,ht,hw4,hnx⟩
   ·have hte:todo=[]:=by simpa using ht
    have hdp:done.Perm S.ps:=by rw[hte,append_nil]at hperm;exact hperm
    have hee:(eY pre done).Perm (eY pre S.ps):=by unfold eY;exact(hdp.filter _).map _
    have hel:(eY pre done).length<=90000:=by
     have h1:(eY pre done).length<=done.length:=by unfold eY;rw[NP];exact length_filter_le _ _
     omega
    obtain⟨es,hes⟩:=Na (eY pre done);rw[<- hes]at Ph hT hee hel;have HD:=OW Ph hT hee hel;clear Ph hT hT2 UK hrm TW hdl hpl ht hte hdp hee hel hperm hes;by_cases hne:es=[]
    ·subst hne
     have hsn:∃p cap,u6=.slice p 0 cap:=by
      obtain⟨-,-,p,cap,e1,-,-⟩:=cT HD.b.sat.left HD.a;exact⟨p,cap,e1⟩
     obtain⟨p,cap,e1⟩:=hsn;have hsort:=AnyF.slices_SortFunc_none LF p cap (.func (.func 134) #[] #[]) wr;change Calls prog 133 _ _ _ at hsort;have HS:=Ob hsort e1;have XB:=HD.o;rw[e1]at XB;have HD2:=NZ XB;subst e1;clear hsort XB HD;go_wp2_with fail;refine HS.a.mono ?_;rintro e w5 ⟨rfl,rfl⟩;go_wp2_with fail;exact bodyPost_ret (results_tmp2 rfl _ _ _) rfl (.inr ⟨HH.e,_,[],rfl,⟨HD2.c,fun i j hij hj=>by simp at hj⟩,HD2.a,by exact HD2.b.drop (fun x=>by simp only[ao,af];omega)⟩)
    ·obtain⟨g,cap,e1,hsort⟩:=D6 HD.b HD.a hne (by have:=HD.x;omega);have HS:=NZ hsort;clear hsort;have XB:=HD.o;rw[e1]at XB HS;have HD2:=NZ XB;subst e1;clear XB HD hne;go_wp2_with fail;refine HS.o.mono ?_;rintro e w5 ⟨rfl,es',hso,hok',Og⟩;have H5:=Oz hso hok' Og;clear hso hok' Og;go_wp2_with fail;exact bodyPost_ret (results_tmp2 rfl _ _ _) rfl (.inr ⟨HH.e,_,es',rfl,⟨H5.a.1.trans HD2.c,H5.a.2⟩,H5.b,by exact H5.y.drop (fun x=>by simp only[ao,af];omega)⟩)
   ·obtain⟨w5,hw5⟩:=Na (Go.ChangeMaps.setBlock w4 r (dI S.X.pm S.pc (done.map aR++[e])));rw[<- hw5]at hnx
    obtain⟨p,hp,rfl⟩:∃p∈todo,aR p=e:=by
     have h1:e∈todo.map aR:=ht.mem_iff.2 Nh;obtain⟨p,hp,he⟩:=mem_map.1 h1;exact⟨p,hp,he⟩
    obtain⟨s,t,rfl⟩:=append_of_mem hp;have hdone:done.map aR++[aR p]=(done++[p]).map aR:=Nh
    rw[hdone]at hw5
    have Og:Turns (N9 S) ((r,Is (dI S.X.pm S.pc ((done++[p]).map aR)))::(ek u6 (eY pre done)++(N9 S++J))) w w5:=by
     rw[hw5];rcases hw4 with rfl|rfl
     ·exact hT2.Qa (dq _ _ _) (ez UK)
     ·exact(hT2.drew).Qa (dq _ _ _) (ez (by exact UK))
    have hpm:p∈S.ps:=hperm.mem_iff.1 (mem_append_right _ hp);have Ua:=Og.sat.Q5;rw[<- hdone]at Ua;have Vz:=Og.sat.Q7 (b:=S.X.pm) (o:=aU str (S.ps.map aR) S.pc) NC;have hen:=uY (P:=prog) Ua Vz HH.b.paths.map (mem_map.2 ⟨p,hpm,rfl⟩)
    have Vu:((done++[p])++(s++t)).Perm S.ps:=by
     rw[NV];show(done++(p::(s++t))).Perm S.ps;exact(((perm_middle (l₁:=s)).symm.append_left done).trans hperm)
    have hps:Sat w5 (ee p.val p.g):=Sat.flat (f:=fun p:bf=>ee p.val p.g) ((Og.sat.sub (G:=aG S.X.pm S.ps S.pc) (fun x=>by simp only[N9,ao,af]<;>omega)).tail) hpm;have hpo:=HH.b.paths.rows p hpm;have hne:=HH.b.some p hpm;obtain⟨sl,cap,e1,e2,e3,hcells,-⟩:=bb hps.left hpo.1 Nk;have hgl:0<p.g.length:=length_pos_iff.2 hne;have hgb:p.g.length<=90000:=Nat.le_trans (HH.c.vers p hpm).2.1 HH.d;obtain⟨gp,qay,hsl,hcp⟩:=hcells (by rw[NP];exact hgl);subst hsl;obtain⟨U,hU⟩:=Na (p.g[p.g.length-1]'Nb);have hUl:EO p.g=U:=by unfold EO;rw[getLast?_eq_getElem?,getElem?_eq_getElem Nb,hU];rfl
    have hc1:w5.cell? ⟨gp,qay+(p.g.length-1),none⟩=some (.pointer (some ⟨U.blk,0,none⟩)):=by
     have:=hcp (p.g.length-1) Np;rw[getElem_map,<- hU]at this;exact this
    have VZ:U∈p.g:=by rw[hU];exact getElem_mem _
    have hub:Sat w5 (bN U):=Sat.flat (f:=bN) hps.right VZ;have hc2:w5.cell? ⟨U.blk,0,none⟩=some (.int .i64 U.num):=aa hub.Q5 0 rfl;have hc3:w5.cell? ⟨U.blk,1,none⟩=some (.int .i64 U.size):=aa hub.Q5 1 rfl;have Wy:=ae hub.Q5;obtain⟨n,hn⟩:=Na p.g.length;rw[<- hn]at e1 hgl hgb hc1;have hent:Mh p=⟨p.key,U.num,U.size,n⟩:=by unfold Mh;rw[hUl,hn]
    have hel:(eY pre done).length<=90000:=by
     have h1:(eY pre done).length<=done.length:=by unfold eY;rw[NP];exact length_filter_le _ _
     omega
    obtain⟨pk,hpk⟩:=Na p.key;have hke:(aR p).key=pk:=hpk.symm;have hve:(aR p).val=.slice (some ⟨gp,qay,none⟩) n cap:=e1;rw[hke,hve]at hnx hen;obtain⟨es,hes⟩:=Na (eY pre done);rw[<- hes]at Ph Og hel;have hsub:IntKind.i64.wrap ((n:Int)-1)=((n-1:Nat):Int):=by rw[IntWalk.i64_in _ Nb];omega
    have hlt:((n-1:Nat):Int)<n:=Nb
    have hm1:uy r S.ps.length wr=S.ps.length-done.length:=by unfold uy;rw[UK];simp[dI]
    have V8:done.length<S.ps.length:=by simp at hdl;omega
    have HD:=NZ (NK Vu (NK Ph (NK Og (NK hent (NK hes (NK hpk (NK hm1 (NK V8 (NK hpm VZ)))))))));clear hperm Vu Ph hT hT2 UK hrm TW hpl hw5 hw4 Og Ua Vz hps hpo hne hcells hcp hU hUl VZ hub hn hent hpk hke hve hes e1 hdone hp hpm ht hm1 hdl V8
    have Xr:∀(v':Value) (w':World) (K:HF),qe v' (eY pre (done++[p]))->Turns (N9 S) (ek v' (eY pre (done++[p]))++((r,Is (dI S.X.pm S.pc ((done++[p]).map aR)))::(N9 S++K))) w w'->yb S pre w r v' w'/\uy r S.ps.length w'<uy r S.ps.length wr:=fun v' w' K h1 h2=>by
     refine⟨⟨done++[p],s++t,K,HD.a,h1,h2⟩,?_⟩;have hr2:=h2.sat.Q7 (b:=r) (o:=dI S.X.pm S.pc ((done++[p]).map aR)) Nh;have:uy r S.ps.length w'=S.ps.length-(done.length+1):=by unfold uy;rw[hr2];simp[dI]
     rw[this,HD.g];have:=HD.h;omega
    have HN:=NZ Xr;clear Xr;go_wp2_with fail;refine(sE pk pre w5).mono ?_;rintro e w6 ⟨rfl,rfl⟩
    cases hpre:pre.isPrefixOf pk with
    | false =>
     have hadd:eY pre (done++[p])=es:=by
      rw[HD.e];unfold eY;rw[filter_append,filter_cons,<- HD.f,hpre];simp
     have HA:=NZ hadd;clear hadd;go_wp2_with fail;have hfin:=HN.o u6 w6 J (by rw[HA.o];exact HD.b) (by rw[HA.o];exact HD.c.to ac);go_roundw
     case rel=>exact hfin.1
     case measure=>exact hfin.2
    | true =>
     have hadd:eY pre (done++[p])=es++[⟨pk,U.num,U.size,n⟩]:=by
      rw[HD.e];unfold eY;rw[filter_append,filter_cons,<- HD.f,hpre];simp only[if_true,filter_nil,NW,map_cons,map_nil,HD.d,HD.f]
     have HA:=NZ hadd;clear hadd;go_upto_region 9 with(fail)
     have Xw:(U.blk,Is (dB U))∈N9 S:=by
      obtain⟨hpS,VZ⟩:=HD.q.o;refine mem_cons_of_mem _ (mem_append_right _ (mem_append_right _ (mem_append_left _ (mem_cons_of_mem _ ?_))));exact mem_flatMap.2 ⟨p,hpS,mem_append_right _ (mem_flatMap.2 ⟨U,VZ,by simp[bN]⟩)⟩
     obtain⟨R,hR⟩:=pA (G:=[(U.blk,Is (dB U))]) (F:=N9 S) (fun x=>by
      obtain⟨s',t',h⟩:=append_of_mem Xw;rw[h];simp only[af,ao,cW];omega)
     have hTl:Turns (N9 S) (ek u6 es++((U.blk,Is (dB U))::(R++((r,Is (dI S.X.pm S.pc ((done++[p]).map aR)))::J)))) w w6:=HD.c.to (by
      refine((((hR.append_right J).append_left _).cons _)).trans ?_;exact ac)
     have HR:=Ob hR hTl;clear Xw hR hTl;refine cH [([0,1,2,3,4,5,6,7,8,9,10,11,12],13,[0]),([],14,[])] [15] HM.o Nc fun W tW=>?_
     simp only[Mix,map_cons,map_nil,nth,QG,QF];have hT:=tW HR.z;clear tW;have hb:=hT.sat.Q7 (b:=U.blk) (o:=dB U) Nh;have k0:W.cell? ⟨U.blk,0,none⟩=some (.int .i64 U.num):=aa hb 0 rfl;have k1:W.cell? ⟨U.blk,1,none⟩=some (.int .i64 U.size):=aa hb 1 rfl;clear hb;repeat still_step
     refine wpStill_nil (je (.cells (cz ⟨pk,U.num,U.size,n⟩).toArray 262 (0,0)) (fun g=>.slice (some ⟨g,0,none⟩) 1 1) Nc hT fun nb w1 hT1=>⟨by((repeat still_step);exact rfl),?_⟩);simp only[Act.put,QA,QB,QC];have hT1:Turns (N9 S) (IV nb pk U n::(ek u6 es++((U.blk,Is (dB U))::(R++((r,Is (dI S.X.pm S.pc ((done++[p]).map aR)))::J))))) w w1:=hT1;clear k0 k1 hT;refine wpStill_nil (zi (.tmp 35) (.tmp 48) rfl u6 es rfl (hT1.to (H:=ek u6 es++(IV nb pk U n::((U.blk,Is (dB U))::(R++((r,Is (dI S.X.pm S.pc ((done++[p]).map aR)))::J))))) ac) HD.b nb rfl ⟨pk,U.num,U.size,n⟩ hT1.sat.Q5 Nb (fun v7 w7 PN OH=>⟨rfl,?_⟩));simp only[Act.put,QA,QB,QC];clear hT1;repeat still_step
     refine wpStill_nil ?_
     have hfin:=HN.o v7 w7 (IV nb pk U n::J) (by rw[HA.o];exact PN) (by
      rw[HA.o];refine OH.to ?_;have h1:(ek v7 (es++[⟨pk,U.num,U.size,n⟩])++((r,Is (dI S.X.pm S.pc ((done++[p]).map aR)))::(([(U.blk,Is (dB U))]++R)++(IV nb pk U n::J)))).Perm (ek v7 (es++[⟨pk,U.num,U.size,n⟩])++((r,Is (dI S.X.pm S.pc ((done++[p]).map aR)))::(N9 S++(IV nb pk U n::J)))):=(((HR.a.symm.append_right _).cons _).append_left _);refine Perm.trans ?_ h1;exact ac)
     have HF:=NZ hfin;clear hfin PN OH;go_wp2_with fail;go_roundw
     case rel=>exact HF.a
     case measure=>exact HF.z
end
section
open Go.RowKit Go.Maps Go.Shelf
attribute [local go_sem] Oper.semAt_some
theorem DP(S:AS)(hok:Oo S)(D:Bs)(d off n lb:Nat)(B3 B6 B7 B9 B11 PU PZ Bm Bv num i:Nat)(R0 F:HF)(A:World)(hD:eN A d off D)(hdF:d∉dom F)(hi:i<(aI D).length)(hDl:D.length<=4000)(hKl:S.K.length<=500000)(hJ:Hw S D B9 B11 PU PZ Bm Bv num ((B3,Is (dt S.a))::R0) i F)(hF:Sat A F)(a0:Nat)(l:Bs){dv:Value}{u4 u5 u8 aS aT ad ag aj al ar ax a1 a2 a4 a5 a6 a7 a8 a9 bY bg bj bk bl bn bo bs bv bx b0 b1 b2 b3 b4 b6 b7 b9 ca cb cg ch ci cj cl cp ct cu cx c0 c1 c2 c3 c4 c5 c6 c7 c8 dO dT dd df dn dp ds d0 d1 d2 d3 d4 d5 d6 d7 d8 eA eQ eX ea eg el em en ep es ev ey e0 e4 e5 e6 e7 e9 fl fn fr fs fz f0 f1 f2 f3 f4 f5 f6 f7 f8 f9 gD gb gg gh gp gq gs gu gv gx g1 g2 g3 g4 g5 g6 g7 g9 hA hB hC hE hG hH hI hK hL hM hN hO hP hQ hS hT hU hV hW hX hZ ha hb hd hf hh hj hl hn ho hq ht hu hw hy hz h9 iF iN iS id:Value}:
  KX.wpIn (Fence.wide.inRound lb) n prog (LD (Hw S D B9 B11 PU PZ Bm Bv num ((B3,Is (dt S.a))::R0)) i F A) { tmps:=#[.pointer (some ⟨a0,0,none⟩),str l,dv,.pointer (some ⟨B3,0,none⟩),u4,u5,.pointer (some ⟨B6,0,none⟩),.pointer (some ⟨B7,0,none⟩),u8,.pointer (some ⟨B9,0,none⟩),aS,.pointer (some ⟨B11,0,none⟩),.pointer (some ⟨PU,0,none⟩),.pointer (some ⟨PZ,0,none⟩),fZ d off D i,aT,ad,ag,aj,al,ar,ax,a1,a2,a4,a5,a6,a7,a8,a9,bY,bg,bj,bk,bl,bn,bo,bs,bv,bx,b0,b1,b2,b3,b4,b6,b7,b9,ca,cb,cg,ch,ci,cj,cl,cp,ct,cu,cx,c0,c1,c2,c3,c4,c5,c6,c7,c8,dO,dT,dd,df,dn,dp,ds,d0,d1,d2,d3,d4,d5,d6,d7,d8,eA,fZ d off D i,eQ,eX,ea,eg,el,em,en,ep,es,ev,ey,e0,e4,e5,e6,e7,e9,fl,fn,fr,fs,fz,f0,f1,f2,f3,f4,f5,f6,f7,f8,f9,gD,gb,gg,gh,gp,gq,gs,gu,gv,gx,g1,g2,g3,g4,g5,g6,g7,g9,hA,hB,hC,hE,hG,hH,hI,hK,hL,hM,hN,hO,hP,hQ,hS,hT,hU,hV,hW,hX,hZ,ha,hb,hd,hf,hh,hj,hl,hn,ho,hq,ht,hu,hw,hy,hz,h9,iF,iN,iS,id],defers:=[] } A:=by
 obtain⟨sp,acc,fv,rv,N8,recs,hacc,hAo,hrb,hro,hpo,hcl,hin,VQ⟩:=hJ;obtain⟨c,hc⟩:=Na (oZ D i);have PY:=t6 hi;rw[<- hc]at PY;have hcc:=ym hD hi;rw[<- hc]at hcc;obtain⟨o2,ho2⟩:=Na (off+((aI D).take i).sum);have harg:fZ d off D i=.slice (some ⟨d,o2,none⟩) c.length c.length:=by unfold fZ;rw[<- PY,<- ho2]
 rw[<- ho2]at hcc;rw[harg];have a3:A.cell? ⟨B3,0,none⟩=some (.pointer (some ⟨S.a,0,none⟩)):=aa (hF.Q7 (b:=B3) (o:=dt S.a) (by rw[VQ];simp)) 0 rfl
 have hs:Sat A (aq S.X.ab S.X.d { S.A with spare:=sp }++((PZ,Is (cB ((S.data.length+bp acc:Nat):Int)))::(PU,Is (ec Bm))::(Bm,Is (aU str (bE S.data.length 0 acc) acc.length))::(B11,Is (c9 rv)) ::
   (fo rv recs++((B9,Is (db Bv))::(bN ⟨Bv,num,D.length,fv,N8,0⟩++(((B3,Is (dt S.a))::R0)++((S.a,Is (aL S.X))::(aA S.X.d S.L++(aG S.X.pm S.ps S.pc++(bX S.X.tm S.ts S.tc++aQ S.X.cm S.cs S.cc)))))))))):=by
  refine hF.perm ?_;rw[VQ];unfold N9;exact ac
 obtain⟨R,hR⟩:∃R,R=((PZ,Is (cB ((S.data.length+bp acc:Nat):Int)))::(PU,Is (ec Bm))::(Bm,Is (aU str (bE S.data.length 0 acc) acc.length))::(B11,Is (c9 rv)) ::
   (fo rv recs++((B9,Is (db Bv))::(bN ⟨Bv,num,D.length,fv,N8,0⟩++(((B3,Is (dt S.a))::R0)++((S.a,Is (aL S.X))::(aA S.X.d S.L++(aG S.X.pm S.ps S.pc++(bX S.X.tm S.ts S.tc++aQ S.X.cm S.cs S.cc))))))))):=⟨_,rfl⟩
 rw[<- hR]at hs;have hdR:d∉dom (aq S.X.ab S.X.d { S.A with spare:=sp }++R):=fun h=>hdF (((mQ (show(aq S.X.ab S.X.d { S.A with spare:=sp }++R).Perm F by rw[VQ,hR];unfold N9;exact ac)).mem_iff).1 h)
 have HKn:=NZ (AZ S.a S.X S.X.ab S.X.d rfl { S.A with spare:=sp } S.L S.cs S.cc c (some ⟨d,o2,none⟩) c.length R A hs (fun x=>by rw[hR];simp only[ao,af];omega) hok.dev hAo hok.fits hok.Px hok.chunks hcc
  (fun x hx=>by obtain rfl:=Option.some.inj hx;exact hdR) (by have:=gZ D;have:=nl (aI D) i hi;rw[PY];simp only[getD_eq_getElem?_getD,getElem?_eq_getElem hi,Option.getD_some];omega)
  (by have:=DI hok (be (dz 1 c) 4);omega) (Bl hok))
 have HH:=NZ (NK hok (NK hD (NK hdF (NK hF (NK hacc (NK hAo (NK hrb (NK hro (NK hpo (NK hcl (NK hin (NK VQ (NK hc (NK PY (NK hcc (NK ho2 (NK hs (NK hR hdR))))))))))))))))));clear hok hD hdF hF hacc hAo hrb hro hpo hcl hin VQ hc PY hcc ho2 harg hs hR hdR;conv=>arg 4;whnf
 gi_wp2_with fail;refine⟨trivial,fun h=>by simp[Fence.wide]at h,(Ae HKn.o).mono ?_⟩;rintro e w4 ⟨⟨sp2,U6,hT2⟩,hres⟩
 obtain⟨q,okb,rfl,hq1,hq2⟩:∃(q:Nat×Nat) (okb:Bool),e=.returned (.tuple #[.agg #[.int .i64 q.1,.int .i64 q.2],.bool okb,.nilIface])/\(okb=true->(c,q)∈S.K)/\(okb=false->c∉S.K.map (·.1)):=by
  rcases hres with⟨p,hp,hc,rfl⟩|⟨hno,rfl⟩
  ·exact⟨p,true,rfl,fun _=>Ma HH.a hp hc,fun h=>by cases h⟩
  ·refine⟨(0,0),false,rfl,(fun h=>by cases h),fun _ hm=>?_⟩;obtain⟨e,he,h1⟩:=mem_map.1 hm;obtain⟨p1,p2⟩:=Mb HH.a (b:=c) (q:=e.2) (by rw[<- h1];exact he);exact hno _ p1 p2
 clear hres;obtain⟨F1,hF1⟩:=Na (aq S.X.ab S.X.d { S.A with spare:=sp }++R);obtain⟨Y,hY⟩:=Na (aq S.X.ab S.X.d { S.A with spare:=sp2 }++(R0++((S.a,Is (aL S.X))::(aA S.X.d S.L++(aG S.X.pm S.ps S.pc++(bX S.X.tm S.ts S.tc++aQ S.X.cm S.cs S.cc))))));obtain⟨VV,hVV⟩:=Na (⟨Bv,num,D.length,fv,N8,0⟩:Oe);obtain⟨fE,Vj⟩:=Na (bE S.data.length 0 acc);obtain⟨nE,hnE⟩:=Na acc.length;obtain⟨e13,V9⟩:=Na (S.data.length+bp acc:Nat)
 have Oj:Turns F1 ((PZ,Is (cB e13))::(PU,Is (ec Bm))::(Bm,Is (aU str fE nE))::(B11,Is (c9 rv))::(B9,Is (db Bv))::(Bv,Is (dB VV))::(B3,Is (dt S.a))::(fo rv recs++(aZ fv N8++Y))) A w4:=by
  rw[hF1];refine hT2.to ?_;rw[HH.o.2.2.2.2.2.2.2.2.2.2.2.2.2.2.2.2.2.1,hY,hVV,Vj,hnE,V9];unfold bN;exact ac
 have V7:d∉dom F1:=by rw[hF1];exact HH.o.2.2.2.2.2.2.2.2.2.2.2.2.2.2.2.2.2.2
 have hm0:OO Py fE nE:=by
  rw[Vj,hnE];refine xd (by rw[HH.e];exact jm _ _ _ nodup_nil) (by rw[HH.e];exact LR hDl) _
 obtain⟨f,th,hg1,hg2,hg3,hg4⟩:∃(f:Nat×Nat) (th:Bool),(dH fE c).getD (.agg #[.int .i64 0,.int .i64 0])=.agg #[.int .i64 f.1,.int .i64 f.2]/\iB fE c=th/\(th=true->(c,f)∈bW S.data.length acc/\c∈acc)/\(th=false->c∉acc):=by
  rw[Vj,lU];by_cases hm:c∈acc
  ·obtain⟨f,h1,h2⟩:=Dh (at_:=S.data.length) (b:=0) hm;exact⟨f,true,by rw[h2];rfl,decide_eq_true hm,fun _=>⟨h1,hm⟩,fun h=>by cases h⟩
  ·refine⟨(0,0),false,?_,decide_eq_false hm,(fun h=>by cases h),fun _=>hm⟩;have:=lU acc S.data.length 0 c;rw[decide_eq_false hm,gO]at this
   cases hg:dH (bE S.data.length 0 acc) c with
   | none=>rfl
   | some v=>rw[hg]at this;cases this
 have hl4:∀k,k∈dom ((PZ,Is (cB e13))::(PU,Is (ec Bm))::(Bm,Is (aU str fE nE))::(B11,Is (c9 rv))::(B9,Is (db Bv))::(Bv,Is (dB VV))::(B3,Is (dt S.a))::(fo rv recs++(aZ fv N8++Y)))->k<w4.heap.size:=fun k hk=>Oj.sat.lt hk
 have l9:=hl4 B9 Nh;have l11:=hl4 B11 Nh;have l12:=hl4 PU Nh;have l13:=hl4 PZ Nh;have lv:=hl4 Bv Nh;have b12:w4.cell? ⟨PU,0,none⟩=some (.map (some Bm)):=aa (Oj.sat.Q7 (b:=PU) (o:=ec Bm) Nh) 0 rfl;have b13:w4.cell? ⟨PZ,0,none⟩=some (.int .i64 e13):=aa (Oj.sat.Q7 (b:=PZ) (o:=cB e13) Nh) 0 rfl;have Og:Turns F1 ((w4.heap.size,Is (aE q))::((PZ,Is (cB e13))::(PU,Is (ec Bm))::(Bm,Is (aU str fE nE))::(B11,Is (c9 rv))::(B9,Is (db Bv))::(Bv,Is (dB VV))::(B3,Is (dt S.a))::(fo rv recs++(aZ fv N8++Y)))) A (w4.alloc (.cells #[.int .i64 q.1,.int .i64 q.2] 161)):=Oj.Q9 (aE q);have ZG:=Og.sat.Q7 (b:=Bm) (o:=aU str fE nE) Nh;have hcv:=i5 c.length (HH.q.g.Qc Og (fun x hx=>by obtain rfl:=Option.some.inj hx;exact V7));have hzp:(zeroValue 161).run prog (w4.alloc (.cells #[.int .i64 q.1,.int .i64 q.2] 161))=.ok (.agg #[.int .i64 0,.int .i64 0]) (w4.alloc (.cells #[.int .i64 q.1,.int .i64 q.2] 161)):=Nc
 have Ox:∀x:Nat×Nat,Turns F1 ((w4.heap.size+1,Is (aE f))::(w4.heap.size,Is (aE x))::((PZ,Is (cB e13))::(PU,Is (ec Bm))::(Bm,Is (aU str fE nE))::(B11,Is (c9 rv))::(B9,Is (db Bv))::(Bv,Is (dB VV))::(B3,Is (dt S.a))::(fo rv recs++(aZ fv N8++Y)))) A ((w4.alloc (.cells #[.int .i64 x.1,.int .i64 x.2] 161)).alloc (.cells #[.int .i64 f.1,.int .i64 f.2] 161)):=fun x=>by
  have:=(Oj.Q9 (aE x)).Q9 (aE f);rw[World.size_alloc]at this;exact this
 have hcm:c∈aD D:=by
  have:=fB hi;rw[<- HH.q.e]at this;exact mem_of_mem_take (i:=i+1) (by rw[this];simp)
 have Zm:Py c:=by have:=dJ hcm;unfold Py;omega
 have hcv2:=i5 c.length (HH.q.g.Qc (Ox (e13,c.length)) (fun x hx=>by obtain rfl:=Option.some.inj hx;exact V7));have hFp:F1.Perm F:=by rw[hF1,HH.q.d,HH.o.2.2.2.2.2.2.2.2.2.2.2.2.2.2.2.2.2.1];unfold N9;exact ac
 have hlt:((aD D).take i).length=N8.length:=by
  rw[NS,b8,HH.q.b];omega
 have hcl:N8.length<=4000:=by
  rw[HH.q.b];have:=cR D;omega
 have hal2:acc.length<=4000:=by
  rw[HH.e];have h1:=kH (S.K.map (·.1)) ((aD D).take i) [];rw[NS,b8]at h1;have:=cR D;simp at h1;omega
 have hrl:(recs.map (·.val)).length=acc.length:=by
  have:=congrArg length HH.g;simpa using this
 have hdl:=HH.a.dat.2;have hnn:=HH.a.Px;have hfit:=HH.a.fits
 have Xj:e13<=1099511627776:=by
  rw[V9]
  have h2:=qj acc 4000 (fun x hx=>by
   rw[HH.e]at hx;rcases jw _ _ _ x hx with h|⟨h,_⟩
   ·simp at h
   ·have:=dJ (mem_of_mem_take h);omega)
  have h3:acc.length*(4000+9)<=4000*(4000+9):=Nat.mul_le_mul_right _ hal2;omega
 have HB:=Uh Ox V7 hm0 hg1 hg2 ZG hzp Zm;have HE:=NZ (NK hF1 (NK hY (NK hVV (NK Vj (NK hnE (NK V9 (NK U6 (NK hq1 (NK hq2 (NK hg3 hg4))))))))));have HF2:=Ry hFp hlt hcl hal2 hrl Xj hcm;clear hF1 hY hVV Vj hnE V9 U6 hq1 hq2 hg3 hg4 Oj Og Ox V7 hm0 hg1 hg2 hT2 ZG hzp hl4 Zm hFp hlt hcl hal2 hrl Xj hcm hdl hnn hfit
 have FIN:∀(w6:World) (q6:Nat×Nat) (acc':List Bs) (rv' y:Value) (Tz:List Ux) (Z:HF),acc'=cK (S.K.map (·.1)) [] ((aD D).take (i+1))->(∀e∈bW S.data.length acc,e∈bW S.data.length acc')->(c,q6)∈S.K++bW S.data.length acc'->Tz.map (·.bytes)=acc'.map (frame 1)->LE rv' Tz ->
   bQ y (N8++[q6])->Turns F1 ((Bv,Is (.cells ((fA VV).setIfInBounds 2 y) 152 (0,0)))::(w4.heap.size,Is (aE q6))::(B9,Is (db Bv))::(aZ y (N8++[q6])++Z)) A w6 ->
   (∀x,cnt x ((PZ,Is (cB ((S.data.length+bp acc':Nat):Int)))::(PU,Is (ec Bm))::(Bm,Is (aU str (bE S.data.length 0 acc') acc'.length))::(B11,Is (c9 rv'))::(B3,Is (dt S.a))::(fo rv' Tz++Y))<=cnt x Z) ->
   ∃F',Hw S D B9 B11 PU PZ Bm Bv num ((B3,Is (dt S.a))::R0) (i+1) F'/\Turns F F' A w6:=by
  intro w6 q6 acc' rv' y Tz Z h1 h2 h3 h4 h5 h6 h7 h8;refine⟨_,⟨sp2,acc',y,rv',N8++[q6],Tz,h1,HE.g,h4,h5,h6,by rw[NM,HH.q.b];rfl,?_,rfl⟩,?_⟩
  ·rw[fB hi,<- HH.q.e]
   exact Mk HF2.b HH.q.c (fun e he=>by
    rcases mem_append.1 he with h|h
    ·exact mem_append_left _ h
    ·exact mem_append_right _ (h2 e h)) h3
  ·refine(h7.drop (fun x=>?_)).perm HF2.a (Perm.refl _);have:=h8 x;rw[HE.b]at this;have e:dB ⟨Bv,num,D.length,y,N8++[q6],0⟩=.cells ((fA VV).setIfInBounds 2 y) 152 (0,0):=by rw[HE.c];rfl
   unfold bN N9;rw[e];simp only[ao,af]at this ⊢;omega
 have Uw:=NZ FIN;clear FIN
 gi_wp2_with (first
  | (refine no rfl rfl (iO dR (.tmp 97) (.tmp 99) rfl underlying154 HB.f HB.c HB.g c rfl rfl HB.t ?_);rw[HB.d,HB.e])
  | (refine no rfl rfl (lJ dR (.tmp 115) (.tmp 117) (.tmp 118) rfl underlying154 Bm fE nE ((HB.a (e13,c.length)).to (H:=(Bm,Is (aU str fE nE))::((w4.heap.size+1,Is (aE f))::(w4.heap.size,Is (aE (e13,c.length)))::(PZ,Is (cB e13))::(PU,Is (ec Bm))::(B11,Is (c9 rv))::(B9,Is (db Bv))::(Bv,Is (dB VV))::(B3,Is (dt S.a))::(fo rv recs++(aZ fv N8++Y)))) ac) HB.c c (gi (e13,c.length)) rfl rfl rfl HB.t ?_);intro w6 OH;simp only[Act.put]))
 ·rename_i h1 h2;refine EW F1 ((w4.heap.size+1,Is (aE f))::(PZ,Is (cB e13))::(PU,Is (ec Bm))::(Bm,Is (aU str fE nE))::(B11,Is (c9 rv))::(B3,Is (dt S.a))::(fo rv recs++Y)) A w4.heap.size B9 Bv VV f fv N8 ((HB.a f).to ac) HH.q.a (by rw[HE.c]) (by have:=HF2.c;omega) (fun⟨_,_,h⟩=>h) ?_;intro _ _ _ _ _ _ _ _ _ _ w7 TY OH;refine Uw.o w7 f acc rv _ recs _ ?_ (fun _ h=>h) (mem_append_right _ (HE.q.b h1).1) HH.g HH.h TY OH (fun x=>by rw[<- HE.d,<- HE.e,<- HE.f];simp only[ao,af];omega);rw[fB hi,iA,<- HH.q.e,<- HH.e,NR (.inr (HE.q.b h1).2)]
 ·rename_i h1 h2;refine EW F1 ((w4.heap.size+1,Is (aE f))::(PZ,Is (cB e13))::(PU,Is (ec Bm))::(Bm,Is (aU str fE nE))::(B11,Is (c9 rv))::(B3,Is (dt S.a))::(fo rv recs++Y)) A w4.heap.size B9 Bv VV q fv N8 ((HB.a q).to ac) HH.q.a (by rw[HE.c]) (by have:=HF2.c;omega) (fun⟨_,_,h⟩=>h) ?_;intro _ _ _ _ _ _ _ _ _ _ w7 TY OH;refine Uw.o w7 q acc rv _ recs _ ?_ (fun _ h=>h) (mem_append_left _ (HE.h (by simpa using h2))) HH.g HH.h TY OH (fun x=>by rw[<- HE.d,<- HE.e,<- HE.f];simp only[ao,af];omega);rw[fB hi,iA,<- HH.q.e,<- HH.e,NR (.inl (mem_map.2 ⟨_,HE.h (by simpa using h2),rfl⟩))]
 ·rename_i h1 K1 k1 h2 K2 k2;have hn1:=HE.q.y (by simpa using h1);have hn2:=HE.q.a (by simpa using h2);have hput:=Di (at_:=S.data.length) hn1;have OX:=OH.to (H:=bH 38 1 rv (recs.map (·.val)).length (recs.map (·.val))++((B11,Is (c9 rv))::((w4.heap.size+1,Is (aE f))::(w4.heap.size,Is (aE (e13,c.length)))::(PZ,Is (cB e13))::(PU,Is (ec Bm))::(Bm,Is (aU str (gJ fE nE c (gi (e13,c.length))) (cy fE nE c)))::(B9,Is (db Bv))::(Bv,Is (dB VV))::(B3,Is (dt S.a))::((recs.flatMap fun r=>aJ r.val r.bytes)++(aZ fv N8++Y))))) (by unfold fo;exact ac);obtain⟨Z8,hZ8⟩:=Na (((w4.heap.size+1,Is (aE f))::(w4.heap.size,Is (aE (e13,c.length)))::(PZ,Is (cB e13))::(PU,Is (ec Bm))::(Bm,Is (aU str (gJ fE nE c (gi (e13,c.length))) (cy fE nE c)))::(B9,Is (db Bv))::(Bv,Is (dB VV))::(B3,Is (dt S.a))::((recs.flatMap fun r=>aJ r.val r.bytes)++(aZ fv N8++Y))));obtain⟨l8,hl8⟩:=Na (recs.map (·.val));rw[<- hZ8,<- hl8]at OX;have Yr:=HH.h.1;rw[<- hl8]at Yr;have HZ:=NZ hZ8;have HX:=Ry hZ8 hl8 Yr OX hn1 hn2 hput;clear hZ8 hl8 Yr OX hn1 hn2 hput OH;refine vu [([0,1],2,[0]),([],3,[0]),([],4,[]),([],5,[])] [] HM.o Nc (fun⟨_,_,h⟩=>h) Nc fun W tW=>?_
  simp only[Mix,map_cons,map_nil,nth,QG,QF];have k0:=tW HX.d;clear tW;have g:∀{W:World},W.heap[B11]?=some (c9 rv)->W.cell? ⟨B11,0,none⟩=some rv:=fun h=>aa h 0 rfl
  have g0:=g (k0.sat.Q7 Nh);repeat still_step
  refine wpStill_nil (aO Nc (ic 1 (some ⟨d,o2,none⟩) c.length c W (HH.q.g.Qc k0 (fun x hx=>by obtain rfl:=Option.some.inj hx;exact HB.b)) (by have:=dJ HF2.u;omega)) ?_);rintro e w5 ⟨fv2,rfl,hb8,Og⟩;have k1:=Turns.Qb k0 Og;refine⟨_,rfl,by(have g0:=g (k1.sat.Q7 Nh);(repeat still_step);exact rfl),wpStill_nil ?_⟩;have o8:=(nK hb8 k1.sat.left).1;refine je (xA fv2) (fun n=>.slice (some ⟨n,0,none⟩) 1 1) (by obtain⟨-,-,av,cv,hv⟩:=nK hb8 k1.sat.left;rw[hv];kernel_rfl) k1 fun n W2 k2=>⟨by(have g0:=g (k2.sat.Q7 Nh);(repeat still_step);exact rfl),wpStill_nil ?_⟩
  refine mu (.tmp 119) (.tmp 122) rfl rv l8 rfl (k2.to (H:=bH 38 1 rv l8.length l8++((n,Is (xA fv2))::(B11,Is (c9 rv))::(aJ fv2 (frame 1 c)++Z8))) ac) HX.c n fv2 rfl o8 (aa k2.sat.Q5 0 rfl) (by rw[HX.b];have:=HF2.e;have:=HF2.d;omega) fun TG W3 hr8 k3=>⟨rfl,wpStill_nil ?_⟩
  have p8:=E0 k3.sat.left hr8;refine aX 61 (.tmp 11) (.tmp 123) rfl B11 0 #[rv] 61 TG (k3.to (H:=(B11,Is (c9 rv))::(bH 38 1 TG (l8++[fv2]).length (l8++[fv2])++((n,Is (xA fv2))::(aJ fv2 (frame 1 c)++Z8)))) ac) rfl rfl Nh Nc p8.1 p8.2 fun w8 k4=>⟨rfl,?_⟩
  simp only[Act.put,QA,QB,QC];refine wpStill_nil ?_;have OX:Turns F1 ((B11,Is (c9 TG))::(bH 38 1 TG (l8++[fv2]).length (l8++[fv2])++(aJ fv2 (frame 1 c)++Z8))) A w8:=(show Turns F1 ((B11,Is (c9 TG))::_) A w8 from k4).drop bR;rw[HX.b]at hr8 OX;have XE:=OW hb8 hr8 OX HX.w;clear HX k0 g g0 hb8 Og k1 o8 k2 hr8 k3 p8 k4 OX;gi_wp2_with fail;obtain⟨Z9,hZ9⟩:=Na (((w4.heap.size+1,Is (aE f))::(w4.heap.size,Is (aE (e13,c.length)))::(PU,Is (ec Bm))::(Bm,Is (aU str (gJ fE nE c (gi (e13,c.length))) (cy fE nE c)))::(B11,Is (c9 TG))::(B9,Is (db Bv))::(Bv,Is (dB VV))::(B3,Is (dt S.a))::(bH 38 1 TG (recs.map (·.val)++[fv2]).length (recs.map (·.val)++[fv2])++(aJ fv2 (frame 1 c)++((recs.flatMap fun r=>aJ r.val r.bytes)++(aZ fv N8++Y))))));have O4:Turns F1 ((PZ,Is (cB e13))::Z9) A w8:=XE.c.to (by rw[hZ9,HZ.o];exact ac);have hs9:IntKind.i64.wrap ((e13:Int)+(c.length+9))=(e13:Int)+(c.length+9):=IntWalk.i64_in _ (by have:=dJ HF2.u;have:=HF2.f;omega);have HZ9:=NZ hZ9;clear hZ9;refine vu [([0,1,2,3,4],5,[])] [] HM.o Nc (fun⟨_,_,h⟩=>h) Nc fun W tW=>?_
  simp only[Mix,map_cons,map_nil,nth,QG,QF];have k0:=tW O4;clear tW O4;have g0:W.cell? ⟨PZ,0,none⟩=some (.int .i64 e13):=aa k0.sat.Q5 0 rfl;repeat still_step
  still_call ((gW c.length Nb (by have:=dJ HF2.u;omega) W).mono fun e w2 ⟨h1,h2⟩=>⟨h1,h2.symm⟩);repeat still_step
  refine wpStill_nil (aX 3 (.tmp 13) (.tmp 128) rfl PZ 0 #[.int .i64 e13] 3 (.int .i64 (e13+(c.length+9))) k0 rfl rfl Nh Nc rfl rfl fun w9 O4=>⟨rfl,?_⟩);simp only[Act.put];refine wpStill_nil ?_;have O4:Turns F1 ((PZ,Is (cB (e13+(c.length+9))))::Z9) A w9:=O4;rw[HZ9.o]at O4;clear k0 g0 hs9;have HR9:=NZ O4;clear O4;gi_wp2_with fail;refine EW F1 ((w4.heap.size+1,Is (aE f))::(PZ,Is (cB (e13+(c.length+9))))::(PU,Is (ec Bm))::(Bm,Is (aU str (gJ fE nE c (gi (e13,c.length))) (cy fE nE c)))::(B11,Is (c9 TG))::(B3,Is (dt S.a))::(bH 38 1 TG (recs.map (·.val)++[fv2]).length (recs.map (·.val)++[fv2])++(aJ fv2 (frame 1 c)++((recs.flatMap fun r=>aJ r.val r.bytes)++Y)))) A w4.heap.size B9 Bv VV (e13,c.length) fv N8 (HR9.o.to ac) HH.q.a (by rw[HE.c]) (by have:=HF2.c;omega) (fun⟨_,_,h⟩=>h) ?_;intro _ _ _ _ _ _ _ _ _ _ w7 TY OH;refine Uw.o w7 (e13,c.length) (acc++[c]) TG _ (recs++[⟨fv2,frame 1 c⟩]) _ ?_ (fun e h=>by rw[sk];exact mem_append_left _ h) ?_ ?_ ?_ TY OH (fun x=>?_)
  ·rw[fB hi,iA,<- HH.q.e,<- HH.e,NQ (fun h=>h.elim XE.e XE.d)]
  ·rw[sk,HE.f];exact mem_append_right _ (mem_append_right _ Nh)
  ·rw[NW,NW,HH.g];rfl
  ·refine⟨by rw[NW];exact XE.b,fun r hr=>?_⟩;rcases mem_append.1 hr with h|h
   ·exact HH.h.2 r h
   ·simp only[NU]at h;subst h;exact XE.a
  ·have e1:=XE.f;have e2:=XE.u;rw[<- HE.f,<- HE.d,<- HE.e]at e1;rw[<- HE.d,<- HE.e]at e2;have e3:((S.data.length+bp (acc++[c]):Nat):Int)=(e13:Int)+(c.length+9):=by rw[ul,HE.f];omega
   rw[e1,e2,e3];unfold fo;simp only[NW,flatMap_append,flatMap_cons,flatMap_nil,append_nil,map_cons,map_nil,ao,af];omega
 ·rename_i h1 h2;refine EW F1 ((w4.heap.size+1,Is (aE f))::(PZ,Is (cB e13))::(PU,Is (ec Bm))::(Bm,Is (aU str fE nE))::(B11,Is (c9 rv))::(B3,Is (dt S.a))::(fo rv recs++Y)) A w4.heap.size B9 Bv VV q fv N8 ((HB.a q).to ac) HH.q.a (by rw[HE.c]) (by have:=HF2.c;omega) (fun⟨_,_,h⟩=>h) ?_;intro _ _ _ _ _ _ _ _ _ _ w7 TY OH;refine Uw.o w7 q acc rv _ recs _ ?_ (fun _ h=>h) (mem_append_left _ (HE.h (by simpa using h2))) HH.g HH.h TY OH (fun x=>by rw[<- HE.d,<- HE.e,<- HE.f];simp only[ao,af];omega);rw[fB hi,iA,<- HH.q.e,<- HH.e,NR (.inl (mem_map.2 ⟨_,HE.h (by simpa using h2),rfl⟩))]
attribute [local go_sem] Oper.semAt_some
def Fd(a:Option Addr)(len cap:Nat)(w:World)(e:Ending)(w':World):Prop :=
 e=.returned (.func (.func 123) #[] #[.pointer (some ⟨w.heap.size,0,none⟩)])/\w'=w.alloc (.cells #[.slice a len cap] 38)
theorem zw(a:Option Addr)(len cap:Nat)(w:World):Calls prog 76 #[.slice a len cap] w (Fd a len cap w):=by
 go_enter func76,ntmps76;go_wp2;go_ret;exact⟨rfl,rfl⟩
theorem Turns.YI{F G:HF}{a w:World}{r:Nat}(h:Turns F G a w)(hr:a.heap.size<=r)(hn:r∉dom G)(o:Obj):Turns F G a (w.putObj r o) :=
 ⟨h.mods.putObj (.inr hr) o,h.sat.frame ((N7.refl (fun k=>k=r) w).putObj (.inl rfl) o) (fun _ hb e=>hn (e ▸ hb)),h.fresh⟩
def yA(id:Nat):Code->Option Code
 | .seq (.region i ops d) b=>if i=id then some (.seq (.region i ops d) b)else yA id b
 | .seq _ b=>yA id b
 | _=>none
noncomputable def Gs:Code:=(Tryz.f25.body.bind (yA 14)).getD .skip
def Eu(S:AS)(l D:Bs)(w:World)(e:Ending)(w':World)(b num:Nat):Prop :=
 ((∃sp N8,e=.returned (.tuple #[.int .i64 0,cr 8])/\Ov { S.A with spare:=sp }/\Turns (N9 S) (N9 { S with A:={ S.A with spare:=sp } }) w w' /\
    128*S.A.count<S.data.length+(dc (bJ S D)).length+(frame 2 (eC l num D.length (bB N8))).length/\N8.length=(aD D).length) \/
   (∃S' V,e=.returned (.tuple #[.int .i64 num,.nilIface])/\PW S S' l D V/\Oo S'/\Cv S D b S'/\Turns (N9 S) (N9 S') w w'))
theorem Nv{p:Prop}(h:p:=by simp[N9]):p:=h
theorem Bo(S:AS)(l D:Bs)(sl:Option Addr)(cap b:Nat)(hok:Oo S)(hB:QU S b)(hb:b<=90000)(hl:az l=true)(hll:l.length<=20)(hDl:D.length<=4000)(hcap:D.length<=cap)(B3 B6 B7 B9 B11 Bv num:Nat)(hnum:num=eM (ah S.ps l)+1)(w0 w:World)(hT:Turns (N9 S) ((B11,Is (c9 (.slice none 0 0)))::(Bv,Is (dB ⟨Bv,num,D.length,.slice none 0 0,[],0⟩))::(B9,Is (db Bv))::(B7,Is (eU .nilIface))::(B6,Is (cB 0))::(B3,Is (dt S.a))::N9 S) w0 w)(hD:ak w0 sl (D.map am))(hsl:D≠[]->∀x,sl=some x->x.block∉dom (N9 S))(R:Ending->World->Prop)(hR:∀e w',Eu S l D w0 e w' b num->R e w'){u4 u5 u8 aS aT ad ag aj al ar av ax a0 a2 a3 a4 a5 a6 a8 a9 bY bg bj bk bl bn bo bs bv b0 b1 b2 b4 b6 b7 b9 ca cb cc cg ch ci cj cl cm cp cs ct cu cv cx c0 c1 c2 c3 c4 c5 c6 c7 c8 dO dT dd df dn dp ds dv d0 d1 d2 d3 d4 d5 d6 d7 d8 eA eQ eX ea eg el en ep es ey e0 e1 e2 e3 e4 e5 e6 e7 e9 fE fl fn fr fs fv fz f0 f1 f2 f3 f4 f5 f6 f7 f8 f9 gD gb gg gh gp gq gs gu gv gx g1 g2 g3 g4 g5 g6 g7 g9 hA hC hE hG hH hI hL hM hN hO hP hQ hS hU hV hX hY hZ ha hf hg hh hk hm hn ho hq hs ht hu hv hw hx hy hz h5 h8 h9:Value}{K:Act->World->Prop}(hK:∀a w,Gs.wp prog (bodyPostM Fence.wide 3 prog Tryz.f25 R) a w->K a w):
  (JG 13 Tryz.f25).wp prog (Exit.then K (bodyPostM Fence.wide 3 prog Tryz.f25 R)) { tmps:=#[.pointer (some ⟨S.a,0,none⟩),str l,.slice sl D.length cap,.pointer (some ⟨B3,0,none⟩),u4,u5,.pointer (some ⟨B6,0,none⟩),.pointer (some ⟨B7,0,none⟩),u8,.pointer (some ⟨B9,0,none⟩),aS,.pointer (some ⟨B11,0,none⟩),aT,ad,ag,aj,al,ar,av,ax,a0,a2,a3,a4,a5,a6,a8,a9,bY,bg,bj,bk,bl,bn,bo,bs,bv,b0,b1,b2,b4,b6,b7,b9,ca,cb,cc,cg,ch,ci,cj,cl,cm,cp,cs,ct,cu,cv,cx,c0,c1,c2,c3,c4,c5,c6,c7,c8,dO,dT,dd,df,dn,dp,ds,dv,d0,d1,d2,d3,d4,d5,d6,d7,d8,eA,eQ,eX,ea,eg,el,en,ep,es,ey,e0,e1,e2,e3,e4,e5,e6,e7,e9,fE,fl,fn,fr,fs,fv,fz,f0,f1,f2,f3,f4,f5,f6,f7,f8,f9,gD,gb,gg,gh,gp,gq,gs,gu,gv,gx,g1,g2,g3,g4,g5,g6,g7,g9,hA,hC,hE,hG,hH,hI,hL,hM,hN,hO,hP,hQ,hS,hU,hV,hX,hY,hZ,ha,hf,hg,hh,hk,hm,hn,ho,hq,hs,ht,hu,hv,hw,hx,hy,hz,h5,h8,h9],defers:=[] } w:=by
 have HH:=WQ hok hB hb hT hD hsl hnum hcap hR;clear hok hB hb hT hD hsl hnum hcap hR;conv=>arg 2;whnf
 go_wp2_with ((refine ai rfl (vr 154 rfl HH.d ?_);intro Bm w1 hT1;have a7:w1.cell? ⟨S.a,7,none⟩=some (.pointer (some ⟨S.X.ab,0,none⟩)):=aa (hT1.sat.Q7 (b:=S.a) (o:=aL S.X) Nv) 7 rfl;have ab3:w1.cell? ⟨S.X.ab,3,none⟩=some (.int .i64 S.A.end_):=aa (hT1.sat.Q7 (b:=S.X.ab) (o:=.cells (aK S.X.d S.A) 157 (0,0)) (by simp[N9,aq])) 3 (nG _ _);have b3:w1.cell? ⟨B3,0,none⟩=some (.pointer (some ⟨S.a,0,none⟩)):=aa (hT1.sat.Q7 (b:=B3) (o:=dt S.a) Nh) 0 rfl;have hal:S.a<w1.heap.size:=hT1.sat.lt Nv;have habl:S.X.ab<w1.heap.size:=hT1.sat.lt (by simp[N9,aq]);have ZC:B3<w1.heap.size:=hT1.sat.lt Nh;have HT1:=NZ hT1;clear hT1));conv=>arg 2;whnf
 go_wp2_with fail;refine(zw _ _ _ _).mono ?_;rintro e w2 ⟨rfl,rfl⟩;go_wp2_with fail;obtain⟨PU,XQ⟩:=Na w1.heap.size;obtain⟨PZ,XR⟩:=Na (w1.heap.size+1);obtain⟨bx,hbx⟩:=Na (w1.heap.size+1+1)
 have hT2:Turns (N9 S) ((PZ,Is (cB ((S.data.length+bp []:Nat):Int)))::(PU,Is (ec Bm))::(Bm,Is (aU str (bE S.data.length 0 []) 0))::(B11,Is (c9 (.slice none 0 0)))::(fo (.slice none 0 0) []++((B9,Is (db Bv))::(bN ⟨Bv,num,D.length,.slice none 0 0,[],0⟩++(((B3,Is (dt S.a))::[(B6,Is (cB 0)),(B7,Is (eU .nilIface))])++N9 S))))) w0 ((w1.alloc (.cells #[.map (some Bm)] 154)).alloc (.cells #[.int .i64 S.A.end_] 3)):=by
  have h:=(HT1.o.Q9 (ec Bm)).Q9 (cB S.A.end_);rw[World.size_alloc,<- XR,<- XQ]at h;refine h.to ?_;unfold fo bN aZ;simp only[bH,Value.ownBlock,flatMap_nil,map_nil,nil_append,bp,sum_nil,Nat.add_zero,bE,aU];rw[<- HH.a.end_];exact ac
 have V6:=aM ((w1.alloc (.cells #[.map (some Bm)] 154)).alloc (.cells #[.int .i64 S.A.end_] 3)) (.cells #[.slice sl D.length cap] 38);have Oa:=hT2.alloc (.cells #[.slice sl D.length cap] 38);simp only[World.size_alloc]at V6;have hnb:bx∉dom ((PZ,Is (cB ((S.data.length+bp []:Nat):Int)))::(PU,Is (ec Bm))::(Bm,Is (aU str (bE S.data.length 0 []) 0))::(B11,Is (c9 (.slice none 0 0)))::(fo (.slice none 0 0) []++((B9,Is (db Bv))::(bN ⟨Bv,num,D.length,.slice none 0 0,[],0⟩++(((B3,Is (dt S.a))::[(B6,Is (cB 0)),(B7,Is (eU .nilIface))])++N9 S))))):=fun h=>by have:=hT2.sat.lt h;simp only[World.size_alloc]at this;omega
 rw[<- hbx]at V6;have hsz:(((w1.alloc (.cells #[.map (some Bm)] 154)).alloc (.cells #[.int .i64 S.A.end_] 3)).alloc (.cells #[.slice sl D.length cap] 38)).heap.size=bx+1:=by simp only[World.size_alloc];omega
 rw[<- hbx,<- XR,<- XQ];generalize ((w1.alloc (.cells #[.map (some Bm)] 154)).alloc (.cells #[.int .i64 S.A.end_] 3)).alloc (.cells #[.slice sl D.length cap] 38)=W2 at V6 Oa hsz ⊢;clear a7 ab3 b3 hal habl ZC hT2 XQ XR hbx;obtain⟨F0,TM⟩:=Na ((PZ,Is (cB ((S.data.length+bp []:Nat):Int)))::(PU,Is (ec Bm))::(Bm,Is (aU str (bE S.data.length 0 []) 0))::(B11,Is (c9 (.slice none 0 0)))::(fo (.slice none 0 0) []++((B9,Is (db Bv))::(bN ⟨Bv,num,D.length,.slice none 0 0,[],0⟩++(((B3,Is (dt S.a))::[(B6,Is (cB 0)),(B7,Is (eU .nilIface))])++N9 S)))));rw[<- TM]at Oa hnb;have hDW:ak W2 sl (D.map am):=(Decidable.em (D=[])).elim (fun hd=>by rw[hd];exact dS _ _) (fun hd=>HH.e.Qc Oa (HH.f hd))
 obtain⟨d,off,hda,hdb,hdF,hdw⟩:∃d off,(0<D.length->sl=some ⟨d,off,none⟩)/\eN W2 d off D/\d∉dom F0/\(d≠W2.heap.size/\d≠W2.heap.size+1):=by
  by_cases hd:D=[]
  ·subst hd;exact⟨W2.heap.size+2,0,fun h=>by simp at h,fun j hj=>by simp at hj,fun h=>by have:=Oa.sat.lt h;omega,Nb⟩
  ·have hp:0<D.length:=length_pos_iff.2 hd;obtain⟨g,off,rfl,hc⟩:=hDW (by simpa using hp);obtain⟨g0,off0,he0,hc0⟩:=HH.e (by simpa using hp);simp only[NY,Addr.mk.injEq,and_true]at he0;obtain⟨rfl,rfl⟩:=he0;have hlt0:g<w0.heap.size:=World.block_lt_of_cell? w0 _ (hc0 0 (by simpa using hp));have hlt:g<W2.heap.size:=Nat.lt_of_lt_of_le hlt0 Oa.mods.size;refine⟨g,off,fun _=>rfl,fun j hj=>by rw[hc j (by simpa using hj)];simp[am],fun h=>?_,Nb⟩;rcases Oa.fresh g h with h'|h'
   ·exact HH.f hd _ rfl h'
   ·omega
 have HL:=RV TM Oa hnb hdb hdF hsz;refine(wpIn_wide (n:=3)).1 ?_;refine Ej (n:=1) bx d off cap sl D rfl hda HH.h Nb V6 HL.d hdw (Hw S D B9 B11 PU PZ Bm Bv num ((B3,Is (dt S.a))::[(B6,Is (cB 0)),(B7,Is (eU .nilIface))])) F0 ?h0 HL.b.sat HL.c HL.e ?a1 ?assign ?body ?done
 case assign =>
  intro l i W K hK;gi_wp2;exact hK
 case h0 =>
  refine⟨S.A.spare,[],.slice none 0 0,.slice none 0 0,[],[],rfl,HH.a.area,rfl,⟨⟨rfl,fun _=>⟨rfl,rfl⟩⟩,fun r hr=>by simp at hr⟩,⟨rfl,fun _=>⟨rfl,rfl⟩⟩,rfl,fun e he=>by simp at he,?_⟩;rw[HL.a];rfl
 case body =>
  intro l2 i F A hi hJ hF hdA hdF2 hle;exact DP S HH.a D d off 1 l2 B3 B6 B7 B9 B11 PU PZ Bm Bv num i _ F A hdA hdF2 hi hDl (by have:=HH.b.K;have:=HH.c;omega) hJ hF S.a l
 case done =>
  intro Dd F B hDd hJ Oj hDF hDB;rename_i hK;have Og:=HL.b.trans Oj;have HG:=PD hJ Oj hDF hDB Og;refine hK _ _ ?_;refine DQ S HH.a b HH.b HH.c l D hl hll hDl B3 B6 B7 B9 B11 PU PZ Bm Bv num HH.g F B hJ Oj.sat ?_;intro tmps w' n ev h6 h7 hres
  have fin:∀(G J:HF) (v:Int) (u:Value),Turns F ((B6,Is (cB v))::(B7,Is (eU u))::(G++J)) B w'->(∀W,Turns (N9 S) G w0 W->Eu S l D w0 (.returned (.tuple #[.int .i64 v,u])) W b num) ->
    bodyPostM Fence.wide 3 prog Tryz.f25 R .ret { tmps:=tmps,defers:=[{ target:=.collected Dd,args:=#[] }] } w':=by
   intro G J v u Zx hPF;have hDlt:Dd<B.heap.size:=ae HG.d
   have hDn:Dd∉dom ((B6,Is (cB v))::(B7,Is (eU u))::(G++J)):=fun h=>by
    rcases Zx.fresh _ h with h'|h'
    ·exact HG.c h'
    ·omega
   have hDw:w'.heap[Dd]?=some (.deferred (some [])):=Zx.mods.at HG.d HG.c;have Ox:=(HG.w.trans Zx).YI (Nat.le_trans HL.b.mods.size hDd) hDn (.deferred none);refine⟨Nh,.inl ⟨_,_,rfl,run_takeDeferred hDw,?_⟩⟩;exact⟨_,m9 rfl tmps _ B6 B7 (.int .i64 v) u underlying3 rfl underlying45 rfl h6 h7 (aa (Ox.sat.Q5) 0 rfl) (aa (Ox.sat.tail.Q5) 0 rfl),HH.q.o _ _ (hPF _ (Ox.drop bR))⟩
  rcases hres with⟨sp,N8,J,rfl,rfl,h1,h2,h3,h4⟩|⟨S',V,J,rfl,rfl,h1,h2,h3,h4⟩
  ·exact fin _ J 0 (cr 8) h2 (fun W hW=>.inl ⟨sp,N8,rfl,h1,hW,h3,h4⟩)
  ·exact fin _ J num .nilIface h4 (fun W hW=>.inr ⟨S',V,rfl,h1,h2,h3,hW⟩)
theorem K0(S:AS)(l D:Bs)(b:Nat)(w W:World)(B6 B7 B3 a:Nat)(n:Int)(tmps:Array Value)(h6:tmps.getD 6 undef=.pointer (some ⟨B6,0,none⟩))(h7:tmps.getD 7 undef=.pointer (some ⟨B7,0,none⟩))(ev:Value)(hev:ev=cr n)(hT:Turns (N9 S) ((B7,Is (eU .nilIface))::(B6,Is (cB 0))::(B3,Is (dt a))::N9 S) w W)(
   hp:((S.X.closed=true/\n=9)\/(S.X.closed=false/\az l=false/\n=1)\/(S.X.closed=false/\az l=true/\4000<D.length/\n=2) \/
   (S.X.closed=false/\az l=true/\D.length<=4000/\S.X.quota<S.X.used+D.length/\n=7))):
  bodyPostM Fence.wide 3 prog Tryz.f25 (sS S l D b w) .ret { tmps:=tmps,defers:=[] } ((W.setCell ⟨B6,0,none⟩ (.int .i64 0)).setCell ⟨B7,0,none⟩ ev):=by
 subst hev;have q1:=hT.to (H:=(B6,Is (cB 0))::(B7,Is (eU .nilIface))::(B3,Is (dt a))::N9 S) (Perm.swap _ _ _);have q2:=q1.Qa (o:=cB 0) ((N7.refl (fun k=>k=B6) W).set1 (i:=0) (.int .i64 0)) (bq q1.sat.Q5 0 (.int .i64 0));have q3:=q2.to (H:=(B7,Is (eU .nilIface))::(B6,Is (cB 0))::(B3,Is (dt a))::N9 S) (Perm.swap _ _ _);have q4:=q3.Qa (o:=eU (cr n)) ((N7.refl (fun k=>k=B7) _).set1 (i:=0) (cr n)) (bq q3.sat.Q5 0 (cr n));have c6:=q4.sat.Q7 (b:=B6) (o:=cB 0) Nh;refine⟨_,m9 rfl tmps _ B6 B7 (.int .i64 0) (cr n) underlying3 rfl underlying45 rfl h6 h7 (aa c6 0 rfl) (aa q4.sat.Q5 0 rfl),.inl ⟨n,rfl,q4.drop bR,hp⟩⟩
theorem qS(S:AS)(l D:Bs)(sl:Option Addr)(cap b:Nat)(w:World)(h:Sat w (N9 S))(hok:Oo S)(hB:QU S b)(hb:b<=90000)(hD:ak w sl (D.map am))(hcap:D.length<=cap)(hdl:D.length<=1099511627776)(hsl:D≠[]->∀x,sl=some x->x.block∉dom (N9 S))(hl:l.length<=9223372036854775807)(hq : -4611686018427387904<=S.X.quota):
  Calls prog 25 #[.pointer (some ⟨S.a,0,none⟩),str l,.slice sl D.length cap] w (sS S l D b w):=by
 obtain⟨a,ha⟩:=Na S.a;obtain⟨X,hX⟩:=Na S.X;have hao:w.heap[a]?=some (aL X):=by rw[ha,hX];exact h.Q5
 have hal:=ae hao;obtain⟨B3,hB3⟩:=Na w.heap.size;obtain⟨B6,UU⟩:=Na (w.heap.size+1);obtain⟨B7,hB7⟩:=Na (w.heap.size+2)
 have HB:=NZ (fun W (hW:aV w W) (hc:W.cell? ⟨w.heap.size+3,0,none⟩=some (str l))=>kD a X (some ⟨w.heap.size+3,0,none⟩) 1 [l] W (hW.at hao id) (fun _=>⟨_,_,rfl,fun j hj=>by
  obtain rfl:j=0:=by simp at hj;omega
  exact hc⟩) Nh)
 obtain⟨w0,hw0⟩:=Na (((w.alloc (dt a)).alloc (cB 0)).alloc (eU .nilIface))
 have hT0:Turns (N9 S) ((B7,Is (eU .nilIface))::(B6,Is (cB 0))::(B3,Is (dt a))::N9 S) w w0:=by
  have:=(((Turns.refl h).Q9 (dt a)).Q9 (cB 0)).Q9 (eU .nilIface);simp only[World.size_alloc]at this;rw[hB3,UU,hB7,hw0];exact this
 rw[<- ha];have HH:=NZ (NK h (NK hok (NK hB (NK hb (NK hD (NK hcap (NK hdl (NK hsl (NK hl (NK hT0 (NK ha (NK hX (NK hao (NK hq hw0))))))))))))));clear h hok hB hb hD hcap hsl hl hT0 ha hX hao hq;refine(callsIn_wide (n:=3)).1 ?_;refine callsIn_of_wp_marks func25 rfl trivial ?_ rfl;simp only[ntmps25,size_toArray,length_cons,length_nil,Nat.reduceAdd,Nat.reduceSub,Array.replicate_succ,Array.replicate_zero,push_toArray,append_toArray,nil_append,cons_append];refine wpIn_wide.2 ?_;go_wp2_with fail
 refine(HB.o _ ((((N7.refl _ w).alloc _).alloc _).alloc _ |>.alloc _) (by
  have:=aa (aM (((w.alloc (dt a)).alloc (cB 0)).alloc (eU .nilIface)) (.cells #[str l] 9)) 0 (v:=str l) rfl;simp only[World.size_alloc]at this;exact this)).mono ?_
 rintro e w1 ⟨rfl,hs1⟩;obtain⟨cl,hcl⟩:=Na X.closed;obtain⟨pb,hpb⟩:=Na (az l);have e1:([l].all az)=pb:=by simp[hpb]
 rw[e1,<- hcl]
 have hT1:Turns (N9 S) ((B7,Is (eU .nilIface))::(B6,Is (cB 0))::(B3,Is (dt a))::N9 S) w w1:=by
  have:=(HH.q.b.alloc (.cells #[str l] 9));rw[HH.q.u]at this;exact this.Q8 hs1
 have hb6:=hT1.sat.Q7 (b:=B6) (o:=cB 0) Nh;have hb7:=hT1.sat.Q7 (b:=B7) (o:=eU .nilIface) Nh;have c6:w1.cell? ⟨B6,0,none⟩=some (.int .i64 0):=aa hb6 0 rfl;have c7:w1.cell? ⟨B7,0,none⟩=some .nilIface:=aa hb7 0 rfl;have f6:=aY hb6 0;have f7:=aY hb7 0;rw[show w.heap.size+1+1=w.heap.size+2 from rfl,<- hB7,<- UU,<- hB3];have h67:¬B6=B7:=Nb
 have h76:¬B7=B6:=Nb
 have HE:=NZ (fun(W:World) (n:Int) (tmps:Array Value) (h6:tmps.getD 6 undef=.pointer (some ⟨B6,0,none⟩)) (h7:tmps.getD 7 undef=.pointer (some ⟨B7,0,none⟩)) (ev:Value) (hev:ev=cr n) (hT:Turns (N9 S) ((B7,Is (eU .nilIface))::(B6,Is (cB 0))::(B3,Is (dt a))::N9 S) w W)
   (hp:((S.X.closed=true/\n=9)\/(S.X.closed=false/\az l=false/\n=1)\/(S.X.closed=false/\az l=true/\4000<D.length/\n=2) \/
   (S.X.closed=false/\az l=true/\D.length<=4000/\S.X.quota<S.X.used+D.length/\n=7)))=>K0 S l D b w W B6 B7 B3 a n tmps h6 h7 ev hev hT hp)
 have HD:=Oz hcl hpb hT1;clear hcl hpb hT1 hb6 hb7 hs1 e1 hw0 hB3 UU hB7 hal
 cases cl with
 | true =>
  simp only[if_true];unfold cr;go_wp2_with fail;refine HE.o _ 9 _ rfl rfl _ rfl HD.y (.inl ⟨?_,rfl⟩);rw[<- HH.q.d];exact HD.a.symm
 | false =>
  cases pb with
  | false =>
   simp only[Bool.false_eq_true,if_false];unfold cr;go_wp2_with fail;refine HE.o _ 1 _ rfl rfl _ rfl HD.y (.inr (.inl ⟨?_,HD.b.symm,rfl⟩));rw[<- HH.q.d];exact HD.a.symm
  | true =>
   simp only[Bool.false_eq_true,if_false,if_true];have PY:S.X.closed=false:=by rw[<- HH.q.d];exact HD.a.symm
   have hll:l.length<=20:=by
    have h2:=HD.b.symm;unfold az at h2;simp only[Bool.and_eq_true,decide_eq_true_eq]at h2;exact h2.1.2
   by_cases hbig:4000<D.length
   ·have HG:=NZ PY;clear PY;go_wp2_with fail;refine HE.o _ 2 _ rfl rfl _ rfl HD.y (.inr (.inr (.inl ⟨HG.o,HD.b.symm,hbig,rfl⟩)))
   ·have HG:=NZ PY;clear PY;go_wp2_with fail;obtain⟨w2,hw2⟩:=Na w1.drew;have hT:=HD.y;have TQ:Turns (N9 S) ((B7,Is (eU .nilIface))::(B6,Is (cB 0))::(B3,Is (dt a))::N9 S) w w2:=by rw[hw2];exact hT.drew
    have k3:w1.cell? ⟨B3,0,none⟩=some (.pointer (some ⟨a,0,none⟩)):=aa (hT.sat.Q7 (b:=B3) (o:=dt a) Nh) 0 rfl;have ka:=hT.sat.Q7 (b:=S.a) (o:=aL S.X) Nv;rw[<- HH.q.c,<- HH.q.d]at ka;have k5:w1.cell? ⟨a,5,none⟩=some (.int .i64 X.used):=aa ka 5 rfl;have k9:w1.cell? ⟨a,9,none⟩=some (.int .i64 X.quota):=aa ka 9 rfl
    have hwr:IntKind.i64.wrap (X.used+D.length)=X.used+D.length:=by
     have h1:=HH.c.used;have h2:=HH.d;rw[<- HH.q.d]at h1;exact IntWalk.i64_in _ Nb
    clear ka;refine wp_region_still_lit HM.o Nc ?_;repeat still_step
    refine wpStill_nil ?_;rw[show({ w1 with drawn:=w1.drawn+1 }:World)=w2 from hw2.symm];clear hT k3 k5 k9 hwr hw2;have hb6:=TQ.sat.Q7 (b:=B6) (o:=cB 0) Nh;have hb7:=TQ.sat.Q7 (b:=B7) (o:=eU .nilIface) Nh;have c62:w2.cell? ⟨B6,0,none⟩=some (.int .i64 0):=aa hb6 0 rfl;have c72:w2.cell? ⟨B7,0,none⟩=some .nilIface:=aa hb7 0 rfl;have f62:=aY hb6 0;have f72:=aY hb7 0;have HT2:=NZ TQ;clear TQ hb6 hb7 c6 c7 f6 f7;by_cases YZ:X.quota<X.used+D.length
    ·rw[decide_eq_true YZ];have HQ:=NZ YZ;clear YZ;go_wp2_with fail;refine HE.o _ 7 _ rfl rfl _ rfl HT2.o (.inr (.inr (.inr ⟨HG.o,HD.b.symm,Nb,?_,rfl⟩)));rw[<- HH.q.d];exact HQ.o
    ·rw[decide_eq_false YZ];have HQ:=NZ YZ;obtain⟨psl,pcap,e1,e2,e3,e4,e5,e6⟩:=fk (w:=w2) (pm:=S.X.pm) (c:=S.pc) (ps:=S.ps) (HT2.o.sat.tail.tail.tail.tail.right.right.left) HH.b.paths l;obtain⟨vs,hvs⟩:=Na (ah S.ps l);rw[<- hvs]at e1 e2 e4 e5 e6;have WZ:Py l:=by unfold Py;omega
     have ha0:=HT2.o.sat.Q7 (b:=S.a) (o:=aL S.X) Nv;rw[<- HH.q.c]at ha0;have a0c:w2.cell? ⟨a,0,none⟩=some (.map (some S.X.pm)):=aa ha0 0 rfl;have b3c:w2.cell? ⟨B3,0,none⟩=some (.pointer (some ⟨a,0,none⟩)):=aa (HT2.o.sat.Q7 (b:=B3) (o:=dt a) Nh) 0 rfl;have hal2:=ae ha0;have ZC:B3<w2.heap.size:=HT2.o.sat.lt Nh;have hpm:=HT2.o.sat.Q7 (b:=S.X.pm) (o:=aU str (S.ps.map aR) S.pc) NC;have HV:=WQ hvs e1 e2 e3 e4 e5 WZ ha0 hpm;clear YZ e1 e2 e3 e4 e5 e6 hvs WZ ha0 hpm;obtain⟨Bv,hBv⟩:=Na w2.heap.size;obtain⟨B9,hB9⟩:=Na (w2.heap.size+1);have qai:=(((N7.refl (fun _=>False) w2).alloc (.cells #[.int .i64 1,.int .i64 D.length,.slice none 0 0,.int .i64 0] 152)).alloc (.cells #[.pointer (some ⟨w2.heap.size,0,none⟩)] 149)).at HV.q.o id
     have Oj:Turns (N9 S) ((Bv,Is (dB ⟨Bv,1,D.length,.slice none 0 0,[],0⟩))::(B9,Is (db Bv))::(B7,Is (eU .nilIface))::(B6,Is (cB 0))::(B3,Is (dt S.a))::N9 S) w ((w2.alloc (.cells #[.int .i64 1,.int .i64 D.length,.slice none 0 0,.int .i64 0] 152)).alloc (.cells #[.pointer (some ⟨w2.heap.size,0,none⟩)] 149)):=by
      have h:=(HT2.o.Q9 (dB ⟨Bv,1,D.length,.slice none 0 0,[],0⟩)).Q9 (db Bv);rw[World.size_alloc,<- hB9,HH.q.c]at h;have h2:=h.to (Perm.swap _ _ _);rw[<- hBv]at h2 ⊢;exact h2
     have hP4:=HV.b;have HW:=OW qai Oj hBv hB9;clear qai Oj hP4;by_cases hvn:vs=[]
     ·subst hvn;have Tt:ah S.ps l=[]:=HV.a.symm;have HN0:=NZ Tt;clear Tt hBv hB9;go_upto_region 13 with(first|(refine dY dR rfl _ _ rfl underlying119 HW.a HH.b.paths.map (fI _) l rfl rfl HV.g ?_;rw[cX,HV.b])|fail);have U5:Hid (1=eM (ah S.ps l)+1):=NZ (by rw[HN0.o];rfl);have Og:=HW.b.Q9 (c9 (.slice none 0 0));simp only[World.size_alloc]at Og;rw[<- HW.x,<- HW.c]at Og ⊢;rw[HH.q.c];refine Bo S l D sl cap b HH.b HH.c HH.d HD.b.symm hll Nb HH.f B3 B6 B7 B9 (B9+1) Bv 1 U5.o w _ Og HH.e HH.h _ (fun e w' hp=>?_) Nl;refine .inr ⟨HG.o,HD.b.symm,Nb,?_,?_⟩
      ·have:=HQ.o;rw[HH.q.d]at this;omega
      ·have hnum:=U5.o;have Tj:((1:Nat):Int)=(eM (ah S.ps l):Int)+1:=Nb
       rcases hp with⟨sp,N8,h1,h2,h3,h4,h5⟩|⟨S',V,h1,h2,h3,h4,h5⟩
       ·exact .inl ⟨sp,N8,h1,h2,h3,by rw[<- Tj];exact h4,h5⟩
       ·exact .inr ⟨S',V,by rw[<- Tj];exact h1,h2,h3,h4,h5⟩
     ·obtain⟨g,off,hg,hcell⟩:=HV.e (by rw[NP];exact length_pos_iff.2 hvn);subst hg;obtain⟨U,hU⟩:∃U,vs.getLast?=some U:=⟨_,getLast?_eq_some_getLast hvn⟩;have hvl:0<vs.length:=length_pos_iff.2 hvn
      have hUe:U=vs[vs.length-1]:=by
       rw[getLast?_eq_getElem?,getElem?_eq_getElem Nb]at hU;exact(Option.some.inj hU).symm
      have VZ:U∈vs:=by rw[hUe];exact getElem_mem _
      have hc1:w2.cell? ⟨g,off+(vs.length-1),none⟩=some (dN U):=by rw[hcell (vs.length-1) Np,getElem_map,hUe]
      have hc2:=HV.f U VZ
      have hvb:vs.length<=90000/\U.num<=4294967296+90000:=by
       obtain⟨p',hp',_,h2⟩:=ft (ps:=S.ps) (l:=l) (by rw[<- HV.a];exact hvn);rw[<- HV.a]at h2;have h3:=HH.c.vers p' hp';have h4:=HH.d;rw[h2]at h3;have h5:=(h3.2.2 U VZ).1;omega
      have hs4:=((N7.refl (fun _=>False) w2).alloc (.cells #[.int .i64 1,.int .i64 D.length,.slice none 0 0,.int .i64 0] 152)).alloc (.cells #[.pointer (some ⟨w2.heap.size,0,none⟩)] 149);have hc1':=ij hs4 hc1;have hc2':=hs4.at hc2 id;have U5:Hid (U.num+1=eM (ah S.ps l)+1):=NZ (by rw[<- HV.a];unfold eM;rw[hU];rfl);obtain⟨m,hm⟩:=Na vs.length;rw[<- hm]at hc1 hc1' hvl hvb;have hvl2:(0:Int)<(m:Int):=Nb
      have HU:=OW hc1' hc2' hvb hm;clear hcell hU hUe VZ hc2 hs4 hc1 hc1' hc2' hvb hBv hB9;have HV2:=HV.b;rw[<- hm]at HV2;have HVV:=NZ HV2;clear HV2 hm;go_upto_region 11 with(first|(refine dY dR rfl _ _ rfl underlying119 HW.a HH.b.paths.map (fI _) l rfl rfl HV.g ?_;rw[cX,HVV.o])|fail);rw[<- HW.x,<- HW.c];have h:=HW.b;have q1:=HU.a;have q2:=HU.b;rw[<- HW.c]at h q1 q2;generalize (w2.alloc _).alloc _=W at h q1 q2 ⊢;have k9:=aa h.sat.tail.Q5 0 (v:=.pointer (some ⟨Bv,0,none⟩)) rfl;have kU:=aa q2 0 (v:=.int .i64 U.num) rfl;unfold dN at q1;have hm1:1<=m:=Nb
      have hnu:=HU.c;have g1:IntKind.i64.wrap ((m:Int)-1)=(m:Int)-1:=IntWalk.i64_in _ Nb;have g2:(0:Int)<=(m:Int)-1:=Nb
      have g3:(m:Int)-1<m:=Nb
      have g4:((m:Int)-1).toNat=m-1:=Nb
      have g6:(1:Int)<=(m:Int):=Nb
      have g7:(0:Int)<(m:Int):=Nb
      have g5:IntKind.i64.wrap ((U.num:Int)+1)=(U.num:Int)+1:=IntWalk.i64_in _ Nb;have H0:=NZ h;clear h q2;refine wp_region_still_tail 13 HM.o Nc ?_;simp only[QE,take_zero,QD,drop_zero];repeat still_step
      refine wpStill_nil ?_;refine ai rfl (aX 3 (.tmp 74) (.tmp 72) rfl Bv 0 (fA ⟨Bv,1,D.length,.slice none 0 0,[],0⟩) 152 (.int .i64 (U.num+1)) H0.o.drew rfl rfl (by simp[fA]) Nc rfl rfl ?_);intro w5 Og;have QX:=NZ (show Turns (N9 S) ((Bv,Is (dB ⟨Bv,U.num+1,D.length,.slice none 0 0,[],0⟩))::(B9,Is (db Bv))::(B7,Is (eU .nilIface))::(B6,Is (cB 0))::(B3,Is (dt S.a))::N9 S) w w5 from Og);clear Og k9 kU q1 g1 g2 g3 g4 g5 hnu;simp only[Act.put];go_upto_region 13 with(fail);have Ox:=QX.o.Q9 (c9 (.slice none 0 0));rw[HH.q.c];refine Bo S l D sl cap b HH.b HH.c HH.d HD.b.symm hll Nb HH.f B3 B6 B7 B9 w5.heap.size Bv (U.num+1) U5.o w _ Ox HH.e HH.h _ (fun e w' hp=>?_) Nl;refine .inr ⟨HG.o,HD.b.symm,Nb,?_,?_⟩
      ·have:=HQ.o;rw[HH.q.d]at this;omega
      ·have hnum:=U5.o;have Tj:(((U.num+1):Nat):Int)=(eM (ah S.ps l):Int)+1:=Nb
       rcases hp with⟨sp,N8,h1,h2,h3,h4,h5⟩|⟨S',V,h1,h2,h3,h4,h5⟩
       ·exact .inl ⟨sp,N8,h1,h2,h3,by rw[<- Tj];exact h4,h5⟩
       ·exact .inr ⟨S',V,by rw[<- Tj];exact h1,h2,h3,h4,h5⟩
end
section
theorem IQ{h:Int}{n:Nat}(e:dG h n=true):16<=n:=by
 rcases Nat.lt_or_ge n 16 with h'|h'
 ·rw[IT h']at e;cases e
 ·exact h'
theorem yw(l:List UInt8):∀h n,n<256->∀i (hi:i<(cP h n l).length),1<=(cP h n l)[i]/\(cP h n l)[i]<=256/\(i+1<(cP h n l).length->16<=(cP h n l)[i]):=by
 induction l with
 | nil=>intro h n _ i hi;simp[cP]at hi
 | cons c cs ih =>
  intro h n hn i
  cases he:dG (cY h c.toNat) (n+1)
  ·by_cases hc:cs=[]
   ·subst hc;rw[pg];intro hi;have hi0:i=0:=by simp at hi;omega
    subst hi0;refine⟨?_,?_,?_⟩
    ·simp
    ·simp;omega
    ·simp
   ·rw[ue _ _ _ _ he hc]
    have hn1:n+1<256:=by
     rcases Nat.lt_or_ge (n+1) 256 with h'|h'
     ·exact h'
     ·rw[qd h']at he;cases he
    exact ih _ _ hn1 i
  ·rw[q8 _ _ _ _ he];intro hi
   cases i with
   | zero=>exact⟨Nh,Nj,fun _=>by have:=IQ he;simpa using this⟩
   | succ i =>
    have hi':i<(cP 0 0 cs).length:=by simpa using hi
    have:=ih 0 0 Nb i hi';simpa using this
theorem oC(l:List UInt8)(i:Nat)(hi:i<(aI l).length):1<=(aI l)[i]/\(aI l)[i]<=256/\(i+1<(aI l).length->16<=(aI l)[i]) :=
 yw l 0 0 Nb i hi
end
section
open Go.RowKit
theorem Cu(d:Nat)(L:Ol)(q:Int)(w:World)(h:Sat w (aA d L))(hL:Ou L)(hn:16<=L.n)(hn2:L.n<=1073741824)(hch:L.N8.length<=137438953472)(hz:∀k,k<2->aN L.now k=an 128):
  Calls prog 22 #[.pointer (some ⟨d,0,none⟩),.int .i64 q] w (qQ d L q w):=by
 have HS:=NZ (jg d L w h);have hzt:cD L.now 2=true:=by unfold cD;exact decide_eq_true hz
 have hu:=G3 d L w h hL hn (fun k hk=>by rw[hz k hk];exact kL);rw[hzt]at hu;have HU:=NZ hu;have HF:Hid (∀W,Sat W (aA d L)->Calls prog 51 #[.pointer (some ⟨d,0,none⟩),.int .i64 q] W (qQ d L q W)):=NZ (fun W hW=>AE d L q W hW hL hn hn2 hch);have HH:=NZ h;clear h hL hn2 hch hz hzt hu;have hn':¬(L.n:Int)<16:=Nb
 go_enter func22,ntmps22;go_wp2_with fail;refine HS.o.mono ?_;rintro e w' ⟨rfl,rfl⟩;go_wp2_with fail;refine HU.o.mono ?_;rintro e w1 ⟨rfl,hs1⟩;have H1:=NZ hs1;clear hs1;go_wp2_with fail;refine(HF.o _ (HH.o.same H1.o)).mono ?_;rintro e w2 ⟨a,ab,pm,tm,cm,ch,L',rfl,hT,hr⟩;have H2:=Ob hT hr;clear hT hr;go_wp2_with fail;go_ret2;exact⟨a,ab,pm,tm,cm,ch,L',rfl,Turns.Qg HH.o H1.o H2.a,H2.z⟩
end
section
open Go.RowKit Go.Maps
structure SA where
 blk:Nat
 d:Nat
 a:Option Nat
 r:Nat
 out:Value
 want:Value
 most:Value
def rB:Option Nat->Value
 | none=>.pointer none
 | some b=>.pointer (some ⟨b,0,none⟩)
def cA(U:SA):Array Value:=#[.pointer (some ⟨U.d,0,none⟩),rB U.a,.pointer (some ⟨U.r,0,none⟩),U.out,U.want,U.most]
def bw(U:SA):Obj:=.cells (cA U) 63 (0,0)
theorem E2{l s:Bs}{o k:Nat}(h:128*(k+1)<=o)(hl:o<=l.length):aN (ba l o s) k=aN l k:=by
 unfold aN ba;have h1:(l.take o).length=o:=by rw[NS];omega
 rw[NV,drop_append_of_le_length Nb,take_append_of_le_length (by rw[NT,h1];omega),drop_take,take_take,Nat.min_eq_left Nb]
def li(a pm tm cm d ab ch:Nat)(q:Int)(L:Ol):AS where
 a:=a
 X:=⟨pm,tm,cm,0,0,0,d,ab,1,fO q,false,.nilIface⟩
 A:=⟨2+au L.n,au L.n,0,an 128,ch,[]⟩
 L:=L
 ps:=[]
 pc:=0
 cs:=[]
 cc:=0
 ts:=[]
 tc:=0
 data:=[]
 K:=[]
theorem GO{L L':Ol}(hL:Ou L)(hn:16<=L.n)(OY:L'.now=ba (gc L.now (2+au L.n) 0 (an 128) (au L.n)) 128 (bO 1 0)):eD L'.now (2+au L.n) (au L.n) []:=by
 have hh:2+au L.n+au L.n<=L.n:=by unfold au;omega
 have hll:=hL.OU;have h1:=ud (l:=L.now) (ws:=an (128*au L.n)) (first:=2+au L.n) (count:=au L.n) (end_:=0) Nb rfl (ap _) Nb;simp only[take_zero,Nat.zero_div,Nat.mul_zero,List.drop_nil,nil_append,Nat.zero_mod,Nat.sub_zero]at h1;have hcl:(gc L.now (2+au L.n) 0 (an 128) (au L.n)).length=128*L.n:=jH hll (ap _) _ Nb;have h2:=kg (l:=gc L.now (2+au L.n) 0 (an 128) (au L.n)) (s:=bO 1 0) (first:=1) (count:=1) (q:=0) (f2:=2+au L.n) (c2:=au L.n) (by rw[co];omega) (by rw[hcl];omega) Nb;refine⟨?_,Nh⟩;rw[OY,h2];exact h1.1.1
theorem JO{L L':Ol}(hL:Ou L)(hL':Ou L')(hn:16<=L.n)(hn2:L.n<=1073741824)(hnn:L'.n=L.n)(OY:L'.now=ba (gc L.now (2+au L.n) 0 (an 128) (au L.n)) 128 (bO 1 0))(a pm tm cm d ab ch:Nat)(q:Int):
  Oo (li a pm tm cm d ab ch q L') where
 dev:=hL'
 n16:=by show 16<=L'.n;omega
 Px:=by show L'.n<=_;omega
 area:=⟨ap _,by show([]:List (Nat×Nat×Nat)).length<=2;simp,fun s hs=>by cases hs⟩
 first:=by show 2+au L'.n=2+1%2*au L'.n;omega
 count:=rfl
 end_:=rfl
 tail:=by show an 128=bK [];unfold bK dx;simp
 dat:=by
  show eD L'.now (2+au L'.n) (au L'.n) []
  rw[hnn];exact GO hL hn OY
 paths:=⟨⟨nodup_nil,nodup_nil,(fun e he=>by cases he),(fun e he=>by cases he)⟩,(fun p hp=>by cases hp)⟩
 tags:=⟨⟨nodup_nil,nodup_nil,(fun e he=>by cases he),(fun e he=>by cases he)⟩,(fun p hp=>by cases hp)⟩
 chunks:=⟨⟨nodup_nil,nodup_nil,(fun e he=>by cases he),(fun e he=>by cases he)⟩,(fun p hp=>by cases hp)⟩
 kin:=fun k=>Perm.refl _
 Pm:=fun e he=>by cases he
 vers:=fun p hp=>by cases hp
 some:=fun p hp=>by cases hp
 sound:=rfl
 ep:=by show(1:Nat)<4294967296;omega
theorem Le{L':Ol}(hch:L'.N8=[])(a pm tm cm d ab ch:Nat)(q:Int)(hq:q<=9223372036854775807):QU (li a pm tm cm d ab ch q L') 0 where
 K:=by simp[li]
 np:=by simp[li]
 nt:=by simp[li]
 vers:=fun p hp=>by cases hp
 tags:=fun p hp=>by cases hp
 used:=by simp[li]
 sc:=by simp[li]
 sb:=by simp[li]
 quota:=by show(fO q).natAbs<=_;unfold fO;split<;>omega
 N8:=by show L'.N8.length<=_;rw[hch];simp
def sU(n:Nat)(q:Int)(d:Nat)(S:AS):Prop :=
 Oo S/\QU S 0/\S.X.closed=false/\S.X.quota=fO q/\S.X.used=0/\S.X.sc=0/\S.X.sb=0/\S.ps=[]/\S.ts=[]/\S.K=[]/\S.data=[]/\S.L.n=n/\S.X.d=d/\S.X.ep=1/\S.L.N8=[]/\aN S.L.now 1=bO 1 0/\aN S.L.now 0=an 128
theorem oS(d:Nat)(L:Ol)(q:Int)(w:World)(h:Sat w (aA d L))(hL:Ou L)(hn:16<=L.n)(hn2:L.n<=1073741824)(hch:L.N8.length<=137438953472)(hz:∀k,k<2->aN L.now k=an 128)(hq:q<=9223372036854775807):
  Calls prog 22 #[.pointer (some ⟨d,0,none⟩),.int .i64 q] w (fun e w'=>∃S,e=.returned (.tuple #[.pointer (some ⟨S.a,0,none⟩),.nilIface])/\sU L.n q d S/\Turns (aA d L) (N9 S) w w'):=by
 refine(Cu d L q w h hL hn hn2 hch hz).mono ?_;rintro e w' ⟨a,ab,pm,tm,cm,ch,L',rfl,hT,hL',hLn,OY,_,Td⟩;have hh:2+au L.n+au L.n<=L.n:=by unfold au;omega
 have hcl:(gc L.now (2+au L.n) 0 (an 128) (au L.n)).length=128*L.n:=jH hL.OU (ap _) _ Nb;refine⟨li a pm tm cm d ab ch q L',rfl,⟨JO hL hL' hn hn2 hLn OY a pm tm cm d ab ch q,Le Td a pm tm cm d ab ch q hq,rfl,rfl,rfl,rfl,rfl,rfl,rfl,rfl,rfl,hLn,rfl,rfl,Td,?_,?_⟩,?_⟩
 ·show aN L'.now 1=_;rw[OY];unfold aN ba;have h1:((gc L.now (2+au L.n) 0 (an 128) (au L.n)).take 128).length=128*1:=by rw[NS,hcl];omega
  rw[NV,drop_left' h1,take_left' (co _ _)]
 ·show aN L'.now 0=_;rw[OY,E2 Nb (by rw[hcl];omega),uc (ap _) (by rw[hL.OU];omega),E2 Nb (by rw[hL.OU];omega)];exact hz 0 Nb
 ·refine hT.to ?_;unfold N9 li aG bX aQ gl;rw[<- hLn];simp only[map_nil,aU,flatMap_nil];exact ac
theorem JP:∀(l:List Nat),(∀i (h:i<l.length),i+1<l.length->16<=l[i])->16*(l.length-1)<=l.sum
 | [],_=>by simp
 | [a],_=>by simp
 | a::b::r,h=>by
  have h1:=h 0 Nh Nh
  have h2:=JP (b::r) (fun i hi hj=>by have:=h (i+1) (by simpa using hi) (by simpa using hj);simpa using this)
  simp only[length_cons,sum_cons,getElem_cons_zero]at h1 h2 ⊢
  omega
theorem uC(D:Bs):(aI D).length<=D.length / 16+1:=by
 have h:=JP (aI D) (fun i hi hj=>(oC D i hi).2.2 hj);rw[gZ]at h;omega
theorem mA:∀(l:List Nat) (d:Bs),(dj l d).flatten=d.take l.sum
 | [],d=>by simp[dj]
 | n::r,d=>by
  simp only[dj,flatten_cons,sum_cons,mA r]
  rw[take_add]
theorem oy(D:Bs):(aD D).flatten=D:=by
 unfold aD;rw[mA,gZ,take_length]
theorem wR{S:AS}(hok:Oo S):∀{l:List Bs} {m:List (Nat×Nat)},m.length=l.length->(∀e∈l.zip m,e∈S.K)->m.flatMap (bt S.K)=l.flatten
 | [],[],_,_=>rfl
 | c::l,q::m,h,hz=>by
  rw[flatMap_cons,flatten_cons,nH hok (hz (c,q) Nh),wR hok (by simpa using h) (fun e he=>hz e (by simp[he]))]
theorem IJ{S:AS}(hok:Oo S){D:Bs}{V:Oe}(hl:V.N8.length=(aD D).length)(hz:∀e∈(aD D).zip V.N8,e∈S.K):gB S V=D:=by
 unfold gB;rw[wR hok hl hz,oy]
abbrev Im:=Int×Bs×Int
def Cj(S:AS)(V:Oe):Im:=((V.num:Int),gB S V,V.held)
def LG(v:Oi):Im:=(v.num,v.cont,v.held)
def bF(vs:List Oi)(p:Bs):List Oi:=vs.filter (fun v=>decide (v.path=p))
def Cb(p:fJ):Bs×Bs×Int:=(p.key,p.g.1,p.g.2)
def MG(t:OV):Bs×Bs×Int:=(t.name,t.path,t.num)
def iX(ts:List OV)(p:Bs)(n:Int):Int:=(ts.countP (fun t=>decide (t.path=p/\t.num=n)):Nat)
structure Link (S:AS) (R:Oh):Prop where
 closed:R.closed=S.X.closed
 quota:R.quota=S.X.quota
 used:S.X.used=(di R.vs:Nat)
 vers:∀p,(ah S.ps p).map (Cj S)=(bF R.vs p).map LG
 sorted:R.vs.Pairwise (fun a b=>cE b.path a.path=false)
 UR:∀p,((bF R.vs p).map (·.num)).Pairwise (·<·)
 each:∀v∈R.vs,1<=v.num/\az v.path=true/\v.cont.length<=4000
 tags:(S.ts.map Cb).Perm (R.ts.map MG)
 QT:R.ts.Pairwise (fun a b=>cE a.name b.name=true)
 P9:∀t∈R.ts,az t.name=true/\∃v∈R.vs,v.path=t.path/\v.num=t.num
 held:∀v∈R.vs,v.held=iX R.ts v.path v.num
theorem mL(vs:List Oi)(p:Bs)(n:Int):∀k,k<=vs.length->(if 0<=bZ vs p n k then vs[(bZ vs p n k).toNat]? else none)=((vs.take k).filter (lz p n)).getLast?
 | 0,_=>by simp[bZ]
 | k+1,hk=>by
  rw[rU Nb,QH Nb,filter_append]
  by_cases h:lz p n vs[k]=true
  ·rw[NR h,NR Nb,filter_cons_of_pos h]
   simp
  ·rw[NQ h,filter_cons_of_neg h,filter_nil,append_nil]
   exact mL vs p n k Nb
theorem DT(R:Oh)(p:Bs)(n:Int):qy R p n=(R.vs.filter (lz p n)).getLast?:=by
 unfold qy;rw[mL R.vs p n _ (Nat.le_refl _),take_length]
theorem FU{S:AS}{l:Bs}{n k:Int}{V:Oe}(h:iU S l n V)(h2:kB S l n k):False:=by
 rcases h2 with⟨h1,_⟩|⟨_,h1,_⟩|⟨_,_,h1,_⟩
 ·rw[h.1]at h1;cases h1
 ·rw[h.2.1]at h1;cases h1
 ·rw[h.2.2]at h1;cases h1
theorem iU.uniq{S:AS}{l:Bs}{n:Int}{V V':Oe}(h:iU S l n V)(h2:iU S l n V'):V=V':=by
 have:=h.2.2;rw[h2.2.2]at this;exact(Option.some.inj this).symm
def et(S:AS)(sp:List (Nat×Nat×Nat)):AS:={ S with A:={ S.A with spare:=sp } }
theorem Oo.spare{S:AS}(h:Oo S){sp:List (Nat×Nat×Nat)}(ha:Ov { S.A with spare:=sp }):Oo (et S sp) where
 dev:=h.dev
 n16:=h.n16
 Px:=h.Px
 area:=ha
 first:=h.first
 count:=h.count
 end_:=h.end_
 tail:=h.tail
 dat:=h.dat
 paths:=h.paths
 tags:=h.tags
 chunks:=h.chunks
 kin:=h.kin
 Pm:=h.Pm
 vers:=h.vers
 some:=h.some
 sound:=h.sound
 ep:=h.ep
end
section
open Go.RowKit
theorem Ja:(prog.info? 3).map (fun i=>(i.zero,i.size,i.bytes))=some (some (.int .i64 0),1,8):=Nc
def Hj(c:Nat)(w:World)(e:Ending)(w':World):Prop:=e=.returned (.int .u32 (oA c))/\w=w'
theorem Dl(c:Nat)(hc:c<256)(w:World):Calls prog 144 #[.int .u8 c] w (Hj c w):=by
 go_enter func144,ntmps144;go_wp2;go_ret;exact⟨rfl,rfl⟩
theorem ou(x:Int)(m k:Nat)(hm:m+1=2 ^ k)(hk:k<=32)(h0:0<=x)(h1:x<4294967296):bits BinOp.and IntKind.u32 x m=x%(m+1:Nat):=by
 obtain⟨n,rfl⟩:=Int.eq_ofNat_of_zero_le h0;have hp:(2:Nat) ^ k<=2 ^ 32:=Nat.pow_le_pow_right Nb hk;have e1:(BitVec.ofInt 32 (n:Int)).toNat=n:=by rw[BitVec.ofInt_natCast,BitVec.toNat_ofNat];exact Nat.mod_eq_of_lt Nb
 have e2:(BitVec.ofInt 32 (m:Int)).toNat=m:=by rw[BitVec.ofInt_natCast,BitVec.toNat_ofNat];exact Nat.mod_eq_of_lt Nb
 have e3:n &&& m=n%2 ^ k:=by
  have:=Nat.and_two_pow_sub_one_eq_mod n k;rw[<- hm,Nat.add_sub_cancel]at this;rw[<- hm];exact this
 show IntKind.u32.wrap ((BitVec.ofInt 32 (n:Int) &&& BitVec.ofInt 32 (m:Int)).toNat:Int)=_;rw[BitVec.toNat_and,e1,e2,e3,IntKind.wrap_u32,hm];have:n%2 ^ k<2 ^ k:=Nat.mod_lt _ (Nat.two_pow_pos k);omega
theorem IR(h:Int)(n:Nat)(h0:0<=h)(h1:h<4294967296):
  dG h n=(decide (256<=n) || (decide (64<=n)&&(h%16==0)) || (decide (16<=n)&&decide (n<64)&&(h%256==0))):=by
 have e1:=ou h 15 4 rfl Nb h0 h1;have e2:=ou h 255 8 rfl Nb h0 h1;unfold dG;rw[show((15:Int))=((15:Nat):Int)from rfl,show((255:Int))=((255:Nat):Int)from rfl,e1,e2];by_cases a:256<=n
 ·simp[a]
 ·by_cases b:64<=n
  ·have c:¬n<64:=Nb
   simp[a,b,c,bne]
  ·have c:n<64:=Nb
   by_cases d:16<=n<;>simp[a,b,c,d,bne]
def zH(data:List UInt8)(w:World)(e:Ending)(w':World):Prop :=
 ∃v,e=.returned v/\w'.ownsRow w.heap.size 3 1 v (aI data).length ((aI data).map fun n:Nat=>Value.int .i64 n)/\aV w w'
theorem IU(h c:Int)(n:Nat):dG (cY h c) (n+1)=true↔(256<=(n:Int)+1\/(64<=(n:Int)+1/\(h*2+oA c)%16=0)\/(16<=(n:Int)+1/\(n:Int)+1<64/\(h*2+oA c)%256=0)):=by
 have hr:=se h c;rw[IR _ _ hr.1 hr.2];have e1:cY h c%16=(h*2+oA c)%16:=by unfold cY;omega
 have e2:cY h c%256=(h*2+oA c)%256:=by unfold cY;omega
 rw[e1,e2];simp only[Bool.or_eq_true,Bool.and_eq_true,decide_eq_true_eq,beq_iff_eq];omega
def Cz(data:List UInt8)(w:World)(out hh nn ii:Value)(wr:World):Prop :=
 ∃(k n:Nat) (h:Int) (os:List Nat),k<=data.length/\ii=.int .i64 k/\nn=.int .i64 n/\hh=.int .u32 h/\0<=h/\h<4294967296/\n<256/\n<=k /\
   os++cP h n (data.drop k)=aI data/\os.length<=k/\wr.ownsRow 0 3 1 out os.length (os.map fun n:Nat=>Value.int .i64 n)/\(∀g,out.ownBlock=some g->w.heap.size<=g)/\aV w wr
theorem DX{data:List UInt8}{w wr w3:World}{v v':Value}{o:Obj}{k n:Nat}{h:Int}{os:List Nat}{x:UInt8}(hlt:k<data.length)(hx:x=data[k])(hos:os++cP h n (data.drop k)=aI data)(hol:os.length<=k)(hbl:∀g,v.ownBlock=some g->w.heap.size<=g)(hs:aV w wr)(he:k+1=data.length\/dG (cY h x.toNat) (n+1)=true)(hown:w3.ownsRow 0 3 1 v' (os.length+1) ((os.map fun n:Nat=>Value.int .i64 n)++[.int .i64 ((n:Int)+1)]))(hgrow:(wr.alloc o).grownBy w3 v.ownBlock)(hg:∀g,v'.ownBlock=some g->v.ownBlock=some g\/(wr.alloc o).heap.size<=g)(m:Int)(hm:m=(k:Int)+1):
  Cz data w v' (.int .u32 0) (.int .i64 0) (.int .i64 m) w3:=by
 have hd:data.drop k=x::data.drop (k+1):=by rw[hx];exact drop_eq_getElem_cons hlt
 have hc:cP h n (data.drop k)=(n+1)::cP 0 0 (data.drop (k+1)):=by
  rw[hd];rcases he with he|he
  ·rw[show data.drop (k+1)=[]from drop_of_length_le Nb,pg];rfl
  ·exact q8 _ _ _ _ he
 refine⟨k+1,0,0,os++[n+1],Nb,by simp[hm],rfl,rfl,Nb,Nb,Nb,Nb,?_,Nj,?_,?_,?_⟩
 ·rw[<- hos,hc];simp
 ·simpa using hown
 ·intro g h';have:=hs.size;rcases hg g h' with h2|h2
  ·exact hbl g h2
  ·simp at h2;omega
 ·exact(hs.alloc o).grown hgrow (fun k hk=>.inr (hbl k hk))
theorem BH{data:List UInt8}{w wr:World}{v:Value}{k n:Nat}{h m:Int}{os:List Nat}{x:UInt8}(hlt:k<data.length)(hx:x=data[k])(hos:os++cP h n (data.drop k)=aI data)(hol:os.length<=k)(hnk:n<=k)(hown:wr.ownsRow 0 3 1 v os.length (os.map fun n:Nat=>Value.int .i64 n))(hbl:∀g,v.ownBlock=some g->w.heap.size<=g)(hs:aV w wr)(he:¬(k+1=data.length\/dG (cY h x.toNat) (n+1)=true))(hm:m=cY h x.toNat):
  Cz data w v (.int .u32 m) (.int .i64 ((n:Int)+1)) (.int .i64 ((k:Int)+1)) wr:=by
 have hd:data.drop k=x::data.drop (k+1):=by rw[hx];exact drop_eq_getElem_cons hlt
 have he2:dG (cY h x.toNat) (n+1)=false:=by
  cases hz:dG (cY h x.toNat) (n+1)
  ·rfl
  ·exact absurd (.inr hz) he
 have hr:=se h x.toNat;refine⟨k+1,n+1,cY h x.toNat,os,Nb,Nh,Nh,by rw[hm],hr.1,hr.2,?_,Nb,?_,Nb,hown,hbl,hs⟩
 ·rcases Nat.lt_or_ge (n+1) 256 with h'|h'
  ·exact h'
  ·rw[qd h']at he2;cases he2
 ·rw[<- hos,hd,ue _ _ _ _ he2];intro hn;have:=drop_eq_nil_iff.1 hn;exact he (.inl Nb)
theorem wn(a:Option Addr)(cap:Nat)(data:List UInt8)(w:World)(hd:ak w a (data.map am))(hmax:data.length<=1099511627776):
  Calls prog 109 #[.slice a data.length cap] w (zH data w):=by
 go_enter func109,ntmps109;go_wp2;obtain⟨i0,hi0,hz1,hz2,hz3⟩:=info_parts Ja;go_loopw [3,4,5,6] (Cz data w) (fun _ _ _ ii _=>data.length-(intOf ii).toNat)
 case atStart=>exact⟨0,0,0,[],Nb,rfl,rfl,rfl,Nb,Nb,Nb,Nb,rfl,Nh,World.ownsRow_nil _ _ _ _,by simp[Value.ownBlock],N7.refl _ _⟩
 case round =>
  obtain⟨k,n,h,os,hk,rfl,rfl,rfl,hh0,hh1,hn,hnk,hos,hol,hown,hbl,hs⟩:=hrel;have HO:=OW hos hown hbl hs;clear hos hown hbl hs;by_cases hlt:k<data.length
  ·obtain⟨g1,o1,rfl,hc1⟩:=hd Nj;have hk1:w.cell? ⟨g1,o1+k,none⟩=some (am data[k]):=by rw[hc1 k (by simpa using hlt)];simp
   have hk2:=(World.cell?_of_block (w:=w) (HO.x.block g1 (World.block_lt_of_cell? w _ hk1) id)).trans hk1;obtain⟨x,hx⟩:=Na (data[k]);rw[<- hx]at hk2;unfold am at hk2;have HX:=NZ hx;have hxl:=x.toNat_lt;have HE:=NZ (IU h x.toNat n);clear hx hk1 hc1 hd
   go_wp2_with (first
    | (go_at_call 144;refine(Dl _ hxl _).mono ?_;rintro e w2 ⟨rfl,rfl⟩)
    | (at_builtin;refine gA _ rfl _ _ 171 rfl 3 i0 (.int .i64 0) 1 8 underlying171 hi0 hz1 hz2 hz3 rfl Nk _ _ _ rfl (HO.b.alloc _) ⟨wr.heap.size,0,none⟩ 1 1 [.int .i64 ((n:Int)+1)] rfl rfl (cell_one_new _ _ _) (by simp[Value.oneCell']) (by unfold maxLen;omega) Nb ?_;intro v' A3 hown' hgrow _ hgb))
   all_goals go_roundw
   all_goals
    first
    | (
     refine DX hlt HX.o HO.a hol HO.c HO.x ?_ hown' hgrow hgb _ ?_
     ·first
      | exact .inl Nb
      | exact .inr ((HE.o).2 (.inl Nb))
      | exact .inr ((HE.o).2 (.inr (.inl ⟨Nb,eq_of_beq Nl⟩)))
      | exact .inr ((HE.o).2 (.inr (.inr ⟨Nb,Nb,eq_of_beq Nl⟩)))
      | (
       refine .inr ((HE.o).2 (.inl ?_));have hq:((k:Int)==(data.length:Int)-1)=true\/((n:Int)+1==256)=true:=Nl
       rcases hq with h'|h'<;>(have:=eq_of_beq h';omega))
      | (
       exfalso;have hq:((k:Int)==(data.length:Int)-1)=true\/((n:Int)+1==256)=true:=Nl
       rcases hq with h'|h'<;>(have:=eq_of_beq h';omega))
     ·omega)
    | (
     refine BH hlt HX.o HO.a hol hnk HO.b HO.c HO.x ?_ rfl
     have key:∀c:Int,0<=c->¬(256<=(n:Int)+1):=fun _ _=>by
      first
      | omega
      | (
       have hq:((k:Int)==(data.length:Int)-1)=false/\((n:Int)+1==256)=false:=Nl
       have:=ne_of_beq_false hq.2;omega)
     intro hh;rcases hh with hh|hh
     ·omega
     ·rcases(HE.o).1 hh with h1|⟨h1,h2⟩|⟨h1,h2,h3⟩
      ·exact key 0 Nb h1
      ·first
       | omega
       | exact ne_of_beq_false Nl h2
      ·first
       | omega
       | exact ne_of_beq_false Nl h3)
    | (simp[intOf];omega)
  ·obtain⟨hos,hown,hbl,hs⟩:=HO.o;have hkk:k=data.length:=Nb
   have hP':os=aI data:=by rw[hkk,drop_length]at hos;simpa[cP]using hos
   have hP:=NZ hP';clear hP';have HF:=Oz hown hbl hs;clear hos hown hbl hs hkk;go_wp2;go_ret;exact⟨_,rfl,by rw[<- hP.out];exact yR HF.a HF.b,HF.y⟩
end
section
open Go.RowKit Go.Maps
structure RI where
 val:Value
 bs:Bs
def CD(w:World)(x:RI):Prop:=∃sl cap,x.val=.slice sl x.bs.length cap/\x.bs.length<=cap/\cap<=9223372036854775807/\ak w sl (x.bs.map am)
def bP(v:Value)(l:List RI):HF:=bH 38 1 v l.length (l.map (·.val))
def vi(v:Value)(l:List RI):Prop:=ei 1 v l.length (l.map (·.val))
def pN(l:List Bs)(c:Bs):List Bs:=if c∈l then l else l++[c]
def fT(l:List Bs)(cs:List Bs):List Bs:=cs.foldl pN l
def lM(P6:Option Addr)(OG:Nat)(c:Bs)(x:RI):Prop :=
 ∃g off k,P6=some ⟨g,off,none⟩/\x.val=.slice (some ⟨g,off+k,none⟩) x.bs.length (OG-k)/\x.bs=(c.drop k).take x.bs.length/\k+x.bs.length<=c.length
theorem lM.at{P6:Option Addr}{OG:Nat}{c:Bs}{x:RI}(h:lM P6 OG c x){w:World}(hc:ak w P6 (c.map am))(hcap:c.length<=OG)(hc9:OG<=9223372036854775807):CD w x:=by
 obtain⟨g,off,k,e1,e2,e3,e4⟩:=h;refine⟨_,_,e2,Nb,Nb,fun hp=>⟨g,off+k,rfl,fun j hj=>?_⟩⟩;rw[NP]at hp hj;obtain⟨g',off',e5,h5⟩:=hc Np;rw[e1]at e5;simp only[NY,Addr.mk.injEq,and_true]at e5;obtain⟨rfl,rfl⟩:=e5;rw[Nat.add_assoc,h5 (k+j) Np];simp only[getElem_map];congr 2;have:x.bs[j]?=c[k+j]?:=by rw[e3,getElem?_take,NR hj,getElem?_drop]
 rw[getElem?_eq_getElem hj,getElem?_eq_getElem Nb]at this;exact(Option.some.inj this).symm
theorem kq{w:World}{v:Value}{l:List RI}(hs:Sat w (bP v l))(h:vi v l):∃sl cap,v=.slice sl l.length cap/\l.length<=cap/\cap<=9223372036854775807/\ak w sl (l.map (·.val)):=by
 obtain⟨sl,cap,e,h1,h2,h3,-⟩:=bb hs h Nk;exact⟨sl,cap,e,h1,h2,h3⟩
theorem vJ(a:Option Addr)(cap:Nat)(data:Bs)(w:World)(hd:ak w a (data.map am))(hmax:data.length<=1099511627776):
  Calls prog 109 #[.slice a data.length cap] w (fun e w'=>∃v,e=.returned v/\ei 1 v (aI data).length ((aI data).map fun n:Nat=>Value.int .i64 n)/\Turns [] (bH 3 1 v (aI data).length ((aI data).map fun n:Nat=>Value.int .i64 n)) w w'):=by
 refine(wn a cap data w hd hmax).mono ?_;rintro e w' ⟨v,rfl,ho,hs⟩;have ho0:w'.ownsRow 0 3 1 v (aI data).length ((aI data).map fun n:Nat=>Value.int .i64 n):=⟨ho.1,ho.2.imp id (fun⟨g,cap,cur,h1,_,h2⟩=>⟨g,cap,cur,h1,Nat.zero_le _,h2⟩)⟩;obtain⟨h1,h2⟩:=fe ho0;refine⟨v,rfl,h2,hs.mods _,h1,fun b hb=>.inr ?_⟩;rw[eL]at hb;rcases ho.2 with⟨rfl,_⟩|⟨g,cap,cur,rfl,hg,_⟩
 ·cases hb
 ·obtain rfl:=Option.some.inj hb;exact hg
theorem Lb{P:Program}{t:TypeId}(a b:Bs)(w:World):(binOp .eql t (str a) (str b)).run P w=.ok (.bool (decide (a=b))) w:=by
 unfold str;simp[binOp,Op.stringOp,Lib.toList_data];rw[Bool.eq_iff_iff];simp
theorem pV{w:World}{sl:Option Addr}{l:Bs}(cap:Nat)(h:ak w sl (l.map am)):(do let v <- convert 38 9 (.slice sl l.length cap);pure (Next.value v)).run prog w=.ok (.value (str l)) w:=by
 simp[i5 _ h]
theorem tK(l:List Bs)(cs:List Bs)(c:Bs):fT l (cs++[c])=pN (fT l cs) c:=by unfold fT;rw[foldl_append];rfl
def Hy(P6:Option Addr)(OG:Nat)(c:Bs)(v0:Value)(M:List RI)(w:World)(e:Ending)(w':World):Prop :=
 ∃v M',e=.returned v/\vi v M'/\M'.map (·.bs)=fT (M.map (·.bs)) (aD c)/\(∀x∈M',x∈M\/lM P6 OG c x)/\Turns (bP v0 M) (bP v M') w w'
theorem qU(l cs:List Bs):(fT l cs).length<=l.length+cs.length:=by
 unfold fT;induction cs generalizing l with
 | nil=>simp
 | cons c r ih =>
  have h1:=ih (pN l c);have h2:(pN l c).length<=l.length+1:=by unfold pN;split<;>simp
  simp only[foldl_cons,length_cons];omega
theorem uN(P6:Option Addr)(OG:Nat)(c:Bs)(v0:Value)(M:List RI)(w:World)(hs:Sat w (bP v0 M))(hok:vi v0 M)(hM:∀W G,Turns (bP v0 M) G w W->∀x∈M,CD W x)(hc:∀W G,Turns (bP v0 M) G w W->ak W P6 (c.map am))(hcap:c.length<=OG)(Xe:OG<=9223372036854775807)(hcl:c.length<=1000000)(hml:M.length+c.length<=900000):
  Calls prog 61 #[v0,.slice P6 c.length OG] w (Hy P6 OG c v0 M w):=by
 obtain⟨F1,hF1⟩:=Na (bP v0 M);have hT0:Turns F1 (bP v0 M) w w:=by rw[hF1];exact Turns.refl hs
 have hcw:=hc w _ (Turns.refl hs);rw[<- hF1]at hM hc;have HC:=NZ (vJ P6 OG c w hcw Nb);have HH:=PD hM hc hok hT0 hF1;clear hs hM hc hok hT0 hF1 hcw;obtain⟨rs0,rc0,hv0,-,-,-⟩:=kq HH.d.sat HH.c;have HV0:=NZ hv0;go_enter func61,ntmps61;go_wp2_with fail;refine HC.o.mono ?_;rintro e w1 ⟨lv,rfl,Yj,hT1⟩;obtain⟨ls,hls⟩:=Na (aI c);rw[<- hls]at Yj hT1;have Zq:Turns F1 (bP v0 M++(bH 3 1 lv ls.length (ls.map fun n:Nat=>Value.int .i64 n)++[])) w w1:=(HH.d.trans (by have:=hT1.frame (R:=bP v0 M) (by simpa using HH.d.sat);simpa using this)).to ac;have hll:ls.length<=c.length:=by rw[hls];exact cR c
 have H1:=Oz Yj Zq hls;clear Yj hT1 Zq hls;obtain⟨lsl,WG,hlv,hl2,hl3,-,-⟩:=bb (H1.b.sat.right.left) H1.a Nk;have HLV:=NZ hlv;rw[hlv];clear hlv;go_wp2_with fail;go_loopw [0,6,7] (fun l a i wr=>∃(k:Nat) (M':List RI) (J:HF),k<=ls.length/\i=.int .i64 k/\a=.int .i64 ((ls.take k).sum:Nat)/\vi l M'/\M'.map (·.bs)=fT (M.map (·.bs)) ((aD c).take k)/\(∀x∈M',x∈M\/lM P6 OG c x)/\Turns F1 (bP l M'++(bH 3 1 (.slice lsl ls.length WG) ls.length (ls.map fun n:Nat=>Value.int .i64 n)++J)) w wr) (fun _ _ i _=>ls.length-(intOf i).toNat)
 case atStart=>exact⟨0,M,[],Nat.zero_le _,rfl,rfl,hv0 ▸ HH.c,rfl,fun x hx=>.inl hx,by rw[<- hv0,<- HLV.o];exact H1.b⟩
 case round =>
  obtain⟨i,M',J,hi,rfl,rfl,hok,hbs,hpo,hT⟩:=hrel;obtain⟨lsl',lcap',qab,-,-,hlc,-⟩:=bb (hT.sat.right.left) (HLV.o ▸ H1.a) Nk;simp only[Value.slice.injEq,true_and]at qab;obtain⟨rfl,rfl⟩:=qab;obtain⟨YJ,RH,RX,hr2,hr3,hrc⟩:=kq hT.sat.left hok;subst RX
  have hm:M'.length<=M.length+i:=by
   have h1:=congrArg length hbs;have h2:=qU (M.map (·.bs)) ((aD c).take i);rw[NP]at h1;rw[NP,NS]at h2;omega
  have hm9:M'.length<=900000:=Nb
  have HR:=OW hok hbs hpo hT;clear hok hbs hpo hT hm;by_cases hlt:i<ls.length
  ·obtain⟨lg,WH,hlg,Vo⟩:=hlc Np;subst hlg;have hci:=Vo i (by rw[NP];exact hlt);rw[getElem_map]at hci;obtain⟨n,hn⟩:=Na (ls[i]);rw[<- hn]at hci;have hsum:(ls.take (i+1)).sum=(ls.take i).sum+n:=by rw[QH hlt,sum_append,hn];simp
   have htot:(ls.take (i+1)).sum<=c.length:=by
    have h1:=gZ c;rw[<- H1.y]at h1;have h2:ls.sum=(ls.take (i+1)).sum+(ls.drop (i+1)).sum:=by rw[<- sum_append,take_append_drop]
    omega
   have hn1:1<=n:=by rw[hn];have h1:=oC c i (by rw[<- H1.y];exact hlt);simp only[<- H1.y]at h1;exact h1.1
   obtain⟨a,ha⟩:=Na ((ls.take i).sum);rw[<- ha]at hsum ⊢
   have hbk:(aD c).take (i+1)=(aD c).take i++[(c.drop a).take n]:=by
    have h1:i<(aD c).length:=by unfold aD;rw[cI,<- H1.y];exact hlt
    have hce:(aD c)[i]=(c.drop a).take n:=by
     have h3:=ji (aI c) c i (by rw[<- H1.y];exact hlt);simp only[<- H1.y,<- ha,<- hn]at h3;refine Eq.trans ?_ h3;unfold aD;simp only[<- H1.y]
    rw[QH h1,hce]
   obtain⟨bk,hbkd⟩:=Na ((c.drop a).take n);have hbl:bk.length=n:=by rw[hbkd,NS,NT];omega
   obtain⟨g,off,hg,-⟩:=HH.b _ _ HR.x Np;have hpart:lM P6 OG c ⟨.slice (some ⟨g,off+a,none⟩) n (OG-a),bk⟩:=⟨g,off,a,hg,by simp only[hbl],by simp only[hbl];exact hbkd,by simp only[hbl];omega⟩;rw[<- hbkd]at hbk;subst hg;have hne:¬OG=a:=Nb
   have han:a+n<=OG:=Nb
   have YS:=PD hsum hbk hpart hbkd hbl;have hx1:((a:Int)+n).toNat=a+n:=Nb
   have hx2:a+n-a=n:=Nb
   have ha9:a<=1000000:=Nb
   have hn9:n<=1000000:=Nb
   have HN:=NZ hn;clear Vo hlc hsum hbk hpart hbkd hbl htot hn ha;rename World=>W0
   go_wp2_with fail;go_loopw [9,10] (fun th kk W2=>∃(k:Nat) (b:Bool),k<=M'.length/\kk=.int .i64 k/\th=.bool b/\(b=true->bk∈M'.map (·.bs))/\(b=false->bk∉(M'.take k).map (·.bs))/\aV W0 W2) (fun _ kk _=>M'.length-(intOf kk).toNat)
   case atStart=>exact⟨0,false,Nat.zero_le _,rfl,rfl,(fun h=>by cases h),(fun _=>by simp),N7.refl _ _⟩
   case round =>
    obtain⟨k,b,hk,rfl,rfl,hb1,hb2,hsm⟩:=hrel;have hT:=HR.x.Q8 hsm
    have hcl':∀(W:World) (G:HF),Turns F1 (G++(bH 3 1 (.slice (some ⟨lg,WH,none⟩) ls.length WG) ls.length (ls.map fun n:Nat=>Value.int .i64 n)++J)) w W->W.cell? ⟨lg,WH+i,none⟩=some (.int .i64 n):=by
     intro W G hTW;obtain⟨a',c',e',-,-,hc',-⟩:=bb (hTW.sat.right.left) (HLV.o ▸ H1.a) Nk;simp only[Value.slice.injEq,true_and]at e';obtain⟨rfl,rfl⟩:=e';obtain⟨g',o',e2,h2⟩:=hc' Np;simp only[NY,Addr.mk.injEq,and_true]at e2;obtain⟨rfl,rfl⟩:=e2;rw[h2 i (by rw[NP];exact hlt),getElem_map,<- HN.o]
    have hci':=hcl' _ _ hT;have HCL:=NZ hcl';have HB:=OW hb1 hb2 hsm hT;clear hb1 hb2 hsm hT hcl' hci hrc
    cases b with
    | true =>
     go_wp2_with fail;all_goals refine⟨⟨i+1,M',J,Nb,by go_num,by rw[YS.a];go_num,HR.a,(by rw[YS.b,tK,HR.b.symm];unfold pN;rw[NR (HB.a (by trivial))]),HR.c,HB.x⟩,?_⟩
     all_goals (simp[intOf];omega)
    | false =>
     by_cases hkm:k<M'.length
     ·obtain⟨q,hq⟩:=Na (M'[k]);obtain⟨rsl2,rcap2,qan,-,-,Vx⟩:=kq HB.x.sat.left HR.a;simp only[Value.slice.injEq,true_and]at qan;obtain⟨rfl,rfl⟩:=qan;have hown:=HR.a.2
      obtain⟨rg,hrg⟩:∃rg,YJ=some ⟨rg,0,none⟩:=by
       rcases(aW HB.x.sat.left HR.a).2 with⟨h1,h2⟩|⟨g1,cap1,Ze,h1,-⟩
       ·omega
       ·simp only[Value.slice.injEq]at h1;exact⟨g1,h1.1⟩
      subst hrg;obtain⟨g',o',e2,h2⟩:=Vx Np;simp only[NY,Addr.mk.injEq,and_true]at e2;obtain⟨rfl,rfl⟩:=e2;have hqc:=h2 k (by rw[NP];exact hkm);rw[getElem_map,<- hq,Nat.zero_add]at hqc
      have hqa:CD wr q:=by
       rcases HR.c q (hq ▸ getElem_mem hkm)with h3|h3
       ·exact HH.a _ _ HB.x q h3
       ·exact h3.at (HH.b _ _ HB.x) hcap Xe
      have hbv:∃sl cap,(.slice (some ⟨g,off+a,none⟩) n (OG-a):Value)=.slice sl bk.length cap/\ak wr sl (bk.map am):=by
       obtain⟨sl,cap,e3,-,-,h4⟩:=YS.c.at (HH.b _ _ HB.x) hcap Xe;exact⟨sl,cap,e3,h4⟩
      have HQ:=OW hqc hqa hbv hq;clear hqc hqa hbv hq h2 Vx hown;go_wp2_with fail;refine wp_region_still_lit HM.o Nc ?_;obtain⟨W2,hW2⟩:=Na (wr.drew:World);have c1:W2.cell? ⟨rg,k,none⟩=some q.val:=by rw[hW2];exact HQ.a
      have c2:CD W2 q:=by rw[hW2];exact HQ.b
      obtain⟨sl,cap,e,-,-,hc⟩:=c2;obtain⟨sl2,cap2,e2,hc2⟩:∃sl cap,(.slice (some ⟨g,off+a,none⟩) n (OG-a):Value)=.slice sl bk.length cap/\ak W2 sl (bk.map am):=by rw[hW2];exact HQ.c
      simp only[Value.slice.injEq]at e2;obtain⟨rfl,hn,rfl⟩:=e2;have hb:=pV (OG-a) hc2;rw[<- hn]at hb;rw[e]at c1;change wpStill _ _ wr.drew _ _ _;rw[<- hW2];have HW2:=Oz hW2 hb hc;clear hW2 hb hc hc2 e hn;iterate 4 still_step
      refine cq rfl (v:=str q.bs) (by simp only[execOp];exact pV _ HW2.y) ?_;simp only[Act.put,QA,QB,QC];still_step;refine cq rfl (v:=str bk) (by simp only[execOp];exact HW2.b) ?_;refine cq rfl (v:=.bool (decide (q.bs=bk))) (by simp[execOp,eqGuard,Lb,Act.eval,Act.put]) ?_;simp only[Act.put,QA,QB,QC];still_step;refine wpStill_nil ?_;clear c1
      have hfin:∃(k':Nat) (b':Bool),k'<=M'.length/\Value.int .i64 ((k:Int)+1)=.int .i64 k'/\Value.bool (decide (q.bs=bk))=.bool b'/\(b'=true->bk∈M'.map (·.bs))/\(b'=false->bk∉(M'.take k').map (·.bs))/\aV W0 wr.drew:=by
       refine⟨k+1,decide (q.bs=bk),Nb,by go_num,rfl,fun h=>?_,fun h=>?_,HB.c.drew⟩
       ·rw[decide_eq_true_eq]at h;exact mem_map.2 ⟨q,HQ.x ▸ getElem_mem hkm,h⟩
       ·rw[decide_eq_false_iff_not]at h;rw[QH hkm,NW,mem_append];rintro(h5|h5)
        ·exact HB.b (by trivial) h5
        ·simp only[map_cons,map_nil,NU]at h5;rw[<- HQ.x]at h5;exact h h5.symm
      have HF:=NZ hfin;clear hfin;go_wp2_with fail;go_roundw
      case rel=>exact HF.o
      case measure=>simp[intOf];omega
     ·obtain rfl:k=M'.length:=Nb
      have hnot:bk∉M'.map (·.bs):=by have:=HB.b (by trivial);rwa [take_length]at this
      have HN2:=NZ hnot;clear hnot;go_wp2_with ((at_builtin;refine ai rfl ?_;(refine mu (.tmp 48) (.tmp 50) rfl (.slice YJ M'.length RH) (M'.map (·.val)) rfl (G:=bH 3 1 (.slice (some ⟨lg,WH,none⟩) ls.length WG) ls.length (ls.map fun n:Nat=>Value.int .i64 n)++J) ((by simpa[bP]using HB.x.alloc _):Turns F1 _ w _) (by simpa[vi]using HR.a) _ (.slice (some ⟨g,off+a,none⟩) n (OG-a)) rfl rfl (aa (aM _ _) 0 rfl) Np ?_);intro v2 w2 hok2 hT2;have hci2:=HCL.o _ _ hT2;have H2:=Ob hok2 hT2;clear hok2 hT2))
      have hlast:vi v2 (M'++[⟨.slice (some ⟨g,off+a,none⟩) n (OG-a),bk⟩])/\Turns F1 (bP v2 (M'++[⟨.slice (some ⟨g,off+a,none⟩) n (OG-a),bk⟩])++(bH 3 1 (.slice (some ⟨lg,WH,none⟩) ls.length WG) ls.length (ls.map fun n:Nat=>Value.int .i64 n)++J)) w w2:=by
       have h1:=H2.a;have h2:=H2.z;unfold vi bP;rw[show(M'++[(⟨.slice (some ⟨g,off+a,none⟩) n (OG-a),bk⟩:RI)]).map (·.val)=List.map RI.val M'++[Value.slice (some ⟨g,off+a,none⟩) n (OG-a)] by simp];rw[show(M'++[(⟨.slice (some ⟨g,off+a,none⟩) n (OG-a),bk⟩:RI)]).length=(List.map RI.val M'++[Value.slice (some ⟨g,off+a,none⟩) n (OG-a)]).length by simp];exact⟨h1,h2⟩
      refine⟨⟨i+1,M'++[⟨.slice (some ⟨g,off+a,none⟩) n (OG-a),bk⟩],J,Nb,by go_num,by rw[YS.a];go_num,hlast.1,(by rw[YS.b,tK,HR.b.symm];unfold pN;rw[NQ HN2.o,NW];rfl),(fun x hx=>by rcases mem_append.1 hx with h3|h3;exact HR.c x h3;exact .inr (mem_singleton.1 h3 ▸ YS.c)),hlast.2⟩,?_⟩;simp[intOf];omega
  ·obtain rfl:i=ls.length:=Nb
   clear hlc hrc;go_wp2_with fail;go_ret;refine ⟨.slice YJ M'.length RH,M',rfl,HR.a,?_,HR.c,?_⟩
   ·rw[HR.b,take_of_length_le (by unfold aD;rw[cI,<- H1.y];exact Nat.le_refl _)]
   ·rw[<- HV0.o,<- HH.w];exact HR.x.drop (fun x=>by simp only[af];omega)
structure Pj where
 kind:Int
 a:Int
 b:Int
 c:Int
 s:Bs
 t:Bs
 dv:Value
 d:Bs
def QI(o:Pj):List Value:=[.int .i64 o.kind,.int .i64 o.a,.int .i64 o.b,.int .i64 o.c,str o.s,str o.t,o.dv]
def sQ(l:List Pj):List Value:=l.flatMap QI
def Za(n:Int):Prop:=-9223372036854775808<=n/\n<=9223372036854775807
structure Qs (w:World) (o:Pj):Prop where
 a:Za o.a
 b:Za o.b
 c:Za o.c
 s:o.s.length<=1125899906842624
 t:o.t.length<=1125899906842624
 d:o.d.length<=1125899906842624
 dv:∃sl cap,o.dv=.slice sl o.d.length cap/\o.d.length<=cap/\cap<=9223372036854775807/\ak w sl (o.d.map am)
theorem jA(l:List Pj):(sQ l).length=l.length*7:=by
 induction l with
 | nil=>rfl
 | cons a r ih=>simp only[sQ,flatMap_cons,NM,length_cons]at ih ⊢;rw[ih];simp[QI];omega
theorem yQ:∀(l:List Pj) (i:Nat) (h:i<l.length) (j:Nat) (_:j<7),(sQ l)[i*7+j]?=(QI l[i])[j]?
 | [],i,h,_,_=>by simp at h
 | a::r,0,_,j,hj=>by
  simp only[sQ,flatMap_cons,Nat.zero_mul,Nat.zero_add,getElem_cons_zero]
  rw[getElem?_append_left (by simpa[QI]using hj)]
 | a::r,i+1,h,j,hj=>by
  simp only[sQ,flatMap_cons,getElem_cons_succ]
  rw[getElem?_append_right (by simp[QI];omega),show(i+1)*7+j-(QI a).length=i*7+j by simp[QI];omega]
  exact yQ r i (by simpa using h) j hj
theorem Jn{w:World}{sl:Option Addr}{l:List Pj}(h:ak w sl (sQ l)){i:Nat}(hi:i<l.length):∃g off,sl=some ⟨g,off,none⟩ /\
  w.cell? ⟨g,off+i*7,none⟩=some (.int .i64 l[i].kind)/\w.cell? ⟨g,off+i*7+1,none⟩=some (.int .i64 l[i].a)/\w.cell? ⟨g,off+i*7+2,none⟩=some (.int .i64 l[i].b)/\w.cell? ⟨g,off+i*7+3,none⟩=some (.int .i64 l[i].c) /\
  w.cell? ⟨g,off+i*7+4,none⟩=some (str l[i].s)/\w.cell? ⟨g,off+i*7+5,none⟩=some (str l[i].t)/\w.cell? ⟨g,off+i*7+6,none⟩=some l[i].dv:=by
 obtain⟨g,off,e,hc⟩:=h (by rw[jA];omega)
 have key:∀j (hj:j<7) (v:Value),(QI l[i])[j]?=some v->w.cell? ⟨g,off+i*7+j,none⟩=some v:=by
  intro j hj v hv;have h1:=hc (i*7+j) (by rw[jA];omega);rw[<- Nat.add_assoc]at h1;rw[h1];have h2:=yQ l i hi j hj;rw[hv,getElem?_eq_getElem (by rw[jA];omega)]at h2;exact h2
 exact⟨g,off,e,key 0 Nb _ rfl,key 1 Nb _ rfl,key 2 Nb _ rfl,key 3 Nb _ rfl,key 4 Nb _ rfl,key 5 Nb _ rfl,key 6 Nb _ rfl⟩
def qu(o:Pj):Nat:=o.s.length+o.t.length+o.d.length
def fK(l:List Pj):Nat:=(l.map qu).sum
def kr(l:List Pj):Bool:=decide (l.length<=400)&&decide (fK l<=60000)
theorem mX{l:List Pj}{k:Nat}(h:k<l.length):fK (l.take (k+1))=fK (l.take k)+qu l[k]:=by
 unfold fK;rw[QH h,NW,sum_append];simp
theorem rt(l:List Pj)(k:Nat):fK (l.take k)<=fK l:=by
 unfold fK;have:(l.map qu).sum=((l.take k).map qu).sum+((l.drop k).map qu).sum:=by rw[<- sum_append,<- NW,take_append_drop]
 omega
theorem sv(l:List Pj)(sl:Option Addr)(cap:Nat)(w:World)(h:ak w sl (sQ l))(hok:∀o∈l,Qs w o)(hcap:l.length<=1125899906842624):
  Calls prog 13 #[.slice sl l.length cap] w (fun e w'=>e=.returned (.bool (kr l))/\aV w w'):=by
 have HH:=Ob h hok;clear h hok;go_enter func13,ntmps13;by_cases h4:400<l.length
 ·have hfin:kr l=false:=by unfold kr;rw[decide_eq_false Nb];rfl
  have HF:=NZ hfin;clear hfin;go_wp2_with fail;go_ret;exact ⟨by rw[HF.o];rfl,N7.refl _ _⟩
 ·go_wp2_with fail;go_loopw [3,4] (fun n i wr=>∃k:Nat,k<=l.length/\i=.int .i64 k/\n=.int .i64 (fK (l.take k):Nat)/\fK (l.take k)<=60000/\aV w wr) (fun _ i _=>l.length-(intOf i).toNat)
  case atStart=>exact⟨0,Nat.zero_le _,rfl,rfl,by simp[fK],N7.refl _ _⟩
  case round =>
   obtain⟨k,hk,rfl,rfl,hle,hs⟩:=hrel;by_cases hlt:k<l.length
   ·obtain⟨g,off,hg,-,-,-,-,h5,h6,h7⟩:=Jn (HH.a.keep hs (fun _ _ _=>id)) hlt;have TV:=HH.z l[k] (getElem_mem hlt);obtain⟨dsl,OC,hdv,-,-,-⟩:=TV.dv;rw[hdv]at h7;have hnx:=mX hlt;have hb1:=TV.s;have hb2:=TV.t;have hb3:=TV.d;unfold qu at hnx;subst hg;obtain⟨os,hos⟩:=Na (l[k].s);obtain⟨ot,hot⟩:=Na (l[k].t);obtain⟨od,hod⟩:=Na (l[k].d);rw[<- hos]at h5 hnx hb1;rw[<- hot]at h6 hnx hb2;rw[<- hod]at h7 hnx hb3;obtain⟨n,hn⟩:=Na (fK (l.take k));rw[<- hn]at hnx hle ⊢;have hw1:wrap64 ((n:Int)+os.length)=(n:Int)+os.length:=IntWalk.wrap64_in _ Nb;have hw2:wrap64 ((n:Int)+os.length+ot.length)=(n:Int)+os.length+ot.length:=IntWalk.wrap64_in _ Nb;have hw3:wrap64 ((n:Int)+os.length+ot.length+od.length)=(n:Int)+os.length+ot.length+od.length:=IntWalk.wrap64_in _ Nb;have HX:=Ob hnx hs;have hk4:k<=400:=Nb
    clear hnx hs TV hdv hos hot hod hn;by_cases hbig:(60000:Int)<(n:Int)+os.length+ot.length+od.length
    ·have hfin:kr l=false:=by
      unfold kr;have h1:=rt l (k+1);rw[HX.a]at h1;rw[decide_eq_false (p:=fK l<=60000) Nb,Bool.and_false]
     have HF:=NZ hfin;clear hfin;go_upto_region 7 with(fail);go_quiet (fail);go_wp2_with fail;go_ret;exact ⟨by rw[HF.o];rfl,HX.z.drewN _⟩
    ·have hbig':¬(n:Int)+os.length+ot.length+od.length>60000:=hbig;go_upto_region 7 with(fail);go_quiet (fail);go_wp2_with fail;go_roundw
     case rel=>exact⟨k+1,Nb,by go_num,by rw[HX.a];go_num,by rw[HX.a];omega,HX.z.drewN _⟩
     case measure=>simp[intOf];omega
   ·obtain rfl:k=l.length:=Nb
    rw[take_length]at hle;have hfin:kr l=true:=by unfold kr;rw[decide_eq_true Nb,decide_eq_true hle];rfl
    have HF:=NZ hfin;clear hfin;go_wp2_with fail;go_ret;exact ⟨by rw[HF.o];rfl,hs⟩
theorem IW{w:World}{sl:Option Addr}{l:List OI}(h:ak w sl (l.flatMap cz)){i:Nat}(hi:i<l.length):∃g off,sl=some ⟨g,off,none⟩ /\
  w.cell? ⟨g,off+i*4,none⟩=some (str l[i].p)/\w.cell? ⟨g,off+i*4+1,none⟩=some (.int .i64 l[i].latest)/\w.cell? ⟨g,off+i*4+2,none⟩=some (.int .i64 l[i].size)/\w.cell? ⟨g,off+i*4+3,none⟩=some (.int .i64 l[i].n):=by
 obtain⟨g,off,e,hc⟩:=h (by rw[gM];omega)
 have key:∀j (hj:j<4) (v:Value),(cz l[i])[j]?=some v->w.cell? ⟨g,off+i*4+j,none⟩=some v:=by
  intro j hj v hv;have h1:=hc (i*4+j) (by rw[gM];omega);rw[<- Nat.add_assoc]at h1;rw[h1];have h2:=qi l (i*4+j) Nb;rw[show(i*4+j) / 4=i by omega,show(i*4+j)%4=j by omega]at h2;simp only[getElem!_toArray,getElem!_pos l i hi]at h2;rw[getElem?_eq_getElem (by rw[gM];omega)]at h2;rw[h2]
  have:(cz l[i])[j]! = v := by
   rw[getElem!_eq_getElem?_getD,hv];rfl
  rw[this]
 exact⟨g,off,e,key 0 Nb _ rfl,key 1 Nb _ rfl,key 2 Nb _ rfl,key 3 Nb _ rfl⟩
def rM(es rs:List OI)(w:World)(e:Ending)(w':World):Prop:=∃b,e=.returned (.bool b)/\(es=rs->b=true)/\aV w w'
theorem kQ(es rs:List OI)(a1 a2:Option Addr)(c1 c2:Nat)(w:World)(h1:ak w a1 (es.flatMap cz))(h2:ak w a2 (rs.flatMap cz))(hx:es.length<=1000000)(hy:rs.length<=1000000):
  Calls prog 91 #[.slice a1 es.length c1,.slice a2 rs.length c2] w (rM es rs w):=by
 have HH:=Ob h1 h2;clear h1 h2;go_enter func91,ntmps91;by_cases hl:es.length=rs.length
 ·have hlI:((es.length:Int) != (rs.length:Int))=false:=by simp[hl]
  have HL:=NZ hl;clear hl;go_wp2_with fail;go_loopw [5] (fun i wr=>∃k:Nat,k<=es.length/\i=.int .i64 k/\aV w wr) (fun i _=>es.length-(intOf i).toNat)
  case atStart=>exact⟨0,Nat.zero_le _,rfl,N7.refl _ _⟩
  case round =>
   obtain⟨k,hk,rfl,hs⟩:=hrel;by_cases hlt:k<es.length
   ·obtain⟨g,off,hg,p0,p1,p2,p3⟩:=IW (HH.a.keep hs (fun _ _ _=>id)) hlt;obtain⟨g',off',hg',q0,q1,q2,q3⟩:=IW (HH.z.keep hs (fun _ _ _=>id)) (i:=k) (by rw[<- HL.o];exact hlt);have hkr:k<rs.length:=by rw[<- HL.o];exact hlt
    subst hg;subst hg';obtain⟨x,hxd⟩:=Na (es[k]);obtain⟨y,YA⟩:=Na (rs[k]);rw[<- hxd]at p0 p1 p2 p3;rw[<- YA]at q0 q1 q2 q3;obtain⟨xp,xl,xs,xn⟩:=x;obtain⟨yp,yl,ys,yn⟩:=y;simp only at p0 p1 p2 p3 q0 q1 q2 q3;have HX:=Oz hxd YA hs;clear hxd YA hs
    have hno:∀(h:¬(⟨xp,xl,xs,xn⟩:OI)=⟨yp,yl,ys,yn⟩) (W:World),aV w W->rM es rs w (.returned (.bool false)) W:=fun h W hW=>⟨false,rfl,fun he=>by
     exfalso;apply h;have e1:=HX.a;have e2:=HX.b;subst he;rw[e1,e2],hW⟩
    have U4:=NZ hno;clear hno;by_cases c1:xp=yp
    ·have c1':=c1.symm;clear c1;subst c1';by_cases c2:xl=yl
     ·subst c2;by_cases c3:xs=ys
      ·subst c3;by_cases c4:xn=yn
       ·subst c4;go_upto_region 6 with(fail);go_quiet (fail);go_wp2_with fail;go_roundw
        case rel=>exact⟨k+1,Nb,by go_num,HX.y.drewN _⟩
        case measure=>simp[intOf];omega
       ·have d4:(xn != yn)=true:=by simp[c4]
        go_upto_region 6 with(fail);go_quiet (fail);go_wp2_with fail;go_ret;exact U4.o (by simp[c4]) _ (HX.y.drewN _)
      ·have d3:(xs != ys)=true:=by simp[c3]
       go_upto_region 6 with(fail);go_quiet (fail);go_wp2_with fail;go_ret;exact U4.o (by simp[c3]) _ (HX.y.drewN _)
     ·have d2:(xl != yl)=true:=by simp[c2]
      go_upto_region 6 with(fail);go_quiet (fail);go_wp2_with fail;go_ret;exact U4.o (by simp[c2]) _ (HX.y.drewN _)
    ·have d1:(xp==yp)=false:=by simp[c1]
     go_upto_region 6 with(fail);go_quiet (fail);go_wp2_with fail;go_ret;exact U4.o (by simp[c1]) _ (HX.y.drewN _)
   ·obtain rfl:k=es.length:=Nb
    go_wp2_with fail;go_ret;exact ⟨true,rfl,fun _=>rfl,hs⟩
 ·have hlI:((es.length:Int) != (rs.length:Int))=true:=Nj
  go_wp2_with fail;go_ret;exact ⟨false,rfl,fun he=>by subst he;exact absurd rfl hl,N7.refl _ _⟩
structure WS where
 U:SA
 S:AS
 R:Oh
 P:cU
 M:List RI
 O:Bs
 J:HF:=[]
def Fr(w0:World)(P:cU)(x:RI):Prop:=CD w0 x\/∃p∈P,∃sl cap,p.1=.slice sl p.2.length cap/\p.2.length<=cap/\cap<=9223372036854775807/\lM sl cap p.2 x
def tJ(P:cU)(v:Value)(b:Bs):Prop:=∃sl cap,v=.slice sl b.length cap/\(b=[]\/∃p∈P,∃g off c k,p.1=.slice (some ⟨g,off,none⟩) p.2.length c/\sl=some ⟨g,off+k,none⟩/\b=(p.2.drop k).take b.length)
theorem Fr.at{w0 W:World}{P:cU}{G:HF}{x:RI}(h:Fr w0 P x)(hT:Turns [] G w0 W)(hp:Sat W (ay P))(hok:jZ P):CD W x:=by
 rcases h with⟨sl,cap,e,h1,h2,hc⟩|⟨p,hm,sl,cap,e,h1,h2,h3⟩
 ·exact⟨sl,cap,e,h1,h2,hc.turns (by exact hT)⟩
 ·obtain⟨sl',cap',e',h1',hc,-⟩:=l7 hok hp (v:=p.1) (l:=p.2) hm;rw[e]at e';simp only[Value.slice.injEq,true_and]at e';obtain⟨rfl,rfl⟩:=e';exact h3.at hc h1 h2
theorem tJ.at{W:World}{P:cU}{v:Value}{b:Bs}(h:tJ P v b)(hp:Sat W (ay P))(hok:jZ P):∃sl cap,v=.slice sl b.length cap/\ak W sl (b.map am):=by
 obtain⟨sl,cap,e,h1⟩:=h;refine⟨sl,cap,e,?_⟩;rcases h1 with rfl|⟨p,hm,g,off,c,k,e1,e2,e3⟩
 ·exact dS _ _
 ·obtain⟨sl',cap',e',h1',hc,-⟩:=l7 hok hp (v:=p.1) (l:=p.2) hm;rw[e1]at e';simp only[Value.slice.injEq,true_and]at e';obtain⟨rfl,rfl⟩:=e'
  have hle:b.length<=p.2.length-k:=by
   have:=congrArg length e3;rw[NS,NT]at this;omega
  intro hpos;rw[NP]at hpos;have hpart:lM (some ⟨g,off,none⟩) (b.length+k) p.2 ⟨.slice (some ⟨g,off+k,none⟩) b.length b.length,b⟩:=⟨g,off,k,rfl,Nh,e3,by simp only;omega⟩;subst e2;refine⟨g,off+k,rfl,fun j hj=>?_⟩;rw[NP]at hj;obtain⟨g',off',e5,h5⟩:=hc Np;simp only[NY,Addr.mk.injEq,and_true]at e5;obtain⟨rfl,rfl⟩:=e5;rw[Nat.add_assoc,h5 (k+j) Np];simp only[getElem_map];congr 2;have:b[j]?=p.2[k+j]?:=by rw[e3,getElem?_take,NR hj,getElem?_drop]
  rw[getElem?_eq_getElem hj,getElem?_eq_getElem Nb]at this;exact(Option.some.inj this).symm
theorem Fr.grow{w0:World}{P P':cU}{x:RI}(h:Fr w0 P x)(hp:∀x∈P,x∈P'):Fr w0 P' x:=h.imp id (fun⟨p,hm,r⟩=>⟨p,hp p hm,r⟩)
theorem zn(P:cU):tJ P (.slice none 0 0) []:=⟨none,0,rfl,.inl rfl⟩
def oO(o:Pj):Obj:=.cells (QI o).toArray 65 (0,0)
def PG(o:Pj):Value:=.agg (QI o).toArray
theorem G6{W:World}{P:cU}(hp:Sat W (ay P))(hok:jZ P){v:Value}{l:Bs}(hm:(v,l)∈P):tJ P v l:=by
 obtain⟨sl,cap,e,-,hc,-⟩:=l7 hok hp hm;refine⟨sl,cap,e,?_⟩;by_cases hl:l=[]
 ·exact .inl hl
 ·obtain⟨g,off,e2,-⟩:=hc (by rw[NP];exact length_pos_iff.2 hl);exact .inr ⟨_,hm,g,off,cap,0,by rw[e,e2],by rw[e2];rfl,Nh⟩
def G9(n:Nat)(o:Obj):Prop:=∃cs:Array Value,o=.cells cs 5 (0,0)/\n<=cs.size/\∀j,j<n->∃x:Int,cs[j]?=some (.int .u8 x)
theorem Kg{F G:HF}{a w:World}{v:Value}{D:Bs}(h:Turns F (aJ v D++G) a w)(hok:PE v D)(hne:D≠[]):∃g cap,v=.slice (some ⟨g,0,none⟩) D.length cap/\Turns F ((g,G9 D.length)::G) a w:=by
 rcases(dh h.sat.left hok).2 with⟨_,h2⟩|⟨g,cap,cur,rfl,-⟩
 ·exact absurd (length_eq_zero_iff.1 h2) hne
 ·have hT':Turns F ((g,fun o=>∃cap' cur,(.slice (some ⟨g,0,none⟩) D.length cap:Value)=.slice (some ⟨g,0,none⟩) D.length cap'/\o=.cells cur 5 (0,0)/\D.length<=cap'/\cap'<=maxLen/\cur.size=cap'*1/\cur.toList.take (D.length*1)=D.map am)::G) a w:=h;obtain⟨o',⟨cap',cur,hv,rfl,h3,h4,h5,h6⟩,hp⟩:=hT'.pin;refine⟨g,cap,rfl,hp.Qn ⟨cur,rfl,Nb,fun j hj=>?_⟩⟩;have e1:cur[j]?=(D.map am)[j]?:=by rw[<- h6,getElem?_take,NR Nb,Array.getElem?_toList]
  rw[e1,getElem?_map,getElem?_eq_getElem hj];exact⟨_,rfl⟩
theorem Ki{F G:HF}{a w:World}{g n:Nat}(h:Turns F ((g,G9 n)::G) a w)(k:Nat)(y:Int):Turns F ((g,G9 n)::G) a (w.setCell ⟨g,k,none⟩ (.int .u8 y)):=by
 obtain⟨o,⟨cs,rfl,h1,h2⟩,hp⟩:=h.pin;refine(hp.Qa ((N7.refl (fun k=>k=g) w).set1 _) (bq hp.sat.Q5 k _)).Qn ⟨_,rfl,by simpa using h1,fun j hj=>?_⟩;obtain⟨x,hx⟩:=h2 j hj;by_cases hjk:j=k
 ·subst hjk;exact⟨y,by rw[Array.getElem?_setIfInBounds_self_of_lt Nb]⟩
 ·exact⟨x,by rw[Array.getElem?_setIfInBounds_ne Nb];exact hx⟩
theorem Ir{F G:HF}{a w:World}{g n:Nat}(h:Turns F ((g,G9 n)::G) a w){k:Nat}(hk:k<n):∃x:Int,w.cell? ⟨g,k,none⟩=some (.int .u8 x)/\w.frozen? ⟨g,k,none⟩=false/\g<w.heap.size:=by
 obtain⟨o,⟨cs,rfl,h1,h2⟩,hp⟩:=h.pin;obtain⟨x,hx⟩:=h2 k hk;exact⟨x,aa hp.sat.Q5 k hx,aY hp.sat.Q5 k,ae hp.sat.Q5⟩
theorem bC(n:Int)(w:World):Calls prog 41 #[.int .i64 n] w (fun e w'=>e=.returned (.int .i64 n)/\w'=w):=by
 go_enter func41,ntmps41;go_wp2_with fail;go_ret;exact ⟨rfl,rfl⟩
end
section
section
variable {P:Program} {w:World}
def Iz(ops:Array Oper)(n:Nat):Bool:=(range ops.size).all fun t=>decide (t<=n) || (range t).any fun j=>decide (n<=j)&&Region.waitsFor .any ops t j
def Lw(l:List Oper)(n:Nat):Bool :=
 (l.take (n+1)).all (fun o=>o.guard.isNone)&&(range (n+1)).all (fun i=>(l[i]?).all fun o=>o.after.toList.all fun e => !Region.binds .any e || decide (e.on<i))&&decide (n<l.length)&&Iz l.toArray n &&
 Region.lexTailB .any (l.take (n+1)).toArray n&&Region.noSelect l.toArray&&Region.lexFrom .any l.toArray (l.length-(n+1)) (n+1) (Array.replicate (n+1) true++Array.replicate (l.length-(n+1)) false)
theorem AI(c:Array Bool)(m k:Nat):(c++Array.replicate m false).getD k false=c.getD k false:=by
 rcases Nat.lt_or_ge k c.size with h|h
 ·simp[Array.getElem?_append,h]
 ·rcases Nat.lt_or_ge (k-c.size) m with h2|h2
  ·simp[Array.getElem?_append,Nat.not_lt.2 h,h2]
  ·have:¬k<c.size+m:=Nb
   simp[Array.getElem?_append,Nat.not_lt.2 h,Nat.not_lt.2 h2]
theorem Iu{c:Array Bool}{m k:Nat}{x:Bool}(h:k<c.size):(c++Array.replicate m false).getD k x=c.getD k x:=by simp[Array.getElem?_append,h]
theorem nR{l:List Oper}{n m:Nat}(_:n<l.length){c:Array Bool}(hc:c.size=n+1){i:Nat}(hi:i<=n):i∈Region.ready .any l.toArray (c++Array.replicate m false)↔i∈Region.ready .any (l.take (n+1)).toArray c:=by
 have e:(l.take (n+1)).toArray[i]?=l.toArray[i]?:=by simp[Nat.lt_succ_of_le hi]
 rw[mem_ready,mem_ready,e,Iu Nb];simp only[AI]
theorem xz{l:List Oper}{n m:Nat}{c:Array Bool}(hc:c.size=n+1)(hb:Iz l.toArray n=true){i:Nat}(hi:n<i)(h:i∈Region.ready .any l.toArray (c++Array.replicate m false)):c.getD n false=true:=by
 obtain⟨-,o,h2,h3⟩:=mem_ready.1 h;have hil:i<l.toArray.size:=(Array.getElem?_eq_some_iff.1 h2).1;have h4:=all_eq_true.1 hb i (mem_range.2 hil);simp only[Bool.or_eq_true,decide_eq_true_eq,Nat.not_le.2 hi,false_or]at h4;obtain⟨j,hj,hj2⟩:=any_eq_true.1 h4;simp only[Bool.and_eq_true,decide_eq_true_eq]at hj2;obtain⟨o',ho',e,he,hbi,rfl⟩:=Region.waitsFor_spec hj2.2;obtain rfl:=Option.some.inj (h2.symm.trans ho');have h5:=h3 e he hbi;rw[AI]at h5
 have:e.on<c.size:=by
  rcases Nat.lt_or_ge e.on c.size with h|h
  ·exact h
  ·simp[Array.getElem?_eq_none h]at h5
 have:e.on=n:=Nb
 rw[<- this];exact h5
theorem E5{c r:Array Bool}{i:Nat}(h:i<c.size):(c++r).setIfInBounds i true=c.setIfInBounds i true++r:=by rw[Array.setIfInBounds_append_left h]
theorem GN{l:List Oper}{n i:Nat}{K:Act->Prop}{a:Act}(hi:i<=n)(hg:∀o∈l.take (n+1),o.guard=none)(h:stOp P (l.take (n+1)).toArray w i K a):stOp P l.toArray w i K a:=by
 have e:(l.take (n+1)).toArray[i]?=l.toArray[i]?:=by simp[Nat.lt_succ_of_le hi]
 unfold stOp at h ⊢;rw[<- e];split at h
 ·exact h
 ·rename_i o ho
  have hm:o∈l.take (n+1):=by
   have:(l.take (n+1))[i]?=some o:=by simpa using ho
   exact mem_of_getElem? this
  have hw:∀y,Region.wanted o y=true:=fun y=>by simp[Region.wanted,hg o hm]
  rw[hw]at h ⊢;exact h
theorem EJ{l:List Oper}{n m g:Nat}{Q:Exit->Act->World->Prop}{L:Array Bool->Act->Prop}(hn:n<l.length)(hb:Iz l.toArray n=true)(hg:∀o∈l.take (n+1),o.guard=none)(hL:∀c a,c.size=n+1->c.getD n false=false->L c a->wpAny P .any l.toArray Q g (c++Array.replicate m false) a w):∀(f:Nat) (c:Array Bool) (a:Act),c.size=n+1->c.getD n false=false->wpAnyL P .any (l.take (n+1)).toArray w n L f c a->wpAny P .any l.toArray Q (f+g) (c++Array.replicate m false) a w
 | 0,c,a,hc,hu,h=>by rw[Nat.zero_add];exact hL c a hc hu h
 | f+1,c,a,hc,hu,h=>by
  rw[show f+1+g=(f+g)+1 by omega]
  obtain⟨i0,hi0⟩:=exists_mem_of_ne_nil _ h.1
  refine⟨fun h0=>?_,fun i hi=>?_⟩
  ·have h1:=(nR (m:=m) hn hc (by have:=(h.2 i0 hi0).1;omega)).2 hi0
   rw[h0]at h1;cases h1
  ·rcases Nat.lt_or_ge n i with hlt|hle
   ·have:=xz hc hb hlt hi
    rw[hu]at this;cases this
   ·obtain⟨h1,h2⟩:=h.2 i ((nR hn hc hle).1 hi)
    refine wpOp_of_stOp (fun a' h'=>?_) (GN hle hg h2)
    rw[E5 Nb]
    exact EJ hn hb hg hL f _ a' (by simp[hc]) (by rw[getD_set_ne false Nb];exact hu) h'
theorem CI{ops:Array Oper}{c:Array Bool}(hb:∀i o,ops[i]?=some o->∀e∈o.after,Region.binds .any e=true->e.on<i)(h:Region.ready .any ops c=[])(hc:c.size=ops.size):∀i,i<c.size->c.getD i false=true:=by
 intro i;induction i using Nat.strongRecOn with
 | _ i ih =>
  intro hi
  cases hl:c.getD i false with
  | true=>rfl
  | false =>
   exfalso;have ho:ops[i]?=some ops[i]:=Array.getElem?_eq_getElem Nb;have:i∈Region.ready .any ops c:=mem_ready.2 ⟨getD_in hi hl,_,ho,fun e he hbi=>ih e.on (hb i _ ho e he hbi) (by have:=hb i _ ho e he hbi;omega)⟩;rw[h]at this;cases this
theorem aF{id:Nat}{Q:Exit->Act->World->Prop}{a:Act}{l:List Oper}{o:Oper}(n:Nat)(hm:P.follows .mixedOrders=true)(hB:Lw l n=true)(ho:l[n]?=some o)(h:wpStill P (l.take (n+1)).toArray w.drew (fun a'=>o.wp P a' w.drew (fun a2 w2=>wpStill P l.toArray w2 (fun a3=>Q .normal a3 w2) (l.drop (n+1)) a2) Q) (l.take n) a):(Code.region id l.toArray true).wp P Q a w:=by
 simp only[Lw,Bool.and_eq_true,decide_eq_true_eq]at hB;obtain⟨⟨⟨⟨⟨⟨hgu,hba⟩,hn⟩,hbk⟩,hlt⟩,hns⟩,hlf⟩:=hB;have hg:∀o∈l.take (n+1),o.guard=none:=fun o ho=>by simpa using all_eq_true.1 hgu o ho
 simp only[Region.lexTailB,Bool.and_eq_true,decide_eq_true_eq]at hlt;obtain⟨⟨⟨⟨hsel,hn1⟩,hs⟩,hch⟩,hlex⟩:=hlt;have hsz:(l.take (n+1)).toArray.size=n+1:=Nj
 have htl:(l.take n).length=n:=Nj
 rw[hsz]at hlex hn1
 have inv0:HeadInv .any (l.take (n+1)).toArray n (Array.replicate (n+1) false) :=
  ⟨by rw[hsz];simp,fun j oj _ hl=>(by rw[getD_replicate_false]at hl;cases hl),fun t _ ht=>getD_in (by rw[hsz]at ht;simpa using ht) (getD_replicate_false _ _)⟩
 have H:=wpAnyL_lex (P:=P) (md:=.any) (w:=w.drew) (g:=n+1-n) hsel hs hch Nb (l.take n) 0 (Array.replicate (n+1) false) a (fun j hj=>by
  rw[htl]at hj;simp[hj,Nat.lt_succ_of_lt hj]) (by simpa using htl) inv0 (by rw[htl];exact hlex) h
 rw[htl,show n+1-n=1 by omega]at H;obtain⟨m,hmm⟩:=Na (l.length-(n+1))
 have hrep:Array.replicate l.toArray.size false=Array.replicate (n+1) false++Array.replicate m false:=by
  rw[Array.replicate_append_replicate];congr 1;simp;omega
 refine wp_region_any hm ?_;rw[hrep,show l.toArray.size=n+(1+m) by simp;omega];refine EJ hn hbk hg (fun c a' hc hu hL=>?_) n _ a Nh (getD_replicate_false _ _) H;obtain⟨hq,hw⟩:=hL;simp only[Region.seqB,Bool.and_eq_true,decide_eq_true_eq,isEmpty_iff]at hq
 have hall:c.setIfInBounds n true=Array.replicate (n+1) true:=by
  have h1:=CI (ops:=(l.take (n+1)).toArray) (c:=c.setIfInBounds n true) (fun i o' ho' e he hbi=>by
   have hi:i<n+1:=by have:=(Array.getElem?_eq_some_iff.1 ho').1;omega
   have h2:=all_eq_true.1 hba i (mem_range.2 hi);have h3:l[i]?=some o':=by simpa[getElem?_take,hi]using ho'
   rw[h3]at h2;simp only[Option.all_some]at h2;have h4:=all_eq_true.1 h2 e (by simpa using he);simpa[hbi]using h4) hq.2 (by rw[hsz];simpa using hc)
  refine Array.ext (by simp[hc]) fun i hi1 hi2=>?_
  have h2:=h1 i hi1;rw[Array.getElem_replicate];rw[Array.getD_eq_getD_getElem?,Array.getElem?_eq_getElem hi1]at h2;exact h2
 have hwn:∀y,Region.wanted o y=true:=fun y=>by
  have:o∈l.take (n+1):=by
   have h1:(l.take (n+1))[n]?=some o:=by simpa[getElem?_take]using ho
   exact mem_of_getElem? h1
  simp[Region.wanted,hg o this]
 have hon:l.toArray[n]?=some o:=by simpa using ho
 rw[Nat.add_comm 1 m];refine⟨fun h0=>?_,fun i hi=>?_⟩
 ·have:n∈Region.ready .any l.toArray (c++Array.replicate m false):=(nR hn hc (Nat.le_refl n)).2 (by rw[hq.1];simp);rw[h0]at this;cases this
 ·have hin:i=n:=by
   rcases Nat.lt_or_ge n i with hlt|hle
   ·have:=xz hc hbk hlt hi;rw[hu]at this;cases this
   ·have:=(nR hn hc hle).1 hi;rw[hq.1]at this;simpa using this
  subst hin;unfold wpOp;simp only[hon,hwn,if_true];refine .inl (Oper.wp_mono (fun a2 w2 h2=>?_) hw);rw[E5 Nb,hall];have h3:=wpAnyS_lex (P:=P) (md:=.any) (w:=w2) hns (l.drop (i+1)) (i+1) (Array.replicate (i+1) true++Array.replicate m false) a2 (fun j=>by simp[getElem?_drop]) (by rw[NT,<- hmm];rw[<- hmm]at hlf;exact hlf) h2;rw[NT,<- hmm]at h3;exact wpAny_of_still (fun _ h=>h) _ _ _ h3
end
end
section
open Go.RowKit Go.Maps
theorem Bh(vs:List Oi)(v:Oi)(p:Bs):bF (vs++[v]) p=bF vs p++(if v.path=p then[v]else[]):=by
 unfold bF;rw[filter_append];congr 1;by_cases h:v.path=p<;>simp[h]
theorem IY{ps:List bf}(hn:(ps.map (·.key)).Nodup):∀{p:bf},p∈ps->ps.find? (fun q=>decide (q.key=p.key))=some p:=by
 induction ps with
 | nil=>intro p hp;cases hp
 | cons a r ih =>
  intro p hp;rw[map_cons,nodup_cons]at hn;rcases mem_cons.1 hp with rfl|hp
  ·rw[find?_cons_of_pos Nh]
  ·rw[find?_cons_of_neg (by
    simp only[decide_eq_true_eq];intro e;exact hn.1 (e ▸ mem_map.2 ⟨p,hp,rfl⟩))]
   exact ih hn.2 hp
theorem pv{ps:List bf}{c:Nat}(h:OL ps c):(ps.map (·.key)).Nodup:=by
 have:=h.map.nodup;rw[map_map]at this;exact this
theorem ia{ps:List bf}{c:Nat}(h:OL ps c){p:bf}(hp:p∈ps):ah ps p.key=p.g:=by
 unfold ah Qr;rw[IY (pv h) hp]
theorem rV{K K':List (Bs×Nat×Nat)}{q:Nat×Nat}(h:∃e∈K,e.2=q):bt (K++K') q=bt K q:=by
 unfold bt;rw[find?_append];obtain⟨e,he,hq⟩:=h
 cases hf:K.find? (fun e=>decide (e.2=q))with
 | some x=>simp
 | none=>exact absurd hq (by simpa using find?_eq_none.1 hf e he)
theorem qh{α β:Type}{f g:α->List β}:∀{l:List α},(∀x∈l,f x=g x)->l.flatMap f=l.flatMap g
 | [],_=>rfl
 | a::r,h=>by rw[flatMap_cons,flatMap_cons,h a Nh,qh (fun x hx=>h x (by simp[hx]))]
theorem tS{vs:List Oi}(hs:vs.Pairwise (fun a b=>cE b.path a.path=false))(p:Bs):∀k,k<=vs.length->(∀i (h:i<vs.length),i<iv vs p k->cE p vs[i].path=false)/\(∀i (h:i<vs.length),iv vs p k<=i->i<k->cE p vs[i].path=true)
 | 0,_=>⟨fun i _ h=>by simp[iv]at h,fun i _ _ h=>by omega⟩
 | k+1,hk=>by
  obtain⟨h1,h2⟩:=tS hs p k Nb
  rw[wK Nb]
  cases hb:cE p vs[k].path with
  | true =>
   rw[NR rfl]
   refine⟨h1,fun i hi h3 h4=>?_⟩
   by_cases hik:i=k
   ·subst hik;exact hb
   ·exact h2 i hi h3 Nb
  | false =>
   rw[NQ Nh]
   refine⟨fun i hi h3=>?_,fun i hi h3 h4=>by omega⟩
   by_cases hik:i=k
   ·subst hik;exact hb
   ·have h5:=pairwise_iff_getElem.1 hs i k hi Nb Nb
    cases hb2:cE p vs[i].path with
    | false=>rfl
    | true =>
     exfalso
     cases h6:cE vs[k].path p with
     | true=>rw[gX h6 hb2]at h5;cases h5
     | false =>
      have:=mM _ _ hb h6
      rw[this]at hb2
      rw[h5]at hb2;cases hb2
theorem AR{vs:List Oi}(hs:vs.Pairwise (fun a b=>cE b.path a.path=false))(p:Bs):(∀v∈vs.take (iv vs p vs.length),cE p v.path=false)/\(∀v∈vs.drop (iv vs p vs.length),cE p v.path=true):=by
 obtain⟨h1,h2⟩:=tS hs p vs.length (Nat.le_refl _);refine⟨fun v hv=>?_,fun v hv=>?_⟩
 ·obtain⟨i,hi,rfl⟩:=getElem_of_mem hv;rw[NS]at hi;rw[getElem_take];exact h1 i Nb Nb
 ·obtain⟨i,hi,rfl⟩:=getElem_of_mem hv;rw[NT]at hi;rw[getElem_drop];exact h2 _ Nb Nb Nb
theorem Dt{vs:List Oi}(hs:vs.Pairwise (fun a b=>cE b.path a.path=false)){p:Bs}{x:Oi}(hx:x.path=p):(dP vs p x).Pairwise (fun a b=>cE b.path a.path=false):=by
 obtain⟨h1,h2⟩:=AR hs p;have h3:(vs.take (iv vs p vs.length)++vs.drop (iv vs p vs.length)).Pairwise (fun a b=>cE b.path a.path=false):=by rw[take_append_drop];exact hs
 rw[pairwise_append]at h3;unfold dP;rw[pairwise_append,pairwise_append];refine⟨⟨h3.1,pairwise_singleton _ _,fun a ha b hb=>?_⟩,h3.2.1,fun a ha b hb=>?_⟩
 ·obtain rfl:=mem_singleton.1 hb;rw[hx];exact h1 a ha
 ·rcases mem_append.1 ha with ha|ha
  ·exact h3.2.2 a ha b hb
  ·obtain rfl:=mem_singleton.1 ha;rw[hx];exact tV (h2 b hb)
theorem Ds{vs:List Oi}(hs:vs.Pairwise (fun a b=>cE b.path a.path=false)){p:Bs}{x:Oi}(hx:x.path=p)(q:Bs):bF (dP vs p x) q=if q=p then bF vs p++[x]else bF vs q:=by
 obtain⟨h1,h2⟩:=AR hs p
 have hsplit:∀q,bF vs q=bF (vs.take (iv vs p vs.length)) q++bF (vs.drop (iv vs p vs.length)) q:=fun q=>by
  unfold bF;rw[<- filter_append,take_append_drop]
 have hno:bF (vs.drop (iv vs p vs.length)) p=[]:=by
  unfold bF;rw[filter_eq_nil_iff];intro v hv;simp only[decide_eq_true_eq];intro e;have:=h2 v hv;rw[e,eW]at this;cases this
 have e1:bF (dP vs p x) q=bF (vs.take (iv vs p vs.length)) q++(if p=q then[x]else[])++bF (vs.drop (iv vs p vs.length)) q:=by
  unfold dP bF;rw[filter_append,filter_append];congr 2;by_cases h:p=q<;>simp[hx,h]
 rw[e1];by_cases hq:q=p
 ·subst hq;rw[NR rfl,NR rfl,hsplit,hno,append_nil,append_nil]
 ·rw[NQ (fun e=>hq e.symm),NQ hq,append_nil,<- hsplit]
theorem qr{vs:List Oi}{p:Bs}{x v:Oi}:v∈dP vs p x↔v∈vs\/v=x:=by
 unfold dP;rw[mem_append,mem_append,NU];constructor
 ·rintro((h|h)|h)
  ·exact .inl (mem_of_mem_take h)
  ·exact .inr h
  ·exact .inl (mem_of_mem_drop h)
 ·rintro(h|h)
  ·rw[<- take_append_drop (iv vs p vs.length) vs]at h;rcases mem_append.1 h with h|h
   ·exact .inl (.inl h)
   ·exact .inr h
  ·exact .inl (.inr h)
theorem Jg{vs:List Oi}{p:Bs}{x:Oi}:di (dP vs p x)=di vs+x.cont.length:=by
 unfold dP di;rw[NW,NW,sum_append,sum_append]
 have:(vs.map (·.cont.length)).sum=((vs.take (iv vs p vs.length)).map (·.cont.length)).sum+((vs.drop (iv vs p vs.length)).map (·.cont.length)).sum:=by
  rw[<- sum_append,<- NW,take_append_drop]
 simp only[map_cons,map_nil,sum_cons,sum_nil];omega
theorem KM{vs:List Oi}{p:Bs}{x:Oi}:(dP vs p x).length=vs.length+1:=by
 unfold dP;have:=yh vs p vs.length;simp;omega
theorem ro(vs:List Oi)(p:Bs):∀k,k<=vs.length->ky vs p k=((bF (vs.take k) p).getLast?.map (·.num)).getD 0+1
 | 0,_=>by simp[ky,bF]
 | k+1,hk=>by
  rw[xo Nb,QH Nb,Bh]
  by_cases h:vs[k].path=p
  ·rw[NR h,NR h];simp
  ·rw[NQ h,NQ h,append_nil]
   exact ro vs p k Nb
theorem Dp{ts:List OV}{p:Bs}{n:Int}(h:∀t∈ts,¬(t.path=p/\t.num=n)):iX ts p n=0:=by
 unfold iX;rw[countP_eq_zero.2 (fun t ht=>by simpa using h t ht)];rfl
end
section
open Go.RowKit Go.Maps
end
section
open Go.RowKit Go.Maps
theorem dy{l:Bs}(h:az l=true):l.length<=20:=by
 unfold az at h;simp only[Bool.and_eq_true,decide_eq_true_eq]at h;exact h.1.2
def fj(l:List Oe):List Int:=l.map (fun V=>(V.num:Int))
def yf(S:AS)(l:Bs)(w:World)(e:Ending)(w':World):Prop :=
 (∃k,kB S l 0 k/\e=.returned (.tuple #[.slice none 0 0,cr k])/\Turns (N9 S) (N9 S) w w') \/
 (∃V v,iU S l 0 V/\e=.returned (.tuple #[v,.nilIface])/\RJ v (fj (ah S.ps l))/\Turns (N9 S) (ck v (fj (ah S.ps l))++N9 S) w w')
def zO(S:AS)(vs:List Oe)(w:World)(out i:Value)(W:World):Prop :=
 ∃(j:Nat) (J:HF),j<=vs.length/\i=.int .i64 j/\RJ out (fj (vs.take j))/\Turns (N9 S) (ck out (fj (vs.take j))++(N9 S++J)) w W
theorem zh{S:AS}{b:Nat}(hB:QU S b)(l:Bs):(ah S.ps l).length<=b:=by
 unfold ah Qr
 cases hg:S.ps.find? (fun p=>decide (p.key=l))with
 | none=>simp
 | some p=>exact(hB.vers p (mem_of_find?_eq_some hg)).2.1
theorem tI(S:AS)(l:Bs)(b:Nat)(w:World)(h:Sat w (N9 S))(hok:Oo S)(hB:QU S b)(hb:b<=90000):
  Calls prog 105 #[.pointer (some ⟨S.a,0,none⟩),str l] w (yf S l w):=by
 have HF:=NZ (i6 S.a S.X S.ps S.pc l 0 w h.Q5 (h.tail.right.right.left) hok.paths);have HH:=OW h hok hB hb;clear h hok hB hb;go_enter func105,ntmps105;go_wp2_with fail;refine HF.o.mono ?_;intro e w1 hp;obtain⟨hs,⟨k,hk,rfl⟩|⟨V,hV,rfl⟩⟩:=i7 hp
 ·have HK:=Ob hk hs;clear hp hs hk;unfold cr;go_wp2_with fail;exact bodyPost_ret (results_tmp2 rfl _ _ _) rfl (.inl ⟨k,HK.a,rfl,(Turns.same HH.a HK.z)⟩)
 ·have hT1:Turns (N9 S) (N9 S) w w1:=Turns.same HH.a hs;have ha1:=hT1.sat.Q5;have c0:w1.cell? ⟨S.a,0,none⟩=some (.map (some S.X.pm)):=aa ha1 0 rfl;have hpm:=hT1.sat.Q7 (b:=S.X.pm) (o:=aU str (S.ps.map aR) S.pc) NC;have hal:=ae ha1;obtain⟨sl,cap,e1,e2,e3,e4,-,-⟩:=fk (hT1.sat.tail.right.right.left) HH.b.paths l;obtain⟨vs,hvs⟩:=Na (ah S.ps l);rw[<- hvs]at e1 e2 e4;have hvl:vs.length<=90000:=by rw[hvs];have:=zh HH.c l;have:=HH.x;omega
  have WZ:Py l:=by have:=dy hV.2.1;unfold Py;omega
  have HV:=Ry hV hT1 hpm e1 e4 hvs WZ;clear hp hs hV hT1 ha1 hpm e1 e4 hvs WZ;unfold dN;go_wp2_with ((refine dY dR rfl _ _ rfl underlying119 HV.c HH.b.paths.map (fI _) l rfl rfl HV.u ?_;rw[cX,HV.d]));go_loopw [8,28] (fun out i wr=>zO S vs w out i wr) (fun _ i _=>vs.length-(intOf i).toNat)
  case atStart=>exact⟨0,[],Nat.zero_le _,rfl,lW,by rw[append_nil];exact HV.b⟩
  case round =>
   obtain⟨j,J,hj,rfl,Ph,hT⟩:=hrel;have HR:=Ob Ph hT;clear Ph hT;by_cases hlt:j<vs.length
   ·obtain⟨sl2,cap2,e1',-,-,e4',e5',-⟩:=fk (w:=wr) (HR.z.sat.sub (G:=aG S.X.pm S.ps S.pc) (fun x=>by simp only[N9,ao,af]<;>omega)) HH.b.paths l;rw[HV.d]at e1';simp only[Value.slice.injEq]at e1';obtain⟨rfl,-,rfl⟩:=e1';rw[<- HV.f]at e4' e5';obtain⟨g,off,hg,hcell⟩:=e4' Np;subst hg;have hc1:=hcell j (by rw[NP];exact hlt);rw[getElem_map]at hc1;obtain⟨U,hU⟩:=Na (vs[j]);rw[<- hU]at hc1;unfold dN at hc1;have hub:=e5' U (by rw[hU];exact getElem_mem hlt);have hc2:wr.cell? ⟨U.blk,0,none⟩=some (.int .i64 U.num):=aa hub 0 rfl
    have htk:fj (vs.take (j+1))=fj (vs.take j)++[(U.num:Int)]:=by
     unfold fj;rw[QH hlt,hU,NW];rfl
    have hlen:(fj (vs.take j)).length<=90000:=by simp[fj];omega
    have HU:=Ob htk hlen;obtain⟨ns,hns⟩:=Na (fj (vs.take j));rw[<- hns]at HR HU;clear e4' e5' hcell hU hub htk hlen hns;go_wp2_with ((at_builtin;refine ai rfl ?_;refine kt (.tmp 32) (.tmp 37) rfl _ ns rfl (HR.z.alloc _) HR.a _ 1 1 rfl [(U.num:Int)] rfl (fun _=>⟨_,rfl,fun j u hu=>ik _ _ _ j u hu⟩) (by have:=HU.z;simp;omega) ?_;intro av cv w5 Pe Og;have H5:=Ob Pe Og;clear Pe Og));go_roundw
    case rel =>
     refine⟨j+1,J,Nb,by go_num,?_,?_⟩
     ·rw[HU.a];have:=H5.a;rw[NM]at this;exact this
     ·rw[HU.a];have:=H5.z;rw[NM]at this;exact this
    case measure=>simp[intOf];omega
   ·obtain rfl:j=vs.length:=Nb
    rw[take_length]at HR;go_wp2_with fail;go_ret2;refine (.inr ⟨V,u8,HV.a,rfl,?_,?_⟩)
    ·rw[<- HV.f];exact HR.a
    ·rw[<- HV.f];exact HR.z.drop (fun x=>by simp only[af];omega)
end
section
open Go.RowKit
def zJ(b:Bool)(w:World)(e:Ending)(w':World):Prop:=e=.returned (.bool b)/\gH w w'
theorem qE(a1 a2:Option Addr)(c1 c2:Nat)(xs ys:List Int)(w:World)(h1:ak w a1 (xs.map dw))(h2:ak w a2 (ys.map dw))(hx:xs.length<=1099511627776)(hy:ys.length<=1099511627776):
  Calls prog 107 #[.slice a1 xs.length c1,.slice a2 ys.length c2] w (zJ (decide (xs=ys)) w):=by
 by_cases hl:xs.length=ys.length
 ·have hb:((xs.length:Int) != (ys.length:Int))=false:=Nj
  have HL:=NZ hl;clear hl;go_enter func107,ntmps107;go_wp2;go_loopw [5] (fun i wr=>∃k:Nat,k<=xs.length/\i=.int .i64 k/\xs.take k=ys.take k/\gH w wr) (fun i _=>xs.length-(intOf i).toNat)
  case atStart=>exact⟨0,Nat.zero_le _,rfl,rfl,gH.refl _⟩
  case round =>
   obtain⟨k,hk,rfl,ht,n,rfl⟩:=hrel;have HT:=NZ ht;clear ht;by_cases hlt:k<xs.length
   ·have hlt2:k<ys.length:=by have:=HL.o;omega
    obtain⟨g1,o1,rfl,hc1⟩:=kF dw h1 Nb;obtain⟨g2,o2,rfl,hc2⟩:=kF dw h2 Nb;have k1:=hc1 k hlt;have k2:=hc2 k hlt2;unfold dw at k1 k2;clear hc1 hc2 h1 h2;obtain⟨x,hxk⟩:=Na (xs[k]);obtain⟨y,hyk⟩:=Na (ys[k]);rw[<- hxk]at k1;rw[<- hyk]at k2;have HX:=Ob hxk hyk;clear hxk hyk;by_cases he:x=y
    ·have hq:(x != y)=false:=by simp[he]
     have HE:=NZ he;clear he;go_wp2;go_region;go_wp2;go_roundw
     case rel=>exact⟨k+1,Nb,by go_num,qH HT.o hlt hlt2 (by rw[<- HX.a,<- HX.z,HE.o]),(gH.drewN (gH.refl w) n).drew⟩
     case measure=>simp[intOf];omega
    ·have hq:(x != y)=true:=by simp[he]
     have hne:decide (xs=ys)=false:=by
      apply decide_eq_false;rintro rfl;exact he (HX.a.trans HX.z.symm)
     have HN:=NZ hne;clear he hne;go_wp2;go_region;go_wp2;go_ret;exact⟨lE HN.o.symm,(gH.drewN (gH.refl w) n).drew⟩
   ·have hkx:k=xs.length:=Nb
    have heq:decide (xs=ys)=true:=by
     apply decide_eq_true;have:=HT.o;rw[hkx,take_length,take_of_length_le (by have:=HL.o;omega)]at this;exact this
    have HN:=NZ heq;clear heq hkx;go_wp2;go_ret;exact⟨lE HN.o.symm,gH.drewN (gH.refl w) n⟩
 ·have hb:((xs.length:Int) != (ys.length:Int))=true:=Nj
  have hne:decide (xs=ys)=false:=by apply decide_eq_false;rintro rfl;exact hl rfl
  have HN:=NZ hne;clear hne;go_enter func107,ntmps107;go_wp2;go_ret;exact⟨lE HN.o.symm,gH.refl w⟩
theorem vf(a1 a2:Option Addr)(c1 c2:Nat)(xs ys:List UInt8)(w:World)(h1:ak w a1 (xs.map am))(h2:ak w a2 (ys.map am))(hx:xs.length<=1099511627776)(hy:ys.length<=1099511627776):
  Calls prog 28 #[.slice a1 xs.length c1,.slice a2 ys.length c2] w (zJ (decide (xs=ys)) w):=by
 by_cases hl:xs.length=ys.length
 ·have hb:((xs.length:Int) != (ys.length:Int))=false:=Nj
  have HL:=NZ hl;clear hl;go_enter func28,ntmps28;go_wp2;go_loopw [5] (fun i wr=>∃k:Nat,k<=xs.length/\i=.int .i64 k/\xs.take k=ys.take k/\gH w wr) (fun i _=>xs.length-(intOf i).toNat)
  case atStart=>exact⟨0,Nat.zero_le _,rfl,rfl,gH.refl _⟩
  case round =>
   obtain⟨k,hk,rfl,ht,n,rfl⟩:=hrel;have HT:=NZ ht;clear ht;by_cases hlt:k<xs.length
   ·have hlt2:k<ys.length:=by have:=HL.o;omega
    obtain⟨g1,o1,rfl,hc1⟩:=kF am h1 Nb;obtain⟨g2,o2,rfl,hc2⟩:=kF am h2 Nb;have k1:=hc1 k hlt;have k2:=hc2 k hlt2;unfold am at k1 k2;clear hc1 hc2 h1 h2;obtain⟨x,hxk⟩:=Na (xs[k]);obtain⟨y,hyk⟩:=Na (ys[k]);rw[<- hxk]at k1;rw[<- hyk]at k2;have HX:=Ob hxk hyk;clear hxk hyk;by_cases he:x=y
    ·have hq:(((x.toNat:Nat):Int) != ((y.toNat:Nat):Int))=false:=by simp[he]
     have HE:=NZ he;clear he;go_wp2;go_region;go_wp2;go_roundw
     case rel=>exact⟨k+1,Nb,by go_num,qH HT.o hlt hlt2 (by rw[<- HX.a,<- HX.z,HE.o]),(gH.drewN (gH.refl w) n).drew⟩
     case measure=>simp[intOf];omega
    ·have hq:(((x.toNat:Nat):Int) != ((y.toNat:Nat):Int))=true:=by
      simp only[bne_iff_ne];intro h;exact he (UInt8.toNat_inj.1 Nb)
     have hne:decide (xs=ys)=false:=by
      apply decide_eq_false;rintro rfl;exact he (HX.a.trans HX.z.symm)
     have HN:=NZ hne;clear he hne;go_wp2;go_region;go_wp2;go_ret;exact⟨lE HN.o.symm,(gH.drewN (gH.refl w) n).drew⟩
   ·have hkx:k=xs.length:=Nb
    have heq:decide (xs=ys)=true:=by
     apply decide_eq_true;have:=HT.o;rw[hkx,take_length,take_of_length_le (by have:=HL.o;omega)]at this;exact this
    have HN:=NZ heq;clear heq hkx;go_wp2;go_ret;exact⟨lE HN.o.symm,gH.drewN (gH.refl w) n⟩
 ·have hb:((xs.length:Int) != (ys.length:Int))=true:=Nj
  have hne:decide (xs=ys)=false:=by apply decide_eq_false;rintro rfl;exact hl rfl
  have HN:=NZ hne;clear hne;go_enter func28,ntmps28;go_wp2;go_ret;exact⟨lE HN.o.symm,gH.refl w⟩
def wB(l:List UInt8)(w:World)(e:Ending)(w':World):Prop :=
 e=.returned (.slice (some ⟨w.heap.size,0,none⟩) l.length (l.length+2))/\w'.heap[w.heap.size]?=some (.cells (aw (l++[71,72])) 5 (0,0))/\aV w w'
theorem GF(n:Nat)(hn:n<=1099511627776)(w:World):(Instr.makeSlice 38 (.int .i64 ((n:Int)+2)) (.int .i64 ((n:Int)+2))).run prog w =
  .ok (.slice (some ⟨w.heap.size,0,none⟩) (n+2) (n+2)) (w.alloc (.cells (aw (replicate (n+2) 0)) 5)):=by
 obtain⟨i,hi,hz,hs,hb⟩:=info_parts iD;rw[run_make w 38 5 i (.int .u8 0) underlying38 hi hz .i64 .i64 _ _ Nb Nb (by rw[hb];omega) Nb];have e1:((n:Int)+2).toNat=n+2:=Nb
 rw[e1,hs];congr 4;apply Array.ext';rw[Nat.mul_one];rw[show(Value.int IntKind.u8 0).cells=#[Value.int .u8 0]from rfl,toList_madeCells_one];simp[aw,am]
theorem BK(a:Option Addr)(cap:Nat)(l:List UInt8)(w:World)(hl:l.length<=1000000)(h:ak w a (l.map am)):
  Calls prog 58 #[.slice a l.length cap] w (wB l w):=by
 have hmk:=GF l.length Nb;obtain⟨i0,hi0,hz1,hz2,hz3⟩:=info_parts iD;have hsz:(prog.info? 5).map (·.size)=some 1:=by rw[hi0];simp[hz2]
 have hw1:=aM w (.cells (aw (replicate (l.length+2) 0)) 5)
 have hsrc:0<(l.map am).length->some (⟨w.heap.size,0,none⟩:Addr)=some ⟨w.heap.size,0,none⟩/\∃ad,a=some ad/\∀j v,(l.map am)[j]?=some v->(w.alloc (.cells (aw (replicate (l.length+2) 0)) 5)).cell? (ad.add j)=some v:=fun hp=>by
  obtain⟨g,off,ha,hc⟩:=h.keep ((N7.refl (fun _=>False) w).alloc (.cells (aw (replicate (l.length+2) 0)) 5)) (fun _ _ _=>id) hp;refine⟨rfl,_,ha,fun j v hv=>?_⟩;obtain⟨hj,rfl⟩:=List.getElem?_eq_some_iff.1 hv;have:=hc j hj;simp only[getElem_map]at this ⊢;rw[Addr.add_lit];exact this
 have HS:=Ob hsrc hw1;clear hsrc hw1 h;go_enter func58,ntmps58;go_wp2_with (refine gn rfl (.tmp 10) (.tmp 11) 38 38 rfl 5 underlying38 hsz _ _ _ _ _ _ rfl rfl w.heap.size 0 ((replicate (l.length+2) 0).map am) 5 HS.z (l.map am) ?c1 HS.a ?c2 ?c3 ?c4)
 case c3=>intro x _;rfl
 case c4 =>
  intro w2 hg2 hM2 hz2
  have e2:(splice (replicate (l.length+2) (am 0)) 0 (List.map am l)).toArray=aw (l++[0,0]):=by
   simp[splice,aw,drop_replicate]
  rw[e2]at hg2;have c71:=aa hg2 l.length (ex _ _ Nh);have c72:=aa hg2 (l.length+1) (ex _ _ Nh);have f71:=aY hg2 l.length;have f72:=aY hg2 (l.length+1);have HG:=Oz hg2 hM2 hz2;clear hg2 hM2 hz2;go_wp2;go_ret;obtain⟨hg2,hM2,hz2⟩:=HG.o;refine⟨rfl,?_,?_⟩
  ·have h3:=bq (bq hg2 l.length (am 71)) (l.length+1) (am 72);rw[qD,qD]at h3;refine h3.trans ?_;congr 2;simp
  ·exact(((((N7.refl _ w).alloc _).trans' hM2 (fun i hi=>.inr Nb)).Qk (Nat.le_refl _) _).Qk (Nat.le_refl _) _)
def Fs(B:Nat)(w:World)(e:Ending)(w':World):Prop:=e=.returned (.bool true)/\N7 (fun k=>k=B) w w'
def pG(w:World)(B n:Nat):Prop:=∃cs:Array Value,w.heap[B]?=some (.cells cs 5 (0,0))/\cs.size=n/\∀j,j<n->∃x:Int,cs[j]?=some (.int .u8 x)
theorem zP(w:World)(B:Nat)(l:List UInt8)(h:w.heap[B]?=some (.cells (aw l) 5 (0,0))):pG w B l.length :=
 ⟨_,h,by simp[aw],fun j hj=>⟨_,ex l j hj⟩⟩
theorem zQ{w:World}{B n:Nat}(h:pG w B n)(i:Nat)(x:Int):pG (w.setCell ⟨B,i,none⟩ (.int .u8 x)) B n:=by
 obtain⟨cs,hc,hs,hx⟩:=h;refine⟨_,bq hc i _,by simpa using hs,fun j hj=>?_⟩;rw[Array.getElem?_setIfInBounds];split
 ·rw[NR Nb];exact⟨x,rfl⟩
 ·exact hx j hj
theorem BV(B:Nat)(a:Option Addr)(cap:Nat)(l:List UInt8)(w:World)(hl:l.length<=1000000)(hB:w.heap[B]?=some (.cells (aw (l++[71,72])) 5 (0,0)))(h:ak w a (l.map am)):
  Calls prog 59 #[.slice (some ⟨B,0,none⟩) l.length (l.length+2),.slice a l.length cap] w (Fs B w):=by
 have c71:=aa hB l.length (ex _ _ Nh);have c72:=aa hB (l.length+1) (ex _ _ Nh);simp[am]at c71 c72
 have hA:ak w (some ⟨B,0,none⟩) (l.map am):=fun hp=>⟨B,0,rfl,fun j hj=>by
  have hj':j<l.length:=by simpa using hj
  rw[Nat.zero_add,aa hB j (ex _ j Nj)];simp[getElem_append_left hj']⟩
 have HB:=Oz hB hA h;clear hB hA h;go_enter func59,ntmps59;go_wp2_with (first|(go_at_call 28;refine(vf _ _ _ _ l l w HB.b HB.y Nb Nb).mono ?_;rintro e w2 ⟨rfl,n,rfl⟩));go_loopw [8] (fun i wr=>∃k:Nat,k<=l.length+2/\i=.int .i64 k/\pG wr B (l.length+2)/\N7 (fun q=>q=B) w wr) (fun i _=>l.length+2-(intOf i).toNat)
 case atStart =>
  refine⟨0,Nb,rfl,?_,(N7.refl _ w).drewN n⟩;have:=zP (w.drewN n) B (l++[71,72]) HB.a;simpa using this
 case round =>
  obtain⟨k,hk,rfl,hrow,hM⟩:=hrel;by_cases hlt:k<l.length+2
  ·obtain⟨cs,hc,hs,hx⟩:=hrow;obtain⟨x,hxk⟩:=hx k hlt;have hck:=aa hc k hxk;have hfk:=aY hc k;have HR:=Ob (show pG wr B (l.length+2)from⟨cs,hc,hs,hx⟩) hM;clear hc hs hx hxk hM;go_wp2;go_roundw
   case rel=>exact⟨k+1,Nb,by go_num,zQ HR.a _ _,HR.z.set1 _⟩
   case measure=>simp[intOf];omega
  ·have HR:=NZ hM;clear hM hrow;go_wp2;go_ret;exact⟨Nh,HR.o⟩
end
section
open Go.RowKit Go.Maps
def we(X:WS)(o:Pj)(vv cv:Value):Oh:={ X.R with vv:=vv,vs:=dP X.R.vs o.s ⟨o.s,ky X.R.vs o.s X.R.vs.length,o.d,cv,0⟩ }
theorem Bw{S:AS}{l D:Bs}(hl:l.length<=20){n s:Int}{N8:List (Nat×Nat)}(hc:N8.length=(aD D).length):(dc (bJ S D)).length+(frame 2 (eC l n s (bB N8))).length<=2*D.length+100:=by
 have h1:=uC D;have h2:(aD D).length=(aI D).length:=by unfold aD;rw[cI]
 have h3:=i8 S D
 have h4:(bJ S D).length<=(aD D).length:=by
  unfold bJ
  have:∀(has l acc:List Bs),(cK has acc l).length<=acc.length+l.length:=by
   intro has l;induction l with
   | nil=>intro acc;simp[cK]
   | cons c r ih =>
    intro acc;simp only[cK];split
    ·have:=ih acc;simp only[length_cons];omega
    ·have:=ih (acc++[c]);simp only[NM,length_cons,length_nil]at this ⊢;omega
  simpa using this (S.K.map (·.1)) (aD D) []
 rw[gN,jI,fg,hc];omega
theorem BL{l:Bs}{w w':World}{e:Ending}(h:wB l w e w'):e=.returned (.slice (some ⟨w.heap.size,0,none⟩) l.length (l.length+2))/\Turns [] [(w.heap.size,Is (.cells (aw (l++[71,72])) 5 (0,0)))] w w':=by
 obtain⟨h1,h2,h3⟩:=h;refine⟨h1,h3.mods _,Sat.one h2 Is.rfl,fun b hb=>?_⟩;simp at hb;exact .inr Nb
theorem DY{W:World}{B:Nat}{l:Bs}(h:W.heap[B]?=some (.cells (aw (l++[71,72])) 5 (0,0))):ak W (some ⟨B,0,none⟩) (l.map am):=fun hp =>
 ⟨B,0,rfl,fun j hj=>by
  rw[Nat.zero_add]
  rw[NP]at hj
  refine aa h j ?_
  unfold aw
  simp only[NW,getElem?_toArray]
  rw[getElem?_append_left (by simpa using hj)]
  simp[hj]⟩
theorem Turns.WI{F G:HF}{a w w':World}{b:Nat}{φ:Obj->Prop}(h:Turns F ((b,φ)::G) a w)(hm:N7 (fun k=>k=b) w w'):Turns F G a w':=by
 have k:Turns [(b,φ)] [] w w':=⟨hm.mono (fun x hx=>.inl (by simp[hx])),Sat.nil _,fun x hx=>by simp at hx⟩;have:=h.step (F:=[(b,φ)]) (R:=G) (Perm.refl _) k;simpa using this
def iH(X:Bs)(a e:Nat):Bs:=(X.take e).drop a
theorem DD(X bo:Bs)(a e:Nat):iH (X++bo) a e=iH X a e++(bo.take (min (e-X.length) bo.length)).drop (a-X.length):=by
 unfold iH;rw[take_append,drop_append,NS];congr 1;rw[<- take_take,take_length];by_cases h:e<=X.length
 ·rw[Nat.sub_eq_zero_of_le h];simp
 ·rw[Nat.min_eq_right Nb]
def Ka(S:AS)(l:Bs)(n a c:Int)(w:World)(e:Ending)(w':World):Prop :=
 (∃k,kB S l n k/\e=.returned (.tuple #[.slice none 0 0,cr k])/\Turns (N9 S) (N9 S) w w') \/
 (∃V,iU S l n V/\(a<0\/c<0\/(V.size:Int)<a)/\e=.returned (.tuple #[.slice none 0 0,cr 4])/\Turns (N9 S) (N9 S) w w') \/
 (∃V v sp,iU S l n V/\¬(a<0\/c<0\/(V.size:Int)<a)/\e=.returned (.tuple #[v,.nilIface])/\PE v (((gB S V).drop a.toNat).take c.toNat)/\Ov { S.A with spare:=sp }/\Turns (N9 S) (aJ v (((gB S V).drop a.toNat).take c.toNat)++N9 { S with A:={ S.A with spare:=sp } }) w w')
def LM(S:AS)(V:Oe)(a m:Nat)(w:World)(out fr i:Value)(W:World):Prop :=
 ∃(j:Nat) (sp:List (Nat×Nat×Nat)) (J:HF),j<=V.N8.length/\i=.int .i64 j/\fr=.int .i64 (((V.N8.take j).flatMap (bt S.K)).length:Nat)/\PE out (iH ((V.N8.take j).flatMap (bt S.K)) a (a+m))/\Ov { S.A with spare:=sp } /\
  Turns (N9 S) (aJ out (iH ((V.N8.take j).flatMap (bt S.K)) a (a+m))++(N9 { S with A:={ S.A with spare:=sp } }++J)) w W
theorem Js{X:Bs}{a c m size:Nat}(hX:X.length=size)(ha:a<=size)(hm:min (c:Int) ((size:Int)-a)=m):iH X a (a+m)=(X.drop a).take c:=by
 unfold iH;rw[drop_take];have:a+m-a=min c (size-a):=Nb
 rw[this,<- take_take,take_of_length_le (i:=size-a) Nz]
theorem yd(S:AS)(l:Bs)(n a c:Int)(b:Nat)(w:World)(h:Sat w (N9 S))(hok:Oo S)(hB:QU S b)(hb:b<=90000)(_:l.length<=9223372036854775807)(hc2:c<=9223372036854775807):
  Calls prog 103 #[.pointer (some ⟨S.a,0,none⟩),str l,.int .i64 n,.int .i64 a,.int .i64 c] w (Ka S l n a c w):=by
 have HF:=NZ (i6 S.a S.X S.ps S.pc l n w h.Q5 (h.tail.right.right.left) hok.paths);have HH:=OW h hok hB hb;clear h hok hB hb;go_enter func103,ntmps103;go_wp2_with fail;refine HF.o.mono ?_;intro e w1 hp;obtain⟨hs,⟨k,hk,rfl⟩|⟨V,hV,rfl⟩⟩:=i7 hp
 ·have HK:=Ob hk hs;clear hp hs hk;unfold cr;go_wp2_with fail;exact bodyPost_ret (results_tmp2 rfl _ _ _) rfl (.inl ⟨k,HK.a,rfl,(Turns.same HH.a HK.z)⟩)
 ·obtain⟨p,hpm,hpk,Sv⟩:=nT hV.2.2;have hT1:Turns (N9 S) (N9 S) w w1:=Turns.same HH.a hs;have hps:Sat w1 (ee p.val p.g):=Sat.flat (f:=fun p:bf=>ee p.val p.g) (hT1.sat.tail.right.right.left).tail hpm;have hvf:Sat w1 (bN V):=Sat.flat (f:=bN) hps.right Sv;have hpo:bQ V.cv V.N8:=(HH.b.paths.rows p hpm).2 V Sv;obtain⟨sl,cap,hcv,e2,e3,hcell⟩:=fc hvf.tail hpo;have v1:w1.cell? ⟨V.blk,1,none⟩=some (.int .i64 V.size):=aa hvf.Q5 1 rfl;have v2:w1.cell? ⟨V.blk,2,none⟩=some (.slice sl V.N8.length cap):=by rw[<- hcv];exact aa hvf.Q5 2 rfl
  have hvl:=ae hvf.Q5
  have hcl:V.N8.length<=90000/\V.size<=65536*90000:=by
   have h1:=(HH.c.vers p hpm).2.2 V Sv;have:=HH.x;omega
  have Xh:=qZ HH.b hpm Sv;have HV:=Uh hV hpm Sv hT1 hcell hpo hcv Xh;clear hp hs hV hpm hpk Sv hT1 hps hvf hpo hcv hcell Xh;unfold dN;by_cases h1:a<0
  ·go_wp2_with fail;exact bodyPost_ret (results_tmp2 rfl _ _ _) rfl (.inr (.inl ⟨V,HV.a,.inl h1,rfl,HV.d⟩))
  ·by_cases h2:c<0
   ·go_wp2_with fail;exact bodyPost_ret (results_tmp2 rfl _ _ _) rfl (.inr (.inl ⟨V,HV.a,.inr (.inl h2),rfl,HV.d⟩))
   ·by_cases h3:(V.size:Int)<a
    ·go_wp2_with fail;exact bodyPost_ret (results_tmp2 rfl _ _ _) rfl (.inr (.inl ⟨V,HV.a,.inr (.inr h3),rfl,HV.d⟩))
    ·obtain⟨a,rfl⟩:∃a':Nat,a=a':=⟨a.toNat,Nb⟩;obtain⟨c,rfl⟩:∃c':Nat,c=c':=⟨c.toNat,Nb⟩;obtain⟨m,hm⟩:∃m:Nat,min (c:Int) ((V.size:Int)-a)=m:=⟨(min (c:Int) ((V.size:Int)-a)).toNat,Nb⟩;have hHm:=Ob hm h3;have hms:a+m<=V.size:=Nb
     go_wp2_with fail;clear hm;have d1:decide ((a:Int)<0)=false:=decide_eq_false Nb;have d2:decide ((c:Int)<0)=false:=decide_eq_false Nb;have d3:decide (V.size<a)=false:=decide_eq_false Nb;simp only[d1,d2,d3,Bool.or_false];clear d1 d2 d3;go_loopw [14,15,60] (fun out fr i wr=>LM S V a m w out fr i wr) (fun _ _ i _=>V.N8.length-(intOf i).toNat)
     case atStart=>exact⟨0,S.A.spare,[],Nat.zero_le _,rfl,rfl,by simpa[iH]using go,HH.b.area,by rw[append_nil];simp only[take_zero,flatMap_nil,iH,take_nil,List.drop_nil];exact HV.d⟩
     case round =>
      obtain⟨j,sp,J,hj,rfl,rfl,OB,hAo,hT⟩:=hrel;obtain⟨X,hX⟩:=Na ((V.N8.take j).flatMap (bt S.K));rw[<- hX]at OB hT ⊢
      have hXl:X.length<=V.size:=by
       have h1:X.length<=(gB S V).length:=by
        unfold gB;conv=>rhs;rw[<- take_append_drop j V.N8,flatMap_append,NM,<- hX]
        omega
       rw[HV.t]at h1;exact h1
      have HR:=OW OB hAo hT hX;clear OB hAo hT hX;by_cases hlt:j<V.N8.length
      ·obtain⟨UM,hcells⟩:=xT HH.b HV.b HV.c HV.g (W:=wr) (HR.c.sat.sub (fun x=>by simp only[N9,ao,af]<;>omega));obtain⟨g,off,hg,hcell⟩:=hcells NI;subst hg;obtain⟨hc1,hc2⟩:=mY hcell hlt;obtain⟨q,hq⟩:=Na (V.N8[j]);rw[<- hq]at hc1 hc2;have Vd:=IG HH.b HV.b HV.c (q:=q) (by rw[hq];exact getElem_mem hlt);obtain⟨bo,OB⟩:=Na (bt S.K q);rw[<- OB]at Vd;have hq2:q.2=bo.length:=(HH.b.Pm _ Vd).1;have hbody:=(HH.b.Pm _ Vd).2.Qd HH.b.dat
       have htk:(V.N8.take (j+1)).flatMap (bt S.K)=X++bo:=by
        rw[QH hlt,flatMap_append,OB,hq,HR.x];simp
       have hXb:X.length+q.2<=V.size:=by
        have h1:((V.N8.take (j+1)).flatMap (bt S.K)).length<=(gB S V).length:=by
         unfold gB;conv=>rhs;rw[<- take_append_drop (j+1) V.N8,flatMap_append,NM]
         omega
        rw[HV.t,htk,NM]at h1;omega
       have hpa:=DD X bo a (a+m);obtain⟨B8,U7⟩:=Na wr.heap.size;obtain⟨bs,hbs⟩:=Na (iH X a (a+m));rw[<- hbs]at hpa HR;have ZI:bs.length<=V.size:=by rw[hbs];unfold iH;rw[NT,NS];omega
       have OX:Turns (N9 S) (aq S.X.ab S.X.d { S.A with spare:=sp }++((B8,Is (aE q))::(aJ u14 bs++((S.a,Is (aL S.X))::(aA S.X.d S.L++(aG S.X.pm S.ps S.pc++(bX S.X.tm S.ts S.tc++(aQ S.X.cm S.cs S.cc++J)))))))) w (wr.alloc (aE q)):=by
        rw[U7];exact(HR.c.Q9 (aE q)).to Ns
       have WM:=NZ (fun(W:World) hT=>lX S.a S.X S.X.ab S.X.d rfl { S.A with spare:=sp } S.L q.1 bo ((B8,Is (aE q))::(aJ u14 bs++((S.a,Is (aL S.X))::(aA S.X.d S.L++(aG S.X.pm S.ps S.pc++(bX S.X.tm S.ts S.tc++(aQ S.X.cm S.cs S.cc++J))))))) W hT (fun x=>by simp only[ao,af];omega) HH.b.dev HR.b HH.b.fits HH.b.Px hbody);rw[<- hq2]at WM;obtain⟨fr,hfr⟩:=Na X.length;rw[<- hfr]at hXl hXb hpa ⊢;have HQ:=Uh Vd hq2 htk hpa OX U7 ZI hfr;clear UM hcells hcell hq Vd OB hq2 hbody htk hpa OX U7 hbs ZI hfr;obtain⟨lo,m1⟩:∃lo:Nat,max ((a:Int)-fr) 0=lo:=⟨(max ((a:Int)-fr) 0).toNat,Nb⟩;obtain⟨hi,m2⟩:∃hi:Int,min ((a:Int)+m-fr) q.2=hi:=⟨_,rfl⟩;have s1:IntKind.i64.wrap ((a:Int)-fr)=(a:Int)-fr:=IntWalk.i64_in _ Nb;have s2:IntKind.i64.wrap ((a:Int)+m)=(a:Int)+m:=IntWalk.i64_in _ Nb;have s3:IntKind.i64.wrap ((a:Int)+m-fr)=(a:Int)+m-fr:=IntWalk.i64_in _ Nb;have s4:IntKind.i64.wrap ((fr:Int)+q.2)=((fr+q.2:Nat):Int):=by rw[IntWalk.i64_in _ Nb];omega
       have HM:=Ob m1 m2;go_wp2_with fail;go_quiet (fail);by_cases hlh:(lo:Int)<hi
       ·obtain⟨hi,rfl⟩:∃h':Nat,hi=h':=⟨hi.toNat,Nb⟩;have hh:hi<=q.2:=Nb
        clear m1 m2 s1 s2 s3;go_wp2_with fail;refine(WM.o _ ((HQ.e.drewN nq).sat)).mono ?_;rintro e w4 ⟨av,cv,sp2,rfl,P7,SS,Oj⟩;have Og:=(HQ.e.drewN nq).trans Oj;obtain⟨av',cv',hev,-,hcv4,hav,-⟩:=aP (dh Oj.sat.left P7);simp only[Value.slice.injEq,true_and]at hev;obtain⟨rfl,rfl⟩:=hev;rw[<- HQ.f];have Ox:Turns (N9 S) (aJ u14 bs++(N9 { S with A:={ S.A with spare:=sp2 } }++((B8,Is (aE q))::(aJ (.slice av bo.length cv) bo++J)))) w w4:=Og.to Ns;have hb8:=Ox.sat.Q7 (b:=B8) (o:=aE q) Nh;have p1:w4.cell? ⟨B8,1,none⟩=some (.int .i64 q.2):=aa hb8 1 rfl;have hb8l:=ae hb8;rw[<- HQ.b]at hcv4 ⊢;obtain⟨g4,YF,hg4,Yf⟩:=hav (by rw[NP,<- HQ.b];omega);subst hg4
        have hcr:ak w4 (some ⟨g4,YF+lo,none⟩) (((bo.take hi).drop lo).map am):=fun _=>⟨g4,YF+lo,rfl,fun j hj=>by
         have hj':j<hi-lo:=by simp at hj;omega
         have h9:=Yf (lo+j) (by rw[NP,<- HQ.b];omega);rw[Nat.add_assoc,h9];simp⟩
        have hrl:hi-lo=((bo.take hi).drop lo).length:=by rw[NT,NS,<- HQ.b];omega
        have m5:¬cv=lo:=Nb
        have m6:¬lo=cv:=Nb
        have H4:=OW SS Ox hcr hrl;clear P7 SS Oj Og hav Ox hcr hrl Yf hb8;go_wp2_with ((at_builtin;go_loud (refine ai rfl ?_;refine fu (.tmp 88) (.tmp 92) rfl u14 bs rfl H4.b HR.a _ (hi-lo) _ rfl ((bo.take hi).drop lo) H4.x H4.c (by have:=H4.x;have:=HQ.g;omega) ?_;intro av2 SQ w6 Tm Ox _;have Yb:=Ox.sat.Q7 (b:=B8) (o:=aE q) Nh;have p6:w6.cell? ⟨B8,1,none⟩=some (.int .i64 q.2):=aa Yb 1 rfl;have hb8l6:=ae Yb;have H6:=Ob Tm Ox;clear Tm Ox Yb)));go_roundw
        case rel =>
         have e9:iH (X++bo) a (a+m)=bs++(bo.take hi).drop lo:=by
          rw[HQ.d];have:=HM.a;have:=HM.z;have:=HQ.b;rw[show min (a+m-fr) bo.length=hi by omega,show a-fr=lo by omega]
         refine⟨j+1,sp2,(B8,Is (aE q))::(aJ (.slice (some ⟨g4,YF,none⟩) bo.length cv) bo++J),Nb,by go_num,?_,?_,H4.a,?_⟩
         ·rw[HQ.c,NM,<- HQ.b,<- HQ.t,Int.natCast_add]
         ·rw[HQ.c,e9];have:=H6.a;simp only[NM,NT,NS]at this;exact this
         ·rw[HQ.c,e9];have:=H6.z;simp only[NM,NT,NS]at this;exact this
        case measure=>simp[intOf];omega
       ·clear m1 m2 s1 s2 s3;have hb8:=(HQ.e.drewN nq).sat.Q7 (b:=B8) (o:=aE q) Nh;rw[HQ.f]at hb8;have p1:=aa (v:=.int .i64 q.2) hb8 1 rfl;clear hb8;go_wp2_with fail;go_roundw
        case rel =>
         have e9:iH (X++bo) a (a+m)=bs:=by
          rw[HQ.d];have:=HM.a;have:=HM.z;have:=HQ.b;rw[drop_eq_nil_of_le Ny,append_nil]
         refine⟨j+1,sp,(B8,Is (aE q))::J,Nb,by go_num,?_,?_,HR.b,?_⟩
         ·rw[HQ.c,NM,<- HQ.b,<- HQ.t,Int.natCast_add]
         ·rw[HQ.c,e9];exact HR.a
         ·rw[HQ.c,e9];exact(HQ.e.drewN nq).to Ns
        case measure=>simp[intOf];omega
      ·obtain rfl:j=V.N8.length:=Nb
       have hXc:X=gB S V:=by rw[HR.x,take_length];rfl
       have hpe:iH X a (a+m)=((gB S V).drop a).take c:=by
        rw[hXc];exact Js HV.t Nb hHm.a
       rw[hpe]at HR;have HE:=Ob hXc hpe;clear hXc hpe;go_wp2_with fail;go_ret2;refine (.inr (.inr ⟨V,u14,sp,HV.a,?_,rfl,HR.a,HR.b,HR.c.drop (fun x=>by simp only[Int.toNat_natCast,af];omega)⟩));have:=hHm.z;omega
def oP(ev:Value)(n:Int):Prop:=(ev=.nilIface/\n=0)\/ev=cr n
theorem oP.is{ev:Value}{n:Int}(h:oP ev n)(w:World):Lr w ev n:=h.imp id .inl
def Scr(F G:HF)(a:World)(va:Option Addr)(n:Nat)(J:HF):Prop:=∀(W:World) (k:Nat),Turns F (J++G) a W->k<n->∃g x,va=some ⟨g,0,none⟩/\W.cell? ⟨g,k,none⟩=some (.int .u8 x)/\W.frozen? ⟨g,k,none⟩=false/\g<W.heap.size/\∀y,Turns F (J++G) a (W.setCell ⟨g,k,none⟩ (.int .u8 y))
theorem Kh{F G:HF}{a w:World}{va:Option Addr}{vc:Nat}{D:Bs}(h:Turns F (aJ (.slice va D.length vc) D++G) a w)(hok:PE (.slice va D.length vc) D):∃J,Turns F (J++G) a w/\Scr F G a va D.length J:=by
 by_cases hD:D=[]
 ·exact⟨_,h,fun W k _ hk=>by rw[hD]at hk;cases hk⟩
 ·obtain⟨g,cap,hg,hT⟩:=Kg h hok hD;simp only[Value.slice.injEq,true_and]at hg;obtain⟨rfl,rfl⟩:=hg;refine⟨[(g,G9 D.length)],hT,fun W k hW hk=>?_⟩;obtain⟨x,h1,h2,h3⟩:=Ir hW hk;exact⟨g,x,rfl,h1,h2,h3,Ki hW k⟩
end
section
open Go.RowKit Go.Maps
end
section
open Go.RowKit Go.Maps
def nD(L L':Ol):Prop:=Ou L'/\L'.n=L.n/\L'.now=L.now/\L'.safe=L.now/\L'.N8=[]
def zM(S:AS)(w:World)(e:Ending)(w':World):Prop :=
 (S.X.closed=true/\e=.returned (cr 9)/\Turns (N9 S) (N9 S) w w') \/
 (S.X.closed=false/\e=.returned .nilIface/\∃L',nD S.L L'/\Turns (N9 S) (N9 { S with L:=L' }) w w')
theorem zR(X:Om)(h:X.broken=.nilIface):(bm X).setIfInBounds 11 .nilIface=bm X:=by
 unfold bm;rw[h];rfl
theorem lN(S:AS)(b:Nat)(w:World)(h:Sat w (N9 S))(hok:Oo S)(hB:QU S b)(hb:b<=90000):
  Calls prog 47 #[.pointer (some ⟨S.a,0,none⟩)] w (zM S w):=by
 have ha:=h.Q5;have hal:=ae ha;have HH:=Ob h hok;have hch:S.L.N8.length<=1099511627776:=by have:=hB.N8;omega
 cases hc:S.X.closed with
 | true =>
  have a10:w.cell? ⟨S.a,10,none⟩=some (.bool true):=by rw[<- hc];exact aa ha 10 rfl
  have HC:=NZ hc;clear h hok hB hb ha hc hch;go_enter func47,ntmps47;go_wp2_with fail;exact bodyPost_ret (results_tmp rfl _ _ _) rfl (.inl ⟨HC.o,rfl,Turns.refl HH.a⟩)
 | false =>
  have a10:w.cell? ⟨S.a,10,none⟩=some (.bool false):=by rw[<- hc];exact aa ha 10 rfl
  have a6:w.cell? ⟨S.a,6,none⟩=some (.pointer (some ⟨S.X.d,0,none⟩)):=aa ha 6 rfl;have a11:w.cell? ⟨S.a,11,none⟩=some .nilIface:=by rw[<- hok.sound];exact aa ha 11 rfl
  have HF:=NZ (ib S.X.d S.L w (h.sub (fun x=>by simp only[N9,ao,af]<;>omega)) hok.dev hch);have HC:=NZ hc;clear h hok hB hb ha hc hch;go_enter func47,ntmps47;go_wp2_with fail;refine HF.o.mono ?_;rintro e w1 ⟨rfl,L',hT,hL⟩;have hT1:Turns (N9 S) (N9 { S with L:=L' }) w w1:=((Turns.refl HH.a).step (R:=(S.a,Is (aL S.X))::(aq S.X.ab S.X.d S.A++(aG S.X.pm S.ps S.pc++(bX S.X.tm S.ts S.tc++aQ S.X.cm S.cs S.cc)))) Ns hT).to Ns;have HT:=Ob hL hT1;clear hT hL hT1;go_wp2_with ((refine ai rfl (aX 45 (.tmp 20) (.tmp 18) rfl S.a 11 (bm S.X) 128 .nilIface HT.z rfl rfl (by simp[bm]) Nc rfl rfl ?_);rw[zR S.X HH.z.sound];intro w2 hT2;have b11:w2.cell? ⟨S.a,11,none⟩=some .nilIface:=(by rw[<- HH.z.sound];exact aa hT2.sat.Q5 11 rfl);have HT2:=NZ hT2;clear hT2;simp only[Act.put]));exact bodyPost_ret (results_tmp rfl _ _ _) rfl (.inr ⟨HC.o,rfl,L',HT.a,HT2.o⟩)
def Fc(S:AS)(w:World)(e:Ending)(w':World):Prop :=
 (S.X.closed=true/\e=.returned (cr 9)/\Turns (N9 S) (N9 S) w w') \/
 (S.X.closed=false/\e=.returned .nilIface/\∃L',nD S.L L'/\Turns (N9 S) (N9 { S with L:=L',X:={ S.X with closed:=true } }) w w')
theorem rL(S:AS)(b:Nat)(w:World)(h:Sat w (N9 S))(hok:Oo S)(hB:QU S b)(hb:b<=90000):
  Calls prog 44 #[.pointer (some ⟨S.a,0,none⟩)] w (Fc S w):=by
 have HS:=NZ (lN S b w h hok hB hb);have HH:=Ob h hok;clear h hok hB hb;go_enter func44,ntmps44;go_wp2_with fail;refine HS.o.mono ?_;rintro e w1 (⟨hc,rfl,hT⟩|⟨hc,rfl,L',hL,hT⟩)
 ·have HT:=Ob hc hT;have hal:=ae hT.sat.Q5;clear hc hT;unfold cr;go_wp2_with ((refine ai rfl (aX 4 (.tmp 8) (.const (.bool true)) rfl S.a 10 (bm S.X) 128 (.bool true) HT.z rfl rfl (by simp[bm]) Nc rfl rfl ?_);intro w2 hT2;have HT2:=NZ hT2;clear hT2;simp only[Act.put]));go_ret;refine (.inl ⟨HT.a,rfl,?_⟩);have h2:=HT2.o;have e1:(bm S.X).setIfInBounds 10 (.bool true)=bm S.X:=by rw[<- HT.a];rfl
  rw[e1]at h2;exact h2
 ·have HT:=Oz hc hL hT;have hal:=ae hT.sat.Q5;clear hc hT hL;go_wp2_with ((refine ai rfl (aX 4 (.tmp 8) (.const (.bool true)) rfl S.a 10 (bm S.X) 128 (.bool true) HT.y rfl rfl (by simp[bm]) Nc rfl rfl ?_);intro w2 hT2;have HT2:=NZ hT2;clear hT2;simp only[Act.put]));exact bodyPost_ret (results_tmp rfl _ _ _) rfl (.inr ⟨HT.a,rfl,L',HT.b,HT2.o⟩)
theorem lT(ub:Nat)(U:SA)(R:Oh)(ev:Value)(w:World)(hu:w.heap[ub]?=some (bw U))(hr:U.r=R.blk)(hR:w.heap[R.blk]?=some (fL R))(hE:bh w)(hev:(R.closed=false/\ev=.nilIface)\/(R.closed=true/\ev=cr 9)):
  Calls prog 70 #[.pointer (some ⟨ub,0,none⟩),ev] w (fun e w'=>e=.returned (.bool true)/\aV w w'):=by
 have HH:=OW hu hr hR hE;rcases hev with⟨hc,rfl⟩|⟨hc,rfl⟩
 ·have HC:=NZ hc;have HT:=NZ (bc .nilIface 0 w hE (.inl ⟨rfl,rfl⟩));clear hu hr hR hE hc;go_enter func70,ntmps70;go_wp2_with fail;refine HT.o.mono ?_;rintro e w1 ⟨rfl,hs1⟩
  have u2:w1.cell? ⟨ub,2,none⟩=some (.pointer (some ⟨R.blk,0,none⟩)):=by
   have:=aa (hs1.at HH.a id) 2 (v:=.pointer (some ⟨U.r,0,none⟩)) rfl;rw[HH.b]at this;exact this
  have r3:w1.cell? ⟨R.blk,3,none⟩=some (.bool false):=by
   have:=aa (hs1.at HH.c id) 3 (v:=.bool R.closed) rfl;rw[HC.o]at this;exact this
  have HS:=NZ hs1;clear hs1;go_wp2_with fail;go_ret;exact ⟨rfl,HS.o⟩
 ·have HC:=NZ hc;have HT:=NZ (bc (cr 9) 9 w hE (.inr (.inl rfl)));clear hu hr hR hE hc;go_enter func70,ntmps70;go_wp2_with fail;refine HT.o.mono ?_;rintro e w1 ⟨rfl,hs1⟩
  have u2:w1.cell? ⟨ub,2,none⟩=some (.pointer (some ⟨R.blk,0,none⟩)):=by
   have:=aa (hs1.at HH.a id) 2 (v:=.pointer (some ⟨U.r,0,none⟩)) rfl;rw[HH.b]at this;exact this
  have r3:w1.cell? ⟨R.blk,3,none⟩=some (.bool true):=by
   have:=aa (hs1.at HH.c id) 3 (v:=.bool R.closed) rfl;rw[HC.o]at this;exact this
  have HS:=NZ hs1;clear hs1;go_wp2_with fail;go_ret;exact ⟨rfl,HS.o⟩
def gI(S:AS)(L':Ol):AS:={ S with L:=L' }
def yq(S:AS):AS:={ S with X:={ S.X with closed:=true } }
theorem Oo.flush{S:AS}{L':Ol}(h:Oo S)(hf:nD S.L L'):Oo (gI S L') where
 dev:=hf.1
 n16:=by show 16<=L'.n;rw[hf.2.1];exact h.n16
 Px:=by show L'.n<=_;rw[hf.2.1];exact h.Px
 area:=h.area
 first:=by show S.A.first=_;rw[h.first];show _=2+S.X.ep%2*au L'.n;rw[hf.2.1]
 count:=by show S.A.count=au L'.n;rw[hf.2.1];exact h.count
 end_:=h.end_
 tail:=h.tail
 dat:=by show eD L'.now S.A.first S.A.count S.data;rw[hf.2.2.1];exact h.dat
 paths:=h.paths
 tags:=h.tags
 chunks:=h.chunks
 kin:=h.kin
 Pm:=h.Pm
 vers:=h.vers
 some:=h.some
 sound:=h.sound
 ep:=h.ep
theorem Oo.close{S:AS}(h:Oo S):Oo (yq S) where
 dev:=h.dev
 n16:=h.n16
 Px:=h.Px
 area:=h.area
 first:=h.first
 count:=h.count
 end_:=h.end_
 tail:=h.tail
 dat:=h.dat
 paths:=h.paths
 tags:=h.tags
 chunks:=h.chunks
 kin:=h.kin
 Pm:=h.Pm
 vers:=h.vers
 some:=h.some
 sound:=h.sound
 ep:=h.ep
end
section
open Go.RowKit
theorem y8{P:Program}(w:World)(dT sT ty elem:TypeId)(k g n dCap:Nat)(s:Nat)(sCap:Nat)(cur cs:List Value)(t u:TypeId)(hu:P.underlying dT=some (.slice elem))(hs:(P.info? elem).map (·.size)=some k)(hg:w.heap[g]?=some (.cells cur.toArray t (0,0)))(hsr:w.heap[s]?=some (.cells cs.toArray u (0,0)))(hn:cs.length=n*k)(hc:cur.length=n*k)(h1:∀v∈cs,v.oneCell'=true):
  (Builtin.copy_ #[dT,sT] ty #[.slice (some ⟨g,0,none⟩) n dCap,.slice (some ⟨s,0,none⟩) n sCap]).run P w=.ok (goInt n) (w.setCells g 0 cs):=by
 have hl:=run_loadCells_list (P:=P) w ⟨s,0,none⟩ cs (fun j v hj=>by
  rw[Addr.add_lit,Nat.zero_add];exact aa hsr j (by simpa using hj))
 have hth:=dA hg 0 cs.length Nj;have hst:=run_storeCells_cells (P:=P) g 0 cs 0 w (fun j hj=>by have:=(hth j hj).1;simpa using this) (fun j hj=>by have:=(hth j hj).2;simpa using this) h1
 cases hq:P.info? elem with
 | none=>simp[hq]at hs
 | some i =>
  have hi:i.size=k:=by simpa[hq]using hs
  rw[hn]at hl;simp[Builtin.copy_,run_underlying hu,Builtin.lenOf,Builtin.firstCells,sizeOf,typeInfo,hq,hi,hl,hst]
theorem rK{P:Program}{w a0:World}{o:Oper}{a:Act}{K:Act->World->Prop}{Q:Exit->Act->World->Prop}{F G:HF}(d s:Operand)(dT sT:TypeId)(ho:o.op=.call { callee:=.builtin .copy,args:=#[d,s],argTypes:=#[dT,sT] })(elem:TypeId)(hu:P.underlying dT=some (.slice elem))(k:Nat)(hsz:(P.info? elem).map (·.size)=some k)(g n dCap sb sCap:Nat)(cur cs:List Value)(t u:TypeId)(hd:a.eval d=.slice (some ⟨g,0,none⟩) n dCap)(hs:a.eval s=.slice (some ⟨sb,0,none⟩) n sCap)(hT:Turns F ((g,Is (.cells cur.toArray t (0,0)))::G) a0 w)(hsr:w.heap[sb]?=some (.cells cs.toArray u (0,0)))(hn:cs.length=n*k)(hc:cur.length=n*k)(h1:∀v∈cs,v.oneCell'=true)(h:∀w',Turns F ((g,Is (.cells cs.toArray t (0,0)))::G) a0 w'->K (a.put o.dst (goInt n)) w'):Oper.wp P o a w K Q:=by
 have hrun:=y8 (P:=P) w dT sT o.type elem k g n dCap sb sCap cur cs t u hu hsz hT.sat.Q5 hsr hn hc h1;have hq:=dQ (C:=cur.toArray) hT.sat.Q5 cs Nj;unfold Oper.wp;simp[execOp,ho,resolve,invoke,builtin,hd,hs,hrun,Result.andThen];exact h _ (hT.Qa hq.2 hq.1)
def zt(d:Nat)(L:Ol)(w:World)(e:Ending)(w':World):Prop :=
 ∃d' L',e=.returned (.pointer (some ⟨d',0,none⟩))/\Turns (aA d L) (aA d' L'++aA d L) w w'/\Ou L'/\L'.n=L.n/\L'.now=L.now/\L'.safe=L.now/\L'.N8=[]
def jv(sb nb n:Nat)(chv:Value):Obj:=.cells #[.slice (some ⟨sb,0,none⟩) n n,.slice (some ⟨nb,0,none⟩) n n,chv,.int .i64 (-1)] 105 (0,0)
theorem nZ(d:Nat)(L:Ol)(w:World)(h:Sat w (aA d L))(hL:Ou L):
  Calls prog 15 #[.pointer (some ⟨d,0,none⟩)] w (zt d L w):=by
 have hd:=h.Q5;have c0:=aa hd 0 rfl;have hdl:=ae hd;have HN:=NZ (jC L.n hL.hn w);have HH:=Ob h hL;clear h hL hd;go_enter func15,ntmps15;go_wp2_with fail;refine HN.o.mono ?_;rintro e w1 ⟨c,M,rfl,hT,hM,hMn,OY,hch⟩;have hd1:=hT.sat.Q5;have hT1:=(Turns.refl HH.a).Qb hT;have hMs:M.safe.length=128*L.n:=by rw[hM.Ut,hMn]
 have hMw:M.now.length=128*L.n:=by rw[hM.OU,hMn]
 have H1:=RV hT1 hM hMn hch hMs hMw;clear hT hM hMn OY hch hd1 hT1 hMs hMw;go_wp2_with fail;obtain⟨Z2,hZ2⟩:=Na ((M.nb,Is (.cells (aw M.now) 43 (0,0)))::(bH 110 129 M.chv M.N8.length (bI M.N8)++((L.sb,Is (.cells (aw L.safe) 43 (0,0)))::bH 110 129 L.chv L.N8.length (bI L.N8))):HF)
 have k0:Turns (aA d L) ((M.sb,Is (.cells (aw M.safe) 43 (0,0)))::((c,Is (jv M.sb M.nb L.n M.chv))::(d,Is (jv L.sb L.nb L.n L.chv))::(L.nb,Is (.cells (aw L.now) 43 (0,0)))::Z2)) w w1:=by
  refine H1.a.to ?_;rw[hZ2];unfold aA jv;rw[H1.c];exact ac
 have HK:=Ob k0 hZ2;clear k0 hZ2;refine cH [([0,1,2,3,4,5,6,7],8,[])] [] HM.o Nc fun W tW=>?_
 simp only[Mix,map_cons,map_nil,nth,QG,QF];have k0:=tW HK.a;clear tW;have g0:W.cell? ⟨c,0,none⟩=some (.slice (some ⟨M.sb,0,none⟩) L.n L.n):=aa (k0.sat.Q7 (b:=c) (o:=jv M.sb M.nb L.n M.chv) Nh) 0 rfl;have g1:W.cell? ⟨d,1,none⟩=some (.slice (some ⟨L.nb,0,none⟩) L.n L.n):=aa (k0.sat.Q7 (b:=d) (o:=jv L.sb L.nb L.n L.chv) Nh) 1 rfl;repeat still_step
 have hl1:(L.now.map am).length=L.n*128:=by rw[NP,HH.z.OU];omega
 have hl2:(M.safe.map am).length=L.n*128:=by rw[NP,H1.e];omega
 refine wpStill_nil (rK (.tmp 13) (.tmp 17) 102 102 rfl 43 underlying102 128 qF M.sb L.n L.n L.nb L.n (M.safe.map am) (L.now.map am) 43 43 rfl rfl k0 (k0.sat.Q7 (b:=L.nb) (o:=.cells (aw L.now) 43 (0,0)) Nh) hl1 hl2 (dF _) fun w2 hT2=>⟨rfl,?_⟩);simp only[Act.put,QA,QB,QC];refine wpStill_nil ?_;have hT2:Turns (aA d L) ((M.sb,Is (.cells (aw L.now) 43 (0,0)))::((c,Is (jv M.sb M.nb L.n M.chv))::(d,Is (jv L.sb L.nb L.n L.chv))::(L.nb,Is (.cells (aw L.now) 43 (0,0)))::Z2)) w w2:=hT2;clear k0 g0 g1 hl1 hl2;have HT2:=NZ hT2;clear hT2;go_wp2_with fail
 have k0:Turns (aA d L) ((M.nb,Is (.cells (aw M.now) 43 (0,0)))::((c,Is (jv M.sb M.nb L.n M.chv))::(d,Is (jv L.sb L.nb L.n L.chv))::(L.nb,Is (.cells (aw L.now) 43 (0,0)))::(M.sb,Is (.cells (aw L.now) 43 (0,0)))::(bH 110 129 M.chv M.N8.length (bI M.N8)++((L.sb,Is (.cells (aw L.safe) 43 (0,0)))::bH 110 129 L.chv L.N8.length (bI L.N8))))) w w2:=by
  refine HT2.o.to ?_;rw[HK.z];exact ac
 have HK3:=NZ k0;clear k0;refine cH [([0,1,2,3,4,5,6,7],8,[])] [] HM.o Nc fun W tW=>?_
 simp only[Mix,map_cons,map_nil,nth,QG,QF];have k0:=tW HK3.o;clear tW;have g0:W.cell? ⟨c,1,none⟩=some (.slice (some ⟨M.nb,0,none⟩) L.n L.n):=aa (k0.sat.Q7 (b:=c) (o:=jv M.sb M.nb L.n M.chv) Nh) 1 rfl;have g1:W.cell? ⟨d,1,none⟩=some (.slice (some ⟨L.nb,0,none⟩) L.n L.n):=aa (k0.sat.Q7 (b:=d) (o:=jv L.sb L.nb L.n L.chv) Nh) 1 rfl;repeat still_step
 have hl1:(L.now.map am).length=L.n*128:=by rw[NP,HH.z.OU];omega
 have hl2:(M.now.map am).length=L.n*128:=by rw[NP,H1.v];omega
 refine wpStill_nil (rK (.tmp 22) (.tmp 26) 102 102 rfl 43 underlying102 128 qF M.nb L.n L.n L.nb L.n (M.now.map am) (L.now.map am) 43 43 rfl rfl k0 (k0.sat.Q7 (b:=L.nb) (o:=.cells (aw L.now) 43 (0,0)) Nh) hl1 hl2 (dF _) fun w3 Oa=>⟨rfl,?_⟩);simp only[Act.put,QA,QB,QC];refine wpStill_nil ?_;clear k0 g0 g1 hl1 hl2;have HT3:=NZ Oa;clear Oa;go_wp2_with fail;have hM:=H1.b;have hrow:=hM.row;rw[H1.d]at hrow;go_ret;refine ⟨c,{ M with n:=L.n,safe:=L.now,now:=L.now,N8:=[] },rfl,?_,⟨HH.z.hn,HH.z.OU,HH.z.OU,hrow,(fun _ hc=>by cases hc),rfl⟩,rfl,rfl,rfl,rfl⟩;have Oj:Turns (aA d L) ((M.nb,Is (.cells (aw L.now) 43 (0,0)))::((c,Is (jv M.sb M.nb L.n M.chv))::(d,Is (jv L.sb L.nb L.n L.chv))::(L.nb,Is (.cells (aw L.now) 43 (0,0)))::(M.sb,Is (.cells (aw L.now) 43 (0,0)))::(bH 110 129 M.chv M.N8.length (bI M.N8)++((L.sb,Is (.cells (aw L.safe) 43 (0,0)))::bH 110 129 L.chv L.N8.length (bI L.N8))))) w w3:=HT3.o;rw[H1.d]at Oj;refine Oj.to ?_;unfold aA jv;exact ac
end
section
open Go.RowKit Go.Maps
def Cp(L L':Ol):Prop:=Ou L'/\L'.n=L.n/\L'.now=L.now/\L'.safe=L.now/\L'.N8=[]
def pI(S S1:AS):Prop:=(S.X.closed=true/\S1=S)\/(S.X.closed=false/\∃L',nD S.L L'/\S1=yq (gI S L'))
theorem pI.facts{S S1:AS}(h:pI S S1):S1.L.now=S.L.now/\S1.L.n=S.L.n/\S1.a=S.a/\S1.X.d=S.X.d/\S1.X.closed=true:=by
 rcases h with⟨h1,rfl⟩|⟨_,L',hf,rfl⟩
 ·exact⟨rfl,rfl,rfl,rfl,h1⟩
 ·exact⟨hf.2.2.1,hf.2.1,rfl,rfl,rfl⟩
end
end Go.Proofs.YtdhobpbngkainaaGreatDoor
