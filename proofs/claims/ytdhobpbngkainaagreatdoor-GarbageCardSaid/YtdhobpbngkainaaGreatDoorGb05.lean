/- Ours. A part of the proof, made small by a program. -/
import Derived.Test.YtdhobpbngkainaaGreatDoorGb04
set_option maxRecDepth 100000
set_option maxHeartbeats 16000000
namespace Go.Proofs.YtdhobpbngkainaaGreatDoor
open List Go.Proofs.Tryz
section
open Go.RowKit Go.Maps
open Go.ChangeMaps (setBlock)
def dV(n d:Int)(V:Oe):Oe:=if(V.num:Int)=n then { V with held:=V.held+d } else V
def dk(ps:List bf)(p:Bs)(n d:Int):List bf:=ps.map (fun q=>if q.key=p then { q with g:=q.g.map (dV n d) } else q)
theorem i9(n d:Int)(V:Oe):(dV n d V).blk=V.blk/\(dV n d V).cv=V.cv/\(dV n d V).N8=V.N8/\(dV n d V).num=V.num/\(dV n d V).size=V.size:=by
 unfold dV;split<;>exact⟨rfl,rfl,rfl,rfl,rfl⟩
theorem xh(n d:Int)(vs:List Oe):(vs.map (dV n d)).map dN=vs.map dN:=by
 rw[map_map];refine map_congr_left fun V _=>?_
 show dN (dV n d V)=dN V;unfold dN;rw[(i9 n d V).1]
theorem nN(ps:List bf)(p:Bs)(n d:Int):(dk ps p n d).map aR=ps.map aR:=by
 unfold dk;rw[map_map];refine map_congr_left fun q _=>?_
 show aR (if q.key=p then _ else q)=_;split<;>rfl
theorem Dr(ps:List bf)(p:Bs)(n d:Int)(l:Bs):(dk ps p n d).find? (fun q=>decide (q.key=l))=(ps.find? (fun q=>decide (q.key=l))).map (fun q=>if q.key=p then { q with g:=q.g.map (dV n d) } else q):=by
 unfold dk;rw[find?_map];congr 2;funext q;show decide ((if q.key=p then _ else q).key=l)=_;split<;>rfl
theorem kj(ps:List bf)(p:Bs)(n d:Int)(l:Bs):ah (dk ps p n d) l=if l=p then(ah ps p).map (dV n d)else ah ps l:=by
 unfold ah Qr;rw[Dr];by_cases h:l=p
 ·subst h;rw[NR rfl]
  cases hf:ps.find? (fun q=>decide (q.key=l))with
  | none=>rfl
  | some q =>
   have:q.key=l:=by simpa using find?_some hf
   simp[this]
 ·rw[NQ h]
  cases hf:ps.find? (fun q=>decide (q.key=l))with
  | none=>rfl
  | some q =>
   have:q.key=l:=by simpa using find?_some hf
   simp[this,h]
theorem Ga(ps:List bf)(p:Bs)(n d:Int)(z:Value)(l:Bs):eI z (dk ps p n d) l=eI z ps l:=by
 rw[<- cX,<- cX,nN]
theorem yJ(ps:List bf)(p:Bs)(n d:Int):bM (dk ps p n d) p=bM ps p:=by
 unfold bM dk;induction ps with
 | nil=>rfl
 | cons q r ih =>
  rw[map_cons,filter_cons,filter_cons,ih];by_cases h:q.key=p
  ·simp[h]
  ·simp[h]
theorem AN{ps:List bf}{c:Nat}(h:OL ps c)(p:Bs)(n d:Int):OL (dk ps p n d) c:=by
 refine⟨by rw[nN];exact h.map,fun q hq=>?_⟩;obtain⟨q0,hq0,rfl⟩:=mem_map.1 hq;have h0:=h.rows q0 hq0;split
 ·refine⟨?_,fun V hV=>?_⟩
  ·have h1:=h0.1;unfold eP at h1 ⊢;rw[xh,NP];exact h1
  ·obtain⟨V0,hV0,rfl⟩:=mem_map.1 hV;rw[(i9 n d V0).2.1,(i9 n d V0).2.2.1];exact h0.2 V0 hV0
 ·exact h0
theorem xg{ps:List bf}{p:Bs}{n d:Int}(h:∀q∈ps,q.g≠[]):∀q∈dk ps p n d,q.g≠[]:=fun q hq=>by
 obtain⟨q0,hq0,rfl⟩:=mem_map.1 hq
 split
 ·exact fun e=>h q0 hq0 (map_eq_nil_iff.1 e)
 ·exact h q0 hq0
theorem yS{ps:List bf}(p:Bs)(n d:Int)(h:(ps.map (·.key)).Nodup):(gl ee (dk ps p n d)).Perm (er (eI (.slice none 0 0) ps p) (ah ps p)++(gl ee (bM ps p)++((ah ps p).map (dV n d)).flatMap bN)):=by
 have hk:((dk ps p n d).map (·.key)).Nodup:=by rw[<- cQ,nN,cQ];exact h
 have:=kN p hk;unfold dM at this;rw[Ga,yJ,kj,NR rfl]at this;have e:er (eI (.slice none 0 0) ps p) ((ah ps p).map (dV n d))=er (eI (.slice none 0 0) ps p) (ah ps p):=by unfold er;rw[xh,NP]
 rwa [e]at this
def Ep(F1 G:HF)(vs:List Oe)(n d:Int)(w:World)(v _v7:Value)(W:World):Prop :=
 ∃k:Nat,k<=vs.length/\v=.int .i64 k/\Turns F1 (((vs.take k).map (dV n d)).flatMap bN++((vs.drop k).flatMap bN++G)) w W
def ry(m p:Bs)(n:Int):Value:=.agg #[str m,str p,.int .i64 n]
def Cn(O:Obj)(j:Nat)(v:Value):Prop:=∀(a:Nat) (W:World),W.heap[a]?=some O->W.cell? ⟨a,j,none⟩=some v
def Hl(a:Nat)(O:Obj)(pm:Nat)(ps:List bf)(pc:Nat)(p:Bs)(n d:Int)(w:World)(e:Ending)(w':World):Prop :=
 e=.returned (.tuple #[])/\Turns ((a,Is O)::aG pm ps pc) ((a,Is O)::aG pm (dk ps p n d) pc) w w'
theorem I8(a:Nat)(O:Obj)(pm:Nat)(hO:Cn O 0 (.map (some pm)))(ps:List bf)(pc:Nat)(m p:Bs)(n d:Int)(w:World)(h:Sat w ((a,Is O)::aG pm ps pc))(hok:OL ps pc)(hl:Py p)(hvl:(ah ps p).length<=1099511627776)(hd : -1<=d/\d<=1)(hh:∀V∈ah ps p,V.held.natAbs<=1099511627776):
  Calls prog 145 #[.pointer (some ⟨a,0,none⟩),ry m p n,.int .i64 d] w (Hl a O pm ps pc p n d w):=by
 obtain⟨F1,hF1⟩:=Na ((a,Is O)::aG pm ps pc);obtain⟨v0,hv0⟩:=Na (eI (.slice none 0 0) ps p);obtain⟨vs,hvs⟩:=Na (ah ps p);obtain⟨G,hG⟩:=Na ((a,Is O)::(pm,Is (aU str (ps.map aR) pc))::(er v0 vs++gl ee (bM ps p)))
 have hT0:Turns F1 (vs.flatMap bN++G) w w:=by
  rw[hF1,hG];refine(Turns.refl h).to ?_;have hp:=kN p (by rw[<- cQ];exact hok.map.nodup);unfold dM at hp;rw[<- hv0,<- hvs]at hp;unfold aG;refine(Perm.cons _ (Perm.cons _ hp)).trans ?_;exact ac
 obtain⟨sl,cap,hl1,hl2,hl6,hl3,hl4,-⟩:=fk h.tail hok p;rw[<- hv0,<- hvs]at hl1;rw[<- hvs]at hvl hh hl2 hl3;have a0:w.cell? ⟨a,0,none⟩=some (.map (some pm)):=hO _ _ h.Q5;have hal:=ae h.Q5;have hmo:=h.tail.Q5;subst hl1;have HH:=NZ (NK hT0 (NK hok (NK hl (NK hh (NK hv0 (NK hvs (NK hG (NK hF1 (NK hmo h)))))))));have hval:eI (.slice none 0 0) ps p=.slice sl vs.length cap:=hv0.symm;have qaj:eP (.slice sl vs.length cap) vs:=by rw[hv0,hvs];exact uM hok p
 have HP:=Ob qaj hval;clear hT0 hok hl hh hv0 hvs hG hF1 hmo h qaj hl3 hl4 hval;unfold ry;go_enter func145,ntmps145;go_upto_region 1 with(fail);obtain⟨pb,hpb⟩:=Na w.heap.size;obtain⟨W,hW⟩:=Na (w.alloc (.cells #[str m,str p,.int .i64 n] 230));rw[<- hW];have hs:aV w W:=by rw[hW];exact(N7.refl _ w).alloc _
 have hT1:Turns F1 (vs.flatMap bN++((pb,Is (.cells #[str m,str p,.int .i64 n] 230 (0,0)))::G)) w W:=by
  have:=HH.a.Q9 (.cells #[str m,str p,.int .i64 n] 230);rw[hpb,hW];exact this.to ac
 subst hpb;have OB:=hT1.sat.Q7 (b:=w.heap.size) (o:=.cells #[str m,str p,.int .i64 n] 230 (0,0)) Nh;have b1:W.cell? ⟨w.heap.size,1,none⟩=some (str p):=aa OB 1 rfl;have hbl:w.heap.size<W.heap.size:=ae OB;have a1:W.cell? ⟨a,0,none⟩=some (.map (some pm)):=hO _ _ (hs.at HH.q.z.Q5 id)
 have hlk:∀k,(Instr.lookup 119 (.map (some pm)) (str p) false).run prog (W.drewN k)=.ok (.slice sl vs.length cap) (W.drewN k):=fun k=>by
  have:=vd dR underlying119 (w:=W.drewN k) (hs.at HH.q.a id) HH.b.map (fI _) HH.c;rwa [cX,HP.z]at this
 have H1:=NZ hT1;clear hW hs hT1 OB a0;go_quiet (fail);have HT:=NZ (H1.o.drewN nq);clear hlk a1 b1;obtain⟨pb,hpb⟩:=Na w.heap.size;rw[<- hpb]at HT hbl ⊢;clear hpb;go_wp2_with fail;go_loopw [16,7] (fun v v7 wr=>Ep F1 ((pb,Is (.cells #[str m,str p,.int .i64 n] 230 (0,0)))::G) vs n d w v v7 wr) (fun v _ _=>vs.length-(intOf v).toNat)
 case atStart=>exact⟨0,Nat.zero_le _,rfl,by simpa using HT.o⟩
 case round =>
  obtain⟨k,hk,rfl,hT⟩:=hrel;by_cases hlt:k<vs.length
  ·obtain⟨V,hV⟩:=Na (vs[k]);have hdr:vs.drop k=V::vs.drop (k+1):=by rw[hV];exact drop_eq_getElem_cons hlt
   obtain⟨a',c',e1,-,-,hrow,-⟩:=aP (aW (hT.sat.sub (G:=er (.slice sl vs.length cap) vs) (fun x=>by rw[HH.g];simp only[ao,af];omega)) HP.a);simp only[Value.slice.injEq]at e1;obtain⟨rfl,-,-⟩:=e1;obtain⟨g,off,hg,hcell⟩:=hrow Np;subst hg;have hck:wr.cell? ⟨g,off+k,none⟩=some (dN V):=by rw[hcell k (by simpa using hlt)];simp[hV]
   unfold dN at hck;rw[hdr]at hT;have hT2:=hT.to (H:=(V.blk,Is (dB V))::(((vs.take k).map (dV n d)).flatMap bN++(aZ V.cv V.N8++((vs.drop (k+1)).flatMap bN++((pb,Is (.cells #[str m,str p,.int .i64 n] 230 (0,0)))::G))))) (by rw[flatMap_cons];unfold bN;exact ac);have Rt:=hT2.sat.Q5;have v0:wr.cell? ⟨V.blk,0,none⟩=some (.int .i64 V.num):=aa Rt 0 rfl;have v3:wr.cell? ⟨V.blk,3,none⟩=some (.int .i64 V.held):=aa Rt 3 rfl;have f3:=aY Rt 3;have OB:=hT2.sat.Q7 (b:=pb) (o:=.cells #[str m,str p,.int .i64 n] 230 (0,0)) Nh;have b2:wr.cell? ⟨pb,2,none⟩=some (.int .i64 n):=aa OB 2 rfl;have hhV:=HH.d V (hV ▸ getElem_mem hlt);have htk:(vs.take (k+1)).map (dV n d)=(vs.take k).map (dV n d)++[dV n d V]:=by rw[QH hlt,NW,hV];rfl
   have HR:=Oz hT2 Rt htk;clear hT hT2 Rt OB hcell hrow htk hdr hV
   have Y5:∀W':World,Turns F1 ((V.blk,Is (dB (dV n d V)))::(((vs.take k).map (dV n d)).flatMap bN++(aZ V.cv V.N8++((vs.drop (k+1)).flatMap bN++((pb,Is (.cells #[str m,str p,.int .i64 n] 230 (0,0)))::G))))) w W'->∀v7,Ep F1 ((pb,Is (.cells #[str m,str p,.int .i64 n] 230 (0,0)))::G) vs n d w (.int .i64 ((k:Int)+1)) v7 W':=fun W' hT v7=>by
    refine⟨k+1,Nb,by go_num,hT.to ?_⟩;rw[HR.y,flatMap_append]
    have hv:[dV n d V].flatMap bN=(V.blk,Is (dB (dV n d V)))::aZ V.cv V.N8:=by
     obtain⟨e1,e2,e3,-⟩:=i9 n d V;simp only[flatMap_cons,flatMap_nil,append_nil,bN,e1,e2,e3]
    rw[hv];exact ac
   have SI:=NZ Y5;clear Y5;by_cases c1:(V.num:Int)=n
   ·have hho:dV n d V={ V with held:=V.held+d }:=by unfold dV;rw[NR c1]
    have hw:IntKind.i64.wrap (V.held+d)=V.held+d:=IntWalk.i64_in _ Nb;have HW:=Ob hho hw;clear hho hw;go_wp2_with fail;go_quiet (fail);have HV:=Ob v3 f3;clear v0 v3 f3 b2 hck;obtain⟨w1,hw1⟩:=Na (wr.drewN nq);rw[<- hw1];have hT1:=hw1 ▸ HR.a.drewN nq;have WB:=hT1.sat.Q5;have v3:w1.cell? ⟨V.blk,3,none⟩=some (.int .i64 V.held):=aa WB 3 rfl;have f3:=aY WB 3;have H1:=Ob hT1 WB;clear hw1 hT1 WB;have hw:=HW.z;go_wp2_with fail;go_roundw
    case rel =>
     refine SI.o _ ?_ _;refine(H1.a.Qa ((N7.refl _ w1).set1 (i:=3) (.int .i64 (V.held+d))) ?_);rw[bq H1.z 3 _,HW.a];rfl
    case measure=>simp[intOf];omega
   ·have hho:dV n d V=V:=by unfold dV;rw[NQ c1]
    have HW:=NZ hho;clear hho;go_wp2_with fail;go_quiet (fail);go_wp2_with fail;go_roundw
    case rel =>
     refine SI.o _ ?_ _;rw[HW.o];exact HR.a.drewN nq
    case measure=>simp[intOf];omega
  ·obtain rfl:k=vs.length:=Nb
   rw[take_length,drop_length]at hT;have HR:=NZ hT;clear hT;go_wp2_with fail;refine bodyPost_end (results_none rfl _ _ _) rfl ⟨rfl,?_⟩;rw[<- HH.h];have hp:=yS p n d (by rw[<- cQ];exact HH.b.map.nodup);rw[HP.z,<- HH.f]at hp;unfold aG;rw[nN];refine HR.o.drop (fun x=>?_);have h1:=t7 hp x;rw[HH.g];simp only[ao,af]at h1 ⊢;omega
end
section
open Go.RowKit Go.Maps
abbrev CG:=Nat×Nat×List (Nat×Nat)×Int
def bump(n d:Int)(t:CG):CG:=if(t.1:Int)=n then(t.1,t.2.1,t.2.2.1,t.2.2.2+d)else t
theorem G4(n d:Int)(V:Oe):bu (dV n d V)=bump n d (bu V):=by
 unfold bu dV bump;split<;>rfl
theorem G5(ns:List Int)(vs:List Oe):(dW ns vs).map bu=(vs.map bu).filter (fun t => !ns.contains (t.1:Int)):=by
 rw[filter_map];rfl
theorem F7(H:List HV)(p l:Bs)(ns:List Int):((iV H p ns).filter (fun h=>decide (h.p=l))).map bV=if l=p then((H.filter (fun h=>decide (h.p=p))).map bV).filter (fun t => !ns.contains (t.1:Int))else(H.filter (fun h=>decide (h.p=l))).map bV:=by
 unfold iV;rw[filter_filter];split
 ·rename_i e;subst e;rw[filter_map,filter_filter];congr 2;funext h;show(decide (h.p=l) && !(decide (h.p=l)&&ns.contains (h.num:Int)))=(!ns.contains (h.num:Int)&&decide (h.p=l))
  cases decide (h.p=l)<;>simp
 ·rename_i e;congr 2;funext h;by_cases hp:h.p=l
  ·have:¬h.p=p:=fun e2=>e (hp.symm.trans e2)
   simp[hp,e]
  ·simp[hp]
theorem F8(H:List HV)(p l:Bs)(n d:Int):((eZ H p n d).filter (fun h=>decide (h.p=l))).map bV=if l=p then((H.filter (fun h=>decide (h.p=p))).map bV).map (bump n d)else(H.filter (fun h=>decide (h.p=l))).map bV:=by
 unfold eZ;induction H with
 | nil=>simp
 | cons h r ih =>
  rw[map_cons,filter_cons,filter_cons,filter_cons];by_cases h1:h.p=l<;>by_cases h2:h.p=p<;>by_cases h3:(h.num:Int)=n<;>by_cases h4:l=p<;>simp_all[bV,bump]
theorem GT(H:List HV)(p:Bs)(ns:List Int):(H.map (·.size)).sum=((iV H p ns).map (·.size)).sum+((((H.filter (fun h=>decide (h.p=p))).map bV).filter (fun t=>ns.contains (t.1:Int))).map (·.2.1)).sum:=by
 unfold iV;induction H with
 | nil=>rfl
 | cons h r ih =>
  rw[filter_cons,filter_cons];by_cases h1:h.p=p<;>by_cases h2:ns.contains (h.num:Int)=true<;>simp_all[bV]<;>omega
theorem yF(ns:List Int)(vs:List Oe):cw ns vs=(((vs.map bu).filter (fun t=>ns.contains (t.1:Int))).map (·.2.1)).sum:=by
 unfold cw;rw[filter_map,map_map];rfl
theorem Cg(ts:List fJ)(tc:Nat)(m p:Bs)(n:Int):(eS ts tc m (mn m (p,n)) (p,n)).map eV=mZ (ts.map eV) (m,p,n):=by
 have e:(ts.map eV).any (fun t=>decide (t.1=m))=kh ts m:=by unfold kh;rw[any_map];rfl
 unfold eS mZ;rw[e];split
 ·rw[map_map,map_map];refine map_congr_left fun q _=>?_
  show eV (if q.key=m then _ else q)=if q.key=m then _ else eV q
  split
  ·rename_i h;simp[eV,h]
  ·rfl
 ·simp[eV]
theorem Cf(ts:List fJ)(m:Bs):(bM ts m).map eV=Ar (ts.map eV) m:=by
 unfold bM Ar;rw[filter_map];rfl
theorem vo{ts:List fJ}{tc:Nat}(h:O6 ts tc){m:Bs}(hm:Py m)(g:Bs×Int):O6 (eS ts tc m (mn m g) g) (cy (ts.map aR) tc m):=by
 refine⟨by rw[iI];exact h.map.put hm _,fun q hq=>?_⟩;rcases iJ hq with⟨h1,_⟩|⟨h1,h2,h3⟩
 ·exact h.val q h1
 ·rw[h1,h2,h3]
theorem D8{ts:List fJ}{tc:Nat}(h:O6 ts tc)(m:Bs):O6 (bM ts m) tc :=
 ⟨by rw[mP];exact h.map.del m,fun q hq=>h.val q (mem_filter.1 hq).1⟩
theorem Br(T:List Tg)(x:Tg):(mZ T x).length<=T.length+1:=by
 unfold mZ;split<;>simp
theorem Bt{T:List Tg}{x t:Tg}(h:t∈mZ T x):t=x\/t∈T:=by
 unfold mZ at h;split at h
 ·obtain⟨y,hy,rfl⟩:=mem_map.1 h;split
  ·exact .inl rfl
  ·exact .inr hy
 ·rcases mem_append.1 h with h|h
  ·exact .inr h
  ·exact .inl (mem_singleton.1 h)
theorem nM{H:List HV}{p:Bs}{n d:Int}{h:HV}(hh:h∈eZ H p n d):∃h0∈H,h.p=h0.p/\h.num=h0.num/\h.size=h0.size/\h.N8=h0.N8/\(h.held=h0.held\/h.held=h0.held+d):=by
 obtain⟨h0,h1,rfl⟩:=mem_map.1 hh;refine⟨h0,h1,?_⟩;split
 ·exact⟨rfl,rfl,rfl,rfl,.inr rfl⟩
 ·exact⟨rfl,rfl,rfl,rfl,.inl rfl⟩
theorem Cnt.grow{at_ n:Nat}{s:Rh}(h:Cnt at_ s):Cnt (at_+n) s :=
 ⟨by have:=h.n;omega,fun x hx=>by have:=h.held x hx;omega,h.size,h.tag⟩
end
section
open Go.RowKit Go.Maps
theorem BB(l:Bs)(bad:Bool)(n:Nat):dl l bad n<256 ^ n:=by
 unfold dl;split
 ·exact Nat.pow_pos Nb
 ·have h1:=fU (l.take n);exact Nat.lt_of_lt_of_le h1 (Nat.pow_le_pow_right Nb Nj)
theorem Be{l:Bs}:∀x∈iE l,0<=x/\x<=4294967296:=fun x hx=>by
 unfold iE at hx
 obtain⟨i,-,rfl⟩:=mem_map.1 hx
 have h1:=fU ((l.drop (4*i)).take 4)
 have h2:256 ^ ((l.drop (4*i)).take 4).length<=256 ^ 4:=Nat.pow_le_pow_right Nb Nj
 omega
theorem lj{α:Type}{f:α->Nat}{m:Nat}:∀{l:List α},(∀x∈l,f x<=m)->(l.map f).sum<=m*l.length
 | [],_=>by simp
 | a::l,h=>by
  have h1:=h a Nh
  have h2:=lj (l:=l) (fun x hx=>h x (by simp[hx]))
  simp only[map_cons,sum_cons,length_cons,Nat.mul_add,Nat.mul_one]
  omega
def MV(k:UInt8)(body:Bs):Sj->Prop
 | .ver p num size ats=>p.length<=255/\num<4294967296/\size<=65535/\(∀x∈ats,0<=x/\x<=4294967296)/\ats.length<=body.length
 | .gone p ns=>p.length<=255/\ns.length<=body.length
 | .pin q p m n=>q=k/\(k=4\/k=5)/\p.length<=255/\m.length<=255/\n<4294967296
theorem kO{k:UInt8}{body:Bs}{r:Sj}(h:fx k body=some r):MV k body r:=by
 have n4:∀l b,dl l b 4<4294967296:=fun l b=>Nat.lt_of_lt_of_le (BB l b 4) Nb
 have n2:∀l b,dl l b 2<=65535:=fun l b=>by have:=BB l b 2;omega
 have hl:(rT (body,false)).1.length<=body.length:=iK _ _;unfold fx at h;simp only at h;split at h
 ·split at h
  ·simp only[NY]at h;subst h;refine⟨mq _ _,n4 _ _,n2 _ _,Be,?_⟩;rw[jb];have h1:(rN (rN (rT (body,false)) 4) 2).1.length<=body.length:=Nat.le_trans (gk _ _ _) (Nat.le_trans (gk _ _ _) (iK _ _));omega
  ·cases h
 ·split at h
  ·split at h
   ·simp only[NY]at h;subst h;exact⟨mq _ _,by rw[jb];omega⟩
   ·cases h
  ·split at h
   ·rename_i h45;split at h
    ·simp only[NY]at h;subst h;exact⟨rfl,h45,mq _ _,mq _ _,n4 _ _⟩
    ·cases h
   ·cases h
section
variable {D:Bs} {X:Om} {ps:List bf} {pc:Nat} {cs:List kx} {cc:Nat} {ts:List fJ} {tc:Nat} {sz:List (OT Int)} {OJ at_:Nat} {s:Rh} {body:Bs} {n:Nat} {k:UInt8} {E:Prop}
theorem OE.WU(h:OE D X ps pc cs cc ts tc sz OJ at_ s E):∀e∈s.K,e.2.1<at_:=fun e he=>by
 have h1:=(h.Pm e he).2.2.1
 rw[NS]at h1
 omega
theorem OE.on(h:OE D X ps pc cs cc ts tc sz OJ at_ s E)(ho:b5 (D.drop at_)=some (k,body,n)):at_+n<=D.length/\9<=n/\body.length<=65535/\∀e∈s.K,e.2.2=e.1.length/\e.1.length<=65535/\dC (D.take (at_+n)) e.2.1 e.1:=by
 obtain⟨-,h2,h3,-,h5⟩:=dD ho;rw[NT]at h3;have:=h.le;refine⟨Nb,Nb,Nb,fun e he=>?_⟩;obtain⟨k1,k2,k3⟩:=h.Pm e he;exact⟨k1,k2,k3.grow Nb⟩
theorem OE.chunk(h:OE D X ps pc cs cc ts tc sz OJ at_ s E)(ho:b5 (D.drop at_)=some (1,body,n))(hat:at_<=4294967296){v:Value}(hv:bQ v (bd cs (ed body)++[(at_,body.length)])):
  OE D { X with sc:=X.sc+1,sb:=X.sb+body.length } ps pc (eS cs cc (ed body) v (bd cs (ed body)++[(at_,body.length)])) (cy (cs.map aR) cc (ed body)) ts tc (gJ sz OJ (at_:Int) (.int .i64 body.length)) (cy sz OJ (at_:Int)) (at_+n) { s with K:=s.K++[(body,at_,body.length)] } E:=by
 obtain⟨h1,h2,h3,h4⟩:=dC.at_ ho h.le;obtain⟨-,o2,-,o4⟩:=h.on ho;have hnone:jP s.K at_=none:=GU h.WU;refine⟨fun hE=>(h.reach hE).next ho rfl,h2,fun hE=>⟨?_,(h.cnt hE).grow.held,(h.cnt hE).size,(h.cnt hE).tag⟩,h.paths,p9 h.chunks (by unfold ed;exact cf _ _) hv,h.tags,AY h.kin body _ v,fun e he=>?_,h.hist,h.VF,fun x hx=>⟨fun q hq=>?_,(h.SB x hx).2⟩,h.used,?_,?_,h.map.put ⟨Nb,Nb⟩ _,fun k=>?_,h.Qy⟩
 ·have:=(h.cnt hE).n;simp only[NM,length_singleton];omega
 ·rcases mem_append.1 he with he|he
  ·exact o4 e he
  ·obtain rfl:=mem_singleton.1 he;exact⟨rfl,h3,h4⟩
 ·obtain⟨e,he,hq2⟩:=(h.SB x hx).1 q hq;exact⟨e,mem_append_left _ he,hq2⟩
 ·show X.sc+1=_;rw[h.sc];simp
 ·show X.sb+body.length=_;rw[h.sb];simp
 ·rw[FY,BZ,h.get k];by_cases hk:k=(at_:Int)
  ·subst hk;rw[NR rfl,hnone,NR rfl];rfl
  ·rw[NQ hk,NQ (fun e=>hk e.symm)];simp
theorem qV{p l:Bs}{v:Value}{V:Oe}:ah (j7 ps pc p v V) l=if l=p then ah ps p++[V]else ah ps l:=ql [] ps pc p l v _
theorem OE.qaD(h:OE D X ps pc cs cc ts tc sz OJ at_ s E)(hk1:k≠1)(ho:b5 (D.drop at_)=some (k,body,n)){p:Bs}{num m:Nat}{ats:List Int}(hr:E->fx k body=some (.ver p num m ats))(hp:p.length<=255){N8:List (Nat×Nat)}(hc:du (jP s.K) ats=some N8)(hm:(N8.map (·.2)).sum=m){b:Nat}{cv v':Value}(hcv:bQ cv N8)(hv:eP v' (ah ps p++[⟨b,num,m,cv,N8,0⟩])):
  OE D { X with used:=X.used+m } (j7 ps pc p v' ⟨b,num,m,cv,N8,0⟩) (cy (ps.map aR) pc p) cs cc ts tc sz OJ (at_+n) { s with H:=s.H++[⟨p,num,m,N8,0⟩] } E:=by
 obtain⟨o1,o2,o3,o4⟩:=h.on ho;have hcl:=nL hc
 have hs:E->gE at_ s k body=some { s with H:=s.H++[⟨p,num,m,N8,0⟩] }:=fun hE=>by
  unfold gE;rw[NQ hk1,hr hE];simp only[hc];rw[NR hm]
 refine⟨fun hE=>(h.reach hE).next ho (hs hE),o1,fun hE=>⟨?_,fun x hx=>?_,fun x hx=>?_,(h.cnt hE).tag⟩,sj h.paths Nr hv hcv,h.chunks,h.tags,h.kin,o4,fun l=>?_,fun q hq=>?_,fun x hx=>?_,?_,h.sc,h.sb,h.map,h.get,h.Qy⟩
 ·have:=(h.cnt hE).n;simp only[NM,length_singleton];omega
 ·rcases mem_append.1 hx with hx|hx
  ·exact(h.cnt hE).grow.held x hx
  ·obtain rfl:=mem_singleton.1 hx;simp
 ·rcases mem_append.1 hx with hx|hx
  ·exact(h.cnt hE).size x hx
  ·obtain rfl:=mem_singleton.1 hx;obtain⟨r1,r2,r3,-,r5⟩:=kO (hr hE);exact⟨r1,r2,r3,by show N8.length<=_;omega⟩
 ·rw[qV,filter_append,NW,<- h.hist l];by_cases hl:l=p
  ·subst hl;rw[NR rfl,NW];simp[bu,bV]
  ·rw[NQ hl];simp[Ne.symm hl]
 ·rcases iJ hq with⟨h1,_⟩|⟨_,_,h3⟩
  ·exact h.VF q h1
  ·rw[h3];simp
 ·rcases mem_append.1 hx with hx|hx
  ·exact h.SB x hx
  ·obtain rfl:=mem_singleton.1 hx;exact⟨wP hc,hm.symm⟩
 ·show X.used+m=_;rw[h.used];simp
theorem OE.ver(h:OE D X ps pc cs cc ts tc sz OJ at_ s)(hk1:k≠1)(ho:b5 (D.drop at_)=some (k,body,n)){p:Bs}{num m:Nat}{ats:List Int}(hr:fx k body=some (.ver p num m ats)){N8:List (Nat×Nat)}(hc:du (jP s.K) ats=some N8)(hm:(N8.map (·.2)).sum=m){b:Nat}{cv v':Value}(hcv:bQ cv N8)(hv:eP v' (ah ps p++[⟨b,num,m,cv,N8,0⟩])):
  OE D { X with used:=X.used+m } (j7 ps pc p v' ⟨b,num,m,cv,N8,0⟩) (cy (ps.map aR) pc p) cs cc ts tc sz OJ (at_+n) { s with H:=s.H++[⟨p,num,m,N8,0⟩] } :=
 h.qaD hk1 ho (fun _=>hr) (kO hr).1 hc hm hcv hv
theorem OE.has(h:OE D X ps pc cs cc ts tc sz OJ at_ s)(p:Bs):s.H.any (fun x=>decide (x.p=p))=true↔ah ps p≠[]:=by
 have h1:=h.hist p;rw[any_eq_true];refine⟨fun⟨x,hx,e⟩ hn=>?_,fun hn=>?_⟩
 ·rw[hn]at h1;have:=(map_eq_nil_iff.1 h1.symm);exact absurd (mem_filter.2 ⟨hx,e⟩) (by rw[this];simp)
 ·cases hf:s.H.filter (fun x=>decide (x.p=p))with
  | nil=>rw[hf]at h1;exact absurd (map_eq_nil_iff.1 h1) hn
  | cons x r =>
   have:=mem_filter.1 (show x∈s.H.filter (fun x=>decide (x.p=p)) by rw[hf];simp);exact⟨x,this.1,this.2⟩
theorem OE.gone(h:OE D X ps pc cs cc ts tc sz OJ at_ s)(hk1:k≠1)(ho:b5 (D.drop at_)=some (k,body,n)){p:Bs}{ns:List Int}(hr:fx k body=some (.gone p ns))(hne:ah ps p≠[]){v':Value}(hv:eP v' (dW ns (ah ps p))):
  OE D (jd X (X.used-(cw ns (ah ps p):Nat))) (kd ps pc p v' ns) pc cs cc ts tc sz OJ (at_+n) { s with H:=iV s.H p ns }:=by
 obtain⟨o1,o2,o3,o4⟩:=h.on ho;obtain⟨r1,-⟩:=kO hr
 have hs:gE at_ s k body=some { s with H:=iV s.H p ns }:=by
  unfold gE;rw[NQ hk1,hr];simp only[(h.has p).2 hne,if_true]
 have hsub:∀x∈iV s.H p ns,x∈s.H:=fun x hx=>(mem_filter.1 hx).1
 have hcn:=h.cnt trivial;refine⟨fun _=>(h.reach trivial).next ho hs,o1,fun _=>⟨?_,fun x hx=>hcn.grow.held x (hsub x hx),fun x hx=>hcn.size x (hsub x hx),hcn.tag⟩,Az h.paths Nr hv hne,h.chunks,h.tags,h.kin,o4,fun l=>?_,wZ h.VF,fun x hx=>h.SB x (hsub x hx),?_,h.sc,h.sb,h.map,h.get,h.Qy⟩
 ·have:=hcn.n;have:(iV s.H p ns).length<=s.H.length:=length_filter_le _ _;show 9*(s.K.length+(iV s.H p ns).length+s.T.length)<=_;omega
 ·rw[ug,F7];split
  ·rw[G5,h.hist]
  ·exact h.hist l
 ·show X.used-_=(((iV s.H p ns).map (·.size)).sum:Nat);rw[h.used,GT s.H p ns,yF,h.hist p];omega
theorem OE.qaB(h:OE D X ps pc cs cc ts tc sz OJ at_ s E)(ho:b5 (D.drop at_)=some (k,body,n)){p:Bs}{m d:Int}(hd : -1<=d/\d<=1){ts':List fJ}{TA:Nat}{T':List Tg}(hts:O6 ts' TA)(hT:ts'.map eV=T')(hl:T'.length<=s.T.length+1)(hmem:E->∀t∈T',t.1.length<=255/\t.2.1.length<=255/\0<=t.2.2/\t.2.2<4294967296)(hs:E->gE at_ s k body=some { s with H:=eZ s.H p m d,T:=T' }):
  OE D X (dk ps p m d) pc cs cc ts' TA sz OJ (at_+n) { s with H:=eZ s.H p m d,T:=T' } E:=by
 obtain⟨o1,o2,o3,o4⟩:=h.on ho;refine⟨fun hE=>(h.reach hE).next ho (hs hE),o1,fun hE=>⟨?_,fun x hx=>?_,fun x hx=>?_,hmem hE⟩,AN h.paths p m d,h.chunks,hts,h.kin,o4,fun l=>?_,xg h.VF,fun x hx=>?_,?_,h.sc,h.sb,h.map,h.get,hT⟩
 ·have:=(h.cnt hE).n;have e:(eZ s.H p m d).length=s.H.length:=by unfold eZ;rw[NP]
  show 9*(s.K.length+(eZ s.H p m d).length+T'.length)<=_;omega
 ·obtain⟨x0,h0,-,-,-,-,e⟩:=nM hx;have:=(h.cnt hE).held x0 h0;rcases e with e|e<;>rw[e]<;>omega
 ·obtain⟨x0,h0,e1,e2,e3,e4,-⟩:=nM hx;rw[e1,e2,e3,e4];exact(h.cnt hE).size x0 h0
 ·rw[kj,F8];split
  ·rw[map_map,<- h.hist p,map_map];exact map_congr_left fun V _=>G4 m d V
  ·exact h.hist l
 ·obtain⟨x0,h0,-,-,e3,e4,-⟩:=nM hx;rw[e3,e4];exact h.SB x0 h0
 ·rw[h.used];congr 2;unfold eZ;rw[map_map];refine map_congr_left fun x _=>?_
  show x.size=(if _ then _ else x).size;split<;>rfl
theorem OE.tag(h:OE D X ps pc cs cc ts tc sz OJ at_ s)(ho:b5 (D.drop at_)=some (k,body,n)){p:Bs}{m d:Int}(hd : -1<=d/\d<=1){ts':List fJ}{TA:Nat}{T':List Tg}(hts:O6 ts' TA)(hT:ts'.map eV=T')(hl:T'.length<=s.T.length+1)(hmem:∀t∈T',t.1.length<=255/\t.2.1.length<=255/\0<=t.2.2/\t.2.2<4294967296)(hs:gE at_ s k body=some { s with H:=eZ s.H p m d,T:=T' }):
  OE D X (dk ps p m d) pc cs cc ts' TA sz OJ (at_+n) { s with H:=eZ s.H p m d,T:=T' } :=
 h.qaB ho hd hts hT hl (fun _=>hmem) (fun _=>hs)
theorem OE.bounds(h:OE D X ps pc cs cc ts tc sz OJ at_ s)(hat:at_<=810000):
  (0<=X.used/\X.used<=65535*90000)/\(0<=X.sc/\X.sc<=90000)/\(0<=X.sb/\X.sb<=65535*90000)/\(∀k,(bd cs k).length<=90000)/\(∀l,(ah ps l).length<=90000)/\(∀a m,jP s.K a=some m->m<=65535)/\∀l,∀V∈ah ps l,V.held.natAbs<=90000/\V.size<=65535:=by
 have h0:=(h.cnt trivial).n;have hle:=h.le;have h3:=lj (l:=s.H) (f:=(·.size)) (fun x hx=>((h.cnt trivial).size x hx).2.2.1);have h4:=lj (l:=s.K) (f:=(·.1.length)) (m:=65535) (fun e he=>(h.Pm e he).2.1);refine⟨by rw[h.used];omega,by rw[h.sc];omega,by rw[h.sb];omega,fun k=>?_,fun l=>?_,fun a m hm=>?_,fun l V hV=>?_⟩
 ·have:=(h.kin k).length_eq;rw[NP]at this;have:=length_filter_le (fun e=>decide (ed e.1=k)) s.K;omega
 ·have:=congrArg length (h.hist l);rw[NP,NP]at this;have:=length_filter_le (fun h=>decide (h.p=l)) s.H;omega
 ·obtain⟨e,he,h5⟩:=vn hm;have h6:=h.Pm e he;rw[h5]at h6;simp only at h6;omega
 ·have h1:bu V∈(ah ps l).map bu:=mem_map.2 ⟨V,hV,rfl⟩;rw[h.hist]at h1;obtain⟨x,hx,e⟩:=mem_map.1 h1;have hx:=(mem_filter.1 hx).1;have h5:=(h.cnt trivial).held x hx;have h6:=(h.cnt trivial).size x hx;unfold bV bu at e;simp only[Prod.mk.injEq]at e;rw[<- e.2.2.2,<- e.2.1];omega
end
end
section
open Go.RowKit Go.Maps
open Go.ChangeMaps (setBlock)
def jB(a:Nat)(O:Obj)(pm tm:Nat)(ps:List bf)(pc:Nat)(ts:List fJ)(tc:Nat):HF:=(a,Is O)::(aG pm ps pc++bX tm ts tc)
def jL(a:Nat)(X:Om)(ps:List bf)(pc:Nat)(ts:List fJ)(tc:Nat):HF:=(a,Is (aL X))::(aG X.pm ps pc++bX X.tm ts tc)
structure QY (a:Nat) (O:Obj) (pm tm:Nat) (ps:List bf) (pc:Nat) (ts:List fJ) (tc:Nat) (m p:Bs) (w:World):Prop where
 sat:Sat w (jB a O pm tm ps pc ts tc)
 c0:Cn O 0 (.map (some pm))
 c1:Cn O 1 (.map (some tm))
 ok:OL ps pc
 tags:O6 ts tc
 okm:Py m
 okp:Py p
 len:(ah ps p).length<=1099511627776
 held:∀V∈ah ps p,V.held.natAbs<=1099511627776
structure Rl (a:Nat) (X:Om) (ps:List bf) (pc:Nat) (ts:List fJ) (tc:Nat) (m p:Bs) (w:World):Prop where
 sat:Sat w (jL a X ps pc ts tc)
 ok:OL ps pc
 tags:O6 ts tc
 okm:Py m
 okp:Py p
 len:(ah ps p).length<=1099511627776
 held:∀V∈ah ps p,V.held.natAbs<=1099511627776
theorem QY.hold{a:Nat}{O:Obj}{pm tm:Nat}{ps:List bf}{pc:Nat}{ts ts':List fJ}{tc TA:Nat}{m p:Bs}{w W:World}(h:QY a O pm tm ps pc ts tc m p w)(n d:Int)(hd : -1<=d/\d<=1)(hT:Turns (jB a O pm tm ps pc ts tc) (jB a O pm tm ps pc ts' TA) w W):
  Calls prog 145 #[.pointer (some ⟨a,0,none⟩),ry m p n,.int .i64 d] W (fun e w'=>e=.returned (.tuple #[])/\Turns (jB a O pm tm ps pc ts tc) (jB a O pm tm (dk ps p n d) pc ts' TA) w w'):=by
 refine(I8 a O pm h.c0 ps pc m p n d W (hT.sat.sub (fun x=>by unfold jB;simp only[ao,af];omega)) h.ok h.okp h.len hd h.held).mono ?_;rintro e w' ⟨rfl,hT2⟩;refine⟨rfl,(hT.step (F:=(a,Is O)::aG pm ps pc) (R:=bX tm ts' TA) ?_ hT2).to ?_⟩
 ·unfold jB;exact ac
 ·unfold jB;exact ac
theorem EV(a:Nat)(O:Obj)(pm tm:Nat)(ps:List bf)(pc:Nat)(ts:List fJ)(tc:Nat)(m p:Bs)(n:Int)(w:World)(h:QY a O pm tm ps pc ts tc m p w):
  Calls prog 114 #[.pointer (some ⟨a,0,none⟩),ry m p n] w (fun e w'=>e=.returned (.tuple #[])/\Turns (jB a O pm tm ps pc ts tc) (jB a O pm tm (dk ps p n 1) pc (eS ts tc m (mn m (p,n)) (p,n)) (cy (ts.map aR) tc m)) w w'):=by
 have HO:=NZ (fun W=>h.hold (W:=W) (ts':=eS ts tc m (mn m (p,n)) (p,n)) (TA:=cy (ts.map aR) tc m) n 1 Nb);have HH:=NZ h;clear h;unfold ry at HO ⊢;go_enter func114,ntmps114;go_upto_region 1 with(fail);obtain⟨W,hW⟩:=Na (w.alloc (.cells #[str m,str p,.int .i64 n] 230));rw[<- hW]
 have hT1:Turns (jB a O pm tm ps pc ts tc) ((w.heap.size,Is (.cells #[str m,str p,.int .i64 n] 230 (0,0)))::jB a O pm tm ps pc ts tc) w W:=by
  rw[hW];exact(Turns.refl HH.o.sat).Q9 (.cells #[str m,str p,.int .i64 n] 230)
 have OB:=hT1.sat.Q5;have b0:W.cell? ⟨w.heap.size,0,none⟩=some (str m):=aa OB 0 rfl;have b1:W.cell? ⟨w.heap.size,1,none⟩=some (str p):=aa OB 1 rfl;have b2:W.cell? ⟨w.heap.size,2,none⟩=some (.int .i64 n):=aa OB 2 rfl;have a1:W.cell? ⟨a,1,none⟩=some (.map (some tm)):=HH.o.c1 _ _ (hT1.sat.Q7 (b:=a) (o:=O) (by simp[jB]));have H1:=NZ hT1;clear hW hT1 OB;refine wp_region_still_tail 7 HM.o Nc ?_;simp only[QE,take_zero,QD,drop_zero];repeat still_step
 refine wpStill_nil ?_;change wpList _ _ _ _ _ W.drew
 go_wp2_with (first
  | (refine ai rfl (lJ dR (.tmp 7) (.tmp 9) (.tmp 10) rfl underlying120 tm (ts.map aR) tc (H1.o.drew.to (H:=(tm,Is (aU str (ts.map aR) tc))::((a,Is O)::(aG pm ps pc++[(w.heap.size,Is (.cells #[str m,str p,.int .i64 n] 230 (0,0)))]))) (by unfold jB bX;exact ac)) HH.o.tags.map m (.agg #[str m,str p,.int .i64 n]) rfl rfl rfl HH.o.okm ?_);intro w4 Oj;have hb4:=Oj.sat.Q7 (b:=w.heap.size) (o:=.cells #[str m,str p,.int .i64 n] 230 (0,0)) Nh;have d0:w4.cell? ⟨w.heap.size,0,none⟩=some (str m):=aa hb4 0 rfl;have d1:w4.cell? ⟨w.heap.size,1,none⟩=some (str p):=aa hb4 1 rfl;have d2:w4.cell? ⟨w.heap.size,2,none⟩=some (.int .i64 n):=aa hb4 2 rfl;have H4:=NZ Oj;clear Oj hb4;simp only[Act.put])
  | fail)
 refine(HO.o _ ?_).mono ?_
 ·refine H4.o.drop (fun x=>?_);unfold jB bX;rw[iI];simp only[ao,af,cW];simp only[mn];omega
 rintro e w5 ⟨rfl,Og⟩;have H5:=NZ Og;clear Og;go_wp2_with fail;exact bodyPost_end (results_none rfl _ _ _) rfl ⟨rfl,H5.o⟩
theorem GX(a:Nat)(O:Obj)(pm tm:Nat)(ps:List bf)(pc:Nat)(ts:List fJ)(tc:Nat)(m p:Bs)(n:Int)(w:World)(h:QY a O pm tm ps pc ts tc m p w):
  Calls prog 115 #[.pointer (some ⟨a,0,none⟩),ry m p n] w (fun e w'=>e=.returned (.tuple #[])/\Turns (jB a O pm tm ps pc ts tc) (jB a O pm tm (dk ps p n (-1)) pc (bM ts m) tc) w w'):=by
 have HO:=NZ (fun W=>h.hold (W:=W) (ts':=bM ts m) (TA:=tc) n (-1) Nb);have HH:=NZ h;clear h;unfold ry at HO ⊢;go_enter func115,ntmps115;go_upto_region 1 with(fail);obtain⟨W,hW⟩:=Na (w.alloc (.cells #[str m,str p,.int .i64 n] 230));rw[<- hW]
 have hT1:Turns (jB a O pm tm ps pc ts tc) ((w.heap.size,Is (.cells #[str m,str p,.int .i64 n] 230 (0,0)))::jB a O pm tm ps pc ts tc) w W:=by
  rw[hW];exact(Turns.refl HH.o.sat).Q9 (.cells #[str m,str p,.int .i64 n] 230)
 have OB:=hT1.sat.Q5;have b0:W.cell? ⟨w.heap.size,0,none⟩=some (str m):=aa OB 0 rfl;have b1:W.cell? ⟨w.heap.size,1,none⟩=some (str p):=aa OB 1 rfl;have b2:W.cell? ⟨w.heap.size,2,none⟩=some (.int .i64 n):=aa OB 2 rfl;have a1:W.cell? ⟨a,1,none⟩=some (.map (some tm)):=HH.o.c1 _ _ (hT1.sat.Q7 (b:=a) (o:=O) (by simp[jB]));have H1:=NZ hT1;clear hW hT1 OB;refine wp_region_still_tail 6 HM.o Nc ?_;simp only[QE,take_zero,QD,drop_zero];repeat still_step
 refine wpStill_nil ?_;change wpList _ _ _ _ _ W.drew;have hT2:=H1.o.drew.to (H:=(tm,Is (aU str (ts.map aR) tc))::((a,Is O)::(aG pm ps pc++[(w.heap.size,Is (.cells #[str m,str p,.int .i64 n] 230 (0,0)))]))) (by unfold jB bX;exact ac)
 have hdel:∀ty,(Builtin.delete_ #[120,9] ty #[.map (some tm),str m]).run prog W.drew=.ok (.tuple #[]) (setBlock W.drew tm (aU str (yx (ts.map aR) m) tc)):=fun ty =>
  E1 dR underlying120 hT2.sat.Q5 HH.o.tags.map HH.o.okm
 have Oj:=hT2.Qa (dq W.drew tm (aU str (yx (ts.map aR) m) tc)) (ez hT2.sat.Q5);have hb4:=Oj.sat.Q7 (b:=w.heap.size) (o:=.cells #[str m,str p,.int .i64 n] 230 (0,0)) Nh;have d0:=aa hb4 0 (v:=str m) rfl;have d1:=aa hb4 1 (v:=str p) rfl;have d2:=aa hb4 2 (v:=.int .i64 n) rfl;have H4:=NZ Oj;clear hT2 Oj hb4 b0 b1 b2 a1;go_wp2_with fail;refine(HO.o _ ?_).mono ?_
 ·refine H4.o.drop (fun x=>?_);unfold jB bX;rw[mP];simp only[ao,af,cW];omega
 rintro e w5 ⟨rfl,Og⟩;have H5:=NZ Og;clear Og;go_wp2_with fail;exact bodyPost_end (results_none rfl _ _ _) rfl ⟨rfl,H5.o⟩
theorem Rl.gen{a:Nat}{X:Om}{ps:List bf}{pc:Nat}{ts:List fJ}{tc:Nat}{m p:Bs}{w:World}(h:Rl a X ps pc ts tc m p w):QY a (aL X) X.pm X.tm ps pc ts tc m p w :=
 ⟨h.sat,fun _ _ h=>aa h 0 rfl,fun _ _ h=>aa h 1 rfl,h.ok,h.tags,h.okm,h.okp,h.len,h.held⟩
theorem xu(a:Nat)(X:Om)(ps:List bf)(pc:Nat)(ts:List fJ)(tc:Nat)(m p:Bs)(n:Int)(w:World)(h:Rl a X ps pc ts tc m p w):
  Calls prog 114 #[.pointer (some ⟨a,0,none⟩),ry m p n] w (fun e w'=>e=.returned (.tuple #[])/\Turns (jL a X ps pc ts tc) (jL a X (dk ps p n 1) pc (eS ts tc m (mn m (p,n)) (p,n)) (cy (ts.map aR) tc m)) w w'):=EV a (aL X) X.pm X.tm ps pc ts tc m p n w h.gen
theorem sx(a:Nat)(X:Om)(ps:List bf)(pc:Nat)(ts:List fJ)(tc:Nat)(m p:Bs)(n:Int)(w:World)(h:Rl a X ps pc ts tc m p w):
  Calls prog 115 #[.pointer (some ⟨a,0,none⟩),ry m p n] w (fun e w'=>e=.returned (.tuple #[])/\Turns (jL a X ps pc ts tc) (jL a X (dk ps p n (-1)) pc (bM ts m) tc) w w'):=GX a (aL X) X.pm X.tm ps pc ts tc m p n w h.gen
end
section
open Go.RowKit
theorem GD{rb:Nat}{s:Bs×Bool}{w w':World}{e:Ending}(h:wA rb s.1 s.2 w e w'):e=.returned (str (gm s.1 s.2))/\Rd w' rb (rT s).1 (rT s).2/\N7 (fun k=>k=rb) w w':=⟨h.1,h.2.1,h.2.2⟩
theorem EX(body:Bs):fx 3 body=if(rT (body,false)).2=false/\(rT (body,false)).1.length%4=0 then some (.gone (gm body false) (iE (rT (body,false)).1))else none:=by
 unfold fx;rw[NQ Nk,NR rfl]
theorem JF{k:UInt8}(hk:k=4\/k=5)(body:Bs):fx k body=if(rN (rT (rT (body,false))) 4).2=false/\(rN (rT (rT (body,false))) 4).1=[]then some (.pin k (gm body false) (gm (rT (body,false)).1 (rT (body,false)).2) (dl (rT (rT (body,false))).1 (rT (rT (body,false))).2 4))else none:=by
 unfold fx;rw[NQ (by rcases hk with rfl|rfl<;>decide),NQ (by rcases hk with rfl|rfl<;>decide),NR hk]
theorem BC{k:UInt8}(h2:k≠2)(h3:k≠3)(h4:k≠4)(h5:k≠5)(body:Bs):fx k body=none:=by
 unfold fx;simp only[NQ h2,NQ h3,NQ (show ¬(k=4\/k=5)from fun h=>h.elim h4 h5)]
theorem xR{k:UInt8}{n:Nat}(_:n<256)(h:k≠UInt8.ofNat n):¬((k.toNat:Int)=(n:Int)):=fun e=>h (by
 have:k.toNat=n:=Nb
 rw[<- this,UInt8.ofNat_toNat])
theorem wk(k:UInt8)(a:Option Addr)(cap:Nat)(body:Bs)(w:World)(h:ak w a (body.map am))(hcap:body.length<=cap)(ha:∀x,a=some x->x.block<w.heap.size)(hl:body.length<=70000):
  Calls prog 101 #[.int .u8 k.toNat,.slice a body.length cap] w (cO k body w):=by
 by_cases hk2:k=2
 ·subst hk2;exact zF a cap body w h hcap ha hl
 obtain⟨rb,hrb⟩:=Na w.heap.size
 have hR0:Qz w [] rb (body,false) (w.alloc (.cells #[.slice a body.length cap,.bool false] 282)):=by
  refine⟨?_,a,cap,?_,hcap,h.keep ((N7.refl (fun _=>False) w).alloc _) (fun _ _ _=>id),fun x hx=>hrb ▸ ha x hx⟩
  ·rw[hrb];exact(Turns.refl (Sat.nil w)).Qe (φ:=fun _=>True) trivial
  ·unfold tB;rw[hrb];exact aM w _
 have HT:=NZ (ne rb body false _ hR0.2 Nb);have H0:=Ob hR0 hrb;rw[hrb]at HT;have hk2n:¬((k.toNat:Int)=2):=xR Nk hk2;clear h ha hcap hR0;go_enter func101,ntmps101;go_wp2_with fail;refine HT.o.mono ?_;rintro e w2 ⟨rfl,hR2,hm2⟩;rw[<- hrb]at hR2 hm2 ⊢;have XY:Qz w [] rb (rT (body,false)) w2:=H0.a.call hm2 hR2;obtain⟨p,hp⟩:=Na (gm body false);obtain⟨s1,hs1⟩:=Na (rT (body,false));have hl1:s1.1.length<=70000:=by rw[hs1];exact Nat.le_trans (iK _ _) hl
 rw[<- hs1]at XY;rw[<- hp];have SV:=XY.alloc H0.z (ki k p);obtain⟨hb,hhb⟩:=Na w2.heap.size;rw[<- hhb]at SV;have H2:=Oz SV hp hs1;clear hR2 hm2 XY hp hs1 hrb SV;by_cases hk3:k=3
 ·subst hk3;go_upto_region 10 with(fail);rw[<- hhb];clear hhb;refine cH [([0,1],2,[0])] [3,4,5] HM.o Nc fun W tW=>?_
  simp only[Mix,map_cons,map_nil,nth,QG,QF];have q0:=H2.a.at H0.z tW;clear tW;refine fR (k:=3) (p:=p) q0 Nh rfl rfl rfl ?_;simp only[Act.put,QA,QB,QC];repeat still_step
  refine wpStill_nil (aO Nc (oD rb s1.1 s1.2 W q0.2 hl1) ?_);rintro e w3 ⟨v,ns,l',b',rfl,Ph,Oj,SV,hres⟩;obtain⟨a1,c1,rfl,-⟩:=aP (aW Oj.sat.left Ph);have Oa:=Qz.nums (s':=(l',b')) q0 Oj SV;refine⟨_,rfl,fR (k:=3) (p:=p) Oa Nh rfl rfl rfl rfl,?_⟩;simp only[Act.put,QA,QB,QC];repeat still_step
  refine wpStill_nil ?_;clear q0 Oj SV;obtain⟨ra,rc,hrd,-⟩:=id Oa.2;have hrd:w3.heap[rb]?=some (.cells #[.slice ra l'.length rc,.bool b'] 282 (0,0)):=hrd;have hrl:=ae hrd;have k0:w3.cell? ⟨rb,0,none⟩=some (.slice ra l'.length rc):=aa hrd 0 rfl;have k1:w3.cell? ⟨rb,1,none⟩=some (.bool b'):=aa hrd 1 rfl;have H3:=Ob Ph Oa;clear hrd Ph Oa;rcases hres with⟨rfl,hs2,hl4,rfl,hns⟩|⟨rfl,hbad,-⟩
  ·have HX:=Oz hs2 hl4 hns;clear hs2 hl4 hns;go_wp2_with fail;go_ret;unfold cO;rw[EX,<- H2.y,<- H2.b,NR ⟨HX.a,HX.b⟩];refine⟨_,rfl,?_,?_⟩
   ·show RJ _ (iE s1.1);rw[<- HX.y];exact H3.a
   ·show Turns [] (ck _ (iE s1.1)) _ _;rw[<- HX.y];exact H3.b.left.left
  ·have HX:=NZ hbad;clear hbad;go_wp2_with fail;go_ret;unfold cO;rw[EX,<- H2.y,NQ]
   ·exact⟨rfl,H3.b.news⟩
   ·rintro⟨h1,h2⟩;rcases HX.o with h|h
    ·rw[h1]at h;cases h
    ·exact h h2
 have hk3n:¬((k.toNat:Int)=3):=xR Nk hk3;by_cases TU:k=4\/k=5
 ·have HK:=NZ TU;obtain⟨m,hm⟩:=Na (gm s1.1 s1.2);obtain⟨n,hn⟩:=Na (dl (rT s1).1 (rT s1).2 4);have HN:=Ob hm hn;clear hm hn
  have hfin:∀(w3:World) (l':Bs) (b':Bool),(l',b')=rN (rT s1) 4->Qz w [(hb,Is (ki k p))] rb (l',b') w3->∀v,(b'=false/\l'=[]->v=uR (.pin k p m n) (.slice none 0 0))->(¬(b'=false/\l'=[])->v=.nilIface)->cO k body w (.returned v) w3:=fun w3 l' b' hs3 Oa v hv1 hv2=>by
   unfold cO;rw[JF HK.o,<- H2.y,<- H2.b,<- HN.a,<- HN.z,<- hs3];by_cases hc:b'=false/\l'=[]
   ·rw[NR hc];exact⟨.slice none 0 0,by rw[hv1 hc],⟨rfl,fun _=>⟨rfl,rfl⟩⟩,⟨Oa.1.mods,Sat.nil _,fun b hb=>by cases hb⟩⟩
   ·rw[NQ hc];exact⟨by rw[hv2 hc],Oa.1.news⟩
  have HG:=NZ hfin;clear hk2 hk3 hk2n hk3n hfin;rcases TU with rfl|rfl
  all_goals
   go_upto_region 13 with(fail);rw[<- hhb];clear hhb;refine cH [([0,1,3],2,[0,3]),([],4,[0])] [5,6,7] HM.o Nc fun W tW=>?_
   simp only[Mix,map_cons,map_nil,nth,QG,QF];have q0:=H2.a.at H0.z tW;clear tW;refine fR q0 (.head _) rfl rfl rfl ?_;simp only[Act.put,QA,QB,QC];repeat still_step
   refine wpStill_nil (aO Nc (ne rb s1.1 s1.2 W q0.2 Nb) ?_);intro e W1 hp1;obtain⟨rfl,hR,hM⟩:=GD hp1;have q1:=q0.call hM hR;have hl2:(rT s1).1.length<=70000:=Nat.le_trans (iK _ _) hl1;refine⟨_,rfl,fR q1 (.head _) rfl rfl rfl (by(simp only[Act.put,QA,QB,QC];(repeat still_step);exact rfl)),wpStill_nil (aO Nc (dm rb (rT s1).1 (rT s1).2 4 W1 q1.2 Nb Nb) ?_)⟩;intro e w3 hp2;obtain⟨rfl,hR2,hM2⟩:=ko hp2;have Oa:=q1.call hM2 hR2;refine⟨_,rfl,fR Oa (.head _) rfl rfl rfl rfl,?_⟩;simp only[Act.put,QA,QB,QC];repeat still_step
   refine wpStill_nil ?_;rw[<- HN.a,<- HN.z];clear q0 hp1 hR hM q1 hp2 hR2 hM2 hl2;obtain⟨s3,hs3⟩:=Na (rN (rT s1) 4);rw[<- hs3]at Oa;obtain⟨l',b'⟩:=s3;obtain⟨ra,rc,hrd,-⟩:=id Oa.2;have hrd:w3.heap[rb]?=some (.cells #[.slice ra l'.length rc,.bool b'] 282 (0,0)):=hrd;have hrl:=ae hrd;have k0:w3.cell? ⟨rb,0,none⟩=some (.slice ra l'.length rc):=aa hrd 0 rfl;have k1:w3.cell? ⟨rb,1,none⟩=some (.bool b'):=aa hrd 1 rfl;have HF:=NZ (HG.o w3 l' b' hs3 Oa);clear hrd hs3 Oa
   cases b' with
   | true =>
    go_wp2_with fail;go_ret;exact HF.o _ (fun h=>by cases h.1) (fun _=>rfl)
   | false =>
    by_cases hl0:l'.length=0
    ·have hl1:(l'.length:Int)=0:=Nb
     go_wp2_with fail;go_ret;exact HF.o _ (fun _=>rfl) (fun h=>absurd ⟨by first|rfl|trivial,length_eq_zero_iff.1 hl0⟩ h)
    ·have hl1:(0:Int)<(l'.length:Int):=Nb
     go_wp2_with fail;go_ret;exact HF.o _ (fun h=>absurd (by rw[h.2];rfl) hl0) (fun _=>rfl)
 ·have hk4n:¬((k.toNat:Int)=4):=xR Nk (fun h=>TU (.inl h));have hk5n:¬((k.toNat:Int)=5):=xR Nk (fun h=>TU (.inr h))
  have hfin:∀W,aV w W->cO k body w (.returned .nilIface) W:=fun W hs=>by
   unfold cO;rw[BC hk2 hk3 (fun h=>TU (.inl h)) (fun h=>TU (.inr h))];exact⟨rfl,hs⟩
  have HF:=NZ hfin;clear hfin TU;go_upto_region 14 with(fail);obtain⟨W,hW⟩:=Na (w2.alloc (.cells #[.int .u8 k.toNat,str p] 170));rw[<- hW];have h4:Qz w [(hb,Is (ki k p))] rb s1 W:=by rw[hW];exact H2.a
  obtain⟨l',b'⟩:=s1;obtain⟨ra,rc,hrd,-⟩:=id h4.2;have hrd:W.heap[rb]?=some (.cells #[.slice ra l'.length rc,.bool b'] 282 (0,0)):=hrd;have hrl:=ae hrd;have k0:W.cell? ⟨rb,0,none⟩=some (.slice ra l'.length rc):=aa hrd 0 rfl;have k1:W.cell? ⟨rb,1,none⟩=some (.bool b'):=aa hrd 1 rfl;have H4:=NZ h4.1.news;clear hW h4 hrd
  cases b' with
  | true =>
   go_wp2_with fail;go_ret;exact HF.o _ H4.o
  | false =>
   by_cases hl0:l'.length=0
   ·have hl1:(l'.length:Int)=0:=Nb
    go_wp2_with fail;go_ret;exact HF.o _ H4.o
   ·have hl1:(0:Int)<(l'.length:Int):=Nb
    go_wp2_with fail;go_ret;exact HF.o _ H4.o
end
section
open Go.RowKit Go.Maps
open Go.ChangeMaps (setBlock)
theorem LV(c:Array Value)(w:World):(Instr.typeAssert (.iface 286 (.agg c)) 215 173 true).run prog w=.ok (.tuple #[.agg #[.int .u8 0,.string ⟨#[]⟩,.int .i64 0,.int .i64 0,.slice none 0 0],.bool false]) w:=Nc
theorem LU(c:Array Value)(w:World):(Instr.typeAssert (.iface 286 (.agg c)) 215 286 true).run prog w=.ok (.tuple #[.agg c,.bool true]) w:=Nc
theorem LY(c:Array Value)(w:World):(Instr.typeAssert (.iface 233 (.agg c)) 215 173 true).run prog w=.ok (.tuple #[.agg #[.int .u8 0,.string ⟨#[]⟩,.int .i64 0,.int .i64 0,.slice none 0 0],.bool false]) w:=Nc
theorem LW(c:Array Value)(w:World):(Instr.typeAssert (.iface 233 (.agg c)) 215 286 true).run prog w=.ok (.tuple #[.agg #[.int .u8 0,.string ⟨#[]⟩,.slice none 0 0],.bool false]) w:=Nc
theorem LX(c:Array Value)(w:World):(Instr.typeAssert (.iface 233 (.agg c)) 215 233 true).run prog w=.ok (.tuple #[.agg c,.bool true]) w:=Nc
theorem Jm(k:UInt8)(p:Bs)(w:World):Calls prog 141 #[.agg #[.int .u8 k.toNat,str p]] w (fun e w'=>e=.returned (.int .u8 k.toNat)/\aV w w'):=by
 go_enter func141,ntmps141;go_wp2_with fail;go_ret;exact⟨rfl,(N7.refl _ w).alloc _⟩
theorem I5{ps:List bf}(Wn:∀q∈ps,q.g≠[])(p:Bs):iB (ps.map aR) p=true↔ah ps p≠[]:=by
 rw[qp];unfold kh;rw[any_eq_true];refine⟨fun⟨q,hq,hk⟩ hn=>?_,fun h=>?_⟩
 ·unfold ah Qr at hn
  cases hf:ps.find? (fun q=>decide (q.key=p))with
  | none=>exact find?_eq_none.1 hf q hq hk
  | some x=>rw[hf]at hn;exact Wn x (mem_of_find?_eq_some hf) hn
 ·obtain⟨q,hq,hk,-⟩:=mt h;exact⟨q,hq,by simpa using hk⟩
def g8(a:Nat)(X:Om)(ps:List bf)(pc:Nat)(v:Value)(ns:List Int):HF:=(a,Is (aL X))::(aG X.pm ps pc++ck v ns)
def Fm(a:Nat)(X:Om)(ps:List bf)(pc:Nat)(p:Bs)(v:Value)(ns:List Int)(w:World)(e:Ending)(w':World):Prop :=
 (ah ps p=[]/\e=.returned (.bool false)/\Turns (g8 a X ps pc v ns) (g8 a X ps pc v ns) w w') \/
 (ah ps p≠[]/\e=.returned (.bool true)/\∃v',eP v' (dW ns (ah ps p))/\Turns (g8 a X ps pc v ns) (g8 a (jd X (X.used-(cw ns (ah ps p):Nat))) (kd ps pc p v' ns) pc v ns) w w')
theorem BD(a sm:Nat)(X:Om)(ps:List bf)(pc:Nat)(p:Bs)(v:Value)(ns:List Int)(w:World)(h:Sat w (g8 a X ps pc v ns))(Ph:RJ v ns)(hok:OL ps pc)(Wn:∀q∈ps,q.g≠[])(hl:Py p)(hu:rP X.used (ah ps p))(hnl:ns.length<=1099511627776):
  Calls prog 100 #[.pointer (some ⟨a,0,none⟩),uR (.gone p ns) v,.map (some sm)] w (Fm a X ps pc p v ns w):=by
 obtain⟨F1,hF1⟩:=Na (g8 a X ps pc v ns);obtain⟨av,cap,hv,-⟩:=aP (aW (h.sub (G:=ck v ns) (fun x=>by unfold g8;simp only[ao,af];omega)) Ph);obtain⟨hb,hhb⟩:=Na (iB (ps.map aR) p);have Yi:=I5 Wn p;rw[<- hhb]at Yi;have HH:=Uh h Ph hok hl hu hF1 hhb Yi;have hta:=LV #[.int .u8 3,str p,v] w;have htb:=LU #[.int .u8 3,str p,v] w;have hal:=ae h.Q5;clear h Ph hok Wn hl hu hF1 hhb Yi;subst hv;unfold uR;go_enter func100,ntmps100;go_upto_region 21 with(fail);obtain⟨W,hW⟩:=Na (w.alloc (.cells #[.int .u8 3,str p,.slice av ns.length cap] 286));rw[<- hW]
 have hT1:Turns F1 ((w.heap.size,Is (.cells #[.int .u8 3,str p,.slice av ns.length cap] 286 (0,0)))::F1) w W:=by
  rw[hW,HH.f];exact(Turns.refl HH.a).Q9 (.cells #[.int .u8 3,str p,.slice av ns.length cap] 286)
 have OB:=hT1.sat.Q5;have b1:W.cell? ⟨w.heap.size,1,none⟩=some (str p):=aa OB 1 rfl;have hao:=hT1.sat.Q7 (b:=a) (o:=aL X) (by rw[HH.f];simp[g8]);have a0:W.cell? ⟨a,0,none⟩=some (.map (some X.pm)):=aa hao 0 rfl;obtain⟨u0,hu0⟩:=Na ((dH (ps.map aR) p).getD (.slice none 0 0))
 have hlk:∀k,(Instr.lookup 119 (.map (some X.pm)) (str p) true).run prog (W.drewN k)=.ok (.tuple #[u0,.bool hb]) (W.drewN k):=fun k=>by
  rw[HH.g,hu0];exact ve dR underlying119 (w:=W.drewN k) (hT1.sat.Q7 (b:=X.pm) (by rw[HH.f];simp[g8,aG])) HH.c.map (fI _) HH.d
 have hal2:=ae hao;have hbl:=ae OB;have H1:=NZ hT1;clear hW hT1 OB hao hu0 hta htb;go_quiet (fail);obtain⟨W2,hW2⟩:=Na (W.drewN nq);rw[<- hW2];have hT2:=hW2 ▸ H1.o.drewN nq;have OB:=hT2.sat.Q5;have b1:W2.cell? ⟨w.heap.size,1,none⟩=some (str p):=aa OB 1 rfl;have b2:W2.cell? ⟨w.heap.size,2,none⟩=some (.slice av ns.length cap):=aa OB 2 rfl;have H2:=NZ hT2;clear hW2 hT2 OB hlk
 cases hb with
 | false =>
  go_wp2_with fail;go_ret;refine (.inl ⟨?_,rfl,?_⟩)
  ·have h2:=HH.t;simpa using h2
  ·rw[<- HH.f];exact H2.o.drop (fun x=>by simp only[ao];omega)
 | true =>
  have hne:ah ps p≠[]:=(HH.t).1 rfl;have HN:=NZ hne;clear hne;go_wp2_with fail;refine wp_region_still_tail 8 HM.o Nc ?_;simp only[QE,take_zero,QD,drop_zero];repeat still_step
  refine wpStill_nil ?_;change wpList _ _ _ _ _ W2.drew;have Oa:=H2.o.drew;rw[HH.f]at Oa;have HD:=NZ (uh a X ps pc p (.slice av ns.length cap) ns W2.drew (Oa.sat.sub (fun x=>by unfold g8;simp only[ao,af];omega)) HH.b HH.c HH.d HN.o HH.e hnl);have H3:=NZ Oa;clear Oa;go_wp2_with fail;refine HD.o.mono ?_;rintro e w4 ⟨v',rfl,hv',Oj⟩;have H4:=Ob hv' (H3.o.step (F:=g8 a X ps pc (.slice av ns.length cap) ns) (R:=[(w.heap.size,Is (.cells #[.int .u8 3,str p,.slice av ns.length cap] 286 (0,0)))]) ac Oj);clear hv' Oj;go_wp2_with fail;go_ret;refine (.inr ⟨HN.o,rfl,v',H4.a,?_⟩);exact H4.z.left
def Fo(a:Nat)(X:Om)(ps:List bf)(pc:Nat)(ts:List fJ)(tc:Nat)(k:UInt8)(m p:Bs)(n:Int)(w:World)(e:Ending)(w':World):Prop :=
 e=.returned (.bool true)/\Turns (jL a X ps pc ts tc) (if k=4 then jL a X (dk ps p n 1) pc (eS ts tc m (mn m (p,n)) (p,n)) (cy (ts.map aR) tc m)else jL a X (dk ps p n (-1)) pc (bM ts m) tc) w w'
theorem BE(a sm:Nat)(X:Om)(ps:List bf)(pc:Nat)(ts:List fJ)(tc:Nat)(k:UInt8)(hk:k=4\/k=5)(m p:Bs)(n:Nat)(v:Value)(w:World)(h:Rl a X ps pc ts tc m p w):
  Calls prog 100 #[.pointer (some ⟨a,0,none⟩),uR (.pin k p m n) v,.map (some sm)] w (Fo a X ps pc ts tc k m p n w):=by
 have hal:=ae h.sat.Q5;have HH:=NZ h;clear h;unfold uR;have hta:=fun c=>LY c w
 have htb:=fun c=>LW c w
 have htc:=fun c=>LX c w
 go_enter func100,ntmps100;go_upto_region 29 with(fail);generalize hW:(w.alloc _).alloc _=W
 have hT1:Turns (jL a X ps pc ts tc) ((w.heap.size+1,Is (.cells #[str m,str p,.int .i64 n] 230 (0,0)))::(w.heap.size,Is (.cells #[(.int .u8 k.toNat),str p,str m,.int .i64 n] 233 (0,0)))::jL a X ps pc ts tc) w W:=by
  rw[<- hW];have:=((Turns.refl HH.o.sat).Q9 (.cells #[(.int .u8 k.toNat),str p,str m,.int .i64 n] 233)).Q9 (.cells #[str m,str p,.int .i64 n] 230);rw[World.size_alloc]at this;exact this
 have h0o:=hT1.sat.tail.Q5;have b0:W.cell? ⟨w.heap.size,0,none⟩=some (.int .u8 k.toNat):=aa h0o 0 rfl;have b1:W.cell? ⟨w.heap.size,1,none⟩=some (str p):=aa h0o 1 rfl;have H1:=NZ hT1;clear hW hT1 h0o hta htb htc;go_wp2_with fail;refine(Jm k p _).mono ?_;rintro e W2 ⟨rfl,hs⟩;rcases hk with rfl|rfl
 all_goals
  have hT2:=H1.o.Q8 hs;have h1o:=hT2.sat.Q5;have c0:W2.cell? ⟨w.heap.size+1,0,none⟩=some (str m):=aa h1o 0 rfl;have c1:W2.cell? ⟨w.heap.size+1,1,none⟩=some (str p):=aa h1o 1 rfl;have c2:W2.cell? ⟨w.heap.size+1,2,none⟩=some (.int .i64 n):=aa h1o 2 rfl;have hal2:a<W2.heap.size:=ae (hT2.sat.Q7 (b:=a) (o:=aL X) (by simp[jL]));have H2:=NZ hT2;clear hT2 h1o hs b0 b1;go_wp2_with fail;refine wp_region_still_tail 4 HM.o Nc ?_;simp only[QE,take_zero,QD,drop_zero];repeat still_step
  refine wpStill_nil ?_;change wpList _ _ _ _ _ W2.drew;have Oa:=H2.o.drew;have hP:Rl a X ps pc ts tc m p W2.drew:={ HH.o with sat:=Oa.sat.tail.tail };have HP1:=NZ (xu a X ps pc ts tc m p n W2.drew hP);have HP2:=NZ (sx a X ps pc ts tc m p n W2.drew hP);have H3:=NZ Oa;clear Oa hP;go_wp2_with fail;first|refine HP1.o.mono ?_|refine HP2.o.mono ?_
  rintro e w4 ⟨rfl,Oj⟩;have H4:=NZ ((H3.o.drop (H:=jL a X ps pc ts tc) (fun x=>by simp only[ao];omega)).trans Oj);clear Oj;go_wp2_with fail;go_ret;refine ⟨rfl,?_⟩;first|rw[NR rfl]|rw[NQ Nk]
  exact H4.o
end
section
open Go.RowKit Go.Maps
theorem FK{W W':World}{a:Option Addr}{xs:List Value}(h:ak W a xs)(he:∀x,a=some x->W'.heap[x.block]?=W.heap[x.block]?):ak W' a xs:=fun hp=>by
 obtain⟨g,off,ha,hc⟩:=h hp
 refine⟨g,off,ha,fun j hj=>?_⟩
 rw[<- hc j hj]
 exact World.cell?_of_block (he ⟨g,off,none⟩ ha)
theorem CQ(w:World):(Instr.typeAssert .nilIface 215 173 true).run prog w=.ok (.tuple #[.agg #[.int .u8 0,.string ⟨#[]⟩,.int .i64 0,.int .i64 0,.slice none 0 0],.bool false]) w:=Nc
theorem CO(w:World):(Instr.typeAssert .nilIface 215 286 true).run prog w=.ok (.tuple #[.agg #[.int .u8 0,.string ⟨#[]⟩,.slice none 0 0],.bool false]) w:=Nc
theorem CP(w:World):(Instr.typeAssert .nilIface 215 233 true).run prog w=.ok (.tuple #[.agg #[.int .u8 0,.string ⟨#[]⟩,.string ⟨#[]⟩,.int .i64 0],.bool false]) w:=Nc
theorem wm(a sm:Nat)(w:World):Calls prog 100 #[.pointer (some ⟨a,0,none⟩),.nilIface,.map (some sm)] w (fun e w'=>e=.returned (.bool false)/\aV w w'):=by
 have h1:=CQ w;have h2:=CO w;have h3:=CP w;go_enter func100,ntmps100;go_wp2_with fail;go_ret;exact ⟨rfl,N7.refl _ _⟩
def lB(X:Om)(u s b:Int):Om:={ X with used:=u,sc:=s,sb:=b }
theorem Gk{X:Om}(h:X.used=0/\X.sc=0/\X.sb=0):lB X 0 0 0=X:=by
 cases X
 obtain⟨h1,h2,h3⟩:=h;simp only at h1 h2 h3;subst h1;subst h2;subst h3;rfl
def QK(a:Nat)(X:Om)(ps:List bf)(pc:Nat)(cs:List kx)(cc:Nat)(ts:List fJ)(tc:Nat):HF:=(a,Is (aL X))::(aG X.pm ps pc++(aQ X.cm cs cc++bX X.tm ts tc))
def Ie(a sm:Nat)(D:Bs)(X:Om)(ps:List bf)(pc:Nat)(cs:List kx)(cc:Nat)(ts:List fJ)(tc:Nat)(sz:List (OT Int))(OJ at_:Nat)(s:Rh)(k:UInt8)(body:Bs)(n:Nat)(J:HF)(w:World)(e:Ending)(w':World):Prop :=
 (gE at_ s k body=none/\e=.returned (.bool false)/\Turns (QK a X ps pc cs cc ts tc++((sm,Is (aU dw sz OJ))::J)) (QK a X ps pc cs cc ts tc++((sm,Is (aU dw sz OJ))::J)) w w') \/
 (∃s' u ps' pc' ts' TA,e=.returned (.bool true)/\OE D (jd X u) ps' pc' cs cc ts' TA sz OJ (at_+n) s'/\Turns (QK a X ps pc cs cc ts tc++((sm,Is (aU dw sz OJ))::J)) (QK a (jd X u) ps' pc' cs cc ts' TA++((sm,Is (aU dw sz OJ))::J)) w w')
theorem wl{a sm:Nat}{D:Bs}{X:Om}{ps:List bf}{pc:Nat}{cs:List kx}{cc:Nat}{ts:List fJ}{tc:Nat}{sz:List (OT Int)}{OJ at_:Nat}{s:Rh}{k:UInt8}{body:Bs}{n:Nat}{w:World}(hct:OE D X ps pc cs cc ts tc sz OJ at_ s)(hk1:k≠1)(ho:b5 (D.drop at_)=some (k,body,n))(hat:at_<=810000){r:Sj}(hr:fx k body=some r){v:Value}(Ph:RJ v (mD r))(h:Sat w (QK a X ps pc cs cc ts tc++((sm,Is (aU dw sz OJ))::ck v (mD r)))):
  Calls prog 100 #[.pointer (some ⟨a,0,none⟩),uR r v,.map (some sm)] w (Ie a sm D X ps pc cs cc ts tc sz OJ at_ s k body n (ck v (mD r)) w):=by
 obtain⟨hb1,-,-,-,hb5,hb6,hb7⟩:=hct.bounds hat;obtain⟨-,-,hbl,-⟩:=hct.on ho;have hrg:=kO hr;have hT0:=Turns.refl h
 have hsz:∀p,((ah ps p).map (·.size)).sum<=65535*90000:=fun p=>by
  have h1:=lj (l:=ah ps p) (f:=(·.size)) (m:=65535) (fun V hV=>(hb7 p V hV).2);have h2:=hb5 p;have:65535*(ah ps p).length<=65535*90000:=Nat.mul_le_mul (Nat.le_refl _) h2;omega
 cases r with
 | ver p num m ats =>
  obtain⟨r1,r2,r3,r4,r5⟩:=hrg;have Oj:Turns _ (iY a X ps pc sm sz OJ v ats++(aQ X.cm cs cc++bX X.tm ts tc)) w w:=hT0.to (by unfold QK iY mD;exact ac);refine(BG a X ps pc sm sz OJ v (jP s.K) p num m ats w Oj.sat.left Ph hct.map hct.get hb6 r4 Nb hct.paths Nr (by have:=hb5 p;omega) Nb Nb).mono ?_;rintro e w5 (⟨hno,rfl,Og⟩|⟨N8,b,cv,v',hch,hsm,rfl,hcv,hv',Og⟩)
  ·refine .inl ⟨?_,rfl,(Oj.step (Perm.refl _) Og).to (by unfold QK iY mD;exact ac)⟩;unfold gE;rw[NQ hk1,hr];dsimp only
   cases hc:du (jP s.K) ats with
   | none=>rfl
   | some N8=>dsimp only;rw[NQ (hno N8 hc)]
  ·have h9:=Oj.step (Perm.refl _) Og;refine .inr ⟨_,X.used+m,_,_,ts,tc,rfl,hct.ver hk1 ho hr hch hsm hcv hv',h9.to ?_⟩;show Perm (iY a (jd X (X.used+m)) _ _ sm sz OJ v ats++(aQ X.cm cs cc++bX X.tm ts tc)) (QK a (jd X (X.used+m)) _ _ cs cc ts tc++((sm,Is (aU dw sz OJ))::ck v ats));unfold QK iY jd;exact ac
 | gone p ns =>
  obtain⟨r1,r2⟩:=hrg;have Oj:Turns _ (g8 a X ps pc v ns++((sm,Is (aU dw sz OJ))::(aQ X.cm cs cc++bX X.tm ts tc))) w w:=hT0.to (by unfold QK g8 mD;exact ac);refine(BD a sm X ps pc p v ns w Oj.sat.left Ph hct.paths hct.VF Nr ⟨Nb,Nb,by have:=hsz p;omega,by have:=hb5 p;omega⟩ Nb).mono ?_;rintro e w5 (⟨hno,rfl,Og⟩|⟨hne,rfl,v',hv',Og⟩)
  ·refine .inl ⟨?_,rfl,(Oj.step (Perm.refl _) Og).to (by unfold QK g8 mD;exact ac)⟩;unfold gE;rw[NQ hk1,hr];dsimp only;rw[NQ (fun h=>(hct.has p).1 h hno)]
  ·have h9:=Oj.step (Perm.refl _) Og;refine .inr ⟨_,X.used-(cw ns (ah ps p):Nat),_,pc,ts,tc,rfl,hct.gone hk1 ho hr hne hv',h9.to ?_⟩;show Perm _ (QK a (jd X (X.used-(cw ns (ah ps p):Nat))) _ _ cs cc ts tc++((sm,Is (aU dw sz OJ))::ck v ns));unfold QK g8 jd;exact ac
 | pin q p m num =>
  obtain⟨rfl,r2,r3,r4,r5⟩:=hrg;have Oj:Turns _ (jL a X ps pc ts tc++((sm,Is (aU dw sz OJ))::(aQ X.cm cs cc++ck v []))) w w:=hT0.to (by unfold QK jL mD;exact ac);refine(BE a sm X ps pc ts tc q r2 m p num v w ⟨Oj.sat.left,hct.paths,hct.tags,by unfold Py;omega,by unfold Py;omega,by have:=hb5 p;omega,fun V hV=>by have:=(hb7 p V hV).1;omega⟩).mono ?_;rintro e w5 ⟨rfl,Og⟩;have h9:=Oj.step (Perm.refl _) Og;have hux:jd X X.used=X:=rfl;by_cases hq:q=4
  ·rw[NR hq]at h9;refine .inr ⟨{ s with H:=eZ s.H p num 1,T:=mZ s.T (m,p,num) },X.used,dk ps p num 1,pc,eS ts tc m (mn m (p,(num:Int))) (p,(num:Int)),cy (ts.map aR) tc m,rfl,?_,h9.to ?_⟩
   ·rw[hux];refine hct.tag ho Nb (vo hct.tags Nr (p,(num:Int))) (by rw[Cg,hct.Qy]) (Br _ _) (fun t ht=>?_) ?_
    ·rcases Bt ht with rfl|ht
     ·exact⟨r4,r3,by show(0:Int)<=num;omega,by show(num:Int)<_;omega⟩
     ·exact(hct.cnt trivial).tag t ht
    ·unfold gE;rw[NQ hk1,hr];dsimp only;rw[NR hq]
   ·rw[hux];show Perm _ (QK a X _ _ cs cc _ _++((sm,Is (aU dw sz OJ))::ck v []));unfold QK jL;exact ac
  ·rw[NQ hq]at h9;refine .inr ⟨{ s with H:=eZ s.H p num (-1),T:=Ar s.T m },X.used,dk ps p num (-1),pc,bM ts m,tc,rfl,?_,h9.to ?_⟩
   ·rw[hux];refine hct.tag ho Nb (D8 hct.tags m) (by rw[Cf,hct.Qy]) ?_ (fun t ht=>(hct.cnt trivial).tag t (mem_filter.1 ht).1) ?_
    ·have:(Ar s.T m).length<=s.T.length:=length_filter_le _ _;omega
    ·unfold gE;rw[NQ hk1,hr];dsimp only;rw[NQ hq]
   ·rw[hux];show Perm _ (QK a X _ _ cs cc _ _++((sm,Is (aU dw sz OJ))::ck v []));unfold QK jL;exact ac
def Ev(a:Nat)(X:Om)(D:Bs)(g:Nat)(o:Obj)(w:World)(e:Ending)(w':World):Prop :=
 ∃at_ s u sc sb ps pc cs cc ts tc sz OJ,e=.returned (.int .i64 (at_:Nat))/\OE D (lB X u sc sb) ps pc cs cc ts tc sz OJ at_ s/\pL D at_ s /\
  Turns (QK a X [] 0 [] 0 [] 0++[(g,Is o)]) (QK a (lB X u sc sb) ps pc cs cc ts tc++[(g,Is o)]) w w'
def LO(a:Nat)(X:Om)(D:Bs)(g:Nat)(o:Obj)(sm:Nat)(w:World)(t:Value)(W:World):Prop :=
 ∃at_ s u sc sb ps pc cs cc ts tc sz OJ J,t=.int .i64 (at_:Nat)/\OE D (lB X u sc sb) ps pc cs cc ts tc sz OJ at_ s /\
  Turns (QK a X [] 0 [] 0 [] 0++[(g,Is o)]) (QK a (lB X u sc sb) ps pc cs cc ts tc++((sm,Is (aU dw sz OJ))::(g,Is o)::J)) w W
theorem y7(a:Nat)(X:Om)(D:Bs)(g off cap:Nat)(o:Obj)(w:World)(h:Sat w (QK a X [] 0 [] 0 [] 0++[(g,Is o)]))(hX:X.used=0/\X.sc=0/\X.sb=0)(hD:∀W:World,W.heap[g]?=some o->ak W (some ⟨g,off,none⟩) (D.map am))(hcap:D.length<=cap)(hl:D.length<=1073741824)(hR:∀at_ s,Reach D at_ s->at_<=810000):
  Calls prog 55 #[.pointer (some ⟨a,0,none⟩),.slice (some ⟨g,off,none⟩) D.length cap] w (Ev a X D g o w):=by
 obtain⟨F1,hF1⟩:=Na (QK a X [] 0 [] 0 [] 0++[(g,Is o)]);have HH:=PD h hX hD hR hF1;have hT0:Turns F1 F1 w w:=by rw[hF1];exact Turns.refl h
 have H0:=NZ hT0;clear h hX hD hR hF1 hT0;go_enter func55,ntmps55;go_wp2_with ((refine ai rfl (vr 212 rfl H0.o ?_);intro sm w1 hT1;have H1:=NZ hT1;clear hT1;simp only[Act.put]));go_loopw [5] (fun t wr=>LO a X D g o sm w t wr) (fun t _=>D.length-(intOf t).toNat)
 case atStart =>
  refine⟨0,⟨[],[],[]⟩,0,0,0,[],0,[],0,[],0,[],0,[],rfl,⟨fun _=>.zero,Nat.zero_le _,fun _=>⟨Nat.le_refl _,(fun h hh=>by cases hh),(fun h hh=>by cases hh),(fun h hh=>by cases hh)⟩,⟨⟨nodup_nil,nodup_nil,(fun e he=>by cases he),(fun e he=>by cases he)⟩,(fun p hp=>by cases hp)⟩,⟨⟨nodup_nil,nodup_nil,(fun e he=>by cases he),(fun e he=>by cases he)⟩,(fun p hp=>by cases hp)⟩,⟨⟨nodup_nil,nodup_nil,(fun e he=>by cases he),(fun e he=>by cases he)⟩,(fun p hp=>by cases hp)⟩,fun k=>Perm.refl _,(fun e he=>by cases he),fun l=>rfl,(fun p hp=>by cases hp),(fun e he=>by cases he),rfl,rfl,rfl,⟨nodup_nil,nodup_nil,(fun e he=>by cases he),(fun e he=>by cases he)⟩,fun k=>rfl,rfl⟩,?_⟩;have hx:lB X 0 0 0=X:=Gk HH.b;rw[hx,<- HH.w];exact H1.o.to (by rw[HH.w];show Perm _ (QK a X [] 0 [] 0 [] 0++((sm,Is (.map #[] 0))::(g,Is o)::[]));exact ac)
 case round =>
  obtain⟨at_,s,us,sc,sb,ps,pc,cs,cc,ts,tc,sz,OJ,J,rfl,hct,hT⟩:=hrel;rw[<- HH.w]at hT;have hle:=hct.le;have hgo:=hT.sat.Q7 (b:=g) (o:=o) Nh;have hgl:=ae hgo
  obtain⟨a1,ha1,hc1⟩:∃a1:Option Addr,a1=(if cap=at_ then some ⟨g,off,none⟩else some ⟨g,off+at_,none⟩)/\ak wr a1 ((D.drop at_).map am):=by
   refine⟨_,rfl,?_⟩;by_cases he:cap=at_
   ·rw[NR he,drop_eq_nil_of_le Nb];exact dS _ _
   ·rw[NQ he];exact fY (HH.c wr hgo) at_ hle
  have Zz:∀x,a1=some x->x.block=g:=fun x hx=>by
   rw[ha1]at hx;split at hx<;>(simp only[NY]at hx;subst hx;rfl)
  have HO:=jo a1 (cap-at_) (D.drop at_) wr hc1 Nz Nz;rw[NT]at HO;obtain⟨rd,hrd⟩:=Na (D.length-at_);have hat:=HH.d _ _ (hct.reach trivial);have ZH:=hct.bounds hat;unfold eb at HO;have HHO:=NZ HO;have HR:=PD hct hT Zz hgo ZH;clear hct hT hgo hc1 Zz HO ZH
  cases hop:b5 (D.drop at_)with
  | none =>
   have UQ:=HHO.o;rw[hop]at UQ
   have hfin:∀w':World,aV wr w'->Ev a X D g o w (.returned (.int .i64 at_)) w':=fun w' hs =>
    ⟨at_,s,us,sc,sb,ps,pc,cs,cc,ts,tc,sz,OJ,rfl,HR.a,(fun k b n h=>by rw[hop]at h;cases h),by rw[<- HH.w];exact(HR.b.Q8 hs).drop (fun x=>by simp only[ao,af,cW];omega)⟩
   have HFin:=NZ hfin;clear hfin HHO hop;by_cases he:cap=at_
   ·rw[NR he]at ha1;subst ha1;rw[he,Nat.sub_self,show D.length-at_=0 by omega]at UQ;have HO:=NZ UQ;clear UQ hrd;subst he;go_wp2_with fail;refine HO.o.mono ?_;rintro e w2 ⟨rfl,hs⟩;have HS:=NZ hs;clear hs;go_wp2_with fail;go_ret;exact (by exact HFin.o _ HS.o)
   ·rw[NQ he]at ha1;have he2:¬at_=cap:=fun h=>he h.symm
    subst ha1;have HO:=NZ UQ;clear UQ hrd;go_wp2_with fail;refine HO.o.mono ?_;rintro e w2 ⟨rfl,hs⟩;have HS:=NZ hs;clear hs;go_wp2_with fail;go_ret;exact (by exact HFin.o _ HS.o)
  | some r =>
   obtain⟨k,body,n⟩:=r;have UQ:=HHO.o;rw[hop]at UQ;have HO:=NZ UQ;clear UQ HHO;obtain⟨hk0,hn,hnl,-,hbl⟩:=dD hop;rw[NT]at hnl;have he:¬cap=at_:=Nb
   have he2:¬at_=cap:=Nb
   rw[NQ he]at ha1;subst ha1;go_wp2_with fail;refine HO.o.mono ?_;rintro e w2 ⟨a2,rfl,hb2,ha2,hs2⟩
   have hg2:∀x,a2=some x->x.block=g:=fun x hx=>by
    obtain⟨y,hy,hxy⟩:=ha2 x hx;rw[hxy];exact HR.c y hy
   have hT2:=HR.b.Q8 hs2;have HX:=PD hb2 hg2 hT2 hop hbl;have hk0n:¬((k.toNat:Int)=0):=xR Nk hk0;clear hb2 ha2 hs2 hg2 hT2 hop hk0;have hsum:IntKind.i64.wrap ((at_:Int)+n)=((at_+n:Nat):Int):=by rw[IntWalk.i64_in _ Nb];omega
   have hg2l:g<w2.heap.size:=ae (HX.c.sat.Q7 (b:=g) (o:=o) Nh);by_cases hk:k=1
   ·subst hk;have hk1:(((1:UInt8).toNat:Nat):Int)=1:=rfl;rw[hk1];go_wp2_with ((refine ai rfl (lJ Du (.tmp 24) (.tmp 25) (.tmp 27) rfl underlying212 sm sz OJ (HX.c.to (H:=(sm,Is (aU dw sz OJ))::(QK a (lB X us sc sb) ps pc cs cc ts tc++((g,Is o)::J))) ac) HR.a.map (at_:Int) (.int .i64 body.length) rfl rfl rfl ⟨Nb,Nb⟩ ?_);intro w3 Oa;have HT3:=NZ Oa;clear Oa;simp only[Act.put]))
    have hb3:ak w3 a2 (body.map am):=FK HX.a (fun x hx=>by
     rw[HX.b x hx,HT3.o.sat.Q7 (b:=g) (o:=o) Nh,HX.c.sat.Q7 (b:=g) (o:=o) Nh])
    have Xb:Turns F1 (((a,Is (.cells (bm (lB X us sc sb)) 128 (0,0)))::aQ X.cm cs cc)++((sm,Is (aU dw (gJ sz OJ (at_:Int) (.int .i64 body.length)) (cy sz OJ (at_:Int))))::(aG X.pm ps pc++(bX X.tm ts tc++((g,Is o)::J))))) w w3:=HT3.o.to (by unfold QK aL lB;exact ac);obtain⟨hb1,hb2',ZB,hb4,-,-,-⟩:=HR.w;have HK:=NZ (pu a X.pm X.tm X.cm cc sc sb us cs body a2 body.length (at_,body.length) (bm (lB X us sc sb)) 128 w3 Xb.sat.left ⟨rfl,rfl,rfl,rfl,rfl,rfl⟩ HR.a.chunks hb3 (by have:=hb4 (be (dz 1 body) 4);omega) Nb (by have h:0<=sc/\sc<=90000:=hb2';omega) (by have h:0<=sb/\sb<=65535*90000:=ZB;omega));have HTk:=NZ Xb;clear hb3 Xb hb1 hb2' ZB hb4;refine HK.o.mono ?_;rintro e w4 ⟨v4,rfl,hv4,Oj⟩;have Og:=HTk.o.step (Perm.refl _) Oj;have QX:=Ob hv4 Og;clear hv4 Oj Og;go_wp2_with fail;go_roundw
    case rel =>
     refine⟨at_+n,{ s with K:=s.K++[(body,at_,body.length)] },us,sc+1,sb+body.length,ps,pc,eS cs cc (ed body) v4 (bd cs (ed body)++[(at_,body.length)]),cy (cs.map aR) cc (ed body),ts,tc,gJ sz OJ (at_:Int) (.int .i64 body.length),cy sz OJ (at_:Int),J,by go_num,OE.chunk HR.a HX.d Nb QX.a,?_⟩;rw[<- HH.w];have h9:=QX.z;change Turns F1 (((a,Is (aL (lB X us (sc+1) (sb+body.length))))::aQ X.cm (eS cs cc (ed body) v4 (bd cs (ed body)++[(at_,body.length)])) (cy (cs.map aR) cc (ed body)))++_) w w4 at h9;exact h9.to (by unfold QK lB;exact ac)
    case measure=>simp[intOf];omega
   ·have hk1:¬((k.toNat:Int)=1):=xR Nk hk;have HRd:=NZ (wk k a2 body.length body w2 HX.a (Nat.le_refl _) (fun x hx=>by rw[HX.b x hx];exact hg2l) Nb);go_wp2_with fail;refine HRd.o.mono ?_;intro e w3 hp;unfold cO at hp
    cases hr:fx k body with
    | none =>
     rw[hr]at hp;obtain⟨rfl,hs3⟩:=hp;have Y6:=Ob hs3 hr;clear hs3 hr;go_wp2_with fail;refine(wm a sm w3).mono ?_;rintro e w4 ⟨rfl,hs4⟩;have HS4:=NZ hs4;clear hs4;go_wp2_with fail;go_ret;refine⟨at_,s,us,sc,sb,ps,pc,cs,cc,ts,tc,sz,OJ,rfl,HR.a,fun k' b' n' h=>?_,by rw[<- HH.w];exact((HX.c.Q8 Y6.a).Q8 HS4.o).drop (fun x=>by simp only[ao,af,cW];omega)⟩;rw[HX.d]at h;simp only[NY,Prod.mk.injEq]at h;obtain⟨rfl,rfl,rfl⟩:=h;unfold gE;rw[NQ hk,Y6.z]
    | some r =>
     rw[hr]at hp;obtain⟨v,rfl,Ph,Oa⟩:=hp;have Oj:Turns F1 ((QK a (lB X us sc sb) ps pc cs cc ts tc++((sm,Is (aU dw sz OJ))::ck v (mD r)))++((g,Is o)::J)) w w3:=(HX.c.Qb Oa).to ac;have HRv:=NZ (wl HR.a hk HX.d hat hr Ph Oj.sat.left);have H4:=NZ Oj;clear Ph Oa Oj hr;obtain⟨R2,hR2⟩:=Na (ck v (mD r));rw[<- hR2]at HRv H4;clear hR2
     cases r
     all_goals
      unfold uR at HRv;unfold uR;go_wp2_with fail;refine HRv.o.mono ?_;rintro e w5 (⟨hno,rfl,Og⟩|⟨s',u,ps',pc',ts',TA,rfl,ZO,Og⟩)
      ·have H5:=Ob hno (H4.o.step (Perm.refl _) Og);clear hno Og;go_wp2_with fail;go_ret;refine⟨at_,s,us,sc,sb,ps,pc,cs,cc,ts,tc,sz,OJ,rfl,HR.a,fun k' b' n' h=>?_,by rw[<- HH.w];exact H5.z.drop (fun x=>by simp only[ao,af,cW];omega)⟩;rw[HX.d]at h;simp only[NY,Prod.mk.injEq]at h;obtain⟨rfl,rfl,rfl⟩:=h;exact H5.a
      ·have H5:=Ob ZO (H4.o.step (Perm.refl _) Og);clear ZO Og;go_wp2_with fail;go_roundw
       case rel =>
        refine⟨at_+n,s',u,sc,sb,ps',pc',cs,cc,ts',TA,sz,OJ,R2++J,by go_num,(by exact H5.a),?_⟩;rw[<- HH.w];have h9:=H5.z;change Turns F1 ((QK a (lB X u sc sb) ps' pc' cs cc ts' TA++((sm,Is (aU dw sz OJ))::R2))++((g,Is o)::J)) w w5 at h9;refine h9.to ?_;exact ac
       case measure=>simp[intOf];omega
end
section
open Go.RowKit
theorem Gr{l s x:Bs}{a:Nat}(h:a<=l.length):ba (ba l a s) (a+s.length) x=ba l a (s++x):=by
 have h1:(l.take a++s).length=a+s.length:=by rw[NM,NS];omega
 have e0:ba l a s=(l.take a++s)++l.drop (a+s.length):=rfl;have e1:(ba l a s).take (a+s.length)=l.take a++s:=by rw[e0];exact take_left' h1
 have e2:(ba l a s).drop (a+s.length+x.length)=l.drop (a+(s.length+x.length)):=by
  have h2:(ba l a s).drop (a+s.length)=l.drop (a+s.length):=by rw[e0];exact drop_left' h1
  rw[<- drop_drop,h2,drop_drop,Nat.add_assoc]
 show(ba l a s).take (a+s.length)++x++(ba l a s).drop (a+s.length+x.length)=l.take a++(s++x)++l.drop (a+(s++x).length);rw[e1,e2,NM,NV (l.take a)]
def kb(t:Bs):Nat->Bs
 | 0=>[]
 | m+1=>kb t m++(if m=0 then t else an 128)
theorem kY{t:Bs}(ht:t.length=128):∀m,(kb t m).length=128*m
 | 0=>rfl
 | m+1=>by
  rw[kb,NM,kY ht m]
  split
  ·omega
  ·simp[an];omega
theorem wW{t:Bs}(ht:t.length=128):∀m,kb t (m+1)=t++an (128*m)
 | 0=>by simp[kb,an]
 | m+1=>by
  rw[kb,wW ht m,NQ Nb,NV,my]
  congr 2
theorem uc{l t:Bs}{first q:Nat}(ht:t.length=128)(h:128*(first+q)<=l.length):∀m,gc l first q t m=ba l (128*(first+q)) (kb t m)
 | 0=>by simp[gc,kb,ba]
 | m+1=>by
  rw[gc,uc ht h m,kb]
  have:=Gr (l:=l) (s:=kb t m) (x:=if m=0 then t else an 128) h
  rw[kY ht,<- Nat.mul_add]at this
  exact this
theorem ud{l ws:Bs}{first count end_:Nat}(hl:128*(first+count)<=l.length)(hw:(aB l first count).take end_=ws.take end_)(hwl:ws.length=128*count)(he:end_<=128*count):
  eD (gc l first (end_ / 128) ((ws.take end_).drop (128*(end_ / 128))++an (128-end_%128)) (count-end_ / 128)) first count (ws.take end_) /\
  ∀f2 c2,(f2+c2<=first\/first+count<=f2)->aB (gc l first (end_ / 128) ((ws.take end_).drop (128*(end_ / 128))++an (128-end_%128)) (count-end_ / 128)) f2 c2=aB l f2 c2:=by
 have hdl:(ws.take end_).length=end_:=by rw[NS];omega
 obtain⟨t,ht⟩:=Na ((ws.take end_).drop (128*(end_ / 128))++an (128-end_%128));have htl:t.length=128:=by rw[ht,NM,NT,hdl,ap];omega
 rw[<- ht,uc htl Nb];have hrl:=kY htl (count-end_ / 128);have Yh:(aB l first count).length=128*count:=by unfold aB;rw[NS,NT];omega
 refine⟨⟨?_,by rw[hdl];exact he⟩,fun f2 c2 hd=>kg Nb Nb hd⟩;rw[qo Nb Nb,hdl];rcases Nat.lt_or_ge (end_ / 128) count with hlt|hge
 ·obtain⟨m,hm⟩:∃m,count-end_ / 128=m+1:=⟨count-end_ / 128-1,Nb⟩;rw[hm,wW htl];unfold ba
  have e1:(aB l first count).take (128*(end_ / 128))=(ws.take end_).take (128*(end_ / 128)):=by
   rw[<- hw,take_take,Nat.min_eq_left Nb]
  rw[e1,ht,NV ((ws.take end_).drop _),my,<- NV,take_append_drop,drop_of_length_le (by rw[Yh];simp only[NM,NT,hdl,ap];omega),append_nil];congr 2;omega
 ·have h0:count-end_ / 128=0:=Nb
  have he2:end_=128*count:=Nb
  rw[h0];simp only[kb,ba,append_nil,length_nil,Nat.add_zero,take_append_drop];rw[<- hw,take_of_length_le Nb,he2];simp[an]
end
section
open Go.RowKit Go.Maps
theorem K8{F G:HF}{A W:World}{v:Value}{D:Bs}(h:Turns F (aJ v D++G) A W)(hok:PE v D)(hne:D≠[]):∃g cap o,v=.slice (some ⟨g,0,none⟩) D.length cap/\D.length<=cap/\cap<=9223372036854775807/\Turns F ((g,Is o)::G) A W/\(∀W':World,W'.heap[g]?=some o->ak W' (some ⟨g,0,none⟩) (D.map am)):=by
 have hown:=dh h.sat.left hok;rcases hown.2 with⟨-,h0⟩|⟨g,cap,cur,rfl,-,hg,h1,h2,h3,h4⟩
 ·exact absurd (eq_nil_of_length_eq_zero h0) hne
 ·refine⟨g,cap,.cells cur 5 (0,0),rfl,h1,by unfold maxLen at h2;omega,?_,fun W' hW hp=>⟨g,0,rfl,fun j hj=>?_⟩⟩
  ·have e:aJ (.slice (some ⟨g,0,none⟩) D.length cap) D++G=(g,_)::G:=rfl;rw[e]at h;exact h.put (N7.refl _ _) hg Is.rfl
  ·rw[Nat.zero_add];refine aa hW j ?_;rw[<- Array.getElem?_toList];have hj2:j<D.length:=by simpa using hj
   have e1:(cur.toList.take (D.length*1))[j]?=cur.toList[j]?:=by rw[getElem?_take,NR Nb]
   rw[<- e1,h4];exact getElem?_eq_getElem hj
def lC(pm tm cm d ab e:Nat)(q:Int):Om:=⟨pm,tm,cm,0,0,0,d,ab,e,fO q,false,.nilIface⟩
def mC(L:Ol)(e ch:Nat):Oq:=⟨2+e%2*au L.n,au L.n,0,an 128,ch,[]⟩
structure Po (d:Nat) (L:Ol) (q:Int) (e:Nat) (D:Bs) (S:AS):Prop where
 ct:∃at_ s sz OJ,OE D S.X S.ps S.pc S.cs S.cc S.ts S.tc sz OJ at_ s/\pL D at_ s/\S.data=D.take at_/\s.K=S.K
 X:∃us sc sb,S.X=lB (lC S.X.pm S.X.tm S.X.cm d S.X.ab e q) us sc sb
 A:S.A.first=2+e%2*au L.n/\S.A.count=au L.n/\S.A.end_=S.data.length/\S.A.tail=bK S.data/\S.A.spare=[]
 dev:Ou S.L/\S.L.n=L.n/\S.L.safe=S.L.now/\S.L.N8=[]
 dat:eD S.L.now S.A.first S.A.count S.data
 other:∀f2 c2,(f2+c2<=S.A.first\/S.A.first+S.A.count<=f2)->aB S.L.now f2 c2=aB L.now f2 c2
def Fh(d:Nat)(L:Ol)(q:Int)(e:Nat)(w:World)(ev:Ending)(w':World):Prop :=
 ∃S,ev=.returned (.tuple #[.pointer (some ⟨S.a,0,none⟩),.nilIface])/\Po d L q e (aB L.now (2+e%2*au L.n) (au L.n)) S/\Turns (aA d L) (N9 S) w w'
def Fq(L:Ol)(u:Nat×Nat):Prop:=∃at_ s,Reach (aB L.now (2+u.1%2*au L.n) (au L.n)) at_ s/\pL (aB L.now (2+u.1%2*au L.n) (au L.n)) at_ s/\at_<u.2
def qR(d:Nat)(L:Ol)(q:Int)(l:List (Nat×Nat))(w:World)(ev:Ending)(w':World):Prop :=
 (∃pre e wh rest S,l=pre++(e,wh)::rest/\(∀u∈pre,Fq L u)/\wh<=S.data.length/\ev=.returned (.tuple #[.pointer (some ⟨S.a,0,none⟩),.nilIface])/\Po d L q e (aB L.now (2+e%2*au L.n) (au L.n)) S/\Turns (aA d L) (N9 S) w w') \/
 ((∀u∈l,Fq L u)/\ev=.returned (.tuple #[.pointer none,cr 10])/\Turns (aA d L) (aA d L) w w')
theorem GZ(us:Nat->Option (Nat×Nat)):(fy (iL us 2)).length<=2:=by
 have h:=pC us 2;match h2:iL us 2,h with
 | [],_=>simp[fy]
 | [u],_=>simp[fy]
 | [u,v],_=>unfold fy;simp only;split<;>simp
def Mp(d:Nat)(L:Ol)(l:List (Nat×Nat))(U:HF)(w:World)(i:Value)(W:World):Prop :=
 ∃j:Nat,j<=l.length/\i=.int .i64 j/\(∀u∈l.take j,Fq L u)/\Turns (aA d L) (U++aA d L) w W
theorem zA(d:Nat)(L:Ol)(us:Nat->Option (Nat×Nat))(l:List (Nat×Nat))(q:Int)(w:World)(h:Sat w (aA d L))(hL:Ou L)(hn:16<=L.n)(hn2:L.n<=8388608)(hch:L.N8.length<=137438953472)(hU:∀k,k<2->oe L.now us k)(hus:fy (iL us 2)=l)(hz:cD L.now 2=false)(hlb:∀u∈l,u.1<4294967296/\u.2<4294967296)(hR:∀pre u rest,l=pre++u::rest->(∀x∈pre,Fq L x)->∀at_ s,Reach (aB L.now (2+u.1%2*au L.n) (au L.n)) at_ s->at_<=810000):
  Calls prog 22 #[.pointer (some ⟨d,0,none⟩),.int .i64 q] w (qR d L q l w):=by
 have HSc:=NZ (jg d L w h);have HUs:=NZ (fun W (hW:aV w W)=>Ed d L us W (h.same hW) hL hn hU);have HH:=Ry h hL hch hR hlb hus hz;clear h hL hch hU hus hR hlb hz;go_enter func22,ntmps22;go_wp2_with fail;refine HSc.o.mono ?_;rintro ev w1 ⟨rfl,rfl⟩;go_wp2_with fail;refine(HUs.o _ (N7.refl _ _)).mono ?_;rintro ev w2 ⟨v2,rfl,hu2,hT2⟩;rw[HH.u];rw[HH.f]at hu2 hT2
 have hlen:l.length<=2:=by
  rw[<- HH.f];exact GZ _
 obtain⟨sl,cap,rfl,hcap,hcap2,-,-⟩:=bb hT2.sat hu2 Nk;obtain⟨m,hm⟩:=Na l.length;obtain⟨U,hU⟩:=Na (fN (.slice sl l.length cap) l);have hTd:Turns (aA d L) (U++aA d L) w w2:=by rw[hU];exact Turns.Qb (Turns.refl HH.a) hT2
 have H2:=OW hTd hu2 hm hU;rw[<- hm]at hcap hlen ⊢;clear hu2 hT2 hTd hm hU;go_wp2_with fail;go_loopw [37] (fun i wr=>Mp d L l U w i wr) (fun i _=>2-(intOf i).toNat)
 case atStart=>exact⟨0,Nb,rfl,fun u hu=>by simp at hu,H2.a⟩
 case round =>
  obtain⟨j,hj,rfl,hpre,hTj⟩:=hrel;by_cases hjm:j<m
  ·obtain⟨e,wh,rest,hle⟩:∃e wh rest,l=l.take j++(e,wh)::rest:=by
    refine⟨(l[j]'(by rw[<- H2.c];exact hjm)).1,(l[j]'(by rw[<- H2.c];exact hjm)).2,l.drop (j+1),?_⟩;rw[<- drop_eq_getElem_cons,take_append_drop]
   have heb:=HH.e (e,wh) (by rw[hle];simp);have he:e<4294967296:=heb.1;have hwl:wh<4294967296:=heb.2;obtain⟨sl',cap',hsl,-,-,hcells,-⟩:=bb (show Sat wr (fN (.slice sl l.length cap) l) by rw[<- H2.x];exact hTj.sat.left) H2.b Nk;simp only[Value.slice.injEq,true_and]at hsl;obtain⟨rfl,rfl⟩:=hsl;obtain⟨gu,qaz,hgu,UY⟩:=hcells (by rw[nm,<- H2.c];omega);subst hgu
   have hfl:l.flatMap nX=(l.take j).flatMap nX++(.int .u32 e :: .int .u32 wh::rest.flatMap nX):=by
    conv=>lhs;rw[hle]
    rw[flatMap_append,flatMap_cons];rfl
   have hfj:((l.take j).flatMap nX).length=j*2:=by rw[nm,NS];omega
   have c0:wr.cell? ⟨gu,qaz+j*2,none⟩=some (.int .u32 e):=by
    have:=UY (j*2) (by rw[nm,<- H2.c];omega);rw[this];simp[hfl,hfj]
   have c1:wr.cell? ⟨gu,qaz+j*2+1,none⟩=some (.int .u32 wh):=by
    have:=UY (j*2+1) (by rw[nm,<- H2.c];omega);rw[Nat.add_assoc,this];simp[hfl,hfj]
   obtain⟨D,hD⟩:=Na (aB L.now (2+e%2*au L.n) (au L.n))
   have hfit:2+e%2*au L.n+au L.n<=L.n:=by
    unfold au;rcases Nat.mod_two_eq_zero_or_one e with h|h<;>rw[h]<;>omega
   have hDl:D.length=128*au L.n:=by rw[hD];exact fC HH.b.OU hfit
   have hh7:7<=au L.n/\au L.n<=L.n:=by unfold au;omega
   have HRD:=NZ (HH.d (l.take j) (e,wh) rest hle hpre);have HD:=OW hD hDl hfit hh7;have HJ:=Oz hle hpre hTj;clear hD hDl hfit hh7 hle hpre hcells UY hfl hfj heb hTj hj;go_upto_region 11 with(fail);obtain⟨u,hu⟩:=Na wr.heap.size;rw[<- hu];have hT0:Turns (aA d L) ((u,Is (iq e wh))::(U++aA d L)) w (wr.alloc (.cells #[.int .u32 e,.int .u32 wh] 118)):=by rw[hu];exact HJ.y.Q9 (iq e wh)
   have HK:=NZ hT0;clear hT0 hu;refine cH [([1,2,3,4,6,7,8,9],0,[1,2,3,4,6,7,8,9]),([],5,[1,6,7,8,9]),([10],11,[])] [12] HM.o Nc fun W tW=>?_
   simp only[Mix,map_cons,map_nil,nth,QG,QF];have hT0:=tW HK.o;clear tW;have u0:∀{W:World} {F:HF},Sat W F->(u,Is (iq e wh))∈F->W.cell? ⟨u,0,none⟩=some (.int .u32 e):=fun hs hm=>aa (hs.Q7 hm) 0 rfl
   have k0:=u0 hT0.sat Nh;iterate 7 still_step
   refine cq rfl (v:=.int .i64 (fO q)) Nc ?_;simp only[Act.put,QA,QB,QC];refine wpStill_nil (aO Nc (ja W) ?_);rintro ev W1 ⟨pm,tm,cm,rfl,hT1⟩;have hT1:=Turns.Qb hT0 hT1;refine⟨_,rfl,by(have c1:=u0 hT1.sat Nh;(iterate 7 still_step);exact cq rfl (v:=.int .i64 (fO q)) Nc rfl),wpStill_nil (aO Nc (pr d L e W1 (hT1.sat.sub bR) Nb Nb he) ?_)⟩;rintro ev W2 ⟨ab,ch,rfl,hT2⟩;have hT2:=Turns.Qb hT1 hT2;refine⟨_,rfl,by(have c1:=u0 hT2.sat Nh;(iterate 4 still_step);exact cq rfl (v:=.int .i64 (fO q)) Nc rfl),?_⟩;simp only[Act.put,QA,QB,QC];refine cq rfl (v:=.agg (bm (lC pm tm cm d ab e q))) Nc ?_;simp only[Act.put,QA,QB,QC];refine wpStill_nil (je (aL (lC pm tm cm d ab e q)) (fun g=>.pointer (some ⟨g,0,none⟩)) Nc hT2 fun g w3 Oa=>⟨rfl,?_⟩);simp only[Act.put,QA,QB,QC];repeat still_step
   refine wpStill_nil ?_;have Oa:Turns (aA d L) ((g,Is (aL (lC pm tm cm d ab e q)))::(aq ab d (mC L e ch)++([(cm,Is (.map #[] 0)),(tm,Is (.map #[] 0)),(pm,Is (.map #[] 0))]++((u,Is (iq e wh))::(U++aA d L))))) w w3:=Oa;clear hT0 hT1 hT2 u0 k0 HK;have g7:w3.cell? ⟨g,7,none⟩=some (.pointer (some ⟨ab,0,none⟩)):=aa Oa.sat.Q5 7 rfl;have hgl:=ae Oa.sat.Q5;have U3:=NZ (qO ab d (mC L e ch) L w3 (Oa.sat.sub (fun _=>by simp only[ao,af,cW]<;>omega)) HH.b HD.c Nb);have H3:=NZ Oa;clear Oa;go_wp2_with fail;refine U3.o.mono ?_;rintro ev w4 ⟨v,rfl,hok,Oj⟩;change PE v (aB L.now (2+e%2*au L.n) (au L.n))at hok;change Turns [] (aJ v (aB L.now (2+e%2*au L.n) (au L.n))) w3 w4 at Oj;rw[<- HD.a]at hok Oj;obtain⟨gD,capD,o,rfl,hcD,hcD2,Og,hcell⟩:=K8 (Turns.Qb H3.o Oj) hok (fun h=>by have:=HD.b;rw[h]at this;simp at this;have:=HD.x;omega)
   have VI:Turns (aA d L) ((QK g (lC pm tm cm d ab e q) [] 0 [] 0 [] 0++[(gD,Is o)])++(aq ab d (mC L e ch)++((u,Is (iq e wh))::(U++aA d L)))) w w4:=Og.to (by
    show Perm _ ((((g,Is (aL (lC pm tm cm d ab e q)))::([(pm,Is (.map #[] 0))]++([(cm,Is (.map #[] 0))]++[(tm,Is (.map #[] 0))])))++[(gD,Is o)])++(aq ab d (mC L e ch)++((u,Is (iq e wh))::(U++aA d L))));exact ac)
   have HRp:=NZ (y7 g (lC pm tm cm d ab e q) D gD 0 capD o w4 VI.sat.left ⟨rfl,rfl,rfl⟩ hcell hcD (by have:=HD.b;have:=HD.x;omega) (by rw[HD.a];exact HRD.o));have h4g:w4.cell? ⟨g,7,none⟩=some (.pointer (some ⟨ab,0,none⟩)):=aa (VI.sat.Q7 (b:=g) (o:=aL (lC pm tm cm d ab e q)) (by simp[QK])) 7 rfl;have H5:=OW VI hcell hcD hcD2;clear hok Oj Og hcell VI g7;go_wp2_with fail;refine HRp.o.mono ?_;rintro ev w5 ⟨at_,s,us',sc,sb,ps,pc,cs,cc,ts,tc,sz,OJ,rfl,hct,href,hTr⟩;have Ox:=H5.a.step (Perm.refl _) hTr;have hle:=hct.le;have hu6:=Ox.sat.Q7 (b:=u) (o:=iq e wh) Nh;have u1:w5.cell? ⟨u,1,none⟩=some (.int .u32 wh):=aa hu6 1 rfl;have Wy:=ae hu6;have g5:w5.cell? ⟨g,7,none⟩=some (.pointer (some ⟨ab,0,none⟩)):=aa (Ox.sat.Q7 (b:=g) (o:=aL (lB (lC pm tm cm d ab e q) us' sc sb)) (by simp[QK])) 7 rfl;have hgl5:g<w5.heap.size:=Ox.sat.lt (by simp[QK]);have hDl:=HD.b
   have hcut:=qP ab d (mC L e ch) L at_ (some ⟨gD,0,none⟩) capD D w5 (Ox.sat.sub (fun _=>by simp only[ao,af,cW]<;>omega)) HH.b HD.c Nb ⟨ap _,by simp[mC],fun _ h=>by simp[mC]at h⟩ (H5.b w5 (Ox.sat.Q7 (b:=gD) (o:=o) Nh))
    (fun x hx hin=>by
     simp only[NY]at hx;subst hx;have h1:Sat w5 ((gD,Is o)::(aq ab d (mC L e ch)++aA d L)):=Ox.sat.sub (fun _=>by simp only[ao,af,cW]<;>omega);exact h1.notMem hin) hDl H5.c H5.x (by show 0<au L.n;have:=HD.x;omega) (by show at_<=128*au L.n;omega) HH.c
    (fun m hm hx=>by
     rw[HD.a]at hx;rw[mg (by exact hm)]at hx;rw[HD.a];exact hx)
   have HC:=NZ hcut;have H6:=Oz hct href Ox;clear hct href hTr Ox hcut hu6 hDl;by_cases hlt:(at_:Int)<(wh:Int)
   ·go_wp2_with fail;go_roundw
    case rel =>
     refine⟨j+1,by rw[<- H2.c];omega,by go_num,fun x hx=>?_,H6.y.drop (fun x=>by simp only[ao,af,cW];omega)⟩
     have hx2:x∈l.take j\/x=(e,wh):=by
      have hjl:j<l.length:=by rw[<- H2.c];omega
      rw[QH hjl]at hx
      have e1:l[j]=(e,wh):=by
       have h1:l[j]?=some (e,wh):=by rw[HJ.a,getElem?_append_right Ny];simp[Nat.min_eq_left (Nat.le_of_lt hjl)]
       rw[getElem?_eq_getElem hjl]at h1;exact Option.some.inj h1
      rw[e1]at hx;simpa using hx
     rcases hx2 with hx2|rfl
     ·exact HJ.b x hx2
     ·exact⟨at_,s,by rw[<- HD.a];exact H6.a.reach trivial,by rw[<- HD.a];exact H6.b,Nb⟩
    case measure=>simp[intOf];omega
   ·go_wp2_with fail;refine HC.o.mono ?_;rintro ev w6 ⟨rfl,L',OH,hL',hn',PK,hsafe',hch'⟩;have OX:=H6.y.step (F:=aq ab d (mC L e ch)++aA d L) (R:=QK g (lB (lC pm tm cm d ab e q) us' sc sb) ps pc cs cc ts tc++((gD,Is o)::((u,Is (iq e wh))::U))) ac OH;have H8:=RV OX hL' hn' PK hsafe' hch';clear OH OX hL' hn' PK hsafe' hch';go_wp2_with fail;have hDl:=HD.b;have hdl:(D.take at_).length=at_:=by rw[NS];omega
    have htl:(D.take at_).drop (128*(at_ / 128))++an (128-at_%128)=bK (D.take at_):=by unfold bK dx;rw[hdl]
    obtain⟨S,hS⟩:=Na ({ a:=g,X:=lB (lC pm tm cm d ab e q) us' sc sb,A:={ mC L e ch with end_:=at_,tail:=(D.take at_).drop (128*(at_ / 128))++an (128-at_%128) },L:=L',ps:=ps,pc:=pc,cs:=cs,cc:=cc,ts:=ts,tc:=tc,data:=D.take at_,K:=s.K }:AS);have hcd:=ud (l:=L.now) (ws:=D) (first:=2+e%2*au L.n) (count:=au L.n) (end_:=at_) (by rw[HH.b.OU];have:=HD.c;omega) (by rw[<- HD.a]) hDl Nb
    have hfin:qR d L q l w (.returned (.tuple #[.pointer (some ⟨g,0,none⟩),.nilIface])) w6:=by
     refine .inl ⟨l.take j,e,wh,rest,S,HJ.a,HJ.b,by rw[hS];show wh<=(D.take at_).length;omega,by rw[hS],?_,?_⟩
     ·rw[<- HD.a];refine⟨⟨at_,s,sz,OJ,by rw[hS];exact H6.a,H6.b,by rw[hS],by rw[hS]⟩,⟨us',sc,sb,by rw[hS];rfl⟩,?_,by rw[hS];exact⟨H8.b,H8.c,H8.e,H8.v⟩,?_,fun f2 c2 hf=>?_⟩
      ·rw[hS];exact⟨rfl,rfl,hdl.symm,htl,rfl⟩
      ·rw[hS];show eD L'.now (2+e%2*au L.n) (au L.n) (D.take at_);rw[H8.d];exact hcd.1
      ·rw[hS]at hf ⊢;show aB L'.now f2 c2=_;rw[H8.d];exact hcd.2 f2 c2 hf
     ·rw[hS];refine H8.a.drop (fun x=>?_);show cnt x ((g,Is (aL (lB (lC pm tm cm d ab e q) us' sc sb)))::(aq ab d { mC L e ch with end_:=at_,tail:=(D.take at_).drop (128*(at_ / 128))++an (128-at_%128) }++(aA d L'++(aG pm ps pc++(bX tm ts tc++aQ cm cs cc)))))<=_;unfold QK;show _<=cnt x ((aq ab d { mC L e ch with end_:=at_,tail:=(D.take at_).drop (128*(at_ / 128))++an (128-at_%128) }++aA d L')++(((g,Is (aL (lB (lC pm tm cm d ab e q) us' sc sb)))::(aG pm ps pc++(aQ cm cs cc++bX tm ts tc)))++((gD,Is o)::((u,Is (iq e wh))::U))));simp only[ao,af];omega
    go_ret2;exact (by exact hfin)
  ·obtain rfl:j=m:=by have:=H2.c;omega
   have HF0:qR d L q l w (.returned (.tuple #[.pointer none,cr 10])) wr:=.inr ⟨fun x hx=>hpre x (by rw[H2.c,take_length];exact hx),rfl,hTj.drop (fun x=>by simp only[af];omega)⟩;have XD:=NZ HF0;clear HF0 hpre hTj;go_wp2_with fail;go_ret2;exact (by exact XD.o)
theorem Eb{now:Bs}{us:Nat->Option (Nat×Nat)}(hU:∀k,k<2->oe now us k):∀u∈fy (iL us 2),u.1<4294967296/\u.2<4294967296:=by
 have h1:∀u∈iL us 2,u.1<4294967296/\u.2<4294967296:=fun u hu=>by
  unfold iL at hu;obtain⟨k,hk,e⟩:=mem_filterMap.1 hu;rcases hU k (mem_range.1 hk)with⟨h,-⟩|⟨e2,wh2,h,-,-,h4,h5⟩
  ·rw[h]at e;cases e
  ·rw[h]at e;cases e;exact⟨h4,h5⟩
 intro u hu;refine h1 u ?_;unfold fy at hu;split at hu
 ·rename_i a b he;rw[he];split at hu<;>(simp at hu ⊢;rcases hu with h|h<;>simp[h])
 ·exact hu
theorem Ht(d:Nat)(L:Ol)(us:Nat->Option (Nat×Nat))(e wh:Nat)(q:Int)(w:World)(h:Sat w (aA d L))(hL:Ou L)(hn:16<=L.n)(hn2:L.n<=8388608)(hch:L.N8.length<=137438953472)(hU:∀k,k<2->oe L.now us k){rest:List (Nat×Nat)}(hus:fy (iL us 2)=(e,wh)::rest)(hz:cD L.now 2=false)(hR:∀at_ s,Reach (aB L.now (2+e%2*au L.n) (au L.n)) at_ s->at_<=810000)(hwh:∀at_ s,Reach (aB L.now (2+e%2*au L.n) (au L.n)) at_ s->pL (aB L.now (2+e%2*au L.n) (au L.n)) at_ s->wh<=at_):
  Calls prog 22 #[.pointer (some ⟨d,0,none⟩),.int .i64 q] w (Fh d L q e w):=by
 have hno:¬Fq L (e,wh):=fun⟨at_,s,h1,h2,h3⟩=>by
  have:=hwh at_ s h1 h2;simp only at h3;omega
 have hfirst:∀{pre u rest'},(e,wh)::rest=pre++u::rest'->(∀x∈pre,Fq L x)->pre=[]/\u=(e,wh):=fun {pre u rest'} h1 h2=>by
  cases pre with
  | nil=>simp only[nil_append,List.cons.injEq]at h1;exact⟨rfl,h1.1.symm⟩
  | cons a r =>
   simp only[cons_append,List.cons.injEq]at h1;exact absurd (h2 a Nh) (by rw[<- h1.1];exact hno)
 refine(zA d L us _ q w h hL hn hn2 hch hU hus hz (fun u hu=>Eb hU u (by rw[hus];exact hu)) (fun pre u rest' h1 h2 at_ s h3=>?_)).mono ?_
 ·obtain⟨-,rfl⟩:=hfirst h1 h2;exact hR at_ s h3
 ·rintro ev w' (⟨pre,e2,wh2,rest2,S,h1,h2,-,h4,h5,h6⟩|⟨h1,-⟩)
  ·obtain⟨-,h7⟩:=hfirst h1 h2
   cases h7
   exact⟨S,h4,h5,h6⟩
  ·exact absurd (h1 _ Nh) hno
end
section
open Go.RowKit
def Ic(s:ByteArray)(w:World)(B:Bool)(v i:Value)(wr:World):Prop :=
 ∃k m x:Nat,k<=s.size/\v=.int .u8 x/\i=.int .i64 k/\(x=47↔m=0)/\eo m (s.data.toList.drop k)=B/\aV w wr
theorem wg(s:ByteArray)(w:World)(h:s.size=0):Calls prog 108 #[.string s] w (fS false w):=by
 go_enter func108,ntmps108;go_wp2_with fail;go_ret;exact ⟨rfl,N7.refl _ _⟩
theorem yV(s:ByteArray)(w:World)(h:¬s.size=0)(hl:¬(s.size:Int)<=20):Calls prog 108 #[.string s] w (fS false w):=by
 have h2:¬((s.size:Int)=0):=Nb
 have h3:(20:Int)<(s.size:Int):=Nb
 go_enter func108,ntmps108;go_wp2_with fail;go_ret;exact ⟨rfl,N7.refl _ _⟩
theorem Bx(s:ByteArray)(w:World)(h:¬s.size=0)(hl:(s.size:Int)<=20):Calls prog 108 #[.string s] w (fS (eo 0 s.data.toList) w):=by
 have h2:¬((s.size:Int)=0):=Nb
 have h3:¬(20:Int)<(s.size:Int):=Nb
 go_enter func108,ntmps108;go_wp2_with fail;clear h2 h3;go_loopw [3,4] (fun v i wr=>Ic s w (eo 0 s.data.toList) v i wr) (fun _ i _=>s.size-(intOf i).toNat)
 case atStart=>exact⟨0,0,47,Nat.zero_le _,rfl,rfl,Nb,Nh,N7.refl _ _⟩
 case round =>
  obtain⟨k,m,x,hk,rfl,rfl,hxm,hB,hs⟩:=hrel;have HB:=Oz hB hs hxm;clear hB hs hxm h;by_cases hlt:k<s.size
  ·have hsl:s.data.toList.length=s.size:=Nh
   have hdr:s.data.toList.drop k=s[k]::s.data.toList.drop (k+1):=by
    rw[drop_eq_getElem_cons Nb];rfl
   have HD:=NZ hdr;clear hdr hsl;go_upto_region 8 with(fail);obtain⟨c,hc⟩:=Na (s[k].toNat);have hcl:c<256:=by rw[hc];exact UInt8.toNat_lt _
   have hB2:(if c=47/\0<m then eo 0 (s.data.toList.drop (k+1))else if lf c then eo (m+1) (s.data.toList.drop (k+1))else false)=eo 0 s.data.toList:=by
    have:=HB.a;rw[HD.o,eo,<- hc,uK,<- hc]at this;exact this
   have HB2:=NZ hB2;simp only[<- hc];clear hB2 hc;by_cases c1:c=47
   ·subst c1;by_cases hx:x=47
    ·have hm:m=0:=(HB.y).1 hx;subst hx;go_wp2_with fail;go_ret;refine ⟨?_,HB.b⟩;have:=HB2.o;rw[NQ Nb,NQ Nk]at this;rw[<- this];rfl
    ·have hm:0<m:=by have:=HB.y;omega
     have hx2:¬((x:Int)=47):=Nb
     go_wp2_with fail;go_roundw
     case rel=>exact⟨k+1,0,47,Nb,rfl,by go_num,Nb,by have:=HB2.o;rwa [NR ⟨rfl,hm⟩]at this,HB.b⟩
     case measure=>simp[intOf];omega
   ·by_cases c2:lf c=true
    ·have HC2:=NZ c2;have hne:¬(c:Int)=47:=Nb
     have hp:(97<=c/\c<=122)\/(48<=c/\c<=57)\/c=46\/c=45\/c=95:=by
      unfold lf at c2;simp only[Bool.or_eq_true,Bool.and_eq_true,decide_eq_true_eq,beq_iff_eq]at c2;omega
     clear c2;rcases hp with hp|hp|hp|hp|hp
     all_goals first|subst hp|(obtain⟨hp1,hp2⟩:=hp;have hp3:(c:Int)<=122:=Nb)
     all_goals go_wp2_with fail
     all_goals
      go_roundw
      case rel=>exact⟨k+1,m+1,_,Nb,rfl,by go_num,Nb,(by have:=HB2.o;rw[NQ (by first|omega|decide),NR HC2.o]at this;exact this),HB.b⟩
      case measure=>first|(simp[intOf];done)|(simp[intOf];omega)
    ·have HC2:=NZ c2
     have hp:¬(97<=c/\c<=122)/\¬(48<=c/\c<=57)/\¬c=46/\¬c=45/\¬c=95:=by
      unfold lf at c2;simp only[Bool.or_eq_true,Bool.and_eq_true,decide_eq_true_eq,beq_iff_eq]at c2;omega
     obtain⟨hp1,hp2,hp3,Vs,hp5⟩:=hp;have hne:¬(c:Int)=47:=Nb
     clear c2
     have hE:Ending.returned (Value.bool false)=.returned (.bool (eo 0 s.data.toList)):=by
      have:=HB2.o;rw[NQ Nb,NQ HC2.o]at this;rw[<- this]
     have HE:=NZ hE;clear hE;have q1:((c:Int)==46)=false:=Nj
     have q2:((c:Int)==45)=false:=Nj
     have q3:((c:Int)==95)=false:=Nj
     have q4:((c:Int) != 47)=true:=Nj
     rcases(show c<48\/(57<c/\c<97)\/122<c by omega)with hq|⟨hq,hq'⟩|hq
     ·have r1:¬(97:Int)<=c:=Nb
      have r2:¬(48:Int)<=c:=Nb
      go_wp2_with fail;go_ret;exact (by exact⟨HE.o,HB.b⟩)
     ·have r1:¬(97:Int)<=c:=Nb
      have r2:(48:Int)<=c:=Nb
      have r3:decide ((c:Int)<=57)=false:=Nj
      go_wp2_with fail;go_ret;exact (by exact⟨HE.o,HB.b⟩)
     ·have r1:(97:Int)<=c:=Nb
      have r2:(48:Int)<=c:=Nb
      have r3:decide ((c:Int)<=57)=false:=Nj
      have r4:decide ((c:Int)<=122)=false:=Nj
      go_wp2_with fail;go_ret;exact (by exact⟨HE.o,HB.b⟩)
  ·obtain rfl:k=s.size:=Nb
   go_wp2_with fail;go_ret;refine ⟨?_,HB.b⟩;have h1:=HB.a;have h2:=HB.y;rw[drop_of_length_le Nh,eo]at h1;show Ending.returned (Value.bool ((x:Int) != 47))=_;rw[<- h1];by_cases hx:x=47
   ·have hm:=h2.1 hx;subst hx;subst hm;rfl
   ·have hm:0<m:=Nb
    have:((x:Int) != 47)=true:=Nj
    rw[this,decide_eq_true hm]
theorem jn(l:Bs)(w:World):Calls prog 108 #[str l] w (fS (az l) w):=by
 have hs:(⟨l.toArray⟩:ByteArray).size=l.length:=by simp[ByteArray.size]
 have hd:(⟨l.toArray⟩:ByteArray).data.toList=l:=Nh
 unfold az;by_cases h0:l=[]
 ·rw[decide_eq_false (by simpa using h0)];exact wg _ w (by rw[hs,h0];rfl)
 ·have hne:¬(⟨l.toArray⟩:ByteArray).size=0:=by rw[hs];exact fun h=>h0 (eq_nil_of_length_eq_zero h)
  rw[decide_eq_true (by simpa using h0)];by_cases h1:l.length<=20
  ·rw[decide_eq_true h1];have:=Bx ⟨l.toArray⟩ w hne (by rw[hs];omega);rw[hd]at this;simpa using this
  ·rw[decide_eq_false h1];simpa using yV ⟨l.toArray⟩ w hne (by rw[hs];omega)
end
section
open Go.RowKit Go.Maps
theorem xM:∀(l:List Oi) (i:Nat) (h:i<l.length) (j:Nat) (_:j<4),(bG l)[i*4+j]?=(lF l[i])[j]?
 | [],i,h,_,_=>by simp at h
 | a::r,0,_,j,hj=>by
  simp only[bG,flatMap_cons,Nat.zero_mul,Nat.zero_add,getElem_cons_zero]
  rw[getElem?_append_left (by simpa[lF]using hj)]
 | a::r,i+1,h,j,hj=>by
  simp only[bG,flatMap_cons,getElem_cons_succ]
  rw[getElem?_append_right (by simp[lF];omega),show(i+1)*4+j-(lF a).length=i*4+j by simp[lF];omega]
  exact xM r i (by simpa using h) j hj
theorem zc{w:World}{g off:Nat}{l:List Oi}(h:∀j (h:j<(bG l).length),w.cell? ⟨g,off+j,none⟩=some ((bG l)[j]'h)){i:Nat}(hi:i<l.length):
  w.cell? ⟨g,off+i*4,none⟩=some (str l[i].path)/\w.cell? ⟨g,off+i*4+1,none⟩=some (.int .i64 l[i].num)/\w.cell? ⟨g,off+i*4+2,none⟩=some l[i].cv/\w.cell? ⟨g,off+i*4+3,none⟩=some (.int .i64 l[i].held):=by
 have key:∀j (hj:j<4) (v:Value),(lF l[i])[j]?=some v->w.cell? ⟨g,off+i*4+j,none⟩=some v:=fun j hj v hv=>by
  have h1:=xM l i hi j hj;rw[hv]at h1;obtain⟨p,e⟩:=List.getElem?_eq_some_iff.1 h1;have h2:=h (i*4+j) p;rw[<- Nat.add_assoc]at h2;rw[h2,e]
 exact⟨key 0 Nb _ rfl,key 1 Nb _ rfl,key 2 Nb _ rfl,key 3 Nb _ rfl⟩
structure OD (R:Oh) (P:cU) (w:World):Prop where
 ref:Sat w (aC R)
 ok:PI R
 pool:Sat w (ay P)
 Ru:jZ P
 inp:mK P R
 len:R.vs.length<=100000
 TL:∀v∈R.vs,v.cont.length<=100000
theorem OD.same{R:Oh}{P:cU}{w w':World}(h:OD R P w)(hs:aV w w'):OD R P w':=⟨h.ref.same hs,h.ok,h.pool.same hs,h.Ru,h.inp,h.len,h.TL⟩
theorem OD.row{R:Oh}{P:cU}{w:World}(h:OD R P w):∃sl cap,R.vv=.slice sl R.vs.length cap/\R.vs.length<=cap/\cap<=9223372036854775807/\w.heap[R.blk]?=some (fL R)/\(0<R.vs.length->∃g off,sl=some ⟨g,off,none⟩/\∀i (hi:i<R.vs.length),w.cell? ⟨g,off+i*4,none⟩=some (str R.vs[i].path)/\w.cell? ⟨g,off+i*4+1,none⟩=some (.int .i64 R.vs[i].num)/\w.cell? ⟨g,off+i*4+2,none⟩=some R.vs[i].cv/\w.cell? ⟨g,off+i*4+3,none⟩=some (.int .i64 R.vs[i].held)):=by
 obtain⟨sl,cap,e1,e2,e3,hc,-⟩:=bb h.ref.tail.left h.ok.vs Nk;refine⟨sl,cap,e1,e2,e3,h.ref.Q5,fun hp=>?_⟩;obtain⟨g,off,hg,hcc⟩:=hc Nu;exact⟨g,off,hg,fun i hi=>zc hcc hi⟩
theorem OD.cont{R:Oh}{P:cU}{w:World}(h:OD R P w){v:Oi}(hv:v∈R.vs):∃sl cap,v.cv=.slice sl v.cont.length cap/\v.cont.length<=cap/\ak w sl (v.cont.map am)/\(∀x,sl=some x->x.block∈dom (ay P)):=l7 h.Ru h.pool (h.inp v hv)
def di(l:List Oi):Nat:=(l.map (·.cont.length)).sum
theorem Ck{l:List Oi}(h:∀v∈l,v.cont.length<=100000):di l<=100000*l.length:=by
 unfold di;induction l with
 | nil=>simp
 | cons a r ih =>
  have h1:=h a Nh;have h2:=ih (fun v hv=>h v (by simp[hv]));simp only[map_cons,sum_cons,length_cons];omega
theorem Bz(R:Oh)(P:cU)(w:World)(h:OD R P w):Calls prog 43 #[.pointer (some ⟨R.blk,0,none⟩)] w (fun e w'=>e=.returned (.int .i64 (di R.vs:Nat))/\aV w w'):=by
 obtain⟨sl,cap,e1,e2,e3,hb,hcell⟩:=h.row;have HC:=NZ (fun v hv=>h.cont (v:=v) hv);have hlen:=h.len;have HL:=NZ h.TL;have c0:w.cell? ⟨R.blk,0,none⟩=some (.slice sl R.vs.length cap):=by rw[<- e1];exact aa hb 0 rfl
 have hbl:=ae hb;have HH:=NZ hcell;clear h e1 hb hcell;go_enter func43,ntmps43;go_wp2_with fail;go_loopw [3,4] (fun n i wr=>∃k:Nat,k<=R.vs.length/\i=.int .i64 k/\n=.int .i64 (di (R.vs.take k):Nat)/\wr=w) (fun _ i _=>R.vs.length-(intOf i).toNat)
 case atStart=>exact⟨0,Nat.zero_le _,rfl,rfl,rfl⟩
 case round =>
  obtain⟨k,hk,rfl,rfl,rfl⟩:=hrel;by_cases hlt:k<R.vs.length
  ·obtain⟨g,off,hg,hcc⟩:=HH.o Nb;subst hg;obtain⟨-,-,hc,-⟩:=hcc k hlt;obtain⟨P6,OG,hcv,-,-,-⟩:=HC.o R.vs[k] (getElem_mem hlt);rw[hcv]at hc
   have htk:di (R.vs.take (k+1))=di (R.vs.take k)+R.vs[k].cont.length:=by
    unfold di;rw[QH hlt,NW,sum_append];simp
   have hub:=Ck (l:=R.vs.take k) (fun v hv=>HL.o v (mem_of_mem_take hv));have hcl:=HL.o R.vs[k] (getElem_mem hlt);rw[NS]at hub;obtain⟨q,hq⟩:=Na (di (R.vs.take k));obtain⟨cl,PY⟩:=Na (R.vs[k].cont.length);rw[<- hq]at htk hub;rw[<- PY]at htk hcl hc;rw[<- hq];have HT:=NZ htk;have hub2:q<=100000*100000:=by have:=Nat.mul_le_mul_left 100000 (show min k R.vs.length<=100000 by omega);omega
   clear htk hcc hcv hq PY hub;go_wp2_with fail;go_roundw
   case rel=>exact⟨k+1,Nb,by go_num,by rw[HT.o];go_num,by first|rfl|trivial⟩
   case measure=>simp[intOf];omega
  ·obtain rfl:k=R.vs.length:=Nb
   go_wp2_with fail;go_ret;refine ⟨?_,N7.refl _ _⟩;rw[take_length];rfl
def lz(p:Bs)(n:Int)(v:Oi):Bool:=decide (v.path=p)&&(decide (v.num=n) || decide (n=0))
def bZ(vs:List Oi)(p:Bs)(n:Int):Nat->Int
 | 0=>-1
 | k+1=>if(vs[k]?).elim false (lz p n)then k else bZ vs p n k
theorem pT(vs:List Oi)(p:Bs)(n:Int):∀k,-1<=bZ vs p n k/\bZ vs p n k<k
 | 0=>by simp[bZ]
 | k+1=>by
  have:=pT vs p n k
  unfold bZ
  split<;>omega
theorem rU{vs:List Oi}{p:Bs}{n:Int}{k:Nat}(h:k<vs.length):bZ vs p n (k+1)=if lz p n vs[k]then(k:Int)else bZ vs p n k:=by
 rw[bZ,getElem?_eq_getElem h];rfl
theorem kP(R:Oh)(P:cU)(p:Bs)(n:Int)(w:World)(h:OD R P w):Calls prog 111 #[.pointer (some ⟨R.blk,0,none⟩),str p,.int .i64 n] w (fun e w'=>e=.returned (.int .i64 (bZ R.vs p n R.vs.length))/\aV w w'):=by
 have hlen:=h.len;have HH:=NZ h;have hbl:=ae h.ref.Q5;clear h;go_enter func111,ntmps111;go_wp2_with fail;go_loopw [7,8] (fun b i wr=>∃k:Nat,k<=R.vs.length/\i=.int .i64 k/\b=.int .i64 (bZ R.vs p n k)/\aV w wr) (fun _ i _=>R.vs.length-(intOf i).toNat)
 case atStart=>exact⟨0,Nat.zero_le _,rfl,rfl,N7.refl _ _⟩
 case round =>
  obtain⟨k,hk,rfl,rfl,hs⟩:=hrel;have hA:=HH.o.same hs;obtain⟨sl,cap,e1,e2,e3,hb,hcell⟩:=hA.row;have c0:wr.cell? ⟨R.blk,0,none⟩=some (.slice sl R.vs.length cap):=by rw[<- e1];exact aa hb 0 rfl
  have UC:=ae hb;have HS:=Ob hs hA;clear hs e1 hb;by_cases hlt:k<R.vs.length
  ·obtain⟨g,off,hg,hcc⟩:=hcell Nb;subst hg;obtain⟨h0,h1,h2,h3⟩:=hcc k hlt;obtain⟨P6,OG,hcv,-,-,-⟩:=hA.cont (getElem_mem hlt);rw[hcv]at h2;have hnx:=rU (p:=p) (n:=n) hlt;unfold lz at hnx;obtain⟨pk,hpk⟩:=Na (R.vs[k].path);obtain⟨nk,hnk⟩:=Na (R.vs[k].num);rw[<- hpk]at h0 hnx;rw[<- hnk]at h1 hnx;have hgl:=World.block_lt_of_cell? wr _ h0;have HX:=NZ hnx;clear hcc hcell hA hcv hnx hpk hnk;by_cases hp:pk=p
   ·have hp':=hp.symm;clear hp;subst hp';by_cases hn:nk=n
    ·subst hn;have hfin:bZ R.vs p nk (k+1)=(k:Int):=by rw[HX.o];simp
     have HF:=NZ hfin;clear hfin;go_wp2_with fail;go_roundw
     case rel=>exact⟨k+1,Nb,by go_num,by rw[HF.o],by first|exact HS.a|exact HS.a.alloc _⟩
     case measure=>simp[intOf];omega
    ·by_cases hz:n=0
     ·subst hz;have hfin:bZ R.vs p 0 (k+1)=(k:Int):=by rw[HX.o];simp
      have HF:=NZ hfin;clear hfin;go_wp2_with fail;go_roundw
      case rel=>exact⟨k+1,Nb,by go_num,by rw[HF.o],by first|exact HS.a|exact HS.a.alloc _⟩
      case measure=>simp[intOf];omega
     ·have q1:(nk==n)=false:=by simp[hn]
      have q2:(n==0)=false:=by simp[hz]
      have hfin:bZ R.vs p n (k+1)=bZ R.vs p n k:=by rw[HX.o,decide_eq_false hn,decide_eq_false hz];simp
      have HF:=NZ hfin;clear hfin;go_wp2_with fail;go_roundw
      case rel=>exact⟨k+1,Nb,by go_num,by rw[HF.o],by first|exact HS.a|exact HS.a.alloc _⟩
      case measure=>simp[intOf];omega
   ·have hfin:bZ R.vs p n (k+1)=bZ R.vs p n k:=by rw[HX.o,decide_eq_false hp];simp
    have HF:=NZ hfin;clear hfin;go_wp2_with fail;go_roundw
    case rel=>exact⟨k+1,Nb,by go_num,by rw[HF.o],by first|exact HS.a|exact HS.a.alloc _⟩
    case measure=>simp[intOf];omega
  ·obtain rfl:k=R.vs.length:=Nb
   clear hcell;go_wp2_with fail;go_ret;exact (by exact⟨rfl,HS.a⟩)
def qy(R:Oh)(p:Bs)(n:Int):Option Oi:=if 0<=bZ R.vs p n R.vs.length then R.vs[(bZ R.vs p n R.vs.length).toNat]? else none
def cJ(R:Oh)(p:Bs)(n:Int):Except Int Oi :=
 if R.closed then .error 9 else if az p then(match qy R p n with|some v=>.ok v|none=>.error 3)else .error 1
def js(R:Oh)(p:Bs)(n:Int)(w:World)(e:Ending)(w':World):Prop :=
 aV w w'/\match cJ R p n with|.ok v=>e=.returned (.tuple #[v.cv,.int .i64 0])/\v∈R.vs|.error k=>e=.returned (.tuple #[.slice none 0 0,.int .i64 k])
theorem kp(R:Oh)(P:cU)(p:Bs)(n:Int)(w:World)(h:OD R P w):Calls prog 102 #[.pointer (some ⟨R.blk,0,none⟩),str p,.int .i64 n] w (js R p n w):=by
 have HI:=NZ (jn p w);have hbl:=ae h.ref.Q5;have HH:=NZ h;clear h;go_enter func102,ntmps102;go_wp2_with fail;refine HI.o.mono ?_;rintro e w1 ⟨rfl,hs1⟩;have hA1:=HH.o.same hs1;have hb1:=hA1.ref.Q5;have c3:w1.cell? ⟨R.blk,3,none⟩=some (.bool R.closed):=aa hb1 3 rfl;have Yc:=ae hb1;have H1:=Ob hs1 hA1;clear hs1 hA1 hb1
 cases hc:R.closed with
 | true =>
  rw[hc]at c3;have hr:cJ R p n=.error 9:=by unfold cJ;rw[hc,NR rfl]
  have HR:=NZ hr;clear hr hc;go_wp2_with fail;go_ret2;refine (by unfold js;rw[HR.o];exact⟨H1.a,rfl⟩)
 | false =>
  rw[hc]at c3
  cases hp:az p with
  | false =>
   have hr:cJ R p n=.error 1:=by unfold cJ;rw[hc,hp];rfl
   have HR:=NZ hr;clear hr hc;go_wp2_with fail;go_ret2;refine (by unfold js;rw[HR.o];exact⟨H1.a,rfl⟩)
  | true =>
   have HF:=NZ (kP R P p n w1 H1.z);have HC:=NZ hc;have HP:=NZ hp;clear hc;go_wp2_with fail;refine HF.o.mono ?_;rintro e w2 ⟨rfl,hs2⟩;have hA2:=H1.z.same hs2;obtain⟨sl,cap,e1,e2,e3,hb,hcell⟩:=hA2.row;have c0:w2.cell? ⟨R.blk,0,none⟩=some (.slice sl R.vs.length cap):=by rw[<- e1];exact aa hb 0 rfl
   have Vf:=ae hb;have hrange:=pT R.vs p n R.vs.length;have hrf:qy R p n=if 0<=bZ R.vs p n R.vs.length then R.vs[(bZ R.vs p n R.vs.length).toNat]? else none:=rfl
   obtain⟨b,hb'⟩:=Na (bZ R.vs p n R.vs.length);rw[<- hb']at hrange hrf ⊢;have H2:=Ob (H1.a.trans hs2) hA2;clear hs2 hA2 hb e1 hb';by_cases hneg:b<0
   ·have hr:cJ R p n=.error 3:=by unfold cJ;rw[HC.o,NQ Nh,HP.o,NR rfl,hrf,NQ Nb]
    have HR:=NZ hr;clear hr hrf hcell;go_wp2_with fail;go_ret2;refine (by unfold js;rw[HR.o];exact⟨H2.a,rfl⟩)
   ·obtain⟨b,rfl⟩:∃b':Nat,b=b':=⟨b.toNat,Nb⟩;have hlt:b<R.vs.length:=Nb
    obtain⟨g,off,hg,hcc⟩:=hcell Nb;subst hg;obtain⟨-,-,h2,-⟩:=hcc b hlt;obtain⟨P6,OG,hcv,-,-,-⟩:=H2.z.cont (getElem_mem hlt);have hr:cJ R p n=.ok R.vs[b]:=by unfold cJ;rw[HC.o,NQ Nh,HP.o,NR rfl,hrf,NR Nb,Int.toNat_natCast,getElem?_eq_getElem hlt]
    rw[hcv]at h2;have HR:=Oz hr hcv (getElem_mem hlt);clear hr hrf hcc hcell hcv;go_wp2_with fail;go_ret2;refine (by unfold js;rw[HR.a];exact⟨H2.a,by rw[HR.b];rfl,HR.y⟩)
theorem DE{W:World}{sl:Option Addr}{X:Bs}{a c:Nat}(hW:ak W sl (X.map am))(ha:a<=X.length):(X.drop a).take c=[]\/∃g off,sl=some ⟨g,off,none⟩/\ak W (some ⟨g,off+a,none⟩) (((X.drop a).take c).map am):=by
 by_cases h0:X=[]
 ·subst h0;exact .inl Nh
 ·obtain⟨g,off,hg,-⟩:=hW (by rw[NP];exact length_pos_iff.2 h0);refine .inr ⟨g,off,hg,?_⟩;rw[hg]at hW;have h1:=fY hW a ha;have h5:(X.drop a).take c=(X.drop a).take (min c (X.drop a).length):=by rw[<- take_take,take_length]
  rw[h5];exact j9 h1 _ (Nat.min_le_right _ _)
def jt(R:Oh)(p:Bs)(n a c:Int)(w:World)(e:Ending)(w':World):Prop :=
 aV w w'/\match cJ R p n with
  | .error k=>e=.returned (.tuple #[.slice none 0 0,.int .i64 k])
  | .ok v=>v∈R.vs/\(((a<0\/c<0\/(v.cont.length:Int)<a)/\e=.returned (.tuple #[.slice none 0 0,.int .i64 4])) \/
    (¬(a<0\/c<0\/(v.cont.length:Int)<a)/\∃sl cap,e=.returned (.tuple #[.slice sl ((v.cont.drop a.toNat).take c.toNat).length cap,.int .i64 0])/\ak w' sl (((v.cont.drop a.toNat).take c.toNat).map am)/\((v.cont.drop a.toNat).take c.toNat≠[]->∃g off cap',v.cv=.slice (some ⟨g,off,none⟩) v.cont.length cap'/\sl=some ⟨g,off+a.toNat,none⟩)))
theorem wi(R:Oh)(P:cU)(p:Bs)(n a c:Int)(w:World)(h:OD R P w)(hc9:c<=9223372036854775807):Calls prog 104 #[.pointer (some ⟨R.blk,0,none⟩),str p,.int .i64 n,.int .i64 a,.int .i64 c] w (jt R p n a c w):=by
 have HG:=NZ (kp R P p n w h);have HH:=NZ h;clear h;go_enter func104,ntmps104;go_wp2_with fail;refine HG.o.mono ?_;intro e w1 hp;unfold js at hp;obtain⟨hs,hp⟩:=hp
 cases hr:cJ R p n with
 | error k =>
  rw[hr]at hp;subst hp
  have hk:¬k=0:=by
   unfold cJ at hr;split at hr
   ·simp at hr;omega
   ·split at hr
    ·split at hr<;>simp at hr;omega
    ·simp at hr;omega
  have HR:=Ob hr hs;clear hr hs;go_wp2_with fail;go_ret2;refine (by unfold jt;rw[HR.a];exact⟨HR.z,rfl⟩)
 | ok v =>
  rw[hr]at hp;obtain⟨rfl,hv⟩:=hp;have hA:=HH.o.same hs;obtain⟨sl,cap,hcv,hcap,hcell,-⟩:=hA.cont hv;have HDM:=NZ hcv;have hvl:=HH.o.TL v hv;obtain⟨L,hL⟩:=Na v.cont.length;rw[<- hL]at hcv hcap hvl;have HR:=PD hr hs hv hcell hL;have hcc2:∃c2:Nat,cap=c2:=⟨cap,rfl⟩;clear hr hs hv hA hcell hL hcc2;rw[hcv];by_cases h1:a<0
  ·go_wp2_with fail;go_ret2;refine (by unfold jt;rw[HR.a];exact⟨HR.b,HR.c,.inl ⟨.inl h1,rfl⟩⟩)
  ·by_cases h2:c<0
   ·go_wp2_with fail;go_ret2;refine (by unfold jt;rw[HR.a];exact⟨HR.b,HR.c,.inl ⟨.inr (.inl h2),rfl⟩⟩)
   ·by_cases h3:(L:Int)<a
    ·go_wp2_with fail;go_ret2;refine (by unfold jt;rw[HR.a];exact⟨HR.b,HR.c,.inl ⟨.inr (.inr (by rw[<- HR.w];exact h3)),rfl⟩⟩)
    ·obtain⟨a,rfl⟩:∃a':Nat,a=a':=⟨a.toNat,Nb⟩;obtain⟨c,rfl⟩:∃c':Nat,c=c':=⟨c.toNat,Nb⟩;have hpart:=fun W hW=>DE (W:=W) (sl:=sl) (X:=v.cont) (a:=a) (c:=c) hW (by have:=HR.w;omega)
     have hpl:((v.cont.drop a).take c).length=min c (L-a):=by rw[NS,NT,HR.w]
     have hfin:∀(sl':Option Addr) (m k:Nat),m=min c (L-a)->(m=0\/∀g off,sl=some ⟨g,off,none⟩->sl'=some ⟨g,off+a,none⟩)->jt R p n a c w (.returned (.tuple #[.slice sl' m k,.int .i64 0])) w1:=fun sl' m k hm hsl=>by
      unfold jt;rw[HR.a];refine⟨HR.b,HR.c,.inr ⟨by have:=HR.w;omega,sl',k,by simp only[Int.toNat_natCast];rw[hpl,hm],?_⟩⟩;simp only[Int.toNat_natCast];rcases hpart w1 HR.d with h0|⟨g,off,hg,hcl⟩
      ·rw[h0];exact⟨dS _ _,fun h=>absurd rfl h⟩
      ·rcases hsl with h0|hsl
       ·have:(v.cont.drop a).take c=[]:=eq_nil_of_length_eq_zero (by rw[hpl];omega);rw[this];exact⟨dS _ _,fun h=>absurd rfl h⟩
       ·rw[hsl g off hg];exact⟨hcl,fun _=>⟨g,off,cap,by rw[<- hg];exact HDM.o,rfl⟩⟩
     have HF:=NZ hfin;clear hfin hpart hpl
     cases sl with
     | none =>
      have hL0:L=0:=by
       have h1:=HR.d;by_cases hz:L=0
       ·exact hz
       ·obtain⟨g,off,hg,-⟩:=h1 (by rw[NP,<- HR.w];omega)
        cases hg
      subst hL0;obtain rfl:a=0:=Nb
      by_cases hgt:0<c
      ·go_wp2_with fail;go_ret2;exact (by exact HF.o none 0 _ Nb (.inl rfl))
      ·obtain rfl:c=0:=Nb
       go_wp2_with fail;go_ret2;exact (by exact HF.o none 0 _ Nb (.inl rfl))
     | some ad =>
      by_cases hL:L=0
      ·subst hL;obtain rfl:a=0:=Nb
       have hcz:(cap=0)\/¬cap=0:=Nb
       by_cases hgt:0<c
       ·rcases hcz with hcz|hcz
        all_goals go_wp2_with fail
        all_goals go_ret2;exact (by exact HF.o _ 0 _ Nb (.inl rfl))
       ·obtain rfl:c=0:=Nb
        rcases hcz with hcz|hcz
        all_goals go_wp2_with fail
        all_goals go_ret2;exact (by exact HF.o _ 0 _ Nb (.inl rfl))
      ·obtain⟨g,off,hg,-⟩:=HR.d (by rw[NP,<- HR.w];omega);simp only[NY]at hg;subst hg;have hsub:IntKind.i64.wrap ((L:Int)-a)=((L-a:Nat):Int):=by rw[IntWalk.i64_in _ Nb];omega
       by_cases hgt:L-a<c
       ·have hgt2:((L-a:Nat):Int)<(c:Int):=Nb
        have hadd:IntKind.i64.wrap ((a:Int)+((L-a:Nat):Int))=(L:Int):=by rw[IntWalk.i64_in _ Nb];omega
        by_cases hca:cap=a
        ·go_wp2_with fail;go_ret2;exact (by exact HF.o _ (L-a) _ Nb (.inl Nb))
        ·have UD:¬a=cap:=Nb
         go_wp2_with fail;go_ret2;exact (by exact HF.o (some ⟨g,off+a,none⟩) (L-a) _ Nb (.inr (fun g' off' h=>by simp only[NY,Addr.mk.injEq,and_true]at h;obtain⟨rfl,rfl⟩:=h;rfl)))
       ·have hgt2:¬((L-a:Nat):Int)<(c:Int):=Nb
        have hadd:IntKind.i64.wrap ((a:Int)+(c:Int))=((a+c:Nat):Int):=by rw[IntWalk.i64_in _ Nb];omega
        have hac:a+c<=cap:=Nb
        by_cases hca:cap=a
        ·go_wp2_with fail;go_ret2;exact (by exact HF.o _ _ _ Nb (.inl Nb))
        ·have UD:¬a=cap:=Nb
         go_wp2_with fail;go_ret2;exact (by exact HF.o (some ⟨g,off+a,none⟩) _ _ Nb (.inr (fun g' off' h=>by simp only[NY,Addr.mk.injEq,and_true]at h;obtain⟨rfl,rfl⟩:=h;rfl)))
end
section
open Go.Shelf
def GM:Go.Shelf.Ren:=⟨fun|6=>133|15=>156|14=>155|28=>172|29=>173|20=>164|21=>165|22=>166|23=>167|24=>168|25=>169|26=>170|27=>171|46=>186|47=>187|48=>188|49=>189|50=>190|57=>195|n=>n,fun|22=>181|24=>262|25=>265|3=>3|39=>37|0=>0|53=>116|55=>82|4=>4|46=>309|45=>308|50=>284|5=>5|9=>9|66=>323|70=>327|76=>331|77=>133|n=>n,fun|n=>n⟩
theorem LF:Go.Proofs.SlLaysF0.n6 prog GM:={
 mixed:=Nc,
 f6:=⟨f133.name,Nk,func133.trans (congrArg some Nc)⟩,
 f14:=⟨f155.name,Nk,func155.trans (congrArg some Nc)⟩,
 f15:=func156.trans (congrArg some Nc),
 f20:=⟨f164.name,Nk,func164.trans (congrArg some Nc)⟩,
 f21:=⟨f165.name,Nk,func165.trans (congrArg some Nc)⟩,
 f22:=⟨f166.name,Nk,func166.trans (congrArg some Nc)⟩,
 f23:=⟨f167.name,Nk,func167.trans (congrArg some Nc)⟩,
 f24:=⟨f168.name,Nk,func168.trans (congrArg some Nc)⟩,
 f25:=⟨f169.name,Nk,func169.trans (congrArg some Nc)⟩,
 f26:=⟨f170.name,Nk,func170.trans (congrArg some Nc)⟩,
 f27:=⟨f171.name,Nk,func171.trans (congrArg some Nc)⟩,
 f28:=func172.trans (congrArg some Nc),
 f29:=func173.trans (congrArg some Nc),
 f46:=⟨f186.name,Nk,func186.trans (congrArg some Nc)⟩,
 f47:=func187.trans (congrArg some Nc),
 f48:=func188.trans (congrArg some Nc),
 f49:=⟨f189.name,Nk,func189.trans (congrArg some Nc)⟩,
 f50:=⟨f190.name,Nk,func190.trans (congrArg some Nc)⟩,
 f57:=⟨f195.name,Nk,func195.trans (congrArg some Nc)⟩,
 t0:=underlying0,
 a0:=isAgg0,
 z0:=sizeOf0,
 v0:=zeroValue0,
 t3:=underlying3,
 a3:=isAgg3,
 z3:=sizeOf3,
 v3:=zeroValue3,
 t4:=underlying4,
 a4:=isAgg4,
 z4:=sizeOf4,
 v4:=zeroValue4,
 t5:=underlying5,
 a5:=isAgg5,
 z5:=sizeOf5,
 v5:=zeroValue5,
 t9:=underlying9,
 a9:=isAgg9,
 z9:=sizeOf9,
 v9:=zeroValue9,
 t22:=underlying181,
 a22:=isAgg181,
 z22:=sizeOf181,
 v22:=zeroValue181,
 t25:=underlying265,
 a25:=isAgg265,
 z25:=sizeOf265,
 v25:=zeroValue265,
 t39:=underlying37,
 a39:=isAgg37,
 z39:=sizeOf37,
 v39:=zeroValue37,
 t45:=underlying308,
 a45:=isAgg308,
 z45:=sizeOf308,
 v45:=zeroValue308,
 t46:=underlying309,
 a46:=isAgg309,
 z46:=sizeOf309,
 v46:=zeroValue309,
 t50:=underlying284,
 a50:=isAgg284,
 z50:=sizeOf284,
 v50:=zeroValue284,
 t53:=underlying116,
 a53:=isAgg116,
 z53:=sizeOf116,
 v53:=zeroValue116,
 t55:=underlying82,
 a55:=isAgg82,
 z55:=sizeOf82,
 v55:=zeroValue82,
 t66:=underlying323,
 a66:=isAgg323,
 z66:=sizeOf323,
 v66:=zeroValue323,
 t70:=underlying327,
 a70:=isAgg327,
 z70:=sizeOf327,
 v70:=zeroValue327,
 t76:=underlying331,
 a76:=isAgg331,
 z76:=sizeOf331,
 v76:=zeroValue331,
 t77:=underlying133,
 a77:=isAgg133,
 z77:=sizeOf133,
 v77:=zeroValue133 }
end
section
open Go.RowKit Go.Sort
theorem rj(s p:ByteArray)(w:World):Calls prog 154 #[.string s,.string p] w fun e w'=>e=.returned (.bool (Lib.hasPrefix s.data.toList p.data.toList))/\w'=w:=by
 rw[<- Lib.hasPrefix_of_take,<- Lib.size_eq,<- Lib.size_eq];go_enter func154,ntmps154;go_wp2
 ·rename_i h;go_ret;refine⟨?_,rfl⟩;show Ending.returned (Value.bool ((s.extract 0 p.size).toList==p.toList))=_;rw[Lib.extract_toList,Lib.toList_data];simp[h]
 ·rename_i h;go_ret;refine⟨?_,rfl⟩;show Ending.returned (Value.bool false)=_;simp[h]
theorem sE(l p:Bs)(w:World):Calls prog 132 #[str l,str p] w fun e w'=>e=.returned (.bool (p.isPrefixOf l))/\w'=w:=by
 have h:=rj ⟨l.toArray⟩ ⟨p.toArray⟩ w;unfold Lib.hasPrefix at h;simp only at h;have HP:=NZ h;clear h;unfold str;go_enter func132,ntmps132;go_wp2_with fail;refine HP.o.mono ?_;rintro e w' ⟨rfl,rfl⟩;go_wp2_with fail;go_ret;exact⟨rfl,rfl⟩
theorem nV(a b:Bs)(w:World):Calls prog 157 #[str a,str b] w fun e w'=>e=.returned (.int .i64 (Lib.compareBytes a b))/\w'=w:=by
 unfold str;go_enter func157,ntmps157;go_wp2;rw[run_callFunc_extern func174 Nc Nc Nc (e:=Extern.BytealgCompare.compare) Nc,Lib.run_compareString];simp only[Result.andThen];rw[Oper.upon_value];go_wp2;go_ret;exact⟨rfl,rfl⟩
theorem vD(a b:Bs)(w:World):Calls prog 135 #[str a,str b] w fun e w'=>e=.returned (.int .i64 (Lib.compareBytes a b))/\w'=w:=by
 have HP:=NZ (nV a b w);go_enter func135,ntmps135;go_wp2_with fail;refine HP.o.mono ?_;rintro e w' ⟨rfl,rfl⟩;go_wp2_with fail;go_ret;exact⟨rfl,rfl⟩
def cE:Bs->Bs->Bool
 | [],[]=>false
 | [],_::_=>true
 | _::_,[]=>false
 | a::ax,b::bs=>if a<b then true else if b<a then false else cE ax bs
theorem IH:∀a b:Bs,(Lib.compareBytes a b<0)↔cE a b=true
 | [],[]=>by simp[Lib.compareBytes,cE]
 | [],_::_=>by simp[Lib.compareBytes,cE]
 | _::_,[]=>by simp[Lib.compareBytes,cE]
 | a::ax,b::bs=>by
  simp only[Lib.compareBytes,cE]
  split
  ·simp
  ·split
   ·simp
   ·exact IH ax bs
theorem eW:∀a:Bs,cE a a=false
 | []=>rfl
 | a::ax=>by simp only[cE,eW ax];simp
theorem gX:∀{a b c:Bs},cE a b=true->cE b c=true->cE a c=true
 | [],[],_,h,_=>by simp[cE]at h
 | [],_::_,[],_,h=>by simp[cE]at h
 | [],_::_,_::_,_,_=>rfl
 | _::_,[],_,h,_=>by simp[cE]at h
 | _::_,_::_,[],_,h=>by simp[cE]at h
 | a::ax,b::bs,c::cs,h1,h2=>by
  simp only[cE]at h1 h2 ⊢
  by_cases hab:a<b
  ·by_cases hbc:b<c
   ·rw[NR (UInt8.lt_trans hab hbc)]
   ·rw[NQ hbc]at h2
    by_cases hcb:c<b
    ·rw[NR hcb]at h2;cases h2
    ·have:b=c:=UInt8.le_antisymm (UInt8.not_lt.1 hcb) (UInt8.not_lt.1 hbc)
     subst this
     rw[NR hab]
  ·rw[NQ hab]at h1
   by_cases hba:b<a
   ·rw[NR hba]at h1;cases h1
   ·rw[NQ hba]at h1
    have:a=b:=UInt8.le_antisymm (UInt8.not_lt.1 hba) (UInt8.not_lt.1 hab)
    subst this
    by_cases hac:a<c
    ·rw[NR hac]
    ·rw[NQ hac]at h2 ⊢
     by_cases hca:c<a
     ·rw[NR hca]at h2;cases h2
     ·rw[NQ hca]at h2 ⊢
      exact gX h1 h2
theorem mM:∀a b:Bs,cE a b=false->cE b a=false->a=b
 | [],[],_,_=>rfl
 | [],_::_,h,_=>by simp[cE]at h
 | _::_,[],_,h=>by simp[cE]at h
 | a::ax,b::bs,h1,h2=>by
  simp only[cE]at h1 h2
  by_cases hab:a<b
  ·rw[NR hab]at h1;cases h1
  ·rw[NQ hab]at h1 h2
   by_cases hba:b<a
   ·rw[NR hba]at h2;cases h2
   ·rw[NQ hba]at h1 h2
    have:a=b:=UInt8.le_antisymm (UInt8.not_lt.1 hba) (UInt8.not_lt.1 hab)
    subst this
    rw[mM ax bs h1 h2]
structure OI where
 p:Bs
 latest:Int
 size:Int
 n:Int
 deriving Inhabited
def cz(x:OI):List Value:=[str x.p,.int .i64 x.latest,.int .i64 x.size,.int .i64 x.n]
def ph(x y:OI):Int:=Lib.compareBytes x.p y.p
theorem EF(x y:OI):ltOf ph x y=cE x.p y.p:=by
 unfold ltOf ph;rw[Bool.eq_iff_iff,decide_eq_true_eq];exact IH _ _
theorem L8:SWO (ltOf ph) where
 irrefl x:=by rw[EF];exact eW _
 trans x y z h1 h2:=by rw[EF]at *;exact gX h1 h2
 ntrans x y z h1 h2:=by
  rw[EF]at *
  cases h:cE x.p z.p with
  | false=>rfl
  | true =>
   cases h3:cE y.p x.p with
   | true=>rw[gX h3 h]at h2;cases h2
   | false=>rw[<- mM _ _ h1 h3,h]at h2;cases h2
theorem vY(x y:OI)(W:World):Calls prog 134 #[.agg (cz x).toArray,.agg (cz y).toArray] W fun e w'=>e=.returned (.int .i64 (ph x y))/\∃q os',w'=grow (W.drewN q) os':=by
 have hcon:=fun W'=>vD x.p y.p W'
 unfold ph;generalize Lib.compareBytes x.p y.p=r at hcon ⊢;unfold cz;go_enter func134,ntmps134;go_wp2_with (go_at_call 135;refine(hcon _).mono ?_;rintro e w' ⟨rfl,rfl⟩);go_ret;exact⟨rfl,0,_,by rw[alloc_eq_grow,alloc_eq_grow,grow_grow];rfl⟩
theorem Kx(blk off size:Nat)(w:World):CmpLays prog 134 #[] cz 4 ph blk off size w:=fun _ _ _ _ x y=>vY x y _
end
section
open Go.RowKit Go.Maps
def gC(l:List Oi)(p:Bs):List Int:=(l.filter (fun v=>decide (v.path=p))).map (·.num)
def it(R:Oh)(p:Bs)(w:World)(e:Ending)(w':World):Prop :=
 match cJ R p 0 with
 | .error k=>aV w w'/\e=.returned (.tuple #[.slice none 0 0,.int .i64 k])
 | .ok _=>∃v,e=.returned (.tuple #[v,.int .i64 0])/\RJ v (gC R.vs p)/\Turns [] (ck v (gC R.vs p)) w w'
theorem jU{R:Oh}{p:Bs}{n k:Int}(hr:cJ R p n=.error k):¬k=0:=by
 unfold cJ at hr;split at hr
 ·simp at hr;omega
 ·split at hr
  ·split at hr<;>simp at hr;omega
  ·simp at hr;omega
theorem DA{vs:List Oi}{p:Bs}{k:Nat}(h:k<vs.length):gC (vs.take (k+1)) p=gC (vs.take k) p++(if vs[k].path=p then[vs[k].num]else[]):=by
 unfold gC;rw[QH h,filter_append,NW];congr 1;by_cases hp:vs[k].path=p<;>simp[hp]
theorem rp(l:List Oi)(p:Bs):(gC l p).length<=l.length:=by
 unfold gC;rw[NP];exact length_filter_le _ _
theorem m0(R:Oh)(P:cU)(p:Bs)(w:World)(h:OD R P w):Calls prog 106 #[.pointer (some ⟨R.blk,0,none⟩),str p] w (it R p w):=by
 have HG:=NZ (kp R P p 0 w h);have hlen:=h.len;have HH:=NZ h;clear h;go_enter func106,ntmps106;go_wp2_with fail;refine HG.o.mono ?_;intro e w1 hp;unfold js at hp;obtain⟨hs,hp⟩:=hp
 cases hr:cJ R p 0 with
 | error k =>
  rw[hr]at hp;subst hp;have hk:=jU hr;have HR:=Ob hr hs;clear hr hs;go_wp2_with fail;go_ret2;refine (by unfold it;rw[HR.a];exact⟨HR.z,rfl⟩)
 | ok v =>
  rw[hr]at hp;obtain⟨rfl,hv⟩:=hp;have hbl:=ae (HH.o.same hs).ref.Q5;obtain⟨P6,OG,hcv,-,-,-⟩:=(HH.o.same hs).cont hv;have HR:=Ob hr hs;clear hr hs hv;rw[hcv];go_wp2_with fail;go_loopw [8,9] (fun l i wr=>∃(k:Nat) (J:HF),k<=R.vs.length/\i=.int .i64 k/\RJ l (gC (R.vs.take k) p)/\Turns [] (ck l (gC (R.vs.take k) p)++J) w wr) (fun _ i _=>R.vs.length-(intOf i).toNat)
  case atStart=>exact⟨0,[],Nat.zero_le _,rfl,lW,(show Turns [] [] w w1 from Turns.same (Sat.nil w) HR.z)⟩
  case round =>
   obtain⟨k,J,hk,rfl,Ph,hT⟩:=hrel;have hA:=HH.o.same hT.news;obtain⟨sl,cap,e1,e2,e3,hb,hcell⟩:=hA.row;have c0:wr.cell? ⟨R.blk,0,none⟩=some (.slice sl R.vs.length cap):=by rw[<- e1];exact aa hb 0 rfl
   have UC:=ae hb;have HS:=Ob Ph hT;clear Ph hT e1 hb hA;by_cases hlt:k<R.vs.length
   ·obtain⟨g,off,hg,hcc⟩:=hcell Nb;subst hg;obtain⟨h0,h1,-,-⟩:=hcc k hlt;have hnx:=DA (p:=p) hlt;obtain⟨pk,hpk⟩:=Na (R.vs[k].path);obtain⟨nk,hnk⟩:=Na (R.vs[k].num);rw[<- hpk]at h0 hnx;rw[<- hnk]at h1 hnx;have hnl:=rp (R.vs.take k) p;rw[NS]at hnl;obtain⟨ns,hns⟩:=Na (gC (R.vs.take k) p);rw[<- hns]at hnx hnl HS;have hnl2:ns.length<=100000:=Nb
    have HX:=NZ hnx;clear hcc hcell hnx hpk hnk hns hnl;by_cases hpp:pk=p
    ·have hp':=hpp.symm;clear hpp;subst hp';have hfin:gC (R.vs.take (k+1)) p=ns++[nk]:=by rw[HX.o,NR rfl]
     have HF:=NZ hfin;clear hfin;go_wp2_with ((at_builtin;refine ai rfl ?_;refine kt (.tmp 38) (.tmp 47) rfl _ ns rfl (HS.z.alloc _) HS.a _ 1 1 rfl [nk] rfl (fun _=>⟨_,rfl,fun j u hu=>ik _ _ _ j u hu⟩) Nj ?_;intro av cv w5 Pe Og;have H5:=Ob Pe Og;clear Pe Og));go_roundw
     case rel =>
      refine⟨k+1,J,Nb,by go_num,?_,?_⟩
      ·rw[HF.o];have:=H5.a;rw[NM]at this;exact this
      ·rw[HF.o];have:=H5.z;rw[NM]at this;exact this
     case measure=>simp[intOf];omega
    ·have hpq:(pk==p)=false:=by simp[hpp]
     have hfin:gC (R.vs.take (k+1)) p=ns:=by rw[HX.o,NQ hpp];simp
     have HF:=NZ hfin;clear hfin;go_wp2_with fail;go_roundw
     case rel=>exact⟨k+1,J,Nb,by go_num,by rw[HF.o];exact HS.a,by rw[HF.o];exact HS.z⟩
     case measure=>simp[intOf];omega
   ·obtain rfl:k=R.vs.length:=Nb
    rw[take_length]at HS;clear hcell;go_wp2_with fail;go_ret2;refine (by unfold it;rw[HR.a];exact⟨u8,rfl,HS.a,HS.z.drop (fun x=>by simp only[af];omega)⟩)
def iv(vs:List Oi)(p:Bs):Nat->Nat
 | 0=>0
 | k+1=>if(vs[k]?).elim false (fun v => !cE p v.path)then k+1 else iv vs p k
def ky(vs:List Oi)(p:Bs):Nat->Int
 | 0=>1
 | k+1=>if(vs[k]?).elim false (fun v=>decide (v.path=p))then((vs[k]?).elim 0 (·.num))+1 else ky vs p k
theorem wK{vs:List Oi}{p:Bs}{k:Nat}(h:k<vs.length):iv vs p (k+1)=if cE p vs[k].path then iv vs p k else k+1:=by
 rw[iv,getElem?_eq_getElem h];by_cases h2:cE p vs[k].path=true<;>simp[h2]
theorem xo{vs:List Oi}{p:Bs}{k:Nat}(h:k<vs.length):ky vs p (k+1)=if vs[k].path=p then vs[k].num+1 else ky vs p k:=by
 rw[ky,getElem?_eq_getElem h];simp only[Option.elim_some,decide_eq_true_eq]
theorem yh(vs:List Oi)(p:Bs):∀k,iv vs p k<=k
 | 0=>Nat.le_refl _
 | k+1=>by
  have:=yh vs p k
  unfold iv
  split<;>omega
def dP(vs:List Oi)(p:Bs)(x:Oi):List Oi:=vs.take (iv vs p vs.length)++[x]++vs.drop (iv vs p vs.length)
def zE(R:Oh)(p c:Bs)(w:World)(e:Ending)(w':World):Prop :=
 (∃k:Int,e=.returned (.tuple #[.int .i64 0,.int .i64 k])/\aV w w'/\((R.closed=true/\k=9)\/(R.closed=false/\az p=false/\k=1)\/(R.closed=false/\az p=true/\4000<c.length/\k=2) \/
  (R.closed=false/\az p=true/\c.length<=4000/\R.quota<di R.vs+c.length/\k=7))) \/
 (R.closed=false/\az p=true/\c.length<=4000/\(di R.vs:Int)+c.length<=R.quota /\
  ∃VK cv,e=.returned (.tuple #[.int .i64 (ky R.vs p R.vs.length),.int .i64 0])/\PE cv c/\PI { R with vv:=VK,vs:=dP R.vs p ⟨p,ky R.vs p R.vs.length,c,cv,0⟩ } /\
   Turns (aC R) (aC { R with vv:=VK,vs:=dP R.vs p ⟨p,ky R.vs p R.vs.length,c,cv,0⟩ }++aJ cv c) w w')
theorem i4:∀a b:Bs,Op.bytesLess a b=cE a b
 | [],[]=>rfl
 | [],_::_=>rfl
 | _::_,[]=>rfl
 | a::ax,b::bs=>by
  simp only[Op.bytesLess,cE,i4 ax bs]
  by_cases h1:a<b
  ·simp[h1]
  ·by_cases h2:b<a
   ·have:¬a=b:=fun h=>by subst h;exact h1 h2
    simp[h1,h2,this]
   ·have:a=b:=UInt8.le_antisymm (UInt8.not_lt.1 h2) (UInt8.not_lt.1 h1)
    subst this
    simp
theorem tV{a b:Bs}(h:cE a b=true):cE b a=false:=by
 cases h2:cE b a with
 | false=>rfl
 | true=>have:=gX h h2;rw[eW]at this;cases this
theorem OD.one{R:Oh}{P:cU}{w:World}(h:OD R P w):∀v∈R.vs,v.cv.oneCell'=true:=fun v hv=>by
 obtain⟨sl,cap,e,-,-,-⟩:=h.cont hv
 rw[e];rfl
theorem xj{w:World}{xs:List Value}{t:TypeId}:ak (w.alloc (.cells xs.toArray t (0,0))) (some ⟨w.heap.size,0,none⟩) xs:=fun _ =>
 ⟨_,0,rfl,fun j hj=>by rw[Nat.zero_add];exact aa (aM _ _) j (by simp[getElem?_eq_getElem hj])⟩
theorem xE{w:World}{v:Value}{l:List Oi}(hs:Sat w (eh v l))(h:mf v l):∃sl cap,v=.slice sl l.length cap/\l.length<=cap/\cap<=9223372036854775807/\(∀k,ak w sl (bG (l.take k)))/\(∀k,k<=l.length->ak w (if cap=k then sl else sl.map (·.add (k*4))) (bG (l.drop k))):=by
 obtain⟨sl,cap,e,h1,h2,h3,-⟩:=bb hs h Nk;refine⟨sl,cap,e,h1,h2,fun k hp=>?_,fun k hk hp=>?_⟩
 ·rw[bA,NS]at hp;obtain⟨g,off,he,hc⟩:=h3 Nu;refine⟨g,off,he,fun j hj=>?_⟩;rw[bA,NS]at hj;rw[hc j Nu];have:bG l=bG (l.take k)++bG (l.drop k):=by rw[<- jr,take_append_drop]
  congr 1;rw[getElem_of_eq this,getElem_append_left]
 ·rw[bA,NT]at hp;obtain⟨g,off,he,hc⟩:=h3 Nu;rw[NQ Nb,he];refine⟨g,off+k*4,by simp[Addr.add],fun j hj=>?_⟩;rw[bA,NT]at hj;rw[Nat.add_assoc,hc (k*4+j) Nu];have:bG l=bG (l.take k)++bG (l.drop k):=by rw[<- jr,take_append_drop]
  congr 1;rw[getElem_of_eq this,getElem_append_right (by rw[bA,NS];omega)];congr 1;rw[bA,NS];omega
theorem NJ{p:Prop}(h:p:=by rw[NT]):p:=h
theorem uO(R:Oh)(P:cU)(p c:Bs)(P6:Option Addr)(OG:Nat)(w:World)(h:OD R P w)(hnum:∀v∈R.vs,0<=v.num/\v.num<=1099511627776)(hc:ak w P6 (c.map am))(hcl:c.length<=1000000):
  Calls prog 60 #[.pointer (some ⟨R.blk,0,none⟩),str p,.slice P6 c.length OG] w (zE R p c w):=by
 have HI:=NZ (jn p w);have hbl:=ae h.ref.Q5;have hlen:=h.len;have HH:=Oz h hnum hc;clear h hnum hc;go_enter func60,ntmps60;go_wp2_with fail;refine HI.o.mono ?_;rintro e w1 ⟨rfl,hs1⟩;have hA1:=HH.a.same hs1;have hb1:=hA1.ref.Q5;have c3:w1.cell? ⟨R.blk,3,none⟩=some (.bool R.closed):=aa hb1 3 rfl;have Yc:=ae hb1;have H1:=Ob hs1 hA1;clear hs1 hA1 hb1
 cases hc:R.closed with
 | true =>
  rw[hc]at c3;have HC:=NZ hc;clear hc;go_wp2_with fail;exact bodyPost_ret (results_tmp2 rfl _ _ _) rfl (.inl ⟨9,rfl,H1.a,.inl ⟨HC.o,rfl⟩⟩)
 | false =>
  rw[hc]at c3;have HC:=NZ hc;clear hc
  cases hp:az p with
  | false =>
   have HP:=NZ hp;go_wp2_with fail;exact bodyPost_ret (results_tmp2 rfl _ _ _) rfl (.inl ⟨1,rfl,H1.a,.inr (.inl ⟨HC.o,HP.o,rfl⟩)⟩)
  | true =>
   have HP:=NZ hp;by_cases hsz:4000<c.length
   ·go_wp2_with fail;exact bodyPost_ret (results_tmp2 rfl _ _ _) rfl (.inl ⟨2,rfl,H1.a,.inr (.inr (.inl ⟨HC.o,HP.o,hsz,rfl⟩))⟩)
   ·have HU:=NZ (Bz R P w1 H1.z);go_wp2_with fail;refine HU.o.mono ?_;rintro e w2 ⟨rfl,hs2⟩;have hA2:=H1.z.same hs2;have hb2:=hA2.ref.Q5;have c2:w2.cell? ⟨R.blk,2,none⟩=some (.int .i64 R.quota):=aa hb2 2 rfl;have Vf:=ae hb2;have Wy:=Ck hA2.TL;obtain⟨us,hus⟩:=Na (di R.vs);rw[<- hus]at Wy ⊢;have qau:us<=10000000000:=Nb
    have H2:=Oz (H1.a.trans hs2) hA2 hus;clear hs2 hA2 hb2 hus Wy;by_cases hq:R.quota<(us:Int)+c.length
    ·go_wp2_with fail;exact bodyPost_ret (results_tmp2 rfl _ _ _) rfl (.inl ⟨7,rfl,H2.a,.inr (.inr (.inr ⟨HC.o,HP.o,Nb,by rw[<- H2.y];exact hq,rfl⟩))⟩)
    ·have HQ:=NZ hq;have hq':¬(us:Int)+c.length>R.quota:=Nb
     go_wp2_with fail;go_loopw [10,11,12] (fun n a i wr=>∃k:Nat,k<=R.vs.length/\i=.int .i64 k/\n=.int .i64 (ky R.vs p k)/\a=.int .i64 (iv R.vs p k)/\aV w wr) (fun _ _ i _=>R.vs.length-(intOf i).toNat)
     case atStart=>exact⟨0,Nat.zero_le _,rfl,rfl,rfl,H2.a⟩
     case round =>
      obtain⟨k,hk,rfl,rfl,rfl,hs⟩:=hrel;have hA:=HH.a.same hs;obtain⟨sl,cap,e1,e2,e3,hb,hcell⟩:=hA.row;have c0:wr.cell? ⟨R.blk,0,none⟩=some (.slice sl R.vs.length cap):=by rw[<- e1];exact aa hb 0 rfl
      have UC:=ae hb;have HS:=Ob hs hA;clear hs hb;by_cases hlt:k<R.vs.length
      ·clear e1;obtain⟨g,off,hg,hcc⟩:=hcell Nb;subst hg;obtain⟨h0,h1,h2,h3⟩:=hcc k hlt;have hnx:=wK (p:=p) hlt;have hnn:=xo (p:=p) hlt;have hnr:=HH.b _ (getElem_mem hlt);obtain⟨pk,hpk⟩:=Na (R.vs[k].path);obtain⟨nk,hnk⟩:=Na (R.vs[k].num);rw[<- hpk]at h0 hnx hnn;rw[<- hnk]at h1 hnn hnr;have hgl:=World.block_lt_of_cell? wr _ h0;have HX:=Ob hnx hnn;clear hcc hcell hA hnx hpk hnk hnn h2 h3;by_cases hp:pk=p
       ·have hp':=hp.symm;clear hp;subst hp';have hbs:Op.bytesLess p p=false:=by rw[i4,eW]
        have hf1:iv R.vs p (k+1)=k+1:=by rw[HX.a,eW];rfl
        have hf2:ky R.vs p (k+1)=nk+1:=by rw[HX.z,NR rfl]
        have HF:=Ob hf1 hf2;clear hf1 hf2;go_wp2_with fail;go_roundw
        case rel=>exact⟨k+1,Nb,by go_num,by rw[HF.z],by rw[HF.a];go_num,by first|exact HS.a|exact HS.a.alloc _⟩
        case measure=>simp[intOf];omega
       ·have hpq:(pk==p)=false:=by simp[hp]
        have hf2:ky R.vs p (k+1)=ky R.vs p k:=by rw[HX.z,NQ hp]
        cases hbl:cE pk p with
        | true =>
         have hbs:Op.bytesLess pk p=true:=by rw[i4,hbl]
         have hf1:iv R.vs p (k+1)=k+1:=by rw[HX.a,tV hbl];rfl
         have HF:=Ob hf1 hf2;clear hf1 hf2;go_wp2_with fail;go_roundw
         case rel=>exact⟨k+1,Nb,by go_num,by rw[HF.z],by rw[HF.a];go_num,by first|exact HS.a|exact HS.a.alloc _⟩
         case measure=>simp[intOf];omega
        | false =>
         have hbs:Op.bytesLess pk p=false:=by rw[i4,hbl]
         have hf1:iv R.vs p (k+1)=iv R.vs p k:=by
          rw[HX.a]
          cases h2:cE p pk with
          | true=>rfl
          | false=>exact absurd (mM _ _ hbl h2) hp
         have HF:=Ob hf1 hf2;clear hf1 hf2;go_wp2_with fail;go_roundw
         case rel=>exact⟨k+1,Nb,by go_num,by rw[HF.z],by rw[HF.a],by first|exact HS.a|exact HS.a.alloc _⟩
         case measure=>simp[intOf];omega
      ·obtain rfl:k=R.vs.length:=Nb
       clear hcell;obtain⟨at_,hat⟩:=Na (iv R.vs p R.vs.length);obtain⟨nr,hnr⟩:=Na (ky R.vs p R.vs.length);have UA:at_<=R.vs.length:=by rw[hat];exact yh _ _ _
       have hone:=HS.z.one;rw[<- hat,<- hnr];have HN:=OW hat hnr UA hone;clear hat hnr;have hT0:Turns (aC R) (aJ (.slice none 0 0) []++aC R) w wr:=Turns.same HH.a.ref HS.a;have HT0:=NZ hT0;have hcw:ak wr P6 (c.map am):=HH.y.keep HS.a (fun _ _ _=>id);have HCW:=NZ hcw;clear hT0 hcw
       have W9:∀(W:World) (G:HF),Turns (aC R) (G++aC R) w W->W.cell? ⟨R.blk,0,none⟩=some (.slice sl R.vs.length cap)/\R.blk<W.heap.size/\(∀k,ak W sl (bG (R.vs.take k)))/\(∀k,k<=R.vs.length->ak W (if cap=k then sl else sl.map (·.add (k*4))) (bG (R.vs.drop k))):=by
        intro W G hT;have hs:=hT.sat.right;obtain⟨sl',cap',e1',-,-,e4',e5'⟩:=xE (Sat.left (Sat.tail hs)) HS.z.ok.vs;rw[e1]at e1';simp only[Value.slice.injEq,true_and]at e1';obtain⟨rfl,rfl⟩:=e1';exact⟨by rw[<- e1];exact aa hs.Q5 0 rfl,ae hs.Q5,e4',e5'⟩
       have TB:=NZ W9;clear W9 e1
       have hno:∀(v:Value) (l:List Oi) (G:HF) (W:World),mf v l->Sat W (eh v l++G)->v.oneCell'=true/\v.cells=#[v]:=fun v l G W hok hs=>by
        obtain⟨h1,h2,-⟩:=cT hs.left hok;exact⟨h1,h2⟩
       have U4:=NZ hno
       have hfin:∀(av:Option Addr) (cv:Nat) (v9:Value) (W:World),PE (.slice av c.length cv) c->mf v9 (R.vs.take at_++[⟨p,nr,c,.slice av c.length cv,0⟩]++R.vs.drop at_) ->
         Turns (aC R) ((R.blk,Is (.cells ((da R).setIfInBounds 0 v9) 60 (0,0)))::(eh v9 (R.vs.take at_++[⟨p,nr,c,.slice av c.length cv,0⟩]++R.vs.drop at_)++(eh R.vv R.vs++(eH R.tv R.ts++aJ (.slice av c.length cv) c)))) w W ->
         zE R p c w (.returned (.tuple #[.int .i64 nr,.int .i64 0])) W:=by
        intro av cv v9 W hb hr hT;refine .inr ⟨HC.o,HP.o,Nb,by rw[<- H2.y];omega,v9,.slice av c.length cv,by rw[<- HN.b],hb,?_,?_⟩
        ·rw[<- HN.b];unfold dP;rw[<- HN.a];exact⟨hr,HS.z.ok.ts⟩
        ·rw[<- HN.b];unfold dP;rw[<- HN.a];refine hT.drop (fun x=>?_);unfold aC;rw[show fL { R with vv:=v9,vs:=R.vs.take at_++[⟨p,nr,c,.slice av c.length cv,0⟩]++R.vs.drop at_ }=.cells ((da R).setIfInBounds 0 v9) 60 (0,0)from rfl];simp only[ao,af];omega
       have Uw:=NZ hfin;clear hfin hno;go_upto_region 21 with(fail)
       go_wp2_with (first
        | (at_builtin;refine ai rfl ?_;refine fu (.tmp 77) (.tmp 78) rfl (.slice none 0 0) [] rfl HT0.o go P6 c.length OG rfl c rfl HCW.o Nj ?_;intro av cv w5 Pe Og hn5;simp only[nil_append]at Pe Og ⊢;obtain⟨d0,d1,d2,d3⟩:=TB.o _ _ Og;have H5:=OW Pe Og d2 d3;clear Pe Og hn5 d2 d3)
        | (at_builtin;refine ai rfl ?_;refine ip (.tmp 80) (.tmp 86) rfl (.slice none 0 0) [] rfl (G:=aC R++aJ (.slice av c.length cv) c) (H5.b.to (by rw[show eh (.slice none 0 0) []=[]from rfl];exact ac)) ⟨rfl,fun _=>⟨rfl,rfl⟩⟩ _ _ _ rfl (R.vs.take at_) (by rw[NS,Nat.min_eq_left HN.c]) (H5.c at_) (fun v hv=>HN.x v (mem_of_mem_take hv)) (by rw[NS,Nat.min_eq_left HN.c];simp;omega) ?_;intro v7 w7 PN OH;simp only[nil_append]at PN OH;obtain⟨d0,d1,-,-⟩:=TB.o _ (eh v7 (R.vs.take at_)++aJ (.slice av c.length cv) c) (OH.to ac);have H7:=Ob PN OH;clear PN OH)
        | (at_builtin;refine ai rfl ?_;(refine ip (.tmp 88) (.tmp 93) rfl v7 (R.vs.take at_) rfl (H7.z.alloc _) H7.a _ 1 1 rfl [⟨p,nr,c,.slice av c.length cv,0⟩] rfl (xj (xs:=lF ⟨p,nr,c,.slice av c.length cv,0⟩)) (fun v hv=>by obtain rfl:=mem_singleton.1 hv;rfl) (by rw[NS,Nat.min_eq_left HN.c];simp;omega) ?_;intro v8 w8 Vr OX;obtain⟨d0,d1,-,d3⟩:=TB.o _ (eh v8 (R.vs.take at_++[⟨p,nr,c,.slice av c.length cv,0⟩])++aJ (.slice av c.length cv) c) (OX.to ac);have H8:=Oz Vr OX d3;clear Vr OX d3))
        | (at_builtin;refine ai rfl ?_;(refine ip (.tmp 95) (.tmp 101) rfl v8 (R.vs.take at_++[⟨p,nr,c,.slice av c.length cv,0⟩]) rfl H8.b H8.a _ _ _ rfl (R.vs.drop at_) NJ (H8.y at_ HN.c) (fun v hv=>HN.x v (mem_of_mem_drop hv)) Nj ?_;intro v9 w9 QS O4;obtain⟨d0,d1,-,-⟩:=TB.o _ (eh v9 (R.vs.take at_++[⟨p,nr,c,.slice av c.length cv,0⟩]++R.vs.drop at_)++aJ (.slice av c.length cv) c) (O4.to ac);have H9:=Ob QS O4;clear QS O4))
        | (refine ai rfl (aX 57 (.tmp 106) (.tmp 104) rfl R.blk 0 (da R) 60 v9 (H9.z.to (H:=(R.blk,Is (fL R))::(eh v9 (R.vs.take at_++[⟨p,nr,c,.slice av c.length cv,0⟩]++R.vs.drop at_)++(eh R.vv R.vs++(eH R.tv R.ts++aJ (.slice av c.length cv) c)))) (by unfold aC;exact ac)) rfl rfl (by simp[da]) Nc (U4.o _ _ _ _ H9.a H9.z.sat).1 (U4.o _ _ _ _ H9.a H9.z.sat).2 ?_);intro w10 OM;have QW:=NZ OM;clear OM;simp only[Act.put]))
       all_goals (refine bodyPost_ret (results_tmp2 rfl _ _ _) rfl ?_;exact Uw.o _ _ _ _ H5.a H9.a QW.o)
end
section
open Go.RowKit Go.Sort
def ek(v:Value)(l:List OI):HF:=bH 262 4 v l.length (l.flatMap cz)
def qe(v:Value)(l:List OI):Prop:=ei 4 v l.length (l.flatMap cz)
theorem gM(l:List OI):(l.flatMap cz).length=l.length*4:=by
 induction l with
 | nil=>rfl
 | cons a r ih=>rw[flatMap_cons,NM,ih];simp[cz];omega
theorem qi:∀(es:List OI) (t:Nat) (_:t<es.length*4),(es.flatMap cz)[t]?=some ((cz es.toArray[t / 4]!)[t%4]!)
 | [],t,h=>by simp at h
 | x::r,t,h=>by
  rw[flatMap_cons]
  by_cases h4:t<4
  ·rw[getElem?_append_left (by simpa[cz]using h4)]
   have e1:t / 4=0:=Nb
   have e2:t%4=t:=Nb
   rw[e1,e2]
   have:(x::r).toArray[0]! = x := by simp
   rw[this]
   rcases(show t=0\/t=1\/t=2\/t=3 by omega)with rfl|rfl|rfl|rfl<;>rfl
  ·rw[getElem?_append_right (by simp[cz];omega)]
   have hl:(cz x).length=4:=rfl
   rw[hl,qi r (t-4) (by simp at h;omega)]
   have e1:t / 4=(t-4) / 4+1:=Nb
   have e2:t%4=(t-4)%4:=Nb
   rw[e1,e2]
   have hi:(t-4) / 4<r.length:=by simp at h;omega
   have:(x::r).toArray[(t-4) / 4+1]! = r.toArray[(t-4) / 4]! := by
    rw[getElem!_pos _ _ Nj,getElem!_pos _ _ (by simpa using hi)];simp
   rw[this]
theorem uj(es:List OI):flatK cz 4 es.toArray=(es.flatMap cz).toArray:=by
 apply Array.ext_getElem?;intro t;by_cases h:t<es.length*4
 ·have h1:=qi es t h;have h2:(es.flatMap cz).toArray[t]?=some ((cz es.toArray[t / 4]!)[t%4]!):=by simpa using h1
  rw[h2];have hs:t<(flatK cz 4 es.toArray).size:=by simpa using h
  rw[Array.getElem?_eq_getElem hs,<- getElem!_pos (flatK cz 4 es.toArray) t hs,get_flatK _ _ _ _ (by simpa using h)]
 ·rw[Array.getElem?_eq_none Nj,Array.getElem?_eq_none (by rw[size_toArray,gM];omega)]
theorem EG(l:List OI):∀u∈l.flatMap cz,u.oneCell'=true:=fun u hu=>by
 obtain⟨x,-,hx⟩:=mem_flatMap.1 hu
 simp only[cz,mem_cons,not_mem_nil,or_false]at hx
 rcases hx with rfl|rfl|rfl|rfl<;>rfl
def CE(es es':List OI):Prop:=es'.Perm es/\∀i j,i<j->∀(hj:j<es'.length) (hi:i<es'.length),cE es'[j].p es'[i].p=false
theorem D6{F G:HF}{A W:World}{v:Value}{es:List OI}(h:Turns F (ek v es++G) A W)(hok:qe v es)(hne:es≠[])(hl:es.length<1000000):
  ∃g cap,v=.slice (some ⟨g,0,none⟩) es.length cap/\Calls prog 133 #[.slice (some ⟨g,0,none⟩) es.length cap,.func (.func 134) #[] #[]] W (fun e w'=>e=.returned (.tuple #[])/\∃es',CE es es'/\qe v es'/\Turns F (ek v es'++G) A w'):=by
 have hown:=aW h.sat.left hok;rcases hown.2 with⟨-,h0⟩|⟨g,cap,cur,rfl,-,hg,h1,h2,h3,h4⟩
 ·exact absurd (eq_nil_of_length_eq_zero h0) hne
 ·refine⟨g,cap,rfl,?_⟩;have eg:∀args w,(callFunc 134 args).run prog w=.ok (.enter 134 args) w:=enters_of func134 Nc rfl
  have hH:HoldsK cz 4 W g 0 es.toArray:=by
   unfold HoldsK;rw[uj];intro j hj;have hj':j<(es.flatMap cz).length:=by simpa using hj
   refine⟨?_,aY hg _⟩;rw[Nat.zero_add];refine aa hg j ?_;rw[<- Array.getElem?_toList];have e1:(cur.toList.take (es.length*4))[j]?=cur.toList[j]?:=by rw[getElem?_take,NR (by rw[gM]at hj';omega)]
   rw[<- e1,h4,getElem?_eq_getElem hj'];congr 1;rw[getElem!_pos _ _ (by simpa using hj)];simp
  have hcon:=AnyQ.slices_SortFunc LF 4 isAgg262 sizeOf262 cz (fun _=>rfl) (fun x v hv=>by simp[cz]at hv;rcases hv with rfl|rfl|rfl|rfl<;>rfl) ph L8 134 #[] g 0 cap es.toArray W eg (Kx g 0 es.toArray.size W) hH (ae hg) Nj;have hsz:es.toArray.size=es.length:=Nh
  rw[hsz]at hcon;change Calls prog 133 _ _ _ at hcon;refine hcon.mono ?_;rintro e w' ⟨rfl,d',n,os,hp,hs,rfl⟩;have hd':d'.size=es.length:=by rw[hp.1];simp
  have hperm:d'.toList.Perm es:=by
   have:=hp.2.2;rw[Array.extract_eq_self_of_le Nb]at this;rw[Array.extract_eq_self_of_le Nh]at this;simpa using this
  refine⟨rfl,d'.toList,⟨hperm,fun i j hij hj hi=>?_⟩,?_,?_⟩
  ·have:=hs i j (Nat.zero_le _) hij (by rw[<- hd'];simpa using hj);rw[EF]at this;rw[getElem!_pos d' j (by simpa using hj),getElem!_pos d' i (by simpa using hi)]at this;simpa using this
  ·exact⟨by rw[gM],fun hn=>by simp[Value.ownBlock]at hn⟩
  ·have hfl:flatK cz 4 d'=(d'.toList.flatMap cz).toArray:=by
    have:=uj d'.toList;simpa using this
   have hdl:d'.toList.length=es.length:=by simpa using hd'
   have hgl:=ae hg
   have hW:(sortWorldK cz 4 W g 0 n d' os).heap[g]?=some (.cells (putCells id 0 (flatK cz 4 d') cur) 262 (0,0)):=by
    unfold sortWorldK;rw[heap_grow_old _ _ (by unfold putRowK;rw[size_putRow];exact hgl)];unfold putRowK putRow mapBlock;show((W.heap.modify g (onCells (putCells id 0 (flatK cz 4 d')))))[g]?=_;rw[Array.getElem?_modify,NR rfl,hg];rfl
   have hM:N7 (fun k=>k=g) W (sortWorldK cz 4 W g 0 n d' os):=by
    refine⟨rfl,rfl,rfl,?_,fun k hk hne=>?_⟩
    ·unfold sortWorldK;rw[Go.Sort.size_grow];unfold putRowK;rw[size_putRow];simp
    ·unfold sortWorldK;rw[heap_grow_old _ _ (by unfold putRowK;rw[size_putRow];exact hk)];unfold putRowK putRow mapBlock;show((W.heap.modify g (onCells (putCells id 0 (flatK cz 4 d')))))[k]?=_;rw[Array.getElem?_modify,NQ (fun e=>hne e.symm)]
   have hpc:(putCells id 0 (flatK cz 4 d') cur).toList.take (es.length*4)=d'.toList.flatMap cz:=by
    apply ext_getElem?;intro t;rw[getElem?_take];split
    ·rename_i ht;rw[Array.getElem?_toList];unfold putCells;rw[Array.getElem?_mapIdx];have htc:t<cur.size:=by rw[h3];omega
     rw[Array.getElem?_eq_getElem htc,Option.map_some,NR ⟨Nat.zero_le _,by rw[size_flatK];omega⟩,Nat.sub_zero];have ht2:t<(d'.toList.flatMap cz).length:=by rw[gM,hdl];exact ht
     rw[getElem?_eq_getElem ht2,hfl,getElem!_pos _ _ (by simpa using ht2)];simp
    ·rename_i ht;rw[getElem?_eq_none (by rw[gM,hdl];omega)]
   have hrow:ek (.slice (some ⟨g,0,none⟩) es.length cap) es++G=(g,_)::G:=rfl;rw[hrow]at h;have hrow2:ek (.slice (some ⟨g,0,none⟩) es.length cap) d'.toList++G=(g,fun o=>∃cap2 XM,Value.slice (some ⟨g,0,none⟩) es.length cap=.slice (some ⟨g,0,none⟩) d'.toList.length cap2/\o=.cells XM 262 (0,0)/\d'.toList.length<=cap2/\cap2<=maxLen/\XM.size=cap2*4/\XM.toList.take (d'.toList.length*4)=d'.toList.flatMap cz)::G:=rfl;rw[hrow2];exact h.put hM hW ⟨cap,_,by rw[hdl],rfl,by rw[hdl];exact h1,h2,by unfold putCells;rw[Array.size_mapIdx];exact h3,by rw[hdl];exact hpc⟩
end
section
open Go.RowKit Go.Maps
theorem Turns.pin{F G:HF}{a0 w:World}{g:Nat}{φ:Obj->Prop}(h:Turns F ((g,φ)::G) a0 w):∃o,φ o/\Turns F ((g,Is o)::G) a0 w:=by
 obtain⟨o,ho,hφ⟩:=h.sat.head
 exact⟨o,hφ,h.mods,⟨h.sat.nodup,fun p hp=>by
  rcases mem_cons.1 hp with rfl|hp
  ·exact⟨o,ho,rfl⟩
  ·exact h.sat.sat p (mem_cons_of_mem _ hp)⟩,h.fresh⟩
theorem Turns.Qn{F G:HF}{a0 w:World}{g:Nat}{φ:Obj->Prop}{o:Obj}(h:Turns F ((g,Is o)::G) a0 w)(ho:φ o):Turns F ((g,φ)::G) a0 w :=
 ⟨h.mods,⟨h.sat.nodup,fun p hp=>by
  rcases mem_cons.1 hp with rfl|hp
  ·exact⟨o,h.sat.Q5,ho⟩
  ·exact h.sat.sat p (mem_cons_of_mem _ hp)⟩,h.fresh⟩
theorem pD{P:Program}{w a0:World}{o:Oper}{a:Act}{K:Act->World->Prop}{Q:Exit->Act->World->Prop}{F G:HF}(ty:TypeId)(x y:Operand)(ho:o.op=.store ty x y)(e:TypeId)(size n g cap:Nat)(xs:List Value)(hT:Turns F (bH e size (.slice (some ⟨g,0,none⟩) n cap) n xs++G) a0 w)(hok:ei size (.slice (some ⟨g,0,none⟩) n cap) n xs)(i:Nat)(hi:i<n*size)(u:Value)(hx:a.eval x=.pointer (some ⟨g,i,none⟩))(hy:a.eval y=u)(hsz:(P.info? ty).map (·.size)=some 1)(h1:u.oneCell'=true)(UZ:u.cells=#[u])(hk:∀w',ei size (.slice (some ⟨g,0,none⟩) n cap) n (xs.set i u)->Turns F (bH e size (.slice (some ⟨g,0,none⟩) n cap) n (xs.set i u)++G) a0 w'->K (a.put o.dst undef) w'):o.wp P a w K Q:=by
 have hT':Turns F ((g,fun o=>∃cap' cur,(.slice (some ⟨g,0,none⟩) n cap:Value)=.slice (some ⟨g,0,none⟩) n cap'/\o=.cells cur e (0,0)/\n<=cap'/\cap'<=maxLen/\cur.size=cap'*size/\cur.toList.take (n*size)=xs)::G) a0 w:=hT;obtain⟨o',⟨cap',cur,hv,rfl,h3,h4,h5,h6⟩,hp⟩:=hT'.pin;have hcs:n*size<=cur.size:=by rw[h5];exact Nat.mul_le_mul_right _ h3
 refine aX ty x y ho g i cur e u hp hx hy Nb hsz h1 UZ (fun w' hT2=>hk w' ⟨by rw[length_set];exact hok.1,hok.2⟩ ?_);exact hT2.Qn ⟨cap',_,hv,rfl,h3,h4,by simpa using h5,by rw[Array.toList_setIfInBounds,take_set,h6]⟩
def ew(v:Value)(l:List OI):HF:=bH 266 4 v l.length (l.flatMap cz)
def nW(v:Value)(l:List OI):Prop:=ei 4 v l.length (l.flatMap cz)
theorem Jc:(prog.info? 266).map (fun i=>(i.zero,i.size,i.bytes))=some (some (.agg #[str [],.int .i64 0,.int .i64 0,.int .i64 0]),4,40):=Nc
theorem sy{o:Oper}{a:Act}{w a0:World}{K:Act->World->Prop}{Q:Exit->Act->World->Prop}{F G:HF}(s x:Operand)(hop:o.op=.call { callee:=.builtin .append,args:=#[s,x],argTypes:=#[184,184] })(v:Value)(l:List OI)(hs:a.eval s=v)(hT:Turns F (ew v l++G) a0 w)(hok:nW v l)(nb:Nat)(hx:a.eval x=.slice (some ⟨nb,0,none⟩) 1 1)(r:OI)(hc:w.heap[nb]?=some (.cells (cz r).toArray 266 (0,0)))(hb:l.length<=1000000)(hk:∀v' w',nW v' (l++[r])->Turns F (ew v' (l++[r])++G) a0 w'->K (a.put o.dst v') w'):o.wp prog a w K Q:=by
 obtain⟨i0,hi0,hz1,hz2,hz3⟩:=info_parts Jc;refine cL s x 184 266 i0 (.agg #[str [],.int .i64 0,.int .i64 0,.int .i64 0]) 4 40 hop underlying184 hi0 hz1 hz2 hz3 rfl Nk v l.length (l.flatMap cz) hs hT hok (some ⟨nb,0,none⟩) 1 1 hx (cz r) rfl (fun _=>⟨_,rfl,fun j u hu=>?_⟩) (fun u hu=>EG [r] u (by simpa using hu)) (by unfold maxLen;omega) Nb (fun v' w' h1 h2 h3=>?_)
 ·rw[Addr.add_lit];rw[show(0+j)=j by omega];exact aa hc j (by rw[getElem?_toArray];exact hu)
 ·have e1:(l++[r]).flatMap cz=l.flatMap cz++cz r:=Nh
  exact hk v' w' (by unfold nW;rw[NM,e1];exact h1) (by unfold ew;rw[NM,e1];exact h2)
def iy(es:List OI)(p:Bs):List OI:=if es.getLast?.map (·.p)=some p then es else es++[⟨p,0,0,0⟩]
def pi(es:List OI)(num size:Int):List OI:=match es.getLast? with
 | none=>[]
 | some e=>es.dropLast++[⟨e.p,num,size,e.n+1⟩]
def jk(pre:Bs)(es:List OI)(v:Oi):List OI:=if pre.isPrefixOf v.path then pi (iy es v.path) v.num v.cont.length else es
def gd(pre:Bs)(vs:List Oi):List OI:=vs.foldl (jk pre) []
theorem Db{pre:Bs}{vs:List Oi}{k:Nat}(h:k<vs.length):gd pre (vs.take (k+1))=jk pre (gd pre (vs.take k)) vs[k]:=by
 unfold gd;rw[QH h,foldl_append];rfl
theorem rZ(es:List OI)(e:OI)(num size:Int):pi (es++[e]) num size=es++[⟨e.p,num,size,e.n+1⟩]:=by simp[pi]
theorem AA(es:List OI)(p:Bs):(iy es p).length<=es.length+1:=by unfold iy;split<;>simp
theorem Da(es:List OI)(n s:Int):(pi es n s).length=es.length:=by
 unfold pi
 cases h:es.getLast? with
 | none=>rw[getLast?_eq_none_iff.1 h]
 | some e =>
  have hne:es≠[]:=fun he=>by rw[he]at h;cases h
  have:=length_pos_iff.2 hne;simp only[NM,length_dropLast,length_singleton];omega
theorem rf(pre:Bs):∀(vs:List Oi),(gd pre vs).length<=vs.length:=fun vs=>by
 suffices h:∀(vs:List Oi) (es:List OI),(vs.foldl (jk pre) es).length<=es.length+vs.length from by unfold gd;simpa using h vs []
 intro vs
 induction vs with
 | nil=>intro es;simp
 | cons v r ih =>
  intro es
  have h1:=ih (jk pre es v)
  have h2:(jk pre es v).length<=es.length+1:=by
   unfold jk;split
   ·rw[Da];exact AA _ _
   ·omega
  simp only[foldl_cons,length_cons];omega
theorem Ky{pre:Bs}:∀(vs:List Oi),∀e∈gd pre vs,0<=e.n/\e.n<=vs.length:=fun vs=>by
 suffices h:∀(vs:List Oi) (es:List OI) (b:Nat),(∀e∈es,0<=e.n/\e.n<=b)->∀e∈vs.foldl (jk pre) es,0<=e.n/\e.n<=(b+vs.length:Nat)from by
  have:=h vs [] 0 (fun e he=>by cases he);unfold gd;simpa using this
 intro vs;induction vs with
 | nil=>intro es b h e he;have:=h e he;simpa using this
 | cons v r ih =>
  intro es b h e he
  have h2:∀e∈jk pre es v,0<=e.n/\e.n<=(b+1:Nat):=by
   intro e he;unfold jk at he;split at he
   ·have h3:∀e∈iy es v.path,0<=e.n/\e.n<=b:=by
     intro e he;unfold iy at he;split at he
     ·exact h e he
     ·rcases mem_append.1 he with he|he
      ·exact h e he
      ·obtain rfl:=mem_singleton.1 he;simp
    unfold pi at he
    cases hl:(iy es v.path).getLast? with
    | none=>rw[hl]at he;cases he
    | some x =>
     rw[hl]at he;rcases mem_append.1 he with he|he
     ·have:=h3 e ((dropLast_sublist _).mem he);omega
     ·obtain rfl:=mem_singleton.1 he;have:=h3 x (mem_of_getLast? hl);simp only;omega
   ·have:=h e he;omega
  have:=ih _ (b+1) h2 e he;simp only[length_cons];omega
theorem AD(pk:Bs)(n:Nat):((ByteArray.mk pk.toArray).extract 0 n).toList=pk.take n:=by
 rw[Lib.toList_data];simp[ByteArray.extract,ByteArray.copySlice]
def Fk(R:Oh)(pre:Bs)(w:World)(e:Ending)(w':World):Prop :=
 (R.closed=true/\e=.returned (.tuple #[.slice none 0 0,.int .i64 9])/\aV w w') \/
 (R.closed=false/\∃v,e=.returned (.tuple #[v,.int .i64 0])/\nW v (gd pre R.vs)/\Turns [] (ew v (gd pre R.vs)) w w')
theorem Bn{pre l:Bs}(_:pre.length<=l.length):pre.isPrefixOf l=decide (l.take pre.length=pre):=by
 rw[Bool.eq_iff_iff,decide_eq_true_eq,isPrefixOf_iff_prefix,prefix_iff_eq_take];exact eq_comm
theorem Gq{pre l:Bs}(h:l.length<pre.length):pre.isPrefixOf l=false:=by
 rw[Bool.eq_false_iff];intro h2;have:=(isPrefixOf_iff_prefix.1 h2).length_le;omega
theorem qA{w:World}{v:Value}{es:List OI}(hs:Sat w (ew v es))(h:nW v es):∃sl cap,v=.slice sl es.length cap/\es.length<=cap/\cap<=9223372036854775807/\(es≠[]->∃g,sl=some ⟨g,0,none⟩/\g<w.heap.size/\∀i (hi:i<es.length),w.cell? ⟨g,i*4,none⟩=some (str es[i].p)/\w.cell? ⟨g,i*4+1,none⟩=some (.int .i64 es[i].latest)/\w.cell? ⟨g,i*4+2,none⟩=some (.int .i64 es[i].size)/\w.cell? ⟨g,i*4+3,none⟩=some (.int .i64 es[i].n)):=by
 obtain⟨hl,hc⟩:=aW hs h;rcases hc with⟨rfl,hn⟩|⟨g,cap,cur,rfl,_,hg,h1,h2,h3,h4⟩
 ·have:es=[]:=length_eq_zero_iff.1 hn;subst this;exact⟨none,0,rfl,Nat.le_refl _,Nb,fun h=>absurd rfl h⟩
 ·refine⟨_,cap,rfl,h1,by unfold maxLen at h2;omega,fun hne=>⟨g,rfl,ae hg,fun i hi=>?_⟩⟩
  have hcell:∀j,j<4->w.cell? ⟨g,i*4+j,none⟩=(es.flatMap cz)[i*4+j]?:=by
   intro j hj
   have e1:(es.flatMap cz)[i*4+j]?=cur[i*4+j]?:=by
    rw[<- h4,getElem?_take,NR Nb,Array.getElem?_toList]
   have e2:i*4+j<cur.size:=by rw[h3];omega
   rw[e1,Array.getElem?_eq_getElem e2];exact aa hg _ (Array.getElem?_eq_getElem e2)
  have hv:∀j,j<4->(es.flatMap cz)[i*4+j]?=some ((cz es[i])[j]!):=by
   intro j hj;rw[qi es (i*4+j) Nb];rw[show(i*4+j) / 4=i by omega,show(i*4+j)%4=j by omega];simp[hi]
  refine⟨?_,?_,?_,?_⟩
  ·have:=hcell 0 Nb;rw[hv 0 Nb]at this;exact this
  ·have:=hcell 1 Nb;rw[hv 1 Nb]at this;exact this
  ·have:=hcell 2 Nb;rw[hv 2 Nb]at this;exact this
  ·have:=hcell 3 Nb;rw[hv 3 Nb]at this;exact this
theorem BS(es:List OI)(e:OI)(j:Nat)(u:Value):((es++[e]).flatMap cz).set (es.length*4+j) u=es.flatMap cz++(cz e).set j u:=by
 rw[flatMap_append,set_append,NQ (by rw[gM];omega),gM];simp
theorem jf{w a0:World}{o:Oper}{a:Act}{K:Act->World->Prop}{Q:Exit->Act->World->Prop}{F G:HF}(ty:TypeId)(x y:Operand)(ho:o.op=.store ty x y)(z g cap:Nat)(es0:List OI)(e e':OI)(hz:es0.length=z)(hT:Turns F (ew (.slice (some ⟨g,0,none⟩) (z+1) cap) (es0++[e])++G) a0 w)(hok:nW (.slice (some ⟨g,0,none⟩) (z+1) cap) (es0++[e]))(j:Nat)(hj:j<4)(u:Value)(hx:a.eval x=.pointer (some ⟨g,z*4+j,none⟩))(hy:a.eval y=u)(hsz:(prog.info? ty).map (·.size)=some 1)(h1:u.oneCell'=true)(UZ:u.cells=#[u])(he:cz e'=(cz e).set j u)(hk:∀w',nW (.slice (some ⟨g,0,none⟩) (z+1) cap) (es0++[e'])->Turns F (ew (.slice (some ⟨g,0,none⟩) (z+1) cap) (es0++[e'])++G) a0 w'->K (a.put o.dst undef) w'):o.wp prog a w K Q:=by
 have e1:((es0++[e]).flatMap cz).set (z*4+j) u=(es0++[e']).flatMap cz:=by rw[<- hz,BS,<- he];simp
 have e2:(es0++[e]).length=z+1:=by simp[hz]
 have e3:(es0++[e']).length=z+1:=by simp[hz]
 unfold ew nW at *
 rw[e2]at hT hok;rw[e3]at hk;refine pD ty x y ho 266 4 (z+1) g cap _ hT hok (z*4+j) Nb u hx hy hsz h1 UZ (fun w' k1 k2=>hk w' ?_ ?_)
 ·rw[<- e1];exact k1
 ·rw[<- e1];exact k2
theorem JD{w a0:World}{F G:HF}(z g cap:Nat)(es0:List OI)(e e':OI)(hz:es0.length=z)(hT:Turns F (ew (.slice (some ⟨g,0,none⟩) (z+1) cap) (es0++[e])++G) a0 w)(hok:nW (.slice (some ⟨g,0,none⟩) (z+1) cap) (es0++[e]))(j:Nat)(_:j<4)(u:Value)(he:cz e'=(cz e).set j u):
  nW (.slice (some ⟨g,0,none⟩) (z+1) cap) (es0++[e'])/\Turns F (ew (.slice (some ⟨g,0,none⟩) (z+1) cap) (es0++[e'])++G) a0 (w.setCell ⟨g,z*4+j,none⟩ u):=by
 have e1:((es0++[e]).flatMap cz).set (z*4+j) u=(es0++[e']).flatMap cz:=by rw[<- hz,BS,<- he];simp
 have e2:(es0++[e]).length=z+1:=by simp[hz]
 have e3:(es0++[e']).length=z+1:=by simp[hz]
 unfold ew nW at *
 rw[e2]at hT hok;rw[e3,<- e1];refine⟨⟨by rw[length_set];exact hok.1,hok.2⟩,?_⟩;have hT':Turns F ((g,fun o=>∃cap' cur,(.slice (some ⟨g,0,none⟩) (z+1) cap:Value)=.slice (some ⟨g,0,none⟩) (z+1) cap'/\o=.cells cur 266 (0,0)/\(z+1)<=cap'/\cap'<=maxLen/\cur.size=cap'*4/\cur.toList.take ((z+1)*4)=(es0++[e]).flatMap cz)::G) a0 w:=hT;obtain⟨o',⟨cap',cur,hv,rfl,h3,h4,h5,h6⟩,hp⟩:=hT'.pin;have hT2:=hp.Qa ((N7.refl (fun k=>k=g) w).set1 u) (bq hp.sat.Q5 (z*4+j) u);exact hT2.Qn ⟨cap',_,hv,rfl,h3,h4,by simpa using h5,by rw[Array.toList_setIfInBounds,take_set,h6]⟩
def RZ(pk:Bs)(nk:Int)(cv hv:Value):Obj:=.cells #[.string ⟨pk.toArray⟩,.int .i64 nk,cv,hv] 193 (0,0)
theorem jO{w W:World}{vb g z cap:Nat}{pk:Bs}{nk:Int}{cv hv:Value}{es0:List OI}{e:OI}{J:HF}(hT:Turns [] ((vb,Is (RZ pk nk cv hv))::(ew (.slice (some ⟨g,0,none⟩) (z+1) cap) (es0++[e])++J)) w W)(hok:nW (.slice (some ⟨g,0,none⟩) (z+1) cap) (es0++[e]))(hz:es0.length=z):
  W.cell? ⟨vb,0,none⟩=some (.string ⟨pk.toArray⟩)/\W.cell? ⟨vb,1,none⟩=some (.int .i64 nk)/\W.cell? ⟨vb,2,none⟩=some cv/\vb<W.heap.size/\g<W.heap.size/\W.cell? ⟨g,z*4,none⟩=some (str e.p)/\W.cell? ⟨g,z*4+3,none⟩=some (.int .i64 e.n)/\z+1<=cap/\cap<=9223372036854775807/\W.frozen? ⟨g,z*4+3,none⟩=false:=by
 have hv:=hT.sat.Q5;obtain⟨sl,cap',e1,e2,e3,e4⟩:=qA hT.sat.tail.left hok;simp only[Value.slice.injEq]at e1;obtain⟨rfl,h5,rfl⟩:=e1;obtain⟨g',hg,hgl,hc⟩:=e4 Nh;simp only[NY,Addr.mk.injEq,and_true]at hg;subst hg;obtain⟨c0,c1,c2,c3⟩:=hc z Nj;have hze:(es0++[e])[z]'Nj=e:=by subst hz;simp
 rw[hze]at c0 c3;obtain⟨o,ho,cap2,cur,-,rfl,-⟩:=Sat.head (show Sat W ((g,fun o=>∃cap' cur,(.slice (some ⟨g,0,none⟩) (z+1) cap:Value)=.slice (some ⟨g,0,none⟩) (es0++[e]).length cap'/\o=.cells cur 266 (0,0)/\(es0++[e]).length<=cap'/\cap'<=maxLen/\cur.size=cap'*4/\cur.toList.take ((es0++[e]).length*4)=(es0++[e]).flatMap cz)::[])from hT.sat.tail.left);exact⟨aa hv 0 rfl,aa hv 1 rfl,aa hv 2 rfl,ae hv,hgl,c0,c3,by rw[h5];exact e2,e3,aY ho _⟩
theorem sn(R:Oh)(P:cU)(pre:Bs)(w:World)(h:OD R P w):
  Calls prog 89 #[.pointer (some ⟨R.blk,0,none⟩),str pre] w (Fk R pre w):=by
 have hbl:=ae h.ref.Q5;have hlen:=h.len;have c3:w.cell? ⟨R.blk,3,none⟩=some (.bool R.closed):=aa h.ref.Q5 3 rfl;have HH:=NZ h;clear h;go_enter func89,ntmps89
 cases hc:R.closed with
 | true =>
  rw[hc]at c3;have HC:=NZ hc;clear hc;go_wp2_with fail;exact bodyPost_ret (results_tmp2 rfl _ _ _) rfl (.inl ⟨HC.o,rfl,N7.refl _ _⟩)
 | false =>
  rw[hc]at c3;have HC:=NZ hc;clear hc;go_wp2_with fail;go_loopw [6,7] (fun l i wr=>∃(k:Nat) (J:HF),k<=R.vs.length/\i=.int .i64 k/\nW l (gd pre (R.vs.take k))/\Turns [] (ew l (gd pre (R.vs.take k))++J) w wr) (fun _ i _=>R.vs.length-(intOf i).toNat)
  case atStart=>exact⟨0,[],Nat.zero_le _,rfl,⟨rfl,fun _=>⟨rfl,rfl⟩⟩,Turns.refl (Sat.nil w)⟩
  case round =>
   obtain⟨k,J,hk,rfl,hro,hT⟩:=hrel;have hA:=HH.o.same hT.news;obtain⟨sl,cap,e1,e2,e3,hb,hcell⟩:=hA.row;have c0:wr.cell? ⟨R.blk,0,none⟩=some (.slice sl R.vs.length cap):=by rw[<- e1];exact aa hb 0 rfl
   have UC:=ae hb;by_cases hlt:k<R.vs.length
   ·obtain⟨g,off,hg,hcc⟩:=hcell Nb;subst hg;obtain⟨h0,h1,h2,h3⟩:=hcc k hlt;obtain⟨P6,OG,hcv,-,-,-⟩:=hA.cont (getElem_mem hlt);rw[hcv]at h2;have hnx:=Db (pre:=pre) hlt;have hel:=rf pre (R.vs.take k);have hen:=Ky (pre:=pre) (R.vs.take k);rw[NS,Nat.min_eq_left hk]at hel hen;obtain⟨es,hes⟩:=Na (gd pre (R.vs.take k));rw[<- hes]at hnx hel hen hro hT;obtain⟨YJ,RH,RX,hr2,hr3,hrc⟩:=qA hT.sat.left hro;obtain⟨pk,hpk⟩:=Na (R.vs[k].path);obtain⟨nk,hnk⟩:=Na (R.vs[k].num);obtain⟨cl,hcl⟩:=Na (R.vs[k].cont.length);unfold jk at hnx;rw[<- hpk]at h0 hnx;rw[<- hnk]at h1 hnx;rw[<- hcl]at h2 hnx;have hgl:=World.block_lt_of_cell? wr _ h0;subst RX;have HX:=PD hnx hro hT hen hrc;clear hcc hcell hA hcv hnx hpk hnk hcl hes hro hT hen hb e1;by_cases hsh:pk.length<pre.length
    ·have hfin:gd pre (R.vs.take (k+1))=es:=by rw[HX.a,Gq hsh];rfl
     have HF:=NZ hfin;clear hfin hrc;go_wp2_with fail;go_roundw
     case rel=>exact⟨k+1,J,Nb,by go_num,by rw[HF.o];exact HX.b,by rw[HF.o];exact HX.c.alloc _⟩
     case measure=>simp[intOf];omega
    ·by_cases hpx:pk.take pre.length=pre
     ·have qak:pre.isPrefixOf pk=true:=by rw[Bn Nb];simp[hpx]
      have hpq:(((ByteArray.mk pk.toArray).extract 0 pre.length).toList==pre)=true:=by rw[AD];simp[hpx]
      obtain⟨cv,hcv⟩:=Na (.slice P6 cl OG:Value);obtain⟨hv,Yi⟩:=Na (.int .i64 R.vs[k].held:Value);have HV:=Ob hcv Yi;go_upto_region 9 with(fail);obtain⟨vb,hvb⟩:=Na wr.heap.size;obtain⟨m,hm⟩:=Na es.length
      have hT1:Turns [] ((vb,Is (RZ pk nk cv hv))::(ew (.slice YJ m RH) es++J)) w (wr.alloc (.cells #[.string ⟨pk.toArray⟩,.int .i64 nk,.slice P6 cl OG,.int .i64 R.vs[k].held] 193)):=by
       rw[hvb,hm,hcv,Yi];exact HX.c.Q9 _
      have Yq:nW (.slice YJ m RH) es:=by rw[hm];exact HX.b
      rw[<- hvb,<- hm];rw[<- hm]at hel hr2;clear h0 h1 h2 h3 c0 hrc hgl hvb UC hcv Yi;generalize wr.alloc (.cells #[.string ⟨pk.toArray⟩,.int .i64 nk,.slice P6 cl OG,.int .i64 R.vs[k].held] 193)=w1 at hT1 ⊢;obtain⟨rsl',rcap',e1,-,-,hrc⟩:=qA hT1.sat.tail.left Yq;simp only[Value.slice.injEq]at e1;obtain⟨rfl,-,rfl⟩:=e1;have v0:w1.cell? ⟨vb,0,none⟩=some (.string ⟨pk.toArray⟩):=aa hT1.sat.Q5 0 rfl;have hvl:=ae hT1.sat.Q5;have hnx:gd pre (R.vs.take (k+1))=pi (iy es pk) nk cl:=by rw[HX.a,qak];rfl
      have hnn:∀e∈es,0<=e.n/\e.n<=k:=HX.d;have hk100:k<=100000:=Nb
      have H1:=PD hT1 Yq hnx hnn hm;clear hT1 Yq hnx hnn qak hpx hpq
      have happ:∀(v':Value) (W:World),nW v' (es++[⟨pk,0,0,0⟩])->Turns [] (ew v' (es++[⟨pk,0,0,0⟩])++((vb,Is (RZ pk nk cv hv))::J)) w W->∃g2 cap2,v'=.slice (some ⟨g2,0,none⟩) (m+1) cap2/\Turns [] ((vb,Is (RZ pk nk cv hv))::(ew (.slice (some ⟨g2,0,none⟩) (m+1) cap2) (es++[⟨pk,0,0,0⟩])++J)) w W:=by
       intro v' W h1 h2;obtain⟨sl2,cap2,e1,e2,e3,e4⟩:=qA h2.sat.left h1;obtain⟨g2,hg2,-⟩:=e4 Nh;have e5:(es++[(⟨pk,0,0,0⟩:OI)]).length=m+1:=by simp[H1.w]
       rw[e5,hg2]at e1;subst e1;exact⟨g2,cap2,rfl,h2.to ac⟩
      have VL:=NZ happ;clear happ hm;rcases eq_nil_or_concat es with rfl|⟨es0,e,hes⟩
      ·have hm0:m=0:=H1.w;subst hm0;have hfin:gd pre (R.vs.take (k+1))=[]++[⟨pk,nk,cl,0+1⟩]:=by rw[H1.c];rfl
       have HF:=NZ hfin;clear hfin hrc;go_upto_region 10 with(fail);go_quiet (fail);have hT2:=H1.a.drewN nq;have v0:(w1.drewN nq).cell? ⟨vb,0,none⟩=some (.string ⟨pk.toArray⟩):=aa hT2.sat.Q5 0 rfl;have hvl:=ae hT2.sat.Q5;generalize w1.drewN nq=w2 at hT2 v0 hvl ⊢;have H2:=NZ hT2;clear hT2;go_upto_region 12 with((at_builtin;refine ai rfl ?_;refine sy (.tmp 60) (.tmp 64) rfl _ [] rfl ((H2.o.to (H:=ew (.slice YJ 0 RH) []++((vb,Is (RZ pk nk cv hv))::J)) ac).alloc _) H1.b _ rfl ⟨pk,0,0,0⟩ (aM _ _) Nh ?_;intro v2 w3 OZ Oa;have H3:=Ob OZ (VL.o v2 w3 OZ Oa);clear OZ Oa));obtain⟨OZ,g3,cap3,rfl,Oa⟩:=H3.o;have HS:=OW Oa OZ (show([]:List OI).length=0 from rfl) (show((0:Int)+1<=9223372036854775807/\(0:Int)<=0) by omega);clear OZ Oa v0 H3;go_upto_region 13 with(fail);obtain⟨k0,k1,k2,k3,k4,k5,k6,k7,k8,-⟩:=jO HS.a HS.b HS.c;have hne:=HS.x;have hwn:wrap64 (0+1)=0+1:=by rw[IntWalk.wrap64_in _ Nb]
       clear k0 k5 hne
       go_wp2_with (first
        | (refine ai rfl (jf (G:=(vb,Is (RZ pk nk cv hv))::J) 3 (.tmp 74) (.tmp 72) rfl (0) g3 cap3 [] _ ⟨pk,nk,0,0⟩ HS.c (HS.a.to ac) HS.b 1 Nb (.int .i64 nk) rfl rfl Nc rfl rfl rfl ?_);intro w13 O5 Qw;have QM:=Qw.to (H:=(vb,Is (RZ pk nk cv hv))::(ew (.slice (some ⟨g3,0,none⟩) (0+1) cap3) ([]++[⟨pk,nk,0,0⟩])++J)) ac;obtain⟨-,-,m2,m3,m4,-,m6,-,-,-⟩:=jO QM O5 HS.c;rw[HV.a]at m2;have Sl:=Ob QM O5;clear O5 Qw QM;simp only[Act.put])
        | (refine ai rfl (jf (G:=(vb,Is (RZ pk nk cv hv))::J) 3 (.tmp 82) (.tmp 80) rfl (0) g3 cap3 [] _ ⟨pk,nk,cl,0⟩ HS.c (Sl.a.to ac) Sl.z 2 Nb (.int .i64 cl) rfl rfl Nc rfl rfl rfl ?_);intro w14 QO SY;have QN:=SY.to (H:=(vb,Is (RZ pk nk cv hv))::(ew (.slice (some ⟨g3,0,none⟩) (0+1) cap3) ([]++[⟨pk,nk,cl,0⟩])++J)) ac;obtain⟨-,-,p2,p3,p4,-,p6,-,-,p7⟩:=jO QN QO HS.c;have WL:=Ob QN QO;clear QO SY QN p2;simp only[Act.put])
        | (refine ai rfl (jf (G:=(vb,Is (RZ pk nk cv hv))::J) 3 (.tmp 91) (.tmp 89) rfl (0) g3 cap3 [] _ ⟨pk,nk,cl,0+1⟩ HS.c (WL.a.to ac) WL.z 3 Nb (.int .i64 (0+1)) rfl rfl Nc rfl rfl rfl ?_);intro w15 Xp S9;have H15:=Ob (S9.to (H:=ew (.slice (some ⟨g3,0,none⟩) (0+1) cap3) ([]++[⟨pk,nk,cl,0+1⟩])++((vb,Is (RZ pk nk cv hv))::J)) ac) Xp;clear Xp S9;simp only[Act.put]))
       go_roundw
       case rel=>exact⟨k+1,_,Nb,by go_num,by rw[HF.o];exact H15.z,by rw[HF.o];exact H15.a⟩
       case measure=>simp[intOf];omega
      ·obtain⟨z,hz⟩:=Na es0.length;rw[concat_eq_append]at hes;subst hes;have hmz:m=z+1:=by rw[H1.w,hz];simp
       obtain⟨g2,hg2,Vl,hc⟩:=hrc Nh;subst hg2;obtain⟨r0,r1,r2,r3⟩:=hc z Nj;have hze:(es0++[e])[z]'Nj=e:=by subst hz;simp
       rw[hze]at r0 r3;have hne:0<=e.n/\e.n<=k:=H1.d e Nh;obtain⟨ep,el,VP,en⟩:=e;have HZ:=Ob hz.symm hne;clear hc r1 r2 r3 hze hz hne;have hgl:=Vl;by_cases UF:ep=pk
       ·subst UF;subst hmz
        have hfin:gd pre (R.vs.take (k+1))=es0++[⟨ep,nk,cl,en+1⟩]:=by
         rw[H1.c];have:iy (es0++[(⟨ep,el,VP,en⟩:OI)]) ep=es0++[⟨ep,el,VP,en⟩]:=by unfold iy;rw[NR Nh]
         rw[this,rZ]
        have HF:=NZ hfin;have hw1:wrap64 ((z:Int)+1-1)=(z:Int):=by rw[IntWalk.wrap64_in _ Nb];omega
        have hz0:((z:Int)+1==0)=false:=Nj
        clear hfin;go_upto_region 10 with(fail);go_quiet (fail);have hT2:=H1.a.drewN nq;have v0:(w1.drewN nq).cell? ⟨vb,0,none⟩=some (.string ⟨ep.toArray⟩):=aa hT2.sat.Q5 0 rfl;have hvl:=ae hT2.sat.Q5;generalize w1.drewN nq=w2 at hT2 v0 hvl ⊢;have H2:=NZ hT2;clear hT2;have TQ:=H2.o;have HS:=OW TQ H1.b HZ.a (show(en+1<=9223372036854775807/\(0:Int)<=en) by have h9:0<=en/\en<=(k:Int):=HZ.z;omega);clear TQ r0 v0 hz0;go_upto_region 13 with(fail);obtain⟨k0,k1,k2,k3,k4,k5,k6,k7,k8,-⟩:=jO HS.a HS.b HS.c;have hne:=HS.x;have hwn:wrap64 (en+1)=en+1:=by rw[IntWalk.wrap64_in _ Nb]
        clear k0 k5 hne
        go_wp2_with (first
         | (refine ai rfl (jf (G:=(vb,Is (RZ ep nk cv hv))::J) 3 (.tmp 74) (.tmp 72) rfl (z) g2 RH es0 _ ⟨ep,nk,VP,en⟩ HS.c (HS.a.to ac) HS.b 1 Nb (.int .i64 nk) rfl rfl Nc rfl rfl rfl ?_);intro w13 O5 Qw;have QM:=Qw.to (H:=(vb,Is (RZ ep nk cv hv))::(ew (.slice (some ⟨g2,0,none⟩) (z+1) RH) (es0++[⟨ep,nk,VP,en⟩])++J)) ac;obtain⟨-,-,m2,m3,m4,-,m6,-,-,-⟩:=jO QM O5 HS.c;rw[HV.a]at m2;have Sl:=Ob QM O5;clear O5 Qw QM;simp only[Act.put])
         | (refine ai rfl (jf (G:=(vb,Is (RZ ep nk cv hv))::J) 3 (.tmp 82) (.tmp 80) rfl (z) g2 RH es0 _ ⟨ep,nk,cl,en⟩ HS.c (Sl.a.to ac) Sl.z 2 Nb (.int .i64 cl) rfl rfl Nc rfl rfl rfl ?_);intro w14 QO SY;have QN:=SY.to (H:=(vb,Is (RZ ep nk cv hv))::(ew (.slice (some ⟨g2,0,none⟩) (z+1) RH) (es0++[⟨ep,nk,cl,en⟩])++J)) ac;obtain⟨-,-,p2,p3,p4,-,p6,-,-,p7⟩:=jO QN QO HS.c;have WL:=Ob QN QO;clear QO SY QN p2;simp only[Act.put]))
        go_roundw
        case rel=>have HR:=JD (G:=(vb,Is (RZ ep nk cv hv))::J) (z) g2 RH es0 ⟨ep,nk,cl,en⟩ ⟨ep,nk,cl,en+1⟩ HS.c (WL.a.to ac) WL.z 3 Nb (.int .i64 (en+1)) rfl;exact⟨k+1,_,Nb,by go_num,by rw[HF.o];exact HR.1,by rw[HF.o];exact HR.2⟩
        case measure=>simp[intOf];omega
       ·have hfin:gd pre (R.vs.take (k+1))=es0++[⟨ep,el,VP,en⟩]++[⟨pk,nk,cl,0+1⟩]:=by
         rw[H1.c];have:iy (es0++[(⟨ep,el,VP,en⟩:OI)]) pk=es0++[⟨ep,el,VP,en⟩]++[⟨pk,0,0,0⟩]:=by unfold iy;rw[NQ (by simp[UF])]
         rw[this,rZ]
        have HF:=NZ hfin;subst hmz;have hw0:wrap64 ((z:Int)+1-1)=(z:Int):=by rw[IntWalk.wrap64_in _ Nb];omega
        have hz0:((z:Int)+1==0)=false:=Nj
        have hepq:(ep==pk)=false:=by simp[UF]
        have ZT:(es0++[(⟨ep,el,VP,en⟩:OI)]).length<=1000000:=by simp;have:=HZ.a;omega
        have HE2:=NZ ZT;obtain⟨XO,ZV⟩:=Na (es0++[(⟨ep,el,VP,en⟩:OI)]);rw[<- ZV]at H1 VL HF HE2;clear hfin ZT ZV;go_upto_region 10 with(fail);go_quiet (fail);have hT2:=H1.a.drewN nq;have v0:(w1.drewN nq).cell? ⟨vb,0,none⟩=some (.string ⟨pk.toArray⟩):=aa hT2.sat.Q5 0 rfl;have hvl:=ae hT2.sat.Q5;generalize w1.drewN nq=w2 at hT2 v0 hvl ⊢;have H2:=NZ hT2;clear hT2;obtain⟨m,hm⟩:=Na (z+1);have e1:(z:Int)+1=(m:Int):=Nb
        rw[<- hm]at H1 VL H2 hel hr2;rw[<- hm];simp only[e1];have hw1:wrap64 ((m:Int)+1-1)=(m:Int):=by rw[IntWalk.wrap64_in _ Nb];omega
        clear e1 hm hw0 hz0 hepq r0;go_upto_region 12 with((at_builtin;refine ai rfl ?_;refine sy (.tmp 60) (.tmp 64) rfl _ XO rfl ((H2.o.to (H:=ew (.slice (some ⟨g2,0,none⟩) m RH) XO++((vb,Is (RZ pk nk cv hv))::J)) ac).alloc _) H1.b _ rfl ⟨pk,0,0,0⟩ (aM _ _) (HE2.o) ?_;intro v2 w3 OZ Oa;have H3:=Ob OZ (VL.o v2 w3 OZ Oa);clear OZ Oa));obtain⟨OZ,g3,cap3,rfl,Oa⟩:=H3.o;have HS:=OW Oa OZ H1.w.symm (show((0:Int)+1<=9223372036854775807/\(0:Int)<=0) by omega);clear OZ Oa v0 H3;go_upto_region 13 with(fail);obtain⟨k0,k1,k2,k3,k4,k5,k6,k7,k8,-⟩:=jO HS.a HS.b HS.c;have hne:=HS.x;have hwn:wrap64 (0+1)=0+1:=by rw[IntWalk.wrap64_in _ Nb]
        clear k0 k5 hne
        go_wp2_with (first
         | (refine ai rfl (jf (G:=(vb,Is (RZ pk nk cv hv))::J) 3 (.tmp 74) (.tmp 72) rfl (m) g3 cap3 XO _ ⟨pk,nk,0,0⟩ HS.c (HS.a.to ac) HS.b 1 Nb (.int .i64 nk) rfl rfl Nc rfl rfl rfl ?_);intro w13 O5 Qw;have QM:=Qw.to (H:=(vb,Is (RZ pk nk cv hv))::(ew (.slice (some ⟨g3,0,none⟩) (m+1) cap3) (XO++[⟨pk,nk,0,0⟩])++J)) ac;obtain⟨-,-,m2,m3,m4,-,m6,-,-,-⟩:=jO QM O5 HS.c;rw[HV.a]at m2;have Sl:=Ob QM O5;clear O5 Qw QM;simp only[Act.put])
         | (refine ai rfl (jf (G:=(vb,Is (RZ pk nk cv hv))::J) 3 (.tmp 82) (.tmp 80) rfl (m) g3 cap3 XO _ ⟨pk,nk,cl,0⟩ HS.c (Sl.a.to ac) Sl.z 2 Nb (.int .i64 cl) rfl rfl Nc rfl rfl rfl ?_);intro w14 QO SY;have QN:=SY.to (H:=(vb,Is (RZ pk nk cv hv))::(ew (.slice (some ⟨g3,0,none⟩) (m+1) cap3) (XO++[⟨pk,nk,cl,0⟩])++J)) ac;obtain⟨-,-,p2,p3,p4,-,p6,-,-,p7⟩:=jO QN QO HS.c;have WL:=Ob QN QO;clear QO SY QN p2;simp only[Act.put]))
        go_roundw
        case rel=>have HR:=JD (G:=(vb,Is (RZ pk nk cv hv))::J) (m) g3 cap3 XO ⟨pk,nk,cl,0⟩ ⟨pk,nk,cl,0+1⟩ HS.c (WL.a.to ac) WL.z 3 Nb (.int .i64 1) rfl;exact⟨k+1,_,Nb,by go_num,by rw[HF.o];exact HR.1,by rw[HF.o];exact HR.2⟩
        case measure=>simp[intOf];omega
     ·have hfin:gd pre (R.vs.take (k+1))=es:=by rw[HX.a,Bn Nb,decide_eq_false hpx];rfl
      have hpq:(((ByteArray.mk pk.toArray).extract 0 pre.length).toList==pre)=false:=by rw[AD];simp[hpx]
      have HF:=NZ hfin;clear hfin hrc;go_wp2_with fail;go_roundw
      case rel=>exact⟨k+1,J,Nb,by go_num,by rw[HF.o];exact HX.b,by rw[HF.o];exact HX.c.alloc _⟩
      case measure=>simp[intOf];omega
   ·obtain rfl:k=R.vs.length:=Nb
    clear hcell;rw[take_length]at hro hT;have HX:=Ob hro hT;clear hro hT;go_wp2_with fail;exact bodyPost_ret (results_tmp2 rfl _ _ _) rfl (.inr ⟨HC.o,u6,rfl,HX.a,HX.z.drop (fun x=>by simp only[af];omega)⟩)
end
end Go.Proofs.YtdhobpbngkainaaGreatDoor
