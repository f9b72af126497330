/- Ours. A part of the proof, made small by a program. -/
import Derived.Test.YtdhobpbngkainabGreatDoorFr06
set_option maxRecDepth 100000
set_option maxHeartbeats 4000000
namespace Go.Proofs.YtdhobpbngkainabGreatDoor
open List
section
open Go.RowKit Go.Maps
open Go.ChangeMaps (setBlock)
theorem Turns.put2{A w w':World}{F G:HF}{a g:Nat}{φ ψ χ:Obj->Prop}{o1 o2:Obj}(h:Turns F ((a,φ)::(g,ψ)::G) A w)(hm:Mods (fun k=>k=a\/k=g) w w')(h1:w'.heap[a]?=some o1)(h2:w'.heap[g]?=some o2)(hχ:χ o2):Turns F ((a,Is o1)::(g,χ)::G) A w':=by
 refine h.trans ⟨hm.mono (fun k hk=>.inl (by rcases hk with rfl|rfl<;>simp)),⟨h.sat.nodup,fun p hp=>?_⟩,fun k hk=>.inl (by simpa using hk)⟩;rcases mem_cons.1 hp with rfl|hp
 ·exact⟨_,h1,Is.rfl⟩
 ·rcases mem_cons.1 hp with rfl|hp
  ·exact⟨_,h2,hχ⟩
  ·obtain⟨o,ho,hφ⟩:=h.sat.sat p (by simp[hp]);refine⟨o,hm.at ho (fun hk=>?_),hφ⟩;have hn:=h.sat.nodup;simp only[gI,nodup_cons,mem_cons,not_or]at hn;have hpd:p.1∈dom G:=mem_map.2 ⟨p,hp,rfl⟩;rcases hk with e|e
   ·exact hn.1.2 (e ▸ hpd)
   ·exact hn.2.1 (e ▸ hpd)
theorem tE{F G:HF}(h:F.Perm G)(x:Nat×(Obj->Prop)):cnt x F=cnt x G:=by unfold cnt;exact h.countP_eq _
def dC(ns:List Int)(vs:List VerL):List VerL:=vs.filter (gO ns)
def fZ(ps:List ba)(c:Nat)(p:Bs)(v:Value)(ns:List Int):List ba:=if dC ns (af ps p)=[]then bE ps p else eh ps c p v (dC ns (af ps p))
theorem De{γ:Type}(d:γ)(ps:List (GE γ))(l m:Bs):gOf d (bE ps l) m=if m=l then d else gOf d ps m:=by
 unfold gOf bE;rw[find?_filter];by_cases h:m=l
 ·subst h;rw[if_pos rfl,find?_eq_none.2 (by simp)]
 ·rw[if_neg h];congr 2;funext p;by_cases hp:p.key=m
  ·simp[hp,h]
  ·simp[hp]
theorem lP(ps:List ba)(c:Nat)(p:Bs)(v:Value)(ns:List Int)(l:Bs):af (fZ ps c p v ns) l=if l=p then dC ns (af ps p)else af ps l:=by
 unfold fZ;split
 ·rename_i h;rw[h];exact De [] ps p l
 ·exact qd [] ps c p l v _
theorem F8(ns:List Int)(vs:List VerL):(vs.flatMap bL).Perm ((dC ns vs).flatMap bL++(vs.filter (fun V => !gO ns V)).flatMap bL):=by
 rw[<- flatMap_append];exact(filter_append_perm (gO ns) vs).symm.flatMap_right _
theorem jM{ps:List ba}{p:Bs}(h:af ps p≠[]):∃q∈ps,q.key=p/\af ps p=q.g:=by
 unfold af gOf at h ⊢
 cases hf:ps.find? (fun q=>decide (q.key=p))with
 | none=>rw[hf]at h;exact absurd rfl h
 | some q=>exact⟨q,mem_of_find?_eq_some hf,by simpa using find?_some hf,rfl⟩
theorem Av{ps:List ba}{c:Nat}(h:PathsOk ps c){p:Bs}(hl:OkS p){v:Value}{ns:List Int}(hv:eT v (dC ns (af ps p)))(hne:af ps p≠[]):PathsOk (fZ ps c p v ns) c:=by
 obtain⟨q,hq,hqk,hqg⟩:=jM hne;have hpl:∀V∈af ps p,bP V.cv V.chs:=by rw[hqg];exact(h.rows q hq).2
 unfold fZ;split
 ·exact⟨by rw[mM];exact h.map.del p,fun x hx=>h.rows x (mem_filter.1 hx).1⟩
 ·have hc:cf (ps.map aN) c p=c:=by
   unfold cf;rw[if_pos (iw.2 ⟨aN q,mem_map.2 ⟨q,hq,rfl⟩,hqk⟩)]
  have:=h.map.put hl v;rw[hc]at this;refine⟨by rw[iG];exact this,fun x hx=>?_⟩;rcases fA hx with⟨h1,_⟩|⟨h1,h2,h3⟩
  ·exact h.rows x h1
  ·refine⟨by rw[h2,h3];exact hv,fun V hV=>?_⟩;rw[h3]at hV;exact hpl V (mem_filter.1 hV).1
theorem wN{ps:List ba}{c:Nat}{p:Bs}{v:Value}{ns:List Int}(h:∀q∈ps,q.g≠[]):∀q∈fZ ps c p v ns,q.g≠[]:=by
 unfold fZ;split
 ·exact fun x hx=>h x (mem_filter.1 hx).1
 ·rename_i hk;intro x hx;rcases fA hx with⟨h1,_⟩|⟨_,_,h3⟩
  ·exact h x h1
  ·rw[h3];exact hk
def G2(a:Nat)(X:ArchL)(ps:List ba)(pc:Nat)(p:Bs)(v:Value)(ns:List Int)(w:World)(e:Ending)(w':World):Prop :=
 ∃v',e=.returned (.tuple #[])/\eT v' (dC ns (af ps p))/\Turns ((a,Is (aJ X))::(aF X.pm ps pc++bZ v ns)) ((a,Is (aJ (i7 X (X.used-(bO ns (af ps p):Nat)))))::(aF X.pm (fZ ps pc p v' ns) pc++bZ v ns)) w w'
theorem tN(a:Nat)(X:ArchL)(ps:List ba)(pc:Nat)(p:Bs)(v:Value)(ns:List Int)(w:World)(h:Sat w ((a,Is (aJ X))::(aF X.pm ps pc++bZ v ns)))(hio:iOk v ns)(hok:PathsOk ps pc)(hl:OkS p)(hne:af ps p≠[])(hu:rC X.used (af ps p))(hnl:ns.length<=1099511627776):
  Calls Tryz.prog 102 #[.pointer (some ⟨a,0,none⟩),str p,v] w (G2 a X ps pc p v ns w):=by
 obtain⟨F1,hF1⟩:∃F1,F1=(a,Is (aJ X))::(aF X.pm ps pc++bZ v ns):=⟨_,rfl⟩
 have hT0:Turns F1 (eo (eH (.slice none 0 0) ps p) (af ps p)++((a,Is (aJ X))::(X.pm,Is (aO str (ps.map aN) pc))::(dF ps p++bZ v ns))) w w:=by
  rw[hF1];refine(Turns.refl h).to ?_;have hp:=kL p (by rw[<- cy];exact hok.map.nodup);unfold aF;refine(Perm.cons _ ((Perm.cons _ hp).append_right _)).trans ?_;exact ac
 have hrow:=aR hT0.sat.left (ut hok p);obtain⟨v0,hv0⟩:∃v0,v0=eH (.slice none 0 0) ps p:=⟨_,rfl⟩;obtain⟨vs,hvs⟩:∃vs,vs=af ps p:=⟨_,rfl⟩;rw[<- hv0,<- hvs]at hT0 hrow;rw[<- hvs]at hne hu;rcases hrow.2 with⟨-,h0⟩|⟨g,cap,cur,e1,-,hg,hc1,hc2,hc3,hc4⟩
 ·exact absurd (length_eq_zero_iff.1 h0) hne
 obtain⟨sl,cap2,e2,-,hcp2,hcs,hcb⟩:=aL (aR (h.sub (G:=bZ v ns) (fun x=>by simp only[ao,ai];omega)) hio);subst e2
 have hdg:eo v0 vs=[(g,fun o=>∃cap cur,v0=.slice (some ⟨g,0,none⟩) vs.length cap/\o=.cells cur 114 (0,0)/\vs.length<=cap/\cap<=maxLen/\cur.size=cap*1/\cur.toList.take (vs.length*1)=vs.map dH)]:=by
  rw[e1];rfl
 rw[hdg]at hT0;subst e1;have hnd:=hT0.sat.nodup;simp only[cons_append,nil_append,gI,cF,nodup_cons,mem_cons,mem_append,not_or]at hnd
 have hin:∀V∈vs,V.blk∈dom (dF ps p)/\w.heap[V.blk]?=some (dt V):=fun V hV=>by
  have hm:(V.blk,Is (dt V))∈dF ps p:=by
   unfold dF;rw[<- hvs];exact mem_append_right _ (mem_flatMap.2 ⟨V,hV,by simp[bL]⟩)
  exact⟨mem_map.2 ⟨_,hm,rfl⟩,hT0.sat.Q7 (by simp[hm])⟩
 have hal:∀b o,w.heap[b]?=some o->b<w.heap.size:=fun b o h=>ae h
 have ha0:=h.Q5
 have hE:∀(W:World) (nb cb:Nat),aQ w W->W.heap[nb]?=some (.cells #[.slice sl ns.length cap2] 96 (0,0))->W.heap[cb]?=some (.cells #[.pointer (some ⟨a,0,none⟩)] 204 (0,0))->w.heap.size<=nb->w.heap.size<=cb->DelEnv a g nb cb sl cap2 ns vs W:=fun W nb cb hs h1 h2 h3 h4=>by
  have la:=hal _ _ ha0;have lg:=hal _ _ hg;refine⟨fun e=>hnd.1.1 e.symm,fun V hV=>?_,⟨by omega,by omega,h1⟩,⟨by omega,by omega,h2⟩,hcs.keep hs (fun _ _ _=>id),fun x hx=>?_⟩
  ·obtain⟨k1,k2⟩:=hin V hV;exact⟨fun e=>hnd.2.1.2.1 (e ▸ k1),fun e=>hnd.1.2.2.1 (e ▸ k1),hs.at k2 id⟩
  ·have hx2:=(eK 3 1 ns.length _ (ns.map di) x.block).2 (hcb x hx);exact⟨fun e=>hnd.2.1.2.2 (e ▸ hx2),fun e=>hnd.1.2.2.2 (e ▸ hx2)⟩
 have hmf:∀(fn:Fn) (first cap:Array Value) (w:World),(Instr.makeFunc fn first cap).run Tryz.prog w=.ok (.func fn first cap) w:=fun _ _ _ _=>rfl
 have HH:=qqH (And.intro hT0 (And.intro hE (And.intro ha0 (And.intro hg (And.intro hok (And.intro hl (And.intro hu (And.intro hv0 (And.intro hvs (And.intro hF1 (And.intro hc3 hc4)))))))))));have lg0:=hal _ _ hg;have HL:=Hq3 hc1 hc2 lg0;have hla:=hal _ _ ha0;clear lg0 h hio hT0 hE ha0 hg hok hl hu hv0 hvs hF1 hc3 hc4 hnd hin hal hcs hcb hrow hdg hne hc1 hc2 hcp2;go_enter Tryz.func102,Tryz.ntmps102;go_upto_region 1 with(fail);obtain⟨W,hW⟩:∃W,W=(w.alloc (.cells #[.pointer (some ⟨a,0,none⟩)] 204)).alloc (.cells #[.slice sl ns.length cap2] 96):=⟨_,rfl⟩;have hs:aQ w W:=by rw[hW];exact((Mods.refl _ w).alloc _).alloc _
 have hcbo:W.heap[w.heap.size]?=some (.cells #[.pointer (some ⟨a,0,none⟩)] 204 (0,0)):=by rw[hW];exact((Mods.refl (fun _=>False) _).alloc _).at (aK w _) id
 have hnbo:W.heap[w.heap.size+1]?=some (.cells #[.slice sl ns.length cap2] 96 (0,0)):=by
  rw[hW];have:=aK (w.alloc (.cells #[.pointer (some ⟨a,0,none⟩)] 204)) (.cells #[.slice sl ns.length cap2] 96);rwa [World.size_alloc]at this
 have c0:W.cell? ⟨w.heap.size,0,none⟩=some (.pointer (some ⟨a,0,none⟩)):=aa hcbo 0 rfl;have hla2:a<W.heap.size:=Nat.lt_of_lt_of_le hla hs.size;have a0:W.cell? ⟨a,0,none⟩=some (.map (some X.pm)):=aa (hs.at HH.c id) 0 rfl;have hg2:=hs.at HH.d id;have hT2:=HH.a.Q9 hs;have hTa:=hT2.to (H:=(a,Is (aJ X))::(g,fun o=>∃cap_1 cur,Value.slice (some ⟨g,0,none⟩) vs.length cap=.slice (some ⟨g,0,none⟩) vs.length cap_1/\o=.cells cur 114 (0,0)/\vs.length<=cap_1/\cap_1<=maxLen/\cur.size=cap_1*1/\cur.toList.take (vs.length*1)=vs.map dH)::(X.pm,Is (aO str (ps.map aN) pc))::(dF ps p++bZ (.slice sl ns.length cap2) ns)) ac;have hmo:=hT2.sat.Q7 (b:=X.pm) (o:=aO str (ps.map aN) pc) (by simp);have HD:=qqH (qQ a g (w.heap.size+1) w.heap.size X X.used vs cap cur.toList sl cap2 ns W (HH.b W _ _ hs hnbo hcbo (by omega) (by omega)) (hs.at HH.c id) (by simpa using hg2) (by have:=HH.out.2.2.2.2.2.2.2.2.2.2.1;simp at this ⊢;exact this) (by have:=HH.out.2.2.2.2.2.2.2.2.2.2.2;rwa [Nat.mul_one]at this) HL.a HH.g hnl);rw[<- hW];have H2:=Hq2 hTa hmo;clear hW hs hcbo hnbo hg2 hT2 hTa hmo;go_wp2_with (at_lookup;refine dQ dK rfl _ _ rfl Tryz.underlying51 H2.z HH.e.map (fN _) p rfl rfl HH.f ?_;rw[cP,<- HH.h]);refine HD.out.mono ?_;rintro e w3 ⟨cur',rfl,hm3,hh3,hg3,hl3,ht3⟩;have hk3:(vs.filter (gO ns)).length<=vs.length:=length_filter_le _ _;have hokv:eT (.slice (some ⟨g,0,none⟩) (dC ns vs).length cap) (dC ns vs):=⟨by simp,fun h=>by cases h⟩;have hT3:Turns F1 ((a,Is (aJ (i7 X (X.used-(bO ns vs:Nat)))))::(eo (.slice (some ⟨g,0,none⟩) (dC ns vs).length cap) (dC ns vs)++(X.pm,Is (aO str (ps.map aN) pc))::(dF ps p++bZ (.slice sl ns.length cap2) ns))) w w3:=H2.a.put2 hm3 hh3 hg3 ⟨cap,cur'.toArray,rfl,rfl,Nat.le_trans hk3 HL.a,HL.b,by simpa using hl3,by simpa[dC]using ht3⟩;have H3:=Hq2 hokv hT3
 have cbk:w3.cell? ⟨w.heap.size,0,none⟩=some (.pointer (some ⟨a,0,none⟩)):=by
  rw[<- c0];refine World.cell?_of_block (hm3.block _ (World.block_lt_of_cell? W _ c0) ?_);rintro(e|e)
  ·have e':w.heap.size=a:=e;omega
  ·have e':w.heap.size=g:=e;have:=HL.y;omega
 clear hokv hT3 hm3 hh3 hg3 hl3 ht3 hk3 hla2 a0 c0;have hb3:=H3.z.sat;have a0:w3.cell? ⟨a,0,none⟩=some (.map (some X.pm)):=aa hb3.Q5 0 rfl;have c0:w3.cell? ⟨w.heap.size,0,none⟩=some (.pointer (some ⟨a,0,none⟩)):=cbk;by_cases hk:(dC ns vs).length=0
 ·have hk0:dC ns vs=[]:=length_eq_zero_iff.1 hk;have hki:(vs.filter (gO ns)).length=0:=hk;have HK:=qqH hk0;clear hk hk0
  have hdel:∀ty,(Builtin.delete_ #[51,9] ty #[.map (some X.pm),str p]).run Tryz.prog w3=.ok (.tuple #[]) (setBlock w3 X.pm (aO str (yt (ps.map aN) p) pc)):=fun ty =>
   EV dK Tryz.underlying51 (hb3.Q7 (o:=aO str (ps.map aN) pc) (by simp)) HH.e.map HH.f
  have H4:=qqH ((H3.z.to (H:=(X.pm,Is (aO str (ps.map aN) pc))::((a,Is (aJ (i7 X (X.used-(bO ns vs:Nat)))))::(eo (.slice (some ⟨g,0,none⟩) (dC ns vs).length cap) (dC ns vs)++(dF ps p++bZ (.slice sl ns.length cap2) ns)))) ac).Qa (dg w3 X.pm (aO str (yt (ps.map aN) p) pc)) (ey (hb3.Q7 (o:=aO str (ps.map aN) pc) (by simp))));clear hb3;go_wp2_with fail;refine bodyPost_ret (results_none rfl _ _ _) rfl ?_;refine⟨.slice none 0 0,rfl,?_,?_⟩
  ·rw[<- HH.out.2.2.2.2.2.2.2.2.1,HK.out];exact⟨rfl,fun _=>⟨rfl,rfl⟩⟩
  ·unfold fZ;rw[<- HH.out.2.2.2.2.2.2.2.2.1,if_pos HK.out,<- HH.out.2.2.2.2.2.2.2.2.2.1];unfold aF;rw[mM];exact H4.out.drop (fun x=>by unfold dF;simp only[ao,ai];omega)
 ·have hki:¬(vs.filter (gO ns)).length=0:=hk;have HK:=qqH hk;clear hk
  go_wp2_with (first
   | (refine ah rfl (lF dK (.tmp 26) (.tmp 27) (.tmp 28) rfl Tryz.underlying51 X.pm _ pc (H3.z.to (H:=(X.pm,Is (aO str (ps.map aN) pc))::((a,Is (aJ (i7 X (X.used-(bO ns vs:Nat)))))::(eo (.slice (some ⟨g,0,none⟩) (dC ns vs).length cap) (dC ns vs)++(dF ps p++bZ (.slice sl ns.length cap2) ns)))) ac) HH.e.map p (.slice (some ⟨g,0,none⟩) (dC ns vs).length cap) rfl rfl rfl HH.f ?_);intro w4 hT4;have H4:=qqH hT4;clear hT4;simp only[Act.put])
   | fail)
  refine bodyPost_end (results_none rfl _ _ _) rfl ?_;have hvs:=HH.out.2.2.2.2.2.2.2.2.1;have hne:af ps p≠[]:=fun e=>HK.out (by rw[hvs,e];rfl)
  have hkn:¬dC ns (af ps p)=[]:=fun e=>HK.out (by rw[hvs,e];rfl)
  obtain⟨q,hq,hqk,-⟩:=jM hne
  have hc:cf (ps.map aN) pc p=pc:=by
   unfold cf;rw[if_pos (iw.2 ⟨aN q,mem_map.2 ⟨q,hq,rfl⟩,hqk⟩)]
  refine⟨.slice (some ⟨g,0,none⟩) (dC ns vs).length cap,rfl,by rw[<- hvs];exact H3.a,?_⟩;have h4:=H4.out;rw[hc]at h4;unfold fZ;rw[if_neg hkn,<- hvs,<- HH.out.2.2.2.2.2.2.2.2.2.1];unfold aF;rw[iG];have hp:=uC d9 ps pc p (.slice (some ⟨g,0,none⟩) (dC ns vs).length cap) (dC ns vs) (by rw[<- cy];exact HH.e.map.nodup);have hkp:=F8 ns vs;have ho:dF ps p=gj d9 (bE ps p)++vs.flatMap bL:=by unfold dF;rw[hvs]
  rw[ho]at h4;unfold d9 at hp h4 ⊢;refine h4.drop (fun x=>?_);have h1:=tE hp x;have h2:=tE hkp x;simp only[ao,ai]at h1 h2 ⊢;omega
def dj(n d:Int)(V:VerL):VerL:=if(V.num:Int)=n then { V with held:=V.held+d } else V
def cM(ps:List ba)(p:Bs)(n d:Int):List ba:=ps.map (fun q=>if q.key=p then { q with g:=q.g.map (dj n d) } else q)
theorem gA(n d:Int)(V:VerL):(dj n d V).blk=V.blk/\(dj n d V).cv=V.cv/\(dj n d V).chs=V.chs/\(dj n d V).num=V.num/\(dj n d V).size=V.size:=by
 unfold dj;split<;>exact⟨rfl,rfl,rfl,rfl,rfl⟩
theorem xa(n d:Int)(vs:List VerL):(vs.map (dj n d)).map dH=vs.map dH:=by
 rw[map_map];refine map_congr_left fun V _=>?_
 show dH (dj n d V)=dH V;unfold dH;rw[(gA n d V).1]
theorem nP(ps:List ba)(p:Bs)(n d:Int):(cM ps p n d).map aN=ps.map aN:=by
 unfold cM;rw[map_map];refine map_congr_left fun q _=>?_
 show aN (if q.key=p then _ else q)=_;split<;>rfl
theorem Dk(ps:List ba)(p:Bs)(n d:Int)(l:Bs):(cM ps p n d).find? (fun q=>decide (q.key=l))=(ps.find? (fun q=>decide (q.key=l))).map (fun q=>if q.key=p then { q with g:=q.g.map (dj n d) } else q):=by
 unfold cM;rw[find?_map];congr 2;funext q;show decide ((if q.key=p then _ else q).key=l)=_;split<;>rfl
theorem gX(ps:List ba)(p:Bs)(n d:Int)(l:Bs):af (cM ps p n d) l=if l=p then(af ps p).map (dj n d)else af ps l:=by
 unfold af gOf;rw[Dk];by_cases h:l=p
 ·subst h;rw[if_pos rfl]
  cases hf:ps.find? (fun q=>decide (q.key=l))with
  | none=>rfl
  | some q =>
   have:q.key=l:=by simpa using find?_some hf
   simp[this]
 ·rw[if_neg h]
  cases hf:ps.find? (fun q=>decide (q.key=l))with
  | none=>rfl
  | some q =>
   have:q.key=l:=by simpa using find?_some hf
   simp[this,h]
theorem F4(ps:List ba)(p:Bs)(n d:Int)(z:Value)(l:Bs):eH z (cM ps p n d) l=eH z ps l:=by
 rw[<- cP,<- cP,nP]
theorem yD(ps:List ba)(p:Bs)(n d:Int):bE (cM ps p n d) p=bE ps p:=by
 unfold bE cM;induction ps with
 | nil=>rfl
 | cons q r ih =>
  rw[map_cons,filter_cons,filter_cons,ih];by_cases h:q.key=p
  ·simp[h]
  ·simp[h]
theorem AK{ps:List ba}{c:Nat}(h:PathsOk ps c)(p:Bs)(n d:Int):PathsOk (cM ps p n d) c:=by
 refine⟨by rw[nP];exact h.map,fun q hq=>?_⟩;obtain⟨q0,hq0,rfl⟩:=mem_map.1 hq;have h0:=h.rows q0 hq0;split
 ·refine⟨?_,fun V hV=>?_⟩
  ·have h1:=h0.1;unfold eT at h1 ⊢;rw[xa,length_map];exact h1
  ·obtain⟨V0,hV0,rfl⟩:=mem_map.1 hV;rw[(gA n d V0).2.1,(gA n d V0).2.2.1];exact h0.2 V0 hV0
 ·exact h0
theorem wZ{ps:List ba}{p:Bs}{n d:Int}(h:∀q∈ps,q.g≠[]):∀q∈cM ps p n d,q.g≠[]:=fun q hq=>by
 obtain⟨q0,hq0,rfl⟩:=mem_map.1 hq
 split
 ·exact fun e=>h q0 hq0 (map_eq_nil_iff.1 e)
 ·exact h q0 hq0
theorem yM{ps:List ba}(p:Bs)(n d:Int)(h:(ps.map (·.key)).Nodup):(gj d9 (cM ps p n d)).Perm (eo (eH (.slice none 0 0) ps p) (af ps p)++(gj d9 (bE ps p)++((af ps p).map (dj n d)).flatMap bL)):=by
 have hk:((cM ps p n d).map (·.key)).Nodup:=by rw[<- cy,nP,cy];exact h
 have:=kL p hk;unfold dF at this;rw[F4,yD,gX,if_pos rfl]at this;have e:eo (eH (.slice none 0 0) ps p) ((af ps p).map (dj n d))=eo (eH (.slice none 0 0) ps p) (af ps p):=by unfold eo;rw[xa,length_map]
 rwa [e]at this
def Eh(F1 G:HF)(vs:List VerL)(n d:Int)(w:World)(v _v7:Value)(W:World):Prop :=
 ∃k:Nat,k<=vs.length/\v=.int .i64 k/\Turns F1 (((vs.take k).map (dj n d)).flatMap bL++((vs.drop k).flatMap bL++G)) w W
def q9(m p:Bs)(n:Int):Value:=.agg #[str m,str p,.int .i64 n]
def Ck(O:Obj)(j:Nat)(v:Value):Prop:=∀(a:Nat) (W:World),W.heap[a]?=some O->W.cell? ⟨a,j,none⟩=some v
def G6(a:Nat)(O:Obj)(pm:Nat)(ps:List ba)(pc:Nat)(p:Bs)(n d:Int)(w:World)(e:Ending)(w':World):Prop :=
 e=.returned (.tuple #[])/\Turns ((a,Is O)::aF pm ps pc) ((a,Is O)::aF pm (cM ps p n d) pc) w w'
theorem II(a:Nat)(O:Obj)(pm:Nat)(hO:Ck O 0 (.map (some pm)))(ps:List ba)(pc:Nat)(m p:Bs)(n d:Int)(w:World)(h:Sat w ((a,Is O)::aF pm ps pc))(hok:PathsOk ps pc)(hl:OkS p)(hvl:(af ps p).length<=1099511627776)(hd : -1<=d/\d<=1)(hh:∀V∈af ps p,V.held.natAbs<=1099511627776):
  Calls Tryz.prog 103 #[.pointer (some ⟨a,0,none⟩),q9 m p n,.int .i64 d] w (G6 a O pm ps pc p n d w):=by
 obtain⟨F1,hF1⟩:∃F1,F1=(a,Is O)::aF pm ps pc:=⟨_,rfl⟩;obtain⟨v0,hv0⟩:∃v0,v0=eH (.slice none 0 0) ps p:=⟨_,rfl⟩;obtain⟨vs,hvs⟩:∃vs,vs=af ps p:=⟨_,rfl⟩;obtain⟨G,hG⟩:∃G,G=(a,Is O)::(pm,Is (aO str (ps.map aN) pc))::(eo v0 vs++gj d9 (bE ps p)):=⟨_,rfl⟩
 have hT0:Turns F1 (vs.flatMap bL++G) w w:=by
  rw[hF1,hG];refine(Turns.refl h).to ?_;have hp:=kL p (by rw[<- cy];exact hok.map.nodup);unfold dF at hp;rw[<- hv0,<- hvs]at hp;unfold aF;refine(Perm.cons _ (Perm.cons _ hp)).trans ?_;exact ac
 obtain⟨sl,cap,hl1,hl2,hl6,hl3,hl4,-⟩:=fo h.tail hok p;rw[<- hv0,<- hvs]at hl1;rw[<- hvs]at hvl hh hl2 hl3;have a0:w.cell? ⟨a,0,none⟩=some (.map (some pm)):=hO _ _ h.Q5;have hal:=ae h.Q5;have hmo:=h.tail.Q5;subst hl1;have HH:=qqH (And.intro hT0 (And.intro hok (And.intro hl (And.intro hh (And.intro hv0 (And.intro hvs (And.intro hG (And.intro hF1 (And.intro hmo h)))))))));have hval:eH (.slice none 0 0) ps p=.slice sl vs.length cap:=hv0.symm;have hptr:eT (.slice sl vs.length cap) vs:=by rw[hv0,hvs];exact ut hok p
 have HP:=Hq2 hptr hval;clear hT0 hok hl hh hv0 hvs hG hF1 hmo h hptr hl3 hl4 hval;unfold q9;go_enter Tryz.func103,Tryz.ntmps103;go_upto_region 1 with(fail);obtain⟨pb,hpb⟩:∃pb,pb=w.heap.size:=⟨_,rfl⟩;obtain⟨W,hW⟩:∃W,W=w.alloc (.cells #[str m,str p,.int .i64 n] 156):=⟨_,rfl⟩;rw[<- hW];have hs:aQ w W:=by rw[hW];exact(Mods.refl _ w).alloc _
 have hT1:Turns F1 (vs.flatMap bL++((pb,Is (.cells #[str m,str p,.int .i64 n] 156 (0,0)))::G)) w W:=by
  have:=HH.a.Q8 (.cells #[str m,str p,.int .i64 n] 156);rw[hpb,hW];exact this.to ac
 subst hpb;have hbo:=hT1.sat.Q7 (b:=w.heap.size) (o:=.cells #[str m,str p,.int .i64 n] 156 (0,0)) (by simp);have b1:W.cell? ⟨w.heap.size,1,none⟩=some (str p):=aa hbo 1 rfl;have hbl:w.heap.size<W.heap.size:=ae hbo;have a1:W.cell? ⟨a,0,none⟩=some (.map (some pm)):=hO _ _ (hs.at HH.out.2.2.2.2.2.2.2.2.2.Q5 id)
 have hlk:∀k,(Instr.lookup 51 (.map (some pm)) (str p) false).run Tryz.prog (W.drewN k)=.ok (.slice sl vs.length cap) (W.drewN k):=fun k=>by
  have:=uJ dK Tryz.underlying51 (w:=W.drewN k) (hs.at HH.out.2.2.2.2.2.2.2.2.1 id) HH.b.map (fN _) HH.c;rwa [cP,HP.z]at this
 have H1:=qqH hT1;clear hW hs hT1 hbo a0;go_quiet (fail);have HT:=qqH (H1.out.drewN nq);clear hlk a1 b1;obtain⟨pb,hpb⟩:∃pb,pb=w.heap.size:=⟨_,rfl⟩;rw[<- hpb]at HT hbl ⊢;clear hpb;go_wp2_with fail;go_loopw [16,7] (fun v v7 wr=>Eh F1 ((pb,Is (.cells #[str m,str p,.int .i64 n] 156 (0,0)))::G) vs n d w v v7 wr) (fun v _ _=>vs.length-(intOf v).toNat)
 case atStart=>exact⟨0,Nat.zero_le _,rfl,by simpa using HT.out⟩
 case round =>
  obtain⟨k,hk,rfl,hT⟩:=hrel;by_cases hlt:k<vs.length
  ·obtain⟨V,hV⟩:∃V,V=vs[k]:=⟨_,rfl⟩;have hdr:vs.drop k=V::vs.drop (k+1):=by rw[hV];exact drop_eq_getElem_cons hlt
   obtain⟨a',c',e1,-,-,hrow,-⟩:=aL (aR (hT.sat.sub (G:=eo (.slice sl vs.length cap) vs) (fun x=>by rw[HH.g];simp only[ao,ai];omega)) HP.a);simp only[Value.slice.injEq]at e1;obtain⟨rfl,-,-⟩:=e1;obtain⟨g,off,hg,hcell⟩:=hrow (by rw[length_map];omega);subst hg;have hck:wr.cell? ⟨g,off+k,none⟩=some (dH V):=by rw[hcell k (by simpa using hlt)];simp[hV]
   unfold dH at hck;rw[hdr]at hT;have hT2:=hT.to (H:=(V.blk,Is (dt V))::(((vs.take k).map (dj n d)).flatMap bL++(aY V.cv V.chs++((vs.drop (k+1)).flatMap bL++((pb,Is (.cells #[str m,str p,.int .i64 n] 156 (0,0)))::G))))) (by rw[flatMap_cons];unfold bL;exact ac);have hvo:=hT2.sat.Q5;have v0:wr.cell? ⟨V.blk,0,none⟩=some (.int .i64 V.num):=aa hvo 0 rfl;have v3:wr.cell? ⟨V.blk,3,none⟩=some (.int .i64 V.held):=aa hvo 3 rfl;have f3:=bc hvo 3;have hbo:=hT2.sat.Q7 (b:=pb) (o:=.cells #[str m,str p,.int .i64 n] 156 (0,0)) (by simp);have b2:wr.cell? ⟨pb,2,none⟩=some (.int .i64 n):=aa hbo 2 rfl;have hhV:=HH.d V (hV ▸ getElem_mem hlt);have htk:(vs.take (k+1)).map (dj n d)=(vs.take k).map (dj n d)++[dj n d V]:=by rw[QH hlt,map_append,hV];rfl
   have HR:=Hq3 hT2 hvo htk;clear hT hT2 hvo hbo hcell hrow htk hdr hV
   have HRel:∀W':World,Turns F1 ((V.blk,Is (dt (dj n d V)))::(((vs.take k).map (dj n d)).flatMap bL++(aY V.cv V.chs++((vs.drop (k+1)).flatMap bL++((pb,Is (.cells #[str m,str p,.int .i64 n] 156 (0,0)))::G))))) w W'->∀v7,Eh F1 ((pb,Is (.cells #[str m,str p,.int .i64 n] 156 (0,0)))::G) vs n d w (.int .i64 ((k:Int)+1)) v7 W':=fun W' hT v7=>by
    refine⟨k+1,by omega,by go_num,hT.to ?_⟩;rw[HR.y,flatMap_append]
    have hv:[dj n d V].flatMap bL=(V.blk,Is (dt (dj n d V)))::aY V.cv V.chs:=by
     obtain⟨e1,e2,e3,-⟩:=gA n d V;simp only[flatMap_cons,flatMap_nil,append_nil,bL,e1,e2,e3]
    rw[hv];exact ac
   have HREL:=qqH HRel;clear HRel;by_cases c1:(V.num:Int)=n
   ·have hho:dj n d V={ V with held:=V.held+d }:=by unfold dj;rw[if_pos c1]
    have hw:IntKind.i64.wrap (V.held+d)=V.held+d:=IntWalk.i64_in _ (by omega);have HW:=Hq2 hho hw;clear hho hw;go_wp2_with fail;go_quiet (fail);have HV:=Hq2 v3 f3;clear v0 v3 f3 b2 hck;obtain⟨w1,hw1⟩:∃w1,w1=wr.drewN nq:=⟨_,rfl⟩;rw[<- hw1];have hT1:=hw1 ▸ HR.a.drewN nq;have hvo1:=hT1.sat.Q5;have v3:w1.cell? ⟨V.blk,3,none⟩=some (.int .i64 V.held):=aa hvo1 3 rfl;have f3:=bc hvo1 3;have H1:=Hq2 hT1 hvo1;clear hw1 hT1 hvo1;have hw:=HW.z;go_wp2_with fail;go_roundw
    case rel =>
     refine HREL.out _ ?_ _;refine(H1.a.Qa ((Mods.refl _ w1).set1 (i:=3) (.int .i64 (V.held+d))) ?_);rw[bn H1.z 3 _,HW.a];rfl
    case measure=>simp[intOf];omega
   ·have hho:dj n d V=V:=by unfold dj;rw[if_neg c1]
    have HW:=qqH hho;clear hho;go_wp2_with fail;go_quiet (fail);go_wp2_with fail;go_roundw
    case rel =>
     refine HREL.out _ ?_ _;rw[HW.out];exact HR.a.drewN nq
    case measure=>simp[intOf];omega
  ·obtain rfl:k=vs.length:=by omega
   rw[take_length,drop_length]at hT;have HR:=qqH hT;clear hT;go_wp2_with fail;refine bodyPost_end (results_none rfl _ _ _) rfl ⟨rfl,?_⟩;rw[<- HH.h];have hp:=yM p n d (by rw[<- cy];exact HH.b.map.nodup);rw[HP.z,<- HH.f]at hp;unfold aF;rw[nP];refine HR.out.drop (fun x=>?_);have h1:=tE hp x;rw[HH.g];simp only[ao,ai]at h1 ⊢;omega
end
section
open Go.RowKit Go.Maps
abbrev Fp:=Nat×Nat×List (Nat×Nat)×Int
def bump(n d:Int)(t:Fp):Fp:=if(t.1:Int)=n then(t.1,t.2.1,t.2.2.1,t.2.2.2+d)else t
theorem GP(n d:Int)(V:VerL):bI (dj n d V)=bump n d (bI V):=by
 unfold bI dj bump;split<;>rfl
theorem GQ(ns:List Int)(vs:List VerL):(dC ns vs).map bI=(vs.map bI).filter (fun t => !ns.contains (t.1:Int)):=by
 rw[filter_map];rfl
theorem FY(H:List HV)(p l:Bs)(ns:List Int):((jy H p ns).filter (fun h=>decide (h.p=l))).map cY=if l=p then((H.filter (fun h=>decide (h.p=p))).map cY).filter (fun t => !ns.contains (t.1:Int))else(H.filter (fun h=>decide (h.p=l))).map cY:=by
 unfold jy;rw[filter_filter];split
 ·rename_i e;subst e;rw[filter_map,filter_filter];congr 2;funext h;show(decide (h.p=l) && !(decide (h.p=l)&&ns.contains (h.num:Int)))=(!ns.contains (h.num:Int)&&decide (h.p=l))
  cases decide (h.p=l)<;>simp
 ·rename_i e;congr 2;funext h;by_cases hp:h.p=l
  ·have:¬h.p=p:=fun e2=>e (hp.symm.trans e2)
   simp[hp,e]
  ·simp[hp]
theorem FZ(H:List HV)(p l:Bs)(n d:Int):((fy H p n d).filter (fun h=>decide (h.p=l))).map cY=if l=p then((H.filter (fun h=>decide (h.p=p))).map cY).map (bump n d)else(H.filter (fun h=>decide (h.p=l))).map cY:=by
 unfold fy;induction H with
 | nil=>simp
 | cons h r ih =>
  rw[map_cons,filter_cons,filter_cons,filter_cons];by_cases h1:h.p=l<;>by_cases h2:h.p=p<;>by_cases h3:(h.num:Int)=n<;>by_cases h4:l=p<;>simp_all[cY,bump]
theorem GI(H:List HV)(p:Bs)(ns:List Int):(H.map (·.size)).sum=((jy H p ns).map (·.size)).sum+((((H.filter (fun h=>decide (h.p=p))).map cY).filter (fun t=>ns.contains (t.1:Int))).map (·.2.1)).sum:=by
 unfold jy;induction H with
 | nil=>rfl
 | cons h r ih =>
  rw[filter_cons,filter_cons];by_cases h1:h.p=p<;>by_cases h2:ns.contains (h.num:Int)=true<;>simp_all[cY]<;>omega
theorem yB(ns:List Int)(vs:List VerL):bO ns vs=(((vs.map bI).filter (fun t=>ns.contains (t.1:Int))).map (·.2.1)).sum:=by
 unfold bO;rw[filter_map,map_map];rfl
theorem Cd(ts:List fO)(tc:Nat)(m p:Bs)(n:Int):(eh ts tc m (mE m (p,n)) (p,n)).map eZ=ma (ts.map eZ) (m,p,n):=by
 have e:(ts.map eZ).any (fun t=>decide (t.1=m))=gN ts m:=by unfold gN;rw[any_map];rfl
 unfold eh ma;rw[e];split
 ·rw[map_map,map_map];refine map_congr_left fun q _=>?_
  show eZ (if q.key=m then _ else q)=if q.key=m then _ else eZ q
  split
  ·rename_i h;simp[eZ,h]
  ·rfl
 ·simp[eZ]
theorem Jp(ts:List fO)(m:Bs):(bE ts m).map eZ=Ap (ts.map eZ) m:=by
 unfold bE Ap;rw[filter_map];rfl
theorem uZ{ts:List fO}{tc:Nat}(h:TagsOk ts tc){m:Bs}(hm:OkS m)(g:Bs×Int):TagsOk (eh ts tc m (mE m g) g) (cf (ts.map aN) tc m):=by
 refine⟨by rw[iG];exact h.map.put hm _,fun q hq=>?_⟩;rcases fA hq with⟨h1,_⟩|⟨h1,h2,h3⟩
 ·exact h.val q h1
 ·rw[h1,h2,h3]
theorem D3{ts:List fO}{tc:Nat}(h:TagsOk ts tc)(m:Bs):TagsOk (bE ts m) tc :=
 ⟨by rw[mM];exact h.map.del m,fun q hq=>h.val q (mem_filter.1 hq).1⟩
theorem Bl(T:List Tg)(x:Tg):(ma T x).length<=T.length+1:=by
 unfold ma;split<;>simp
theorem Bn{T:List Tg}{x t:Tg}(h:t∈ma T x):t=x\/t∈T:=by
 unfold ma at h;split at h
 ·obtain⟨y,hy,rfl⟩:=mem_map.1 h;split
  ·exact .inl rfl
  ·exact .inr hy
 ·rcases mem_append.1 h with h|h
  ·exact .inr h
  ·exact .inl (mem_singleton.1 h)
theorem qS{H:List HV}{p:Bs}{n d:Int}{h:HV}(hh:h∈fy H p n d):∃h0∈H,h.p=h0.p/\h.num=h0.num/\h.size=h0.size/\h.chs=h0.chs/\(h.held=h0.held\/h.held=h0.held+d):=by
 obtain⟨h0,h1,rfl⟩:=mem_map.1 hh;refine⟨h0,h1,?_⟩;split
 ·exact⟨rfl,rfl,rfl,rfl,.inr rfl⟩
 ·exact⟨rfl,rfl,rfl,rfl,.inl rfl⟩
theorem Cnt.grow{at_ n:Nat}{s:PSt}(h:Cnt at_ s):Cnt (at_+n) s :=
 ⟨by have:=h.n;omega,fun x hx=>by have:=h.held x hx;omega,h.size,h.tag⟩
end
section
open Go.RowKit Go.Maps
theorem Bu(l:Bs)(bad:Bool)(n:Nat):dc l bad n<256 ^ n:=by
 unfold dc;split
 ·exact Nat.pow_pos (by omega)
 ·have h1:=im (l.take n);exact Nat.lt_of_lt_of_le h1 (Nat.pow_le_pow_right (by omega) (by simp;omega))
theorem Ba{l:Bs}:∀x∈iy l,0<=x/\x<=4294967296:=fun x hx=>by
 unfold iy at hx
 obtain⟨i,-,rfl⟩:=mem_map.1 hx
 have h1:=im ((l.drop (4*i)).take 4)
 have h2:256 ^ ((l.drop (4*i)).take 4).length<=256 ^ 4:=Nat.pow_le_pow_right (by omega) (by simp;omega)
 omega
theorem rr{α:Type}{f:α->Nat}{m:Nat}:∀{l:List α},(∀x∈l,f x<=m)->(l.map f).sum<=m*l.length
 | [],_=>by simp
 | a::l,h=>by
  have h1:=h a (by simp)
  have h2:=rr (l:=l) (fun x hx=>h x (by simp[hx]))
  simp only[map_cons,sum_cons,length_cons,Nat.mul_add,Nat.mul_one]
  omega
def Mb(k:UInt8)(body:Bs):RecR->Prop
 | .ver p num size ats=>p.length<=255/\num<4294967296/\size<=65535/\(∀x∈ats,0<=x/\x<=4294967296)/\ats.length<=body.length
 | .gone p ns=>p.length<=255/\ns.length<=body.length
 | .pin q p m n=>q=k/\(k=4\/k=5)/\p.length<=255/\m.length<=255/\n<4294967296
theorem m8{k:UInt8}{body:Bs}{r:RecR}(h:ff k body=some r):Mb k body r:=by
 have n4:∀l b,dc l b 4<4294967296:=fun l b=>Nat.lt_of_lt_of_le (Bu l b 4) (by omega)
 have n2:∀l b,dc l b 2<=65535:=fun l b=>by have:=Bu l b 2;omega
 have hl:(rT (body,false)).1.length<=body.length:=iH _ _;unfold ff at h;simp only at h;split at h
 ·split at h
  ·simp only[Option.some.injEq]at h;subst h;refine⟨mo _ _,n4 _ _,n2 _ _,Ba,?_⟩;rw[i6];have h1:(rN (rN (rT (body,false)) 4) 2).1.length<=body.length:=Nat.le_trans (gh _ _ _) (Nat.le_trans (gh _ _ _) (iH _ _));omega
  ·cases h
 ·split at h
  ·split at h
   ·simp only[Option.some.injEq]at h;subst h;exact⟨mo _ _,by rw[i6];omega⟩
   ·cases h
  ·split at h
   ·rename_i h45;split at h
    ·simp only[Option.some.injEq]at h;subst h;exact⟨rfl,h45,mo _ _,mo _ _,n4 _ _⟩
    ·cases h
   ·cases h
section
variable {D:Bs} {X:ArchL} {ps:List ba} {pc:Nat} {cs:List kT} {cc:Nat} {ts:List fO} {tc:Nat} {sz:List (Ent Int)} {szc at_:Nat} {s:PSt} {body:Bs} {n:Nat} {k:UInt8}
theorem CtOk.at_lt(h:CtOk D X ps pc cs cc ts tc sz szc at_ s):∀e∈s.K,e.2.1<at_:=fun e he=>by
 have h1:=(h.kat e he).2.2.1
 rw[length_take]at h1
 omega
theorem CtOk.on(h:CtOk D X ps pc cs cc ts tc sz szc at_ s)(ho:ce (D.drop at_)=some (k,body,n)):at_+n<=D.length/\9<=n/\body.length<=65535/\∀e∈s.K,e.2.2=e.1.length/\e.1.length<=65535/\dw (D.take (at_+n)) e.2.1 e.1:=by
 obtain⟨-,h2,h3,-,h5⟩:=eD ho;rw[length_drop]at h3;have:=h.le;refine⟨by omega,by omega,by omega,fun e he=>?_⟩;obtain⟨k1,k2,k3⟩:=h.kat e he;exact⟨k1,k2,k3.grow (by omega)⟩
theorem CtOk.chunk(h:CtOk D X ps pc cs cc ts tc sz szc at_ s)(ho:ce (D.drop at_)=some (1,body,n))(hat:at_<=4294967296){v:Value}(hv:bP v (bd cs (ef body)++[(at_,body.length)])):
  CtOk D { X with sc:=X.sc+1,sb:=X.sb+body.length } ps pc (eh cs cc (ef body) v (bd cs (ef body)++[(at_,body.length)])) (cf (cs.map aN) cc (ef body)) ts tc (gF sz szc (at_:Int) (.int .i64 body.length)) (cf sz szc (at_:Int)) (at_+n) { s with K:=s.K++[(body,at_,body.length)] }:=by
 obtain⟨h1,h2,h3,h4⟩:=dw.at_ ho h.le;obtain⟨-,o2,-,o4⟩:=h.on ho;have hnone:kx s.K at_=none:=GJ h.at_lt;refine⟨h.reach.next ho rfl,h2,⟨?_,h.cnt.grow.held,h.cnt.size,h.cnt.tag⟩,h.paths,pT h.chunks (by unfold ef;exact cd _ _) hv,h.tags,AV h.kin body _ v,fun e he=>?_,h.hist,h.nem,fun x hx=>⟨fun q hq=>?_,(h.chsK x hx).2⟩,h.used,?_,?_,h.map.put ⟨by omega,by omega⟩ _,fun k=>?_,h.tagT⟩
 ·have:=h.cnt.n;simp only[length_append,length_singleton];omega
 ·rcases mem_append.1 he with he|he
  ·exact o4 e he
  ·obtain rfl:=mem_singleton.1 he;exact⟨rfl,h3,h4⟩
 ·obtain⟨e,he,hq2⟩:=(h.chsK x hx).1 q hq;exact⟨e,mem_append_left _ he,hq2⟩
 ·show X.sc+1=_;rw[h.sc];simp
 ·show X.sb+body.length=_;rw[h.sb];simp
 ·rw[FR,BV,h.get k];by_cases hk:k=(at_:Int)
  ·subst hk;rw[if_pos rfl,hnone,if_pos rfl];rfl
  ·rw[if_neg hk,if_neg (fun e=>hk e.symm)];simp
theorem qJ{p l:Bs}{v:Value}{V:VerL}:af (kw ps pc p v V) l=if l=p then af ps p++[V]else af ps l:=qd [] ps pc p l v _
theorem CtOk.ver(h:CtOk D X ps pc cs cc ts tc sz szc at_ s)(hk1:k≠1)(ho:ce (D.drop at_)=some (k,body,n)){p:Bs}{num m:Nat}{ats:List Int}(hr:ff k body=some (.ver p num m ats)){chs:List (Nat×Nat)}(hc:du (kx s.K) ats=some chs)(hm:(chs.map (·.2)).sum=m){b:Nat}{cv v':Value}(hcv:bP cv chs)(hv:eT v' (af ps p++[⟨b,num,m,cv,chs,0⟩])):
  CtOk D { X with used:=X.used+m } (kw ps pc p v' ⟨b,num,m,cv,chs,0⟩) (cf (ps.map aN) pc p) cs cc ts tc sz szc (at_+n) { s with H:=s.H++[⟨p,num,m,chs,0⟩] }:=by
 obtain⟨o1,o2,o3,o4⟩:=h.on ho;obtain⟨r1,r2,r3,-,r5⟩:=m8 hr;have hcl:=nO hc
 have hs:fC at_ s k body=some { s with H:=s.H++[⟨p,num,m,chs,0⟩] }:=by
  unfold fC;rw[if_neg hk1,hr];simp only[hc];rw[if_pos hm]
 refine⟨h.reach.next ho hs,o1,⟨?_,fun x hx=>?_,fun x hx=>?_,h.cnt.tag⟩,rX h.paths (by unfold OkS;omega) hv hcv,h.chunks,h.tags,h.kin,o4,fun l=>?_,fun q hq=>?_,fun x hx=>?_,?_,h.sc,h.sb,h.map,h.get,h.tagT⟩
 ·have:=h.cnt.n;simp only[length_append,length_singleton];omega
 ·rcases mem_append.1 hx with hx|hx
  ·exact h.cnt.grow.held x hx
  ·obtain rfl:=mem_singleton.1 hx;simp
 ·rcases mem_append.1 hx with hx|hx
  ·exact h.cnt.size x hx
  ·obtain rfl:=mem_singleton.1 hx;exact⟨r1,r2,r3,by show chs.length<=_;omega⟩
 ·rw[qJ,filter_append,map_append,<- h.hist l];by_cases hl:l=p
  ·subst hl;rw[if_pos rfl,map_append];simp[bI,cY]
  ·rw[if_neg hl];simp[Ne.symm hl]
 ·rcases fA hq with⟨h1,_⟩|⟨_,_,h3⟩
  ·exact h.nem q h1
  ·rw[h3];simp
 ·rcases mem_append.1 hx with hx|hx
  ·exact h.chsK x hx
  ·obtain rfl:=mem_singleton.1 hx;exact⟨wH hc,hm.symm⟩
 ·show X.used+m=_;rw[h.used];simp
theorem CtOk.has(h:CtOk D X ps pc cs cc ts tc sz szc at_ s)(p:Bs):s.H.any (fun x=>decide (x.p=p))=true↔af ps p≠[]:=by
 have h1:=h.hist p;rw[any_eq_true];refine⟨fun⟨x,hx,e⟩ hn=>?_,fun hn=>?_⟩
 ·rw[hn]at h1;have:=(map_eq_nil_iff.1 h1.symm);exact absurd (mem_filter.2 ⟨hx,e⟩) (by rw[this];simp)
 ·cases hf:s.H.filter (fun x=>decide (x.p=p))with
  | nil=>rw[hf]at h1;exact absurd (map_eq_nil_iff.1 h1) hn
  | cons x r =>
   have:=mem_filter.1 (show x∈s.H.filter (fun x=>decide (x.p=p)) by rw[hf];simp);exact⟨x,this.1,this.2⟩
theorem CtOk.gone(h:CtOk D X ps pc cs cc ts tc sz szc at_ s)(hk1:k≠1)(ho:ce (D.drop at_)=some (k,body,n)){p:Bs}{ns:List Int}(hr:ff k body=some (.gone p ns))(hne:af ps p≠[]){v':Value}(hv:eT v' (dC ns (af ps p))):
  CtOk D (i7 X (X.used-(bO ns (af ps p):Nat))) (fZ ps pc p v' ns) pc cs cc ts tc sz szc (at_+n) { s with H:=jy s.H p ns }:=by
 obtain⟨o1,o2,o3,o4⟩:=h.on ho;obtain⟨r1,-⟩:=m8 hr
 have hs:fC at_ s k body=some { s with H:=jy s.H p ns }:=by
  unfold fC;rw[if_neg hk1,hr];simp only[(h.has p).2 hne,if_true]
 have hsub:∀x∈jy s.H p ns,x∈s.H:=fun x hx=>(mem_filter.1 hx).1
 refine⟨h.reach.next ho hs,o1,⟨?_,fun x hx=>h.cnt.grow.held x (hsub x hx),fun x hx=>h.cnt.size x (hsub x hx),h.cnt.tag⟩,Av h.paths (by unfold OkS;omega) hv hne,h.chunks,h.tags,h.kin,o4,fun l=>?_,wN h.nem,fun x hx=>h.chsK x (hsub x hx),?_,h.sc,h.sb,h.map,h.get,h.tagT⟩
 ·have:=h.cnt.n;have:(jy s.H p ns).length<=s.H.length:=length_filter_le _ _;show 9*(s.K.length+(jy s.H p ns).length+s.T.length)<=_;omega
 ·rw[lP,FY];split
  ·rw[GQ,h.hist]
  ·exact h.hist l
 ·show X.used-_=(((jy s.H p ns).map (·.size)).sum:Nat);rw[h.used,GI s.H p ns,yB,h.hist p];omega
theorem CtOk.tag(h:CtOk D X ps pc cs cc ts tc sz szc at_ s)(ho:ce (D.drop at_)=some (k,body,n)){p:Bs}{m d:Int}(hd : -1<=d/\d<=1){ts':List fO}{tc':Nat}{T':List Tg}(hts:TagsOk ts' tc')(hT:ts'.map eZ=T')(hl:T'.length<=s.T.length+1)(hmem:∀t∈T',t.1.length<=255/\t.2.1.length<=255/\0<=t.2.2/\t.2.2<4294967296)(hs:fC at_ s k body=some { s with H:=fy s.H p m d,T:=T' }):
  CtOk D X (cM ps p m d) pc cs cc ts' tc' sz szc (at_+n) { s with H:=fy s.H p m d,T:=T' }:=by
 obtain⟨o1,o2,o3,o4⟩:=h.on ho;refine⟨h.reach.next ho hs,o1,⟨?_,fun x hx=>?_,fun x hx=>?_,hmem⟩,AK h.paths p m d,h.chunks,hts,h.kin,o4,fun l=>?_,wZ h.nem,fun x hx=>?_,?_,h.sc,h.sb,h.map,h.get,hT⟩
 ·have:=h.cnt.n;have e:(fy s.H p m d).length=s.H.length:=by unfold fy;rw[length_map]
  show 9*(s.K.length+(fy s.H p m d).length+T'.length)<=_;omega
 ·obtain⟨x0,h0,-,-,-,-,e⟩:=qS hx;have:=h.cnt.held x0 h0;rcases e with e|e<;>rw[e]<;>omega
 ·obtain⟨x0,h0,e1,e2,e3,e4,-⟩:=qS hx;rw[e1,e2,e3,e4];exact h.cnt.size x0 h0
 ·rw[gX,FZ];split
  ·rw[map_map,<- h.hist p,map_map];exact map_congr_left fun V _=>GP m d V
  ·exact h.hist l
 ·obtain⟨x0,h0,-,-,e3,e4,-⟩:=qS hx;rw[e3,e4];exact h.chsK x0 h0
 ·rw[h.used];congr 2;unfold fy;rw[map_map];refine map_congr_left fun x _=>?_
  show x.size=(if _ then _ else x).size;split<;>rfl
theorem CtOk.bounds(h:CtOk D X ps pc cs cc ts tc sz szc at_ s)(hat:at_<=810000):
  (0<=X.used/\X.used<=65535*90000)/\(0<=X.sc/\X.sc<=90000)/\(0<=X.sb/\X.sb<=65535*90000)/\(∀k,(bd cs k).length<=90000)/\(∀l,(af ps l).length<=90000)/\(∀a m,kx s.K a=some m->m<=65535)/\∀l,∀V∈af ps l,V.held.natAbs<=90000/\V.size<=65535:=by
 have h0:=h.cnt.n;have hle:=h.le;have h3:=rr (l:=s.H) (f:=(·.size)) (fun x hx=>(h.cnt.size x hx).2.2.1);have h4:=rr (l:=s.K) (f:=(·.1.length)) (m:=65535) (fun e he=>(h.kat e he).2.1);refine⟨by rw[h.used];omega,by rw[h.sc];omega,by rw[h.sb];omega,fun k=>?_,fun l=>?_,fun a m hm=>?_,fun l V hV=>?_⟩
 ·have:=(h.kin k).length_eq;rw[length_map]at this;have:=length_filter_le (fun e=>decide (ef e.1=k)) s.K;omega
 ·have:=congrArg length (h.hist l);rw[length_map,length_map]at this;have:=length_filter_le (fun h=>decide (h.p=l)) s.H;omega
 ·obtain⟨e,he,h5⟩:=BW hm;have h6:=h.kat e he;rw[h5]at h6;simp only at h6;omega
 ·have h1:bI V∈(af ps l).map bI:=mem_map.2 ⟨V,hV,rfl⟩;rw[h.hist]at h1;obtain⟨x,hx,e⟩:=mem_map.1 h1;have hx:=(mem_filter.1 hx).1;have h5:=h.cnt.held x hx;have h6:=h.cnt.size x hx;unfold cY bI at e;simp only[Prod.mk.injEq]at e;rw[<- e.2.2.2,<- e.2.1];omega
end
end
section
open Go.RowKit Go.Maps
open Go.ChangeMaps (setBlock)
def jv(a:Nat)(O:Obj)(pm tm:Nat)(ps:List ba)(pc:Nat)(ts:List fO)(tc:Nat):HF:=(a,Is O)::(aF pm ps pc++bU tm ts tc)
def jI(a:Nat)(X:ArchL)(ps:List ba)(pc:Nat)(ts:List fO)(tc:Nat):HF:=(a,Is (aJ X))::(aF X.pm ps pc++bU X.tm ts tc)
structure PinPreG (a:Nat) (O:Obj) (pm tm:Nat) (ps:List ba) (pc:Nat) (ts:List fO) (tc:Nat) (m p:Bs) (w:World):Prop where
 sat:Sat w (jv a O pm tm ps pc ts tc)
 c0:Ck O 0 (.map (some pm))
 c1:Ck O 1 (.map (some tm))
 ok:PathsOk ps pc
 tags:TagsOk ts tc
 okm:OkS m
 okp:OkS p
 len:(af ps p).length<=1099511627776
 held:∀V∈af ps p,V.held.natAbs<=1099511627776
structure PinPre (a:Nat) (X:ArchL) (ps:List ba) (pc:Nat) (ts:List fO) (tc:Nat) (m p:Bs) (w:World):Prop where
 sat:Sat w (jI a X ps pc ts tc)
 ok:PathsOk ps pc
 tags:TagsOk ts tc
 okm:OkS m
 okp:OkS p
 len:(af ps p).length<=1099511627776
 held:∀V∈af ps p,V.held.natAbs<=1099511627776
theorem PinPreG.hold{a:Nat}{O:Obj}{pm tm:Nat}{ps:List ba}{pc:Nat}{ts ts':List fO}{tc tc':Nat}{m p:Bs}{w W:World}(h:PinPreG a O pm tm ps pc ts tc m p w)(n d:Int)(hd : -1<=d/\d<=1)(hT:Turns (jv a O pm tm ps pc ts tc) (jv a O pm tm ps pc ts' tc') w W):
  Calls Tryz.prog 103 #[.pointer (some ⟨a,0,none⟩),q9 m p n,.int .i64 d] W (fun e w'=>e=.returned (.tuple #[])/\Turns (jv a O pm tm ps pc ts tc) (jv a O pm tm (cM ps p n d) pc ts' tc') w w'):=by
 refine(II a O pm h.c0 ps pc m p n d W (hT.sat.sub (fun x=>by unfold jv;simp only[ao,ai];omega)) h.ok h.okp h.len hd h.held).mono ?_;rintro e w' ⟨rfl,hT2⟩;refine⟨rfl,(hT.step (F:=(a,Is O)::aF pm ps pc) (R:=bU tm ts' tc') ?_ hT2).to ?_⟩
 ·unfold jv;exact ac
 ·unfold jv;exact ac
theorem EP(a:Nat)(O:Obj)(pm tm:Nat)(ps:List ba)(pc:Nat)(ts:List fO)(tc:Nat)(m p:Bs)(n:Int)(w:World)(h:PinPreG a O pm tm ps pc ts tc m p w):
  Calls Tryz.prog 68 #[.pointer (some ⟨a,0,none⟩),q9 m p n] w (fun e w'=>e=.returned (.tuple #[])/\Turns (jv a O pm tm ps pc ts tc) (jv a O pm tm (cM ps p n 1) pc (eh ts tc m (mE m (p,n)) (p,n)) (cf (ts.map aN) tc m)) w w'):=by
 have HO:=qqH (fun W=>h.hold (W:=W) (ts':=eh ts tc m (mE m (p,n)) (p,n)) (tc':=cf (ts.map aN) tc m) n 1 (by omega));have HH:=qqH h;clear h;unfold q9 at HO ⊢;go_enter Tryz.func68,Tryz.ntmps68;go_upto_region 1 with(fail);obtain⟨W,hW⟩:∃W,W=w.alloc (.cells #[str m,str p,.int .i64 n] 156):=⟨_,rfl⟩;rw[<- hW]
 have hT1:Turns (jv a O pm tm ps pc ts tc) ((w.heap.size,Is (.cells #[str m,str p,.int .i64 n] 156 (0,0)))::jv a O pm tm ps pc ts tc) w W:=by
  rw[hW];exact(Turns.refl HH.out.sat).Q8 (.cells #[str m,str p,.int .i64 n] 156)
 have hbo:=hT1.sat.Q5;have b0:W.cell? ⟨w.heap.size,0,none⟩=some (str m):=aa hbo 0 rfl;have b1:W.cell? ⟨w.heap.size,1,none⟩=some (str p):=aa hbo 1 rfl;have b2:W.cell? ⟨w.heap.size,2,none⟩=some (.int .i64 n):=aa hbo 2 rfl;have a1:W.cell? ⟨a,1,none⟩=some (.map (some tm)):=HH.out.c1 _ _ (hT1.sat.Q7 (b:=a) (o:=O) (by simp[jv]));have H1:=qqH hT1;clear hW hT1 hbo;refine wp_region_still_tail 7 HM.out (by kernel_rfl) ?_;simp only[QE,take_zero,QD,drop_zero];repeat still_step
 refine wpStill_nil ?_;change wpList _ _ _ _ _ W.drew
 go_wp2_with (first
  | (refine ah rfl (lF dK (.tmp 7) (.tmp 9) (.tmp 10) rfl Tryz.underlying52 tm (ts.map aN) tc (H1.out.drew.to (H:=(tm,Is (aO str (ts.map aN) tc))::((a,Is O)::(aF pm ps pc++[(w.heap.size,Is (.cells #[str m,str p,.int .i64 n] 156 (0,0)))]))) (by unfold jv bU;exact ac)) HH.out.tags.map m (.agg #[str m,str p,.int .i64 n]) rfl rfl rfl HH.out.okm ?_);intro w4 hT4;have hb4:=hT4.sat.Q7 (b:=w.heap.size) (o:=.cells #[str m,str p,.int .i64 n] 156 (0,0)) (by simp);have d0:w4.cell? ⟨w.heap.size,0,none⟩=some (str m):=aa hb4 0 rfl;have d1:w4.cell? ⟨w.heap.size,1,none⟩=some (str p):=aa hb4 1 rfl;have d2:w4.cell? ⟨w.heap.size,2,none⟩=some (.int .i64 n):=aa hb4 2 rfl;have H4:=qqH hT4;clear hT4 hb4;simp only[Act.put])
  | fail)
 refine(HO.out _ ?_).mono ?_
 ·refine H4.out.drop (fun x=>?_);unfold jv bU;rw[iG];simp only[ao,ai,ee];simp only[mE];omega
 rintro e w5 ⟨rfl,hT5⟩;have H5:=qqH hT5;clear hT5;go_wp2_with fail;exact bodyPost_end (results_none rfl _ _ _) rfl ⟨rfl,H5.out⟩
theorem GL(a:Nat)(O:Obj)(pm tm:Nat)(ps:List ba)(pc:Nat)(ts:List fO)(tc:Nat)(m p:Bs)(n:Int)(w:World)(h:PinPreG a O pm tm ps pc ts tc m p w):
  Calls Tryz.prog 69 #[.pointer (some ⟨a,0,none⟩),q9 m p n] w (fun e w'=>e=.returned (.tuple #[])/\Turns (jv a O pm tm ps pc ts tc) (jv a O pm tm (cM ps p n (-1)) pc (bE ts m) tc) w w'):=by
 have HO:=qqH (fun W=>h.hold (W:=W) (ts':=bE ts m) (tc':=tc) n (-1) (by omega));have HH:=qqH h;clear h;unfold q9 at HO ⊢;go_enter Tryz.func69,Tryz.ntmps69;go_upto_region 1 with(fail);obtain⟨W,hW⟩:∃W,W=w.alloc (.cells #[str m,str p,.int .i64 n] 156):=⟨_,rfl⟩;rw[<- hW]
 have hT1:Turns (jv a O pm tm ps pc ts tc) ((w.heap.size,Is (.cells #[str m,str p,.int .i64 n] 156 (0,0)))::jv a O pm tm ps pc ts tc) w W:=by
  rw[hW];exact(Turns.refl HH.out.sat).Q8 (.cells #[str m,str p,.int .i64 n] 156)
 have hbo:=hT1.sat.Q5;have b0:W.cell? ⟨w.heap.size,0,none⟩=some (str m):=aa hbo 0 rfl;have b1:W.cell? ⟨w.heap.size,1,none⟩=some (str p):=aa hbo 1 rfl;have b2:W.cell? ⟨w.heap.size,2,none⟩=some (.int .i64 n):=aa hbo 2 rfl;have a1:W.cell? ⟨a,1,none⟩=some (.map (some tm)):=HH.out.c1 _ _ (hT1.sat.Q7 (b:=a) (o:=O) (by simp[jv]));have H1:=qqH hT1;clear hW hT1 hbo;refine wp_region_still_tail 6 HM.out (by kernel_rfl) ?_;simp only[QE,take_zero,QD,drop_zero];repeat still_step
 refine wpStill_nil ?_;change wpList _ _ _ _ _ W.drew;have hT2:=H1.out.drew.to (H:=(tm,Is (aO str (ts.map aN) tc))::((a,Is O)::(aF pm ps pc++[(w.heap.size,Is (.cells #[str m,str p,.int .i64 n] 156 (0,0)))]))) (by unfold jv bU;exact ac)
 have hdel:∀ty,(Builtin.delete_ #[52,9] ty #[.map (some tm),str m]).run Tryz.prog W.drew=.ok (.tuple #[]) (setBlock W.drew tm (aO str (yt (ts.map aN) m) tc)):=fun ty =>
  EV dK Tryz.underlying52 hT2.sat.Q5 HH.out.tags.map HH.out.okm
 have hT4:=hT2.Qa (dg W.drew tm (aO str (yt (ts.map aN) m) tc)) (ey hT2.sat.Q5);have hb4:=hT4.sat.Q7 (b:=w.heap.size) (o:=.cells #[str m,str p,.int .i64 n] 156 (0,0)) (by simp);have d0:=aa hb4 0 (v:=str m) rfl;have d1:=aa hb4 1 (v:=str p) rfl;have d2:=aa hb4 2 (v:=.int .i64 n) rfl;have H4:=qqH hT4;clear hT2 hT4 hb4 b0 b1 b2 a1;go_wp2_with fail;refine(HO.out _ ?_).mono ?_
 ·refine H4.out.drop (fun x=>?_);unfold jv bU;rw[mM];simp only[ao,ai,ee];omega
 rintro e w5 ⟨rfl,hT5⟩;have H5:=qqH hT5;clear hT5;go_wp2_with fail;exact bodyPost_end (results_none rfl _ _ _) rfl ⟨rfl,H5.out⟩
theorem PinPre.gen{a:Nat}{X:ArchL}{ps:List ba}{pc:Nat}{ts:List fO}{tc:Nat}{m p:Bs}{w:World}(h:PinPre a X ps pc ts tc m p w):PinPreG a (aJ X) X.pm X.tm ps pc ts tc m p w :=
 ⟨h.sat,fun _ _ h=>aa h 0 rfl,fun _ _ h=>aa h 1 rfl,h.ok,h.tags,h.okm,h.okp,h.len,h.held⟩
theorem xo(a:Nat)(X:ArchL)(ps:List ba)(pc:Nat)(ts:List fO)(tc:Nat)(m p:Bs)(n:Int)(w:World)(h:PinPre a X ps pc ts tc m p w):
  Calls Tryz.prog 68 #[.pointer (some ⟨a,0,none⟩),q9 m p n] w (fun e w'=>e=.returned (.tuple #[])/\Turns (jI a X ps pc ts tc) (jI a X (cM ps p n 1) pc (eh ts tc m (mE m (p,n)) (p,n)) (cf (ts.map aN) tc m)) w w'):=EP a (aJ X) X.pm X.tm ps pc ts tc m p n w h.gen
theorem sf(a:Nat)(X:ArchL)(ps:List ba)(pc:Nat)(ts:List fO)(tc:Nat)(m p:Bs)(n:Int)(w:World)(h:PinPre a X ps pc ts tc m p w):
  Calls Tryz.prog 69 #[.pointer (some ⟨a,0,none⟩),q9 m p n] w (fun e w'=>e=.returned (.tuple #[])/\Turns (jI a X ps pc ts tc) (jI a X (cM ps p n (-1)) pc (bE ts m) tc) w w'):=GL a (aJ X) X.pm X.tm ps pc ts tc m p n w h.gen
end
section
open Go.RowKit
theorem Gt{rb:Nat}{s:Bs×Bool}{w w':World}{e:Ending}(h:wk rb s.1 s.2 w e w'):e=.returned (str (gm s.1 s.2))/\Rd w' rb (rT s).1 (rT s).2/\Mods (fun k=>k=rb) w w':=⟨h.1,h.2.1,h.2.2⟩
theorem ES(body:Bs):ff 3 body=if(rT (body,false)).2=false/\(rT (body,false)).1.length%4=0 then some (.gone (gm body false) (iy (rT (body,false)).1))else none:=by
 unfold ff;rw[if_neg (by decide),if_pos rfl]
theorem Jc{k:UInt8}(hk:k=4\/k=5)(body:Bs):ff k body=if(rN (rT (rT (body,false))) 4).2=false/\(rN (rT (rT (body,false))) 4).1=[]then some (.pin k (gm body false) (gm (rT (body,false)).1 (rT (body,false)).2) (dc (rT (rT (body,false))).1 (rT (rT (body,false))).2 4))else none:=by
 unfold ff;rw[if_neg (by rcases hk with rfl|rfl<;>decide),if_neg (by rcases hk with rfl|rfl<;>decide),if_pos hk]
theorem Bw{k:UInt8}(h2:k≠2)(h3:k≠3)(h4:k≠4)(h5:k≠5)(body:Bs):ff k body=none:=by
 unfold ff;simp only[if_neg h2,if_neg h3,if_neg (show ¬(k=4\/k=5)from fun h=>h.elim h4 h5)]
theorem xJ{k:UInt8}{n:Nat}(_:n<256)(h:k≠UInt8.ofNat n):¬((k.toNat:Int)=(n:Int)):=fun e=>h (by
 have:k.toNat=n:=by omega
 rw[<- this,UInt8.ofNat_toNat])
theorem vP(k:UInt8)(a:Option Addr)(cap:Nat)(body:Bs)(w:World)(h:ak w a (body.map al))(hcap:body.length<=cap)(ha:∀x,a=some x->x.block<w.heap.size)(hl:body.length<=70000):
  Calls Tryz.prog 117 #[.int .u8 k.toNat,.slice a body.length cap] w (cI k body w):=by
 by_cases hk2:k=2
 ·subst hk2;exact zB a cap body w h hcap ha hl
 obtain⟨rb,hrb⟩:∃rb,rb=w.heap.size:=⟨_,rfl⟩
 have hR0:RdT w [] rb (body,false) (w.alloc (.cells #[.slice a body.length cap,.bool false] 270)):=by
  refine⟨?_,a,cap,?_,hcap,h.keep ((Mods.refl (fun _=>False) w).alloc _) (fun _ _ _=>id),fun x hx=>hrb ▸ ha x hx⟩
  ·rw[hrb];exact(Turns.refl (Sat.nil w)).Qe (φ:=fun _=>True) trivial
  ·unfold sW;rw[hrb];exact aK w _
 have HT:=qqH (ng rb body false _ hR0.2 (by omega));have H0:=Hq2 hR0 hrb;rw[hrb]at HT;have hk2n:¬((k.toNat:Int)=2):=xJ (by decide) hk2;clear h ha hcap hR0;go_enter Tryz.func117,Tryz.ntmps117;go_wp2_with fail;refine HT.out.mono ?_;rintro e w2 ⟨rfl,hR2,hm2⟩;rw[<- hrb]at hR2 hm2 ⊢;have hR3:RdT w [] rb (rT (body,false)) w2:=H0.a.call hm2 hR2;obtain⟨p,hp⟩:∃p,p=gm body false:=⟨_,rfl⟩;obtain⟨s1,hs1⟩:∃s1,s1=rT (body,false):=⟨_,rfl⟩;have hl1:s1.1.length<=70000:=by rw[hs1];exact Nat.le_trans (iH _ _) hl
 rw[<- hs1]at hR3;rw[<- hp];have hR4:=hR3.alloc H0.z (ki k p);obtain⟨hb,hhb⟩:∃hb,hb=w2.heap.size:=⟨_,rfl⟩;rw[<- hhb]at hR4;have H2:=Hq3 hR4 hp hs1;clear hR2 hm2 hR3 hp hs1 hrb hR4;by_cases hk3:k=3
 ·subst hk3;go_upto_region 10 with(fail);rw[<- hhb];clear hhb;refine db [([0,1],2,[0])] [3,4,5] HM.out (by kernel_rfl) fun W tW=>?_
  simp only[Mix,map_cons,map_nil,nth,QG,QF];have q0:=H2.a.at H0.z tW;clear tW;refine fT (k:=3) (p:=p) q0 (by simp) rfl rfl rfl ?_;simp only[Act.put,QA,QB,QC];repeat still_step
  refine wpStill_nil (aU (by kernel_rfl) (oB rb s1.1 s1.2 W q0.2 hl1) ?_);rintro e w3 ⟨v,ns,l',b',rfl,hio,hT4,hR4,hres⟩;obtain⟨a1,c1,rfl,-⟩:=aL (aR hT4.sat.left hio);have hT3:=RdT.nums (s':=(l',b')) q0 hT4 hR4;refine⟨_,rfl,fT (k:=3) (p:=p) hT3 (by simp) rfl rfl rfl rfl,?_⟩;simp only[Act.put,QA,QB,QC];repeat still_step
  refine wpStill_nil ?_;clear q0 hT4 hR4;obtain⟨ra,rc,hrd,-⟩:=id hT3.2;have hrd:w3.heap[rb]?=some (.cells #[.slice ra l'.length rc,.bool b'] 270 (0,0)):=hrd;have hrl:=ae hrd;have k0:w3.cell? ⟨rb,0,none⟩=some (.slice ra l'.length rc):=aa hrd 0 rfl;have k1:w3.cell? ⟨rb,1,none⟩=some (.bool b'):=aa hrd 1 rfl;have H3:=Hq2 hio hT3;clear hrd hio hT3;rcases hres with⟨rfl,hs2,hl4,rfl,hns⟩|⟨rfl,hbad,-⟩
  ·have HX:=Hq3 hs2 hl4 hns;clear hs2 hl4 hns;go_wp2_with fail;go_ret;unfold cI;rw[ES,<- H2.y,<- H2.b,if_pos ⟨HX.a,HX.b⟩];refine⟨_,rfl,?_,?_⟩
   ·show iOk _ (iy s1.1);rw[<- HX.y];exact H3.a
   ·show Turns [] (bZ _ (iy s1.1)) _ _;rw[<- HX.y];exact H3.b.left.left
  ·have HX:=qqH hbad;clear hbad;go_wp2_with fail;go_ret;unfold cI;rw[ES,<- H2.y,if_neg]
   ·exact⟨rfl,H3.b.news⟩
   ·rintro⟨h1,h2⟩;rcases HX.out with h|h
    ·rw[h1]at h;cases h
    ·exact h h2
 have hk3n:¬((k.toNat:Int)=3):=xJ (by decide) hk3;by_cases hk45:k=4\/k=5
 ·have HK:=qqH hk45;obtain⟨m,hm⟩:∃m,m=gm s1.1 s1.2:=⟨_,rfl⟩;obtain⟨n,hn⟩:∃n,n=dc (rT s1).1 (rT s1).2 4:=⟨_,rfl⟩;have HN:=Hq2 hm hn;clear hm hn
  have hfin:∀(w3:World) (l':Bs) (b':Bool),(l',b')=rN (rT s1) 4->RdT w [(hb,Is (ki k p))] rb (l',b') w3->∀v,(b'=false/\l'=[]->v=uA (.pin k p m n) (.slice none 0 0))->(¬(b'=false/\l'=[])->v=.nilIface)->cI k body w (.returned v) w3:=fun w3 l' b' hs3 hT3 v hv1 hv2=>by
   unfold cI;rw[Jc HK.out,<- H2.y,<- H2.b,<- HN.a,<- HN.z,<- hs3];by_cases hc:b'=false/\l'=[]
   ·rw[if_pos hc];exact⟨.slice none 0 0,by rw[hv1 hc],⟨rfl,fun _=>⟨rfl,rfl⟩⟩,⟨hT3.1.mods,Sat.nil _,fun b hb=>by cases hb⟩⟩
   ·rw[if_neg hc];exact⟨by rw[hv2 hc],hT3.1.news⟩
  have HG:=qqH hfin;clear hk2 hk3 hk2n hk3n hfin;rcases hk45 with rfl|rfl
  all_goals
   go_upto_region 13 with(fail);rw[<- hhb];clear hhb;refine db [([0,1,3],2,[0,3]),([],4,[0])] [5,6,7] HM.out (by kernel_rfl) fun W tW=>?_
   simp only[Mix,map_cons,map_nil,nth,QG,QF];have q0:=H2.a.at H0.z tW;clear tW;refine fT q0 (.head _) rfl rfl rfl ?_;simp only[Act.put,QA,QB,QC];repeat still_step
   refine wpStill_nil (aU (by kernel_rfl) (ng rb s1.1 s1.2 W q0.2 (by omega)) ?_);intro e W1 hp1;obtain⟨rfl,hR,hM⟩:=Gt hp1;have q1:=q0.call hM hR;have hl2:(rT s1).1.length<=70000:=Nat.le_trans (iH _ _) hl1;refine⟨_,rfl,fT q1 (.head _) rfl rfl rfl (by(simp only[Act.put,QA,QB,QC];(repeat still_step);exact rfl)),wpStill_nil (aU (by kernel_rfl) (de rb (rT s1).1 (rT s1).2 4 W1 q1.2 (by omega) (by omega)) ?_)⟩;intro e w3 hp2;obtain⟨rfl,hR2,hM2⟩:=km hp2;have hT3:=q1.call hM2 hR2;refine⟨_,rfl,fT hT3 (.head _) rfl rfl rfl rfl,?_⟩;simp only[Act.put,QA,QB,QC];repeat still_step
   refine wpStill_nil ?_;rw[<- HN.a,<- HN.z];clear q0 hp1 hR hM q1 hp2 hR2 hM2 hl2;obtain⟨s3,hs3⟩:∃s3,s3=rN (rT s1) 4:=⟨_,rfl⟩;rw[<- hs3]at hT3;obtain⟨l',b'⟩:=s3;obtain⟨ra,rc,hrd,-⟩:=id hT3.2;have hrd:w3.heap[rb]?=some (.cells #[.slice ra l'.length rc,.bool b'] 270 (0,0)):=hrd;have hrl:=ae hrd;have k0:w3.cell? ⟨rb,0,none⟩=some (.slice ra l'.length rc):=aa hrd 0 rfl;have k1:w3.cell? ⟨rb,1,none⟩=some (.bool b'):=aa hrd 1 rfl;have HF:=qqH (HG.out w3 l' b' hs3 hT3);clear hrd hs3 hT3
   cases b' with
   | true =>
    go_wp2_with fail;go_ret;exact HF.out _ (fun h=>by cases h.1) (fun _=>rfl)
   | false =>
    by_cases hl0:l'.length=0
    ·have hl1:(l'.length:Int)=0:=by omega
     go_wp2_with fail;go_ret;exact HF.out _ (fun _=>rfl) (fun h=>absurd ⟨by first|rfl|trivial,length_eq_zero_iff.1 hl0⟩ h)
    ·have hl1:(0:Int)<(l'.length:Int):=by omega
     go_wp2_with fail;go_ret;exact HF.out _ (fun h=>absurd (by rw[h.2];rfl) hl0) (fun _=>rfl)
 ·have hk4n:¬((k.toNat:Int)=4):=xJ (by decide) (fun h=>hk45 (.inl h));have hk5n:¬((k.toNat:Int)=5):=xJ (by decide) (fun h=>hk45 (.inr h))
  have hfin:∀W,aQ w W->cI k body w (.returned .nilIface) W:=fun W hs=>by
   unfold cI;rw[Bw hk2 hk3 (fun h=>hk45 (.inl h)) (fun h=>hk45 (.inr h))];exact⟨rfl,hs⟩
  have HF:=qqH hfin;clear hfin hk45;go_upto_region 14 with(fail);obtain⟨W,hW⟩:∃W,W=w2.alloc (.cells #[.int .u8 k.toNat,str p] 137):=⟨_,rfl⟩;rw[<- hW];have h4:RdT w [(hb,Is (ki k p))] rb s1 W:=by rw[hW];exact H2.a
  obtain⟨l',b'⟩:=s1;obtain⟨ra,rc,hrd,-⟩:=id h4.2;have hrd:W.heap[rb]?=some (.cells #[.slice ra l'.length rc,.bool b'] 270 (0,0)):=hrd;have hrl:=ae hrd;have k0:W.cell? ⟨rb,0,none⟩=some (.slice ra l'.length rc):=aa hrd 0 rfl;have k1:W.cell? ⟨rb,1,none⟩=some (.bool b'):=aa hrd 1 rfl;have H4:=qqH h4.1.news;clear hW h4 hrd
  cases b' with
  | true =>
   go_wp2_with fail;go_ret;exact HF.out _ H4.out
  | false =>
   by_cases hl0:l'.length=0
   ·have hl1:(l'.length:Int)=0:=by omega
    go_wp2_with fail;go_ret;exact HF.out _ H4.out
   ·have hl1:(0:Int)<(l'.length:Int):=by omega
    go_wp2_with fail;go_ret;exact HF.out _ H4.out
end
section
open Go.RowKit Go.Maps
open Go.ChangeMaps (setBlock)
theorem Lp(c:Array Value)(w:World):(Instr.typeAssert (.iface 220 (.agg c)) 200 139 true).run Tryz.prog w=.ok (.tuple #[.agg #[.int .u8 0,.string ⟨#[]⟩,.int .i64 0,.int .i64 0,.slice none 0 0],.bool false]) w:=by kernel_rfl
theorem Lo(c:Array Value)(w:World):(Instr.typeAssert (.iface 220 (.agg c)) 200 220 true).run Tryz.prog w=.ok (.tuple #[.agg c,.bool true]) w:=by kernel_rfl
theorem Ls(c:Array Value)(w:World):(Instr.typeAssert (.iface 159 (.agg c)) 200 139 true).run Tryz.prog w=.ok (.tuple #[.agg #[.int .u8 0,.string ⟨#[]⟩,.int .i64 0,.int .i64 0,.slice none 0 0],.bool false]) w:=by kernel_rfl
theorem Lq(c:Array Value)(w:World):(Instr.typeAssert (.iface 159 (.agg c)) 200 220 true).run Tryz.prog w=.ok (.tuple #[.agg #[.int .u8 0,.string ⟨#[]⟩,.slice none 0 0],.bool false]) w:=by kernel_rfl
theorem Lr(c:Array Value)(w:World):(Instr.typeAssert (.iface 159 (.agg c)) 200 159 true).run Tryz.prog w=.ok (.tuple #[.agg c,.bool true]) w:=by kernel_rfl
theorem IW(k:UInt8)(p:Bs)(w:World):Calls Tryz.prog 135 #[.agg #[.int .u8 k.toNat,str p]] w (fun e w'=>e=.returned (.int .u8 k.toNat)/\aQ w w'):=by
 go_enter Tryz.func135,Tryz.ntmps135;go_wp2_with fail;go_ret;exact⟨rfl,(Mods.refl _ w).alloc _⟩
theorem IH{ps:List ba}(hnem:∀q∈ps,q.g≠[])(p:Bs):iv (ps.map aN) p=true↔af ps p≠[]:=by
 rw[qi];unfold gN;rw[any_eq_true];refine⟨fun⟨q,hq,hk⟩ hn=>?_,fun h=>?_⟩
 ·unfold af gOf at hn
  cases hf:ps.find? (fun q=>decide (q.key=p))with
  | none=>exact find?_eq_none.1 hf q hq hk
  | some x=>rw[hf]at hn;exact hnem x (mem_of_find?_eq_some hf) hn
 ·obtain⟨q,hq,hk,-⟩:=jM h;exact⟨q,hq,by simpa using hk⟩
def gZ(a:Nat)(X:ArchL)(ps:List ba)(pc:Nat)(v:Value)(ns:List Int):HF:=(a,Is (aJ X))::(aF X.pm ps pc++bZ v ns)
def Fh(a:Nat)(X:ArchL)(ps:List ba)(pc:Nat)(p:Bs)(v:Value)(ns:List Int)(w:World)(e:Ending)(w':World):Prop :=
 (af ps p=[]/\e=.returned (.bool false)/\Turns (gZ a X ps pc v ns) (gZ a X ps pc v ns) w w') \/
 (af ps p≠[]/\e=.returned (.bool true)/\∃v',eT v' (dC ns (af ps p))/\Turns (gZ a X ps pc v ns) (gZ a (i7 X (X.used-(bO ns (af ps p):Nat))) (fZ ps pc p v' ns) pc v ns) w w')
theorem Bx(a sm:Nat)(X:ArchL)(ps:List ba)(pc:Nat)(p:Bs)(v:Value)(ns:List Int)(w:World)(h:Sat w (gZ a X ps pc v ns))(hio:iOk v ns)(hok:PathsOk ps pc)(hnem:∀q∈ps,q.g≠[])(hl:OkS p)(hu:rC X.used (af ps p))(hnl:ns.length<=1099511627776):
  Calls Tryz.prog 116 #[.pointer (some ⟨a,0,none⟩),uA (.gone p ns) v,.map (some sm)] w (Fh a X ps pc p v ns w):=by
 obtain⟨F1,hF1⟩:∃F1,F1=gZ a X ps pc v ns:=⟨_,rfl⟩;obtain⟨av,cap,hv,-⟩:=aL (aR (h.sub (G:=bZ v ns) (fun x=>by unfold gZ;simp only[ao,ai];omega)) hio);obtain⟨hb,hhb⟩:∃hb,hb=iv (ps.map aN) p:=⟨_,rfl⟩;have hhv:=IH hnem p;rw[<- hhb]at hhv;have HH:=Hq8 h hio hok hl hu hF1 hhb hhv;have hta:=Lp #[.int .u8 3,str p,v] w;have htb:=Lo #[.int .u8 3,str p,v] w;have hal:=ae h.Q5;clear h hio hok hnem hl hu hF1 hhb hhv;subst hv;unfold uA;go_enter Tryz.func116,Tryz.ntmps116;go_upto_region 21 with(fail);obtain⟨W,hW⟩:∃W,W=w.alloc (.cells #[.int .u8 3,str p,.slice av ns.length cap] 220):=⟨_,rfl⟩;rw[<- hW]
 have hT1:Turns F1 ((w.heap.size,Is (.cells #[.int .u8 3,str p,.slice av ns.length cap] 220 (0,0)))::F1) w W:=by
  rw[hW,HH.f];exact(Turns.refl HH.a).Q8 (.cells #[.int .u8 3,str p,.slice av ns.length cap] 220)
 have hbo:=hT1.sat.Q5;have b1:W.cell? ⟨w.heap.size,1,none⟩=some (str p):=aa hbo 1 rfl;have hao:=hT1.sat.Q7 (b:=a) (o:=aJ X) (by rw[HH.f];simp[gZ]);have a0:W.cell? ⟨a,0,none⟩=some (.map (some X.pm)):=aa hao 0 rfl;obtain⟨u0,hu0⟩:∃u0,u0=(dz (ps.map aN) p).getD (.slice none 0 0):=⟨_,rfl⟩
 have hlk:∀k,(Instr.lookup 51 (.map (some X.pm)) (str p) true).run Tryz.prog (W.drewN k)=.ok (.tuple #[u0,.bool hb]) (W.drewN k):=fun k=>by
  rw[HH.g,hu0];exact uK dK Tryz.underlying51 (w:=W.drewN k) (hT1.sat.Q7 (b:=X.pm) (by rw[HH.f];simp[gZ,aF])) HH.c.map (fN _) HH.d
 have hal2:=ae hao;have hbl:=ae hbo;have H1:=qqH hT1;clear hW hT1 hbo hao hu0 hta htb;go_quiet (fail);obtain⟨W2,hW2⟩:∃W2,W2=W.drewN nq:=⟨_,rfl⟩;rw[<- hW2];have hT2:=hW2 ▸ H1.out.drewN nq;have hbo:=hT2.sat.Q5;have b1:W2.cell? ⟨w.heap.size,1,none⟩=some (str p):=aa hbo 1 rfl;have b2:W2.cell? ⟨w.heap.size,2,none⟩=some (.slice av ns.length cap):=aa hbo 2 rfl;have H2:=qqH hT2;clear hW2 hT2 hbo hlk
 cases hb with
 | false =>
  go_wp2_with fail;go_ret;refine (.inl ⟨?_,rfl,?_⟩)
  ·have h2:=HH.t;simpa using h2
  ·rw[<- HH.f];exact H2.out.drop (fun x=>by simp only[ao];omega)
 | true =>
  have hne:af ps p≠[]:=(HH.t).1 rfl;have HN:=qqH hne;clear hne;go_wp2_with fail;refine wp_region_still_tail 8 HM.out (by kernel_rfl) ?_;simp only[QE,take_zero,QD,drop_zero];repeat still_step
  refine wpStill_nil ?_;change wpList _ _ _ _ _ W2.drew;have hT3:=H2.out.drew;rw[HH.f]at hT3;have HD:=qqH (tN a X ps pc p (.slice av ns.length cap) ns W2.drew (hT3.sat.sub (fun x=>by unfold gZ;simp only[ao,ai];omega)) HH.b HH.c HH.d HN.out HH.e hnl);have H3:=qqH hT3;clear hT3;go_wp2_with fail;refine HD.out.mono ?_;rintro e w4 ⟨v',rfl,hv',hT4⟩;have H4:=Hq2 hv' (H3.out.step (F:=gZ a X ps pc (.slice av ns.length cap) ns) (R:=[(w.heap.size,Is (.cells #[.int .u8 3,str p,.slice av ns.length cap] 220 (0,0)))]) ac hT4);clear hv' hT4;go_wp2_with fail;go_ret;refine (.inr ⟨HN.out,rfl,v',H4.a,?_⟩);exact H4.z.left
def Fi(a:Nat)(X:ArchL)(ps:List ba)(pc:Nat)(ts:List fO)(tc:Nat)(k:UInt8)(m p:Bs)(n:Int)(w:World)(e:Ending)(w':World):Prop :=
 e=.returned (.bool true)/\Turns (jI a X ps pc ts tc) (if k=4 then jI a X (cM ps p n 1) pc (eh ts tc m (mE m (p,n)) (p,n)) (cf (ts.map aN) tc m)else jI a X (cM ps p n (-1)) pc (bE ts m) tc) w w'
theorem Bz(a sm:Nat)(X:ArchL)(ps:List ba)(pc:Nat)(ts:List fO)(tc:Nat)(k:UInt8)(hk:k=4\/k=5)(m p:Bs)(n:Nat)(v:Value)(w:World)(h:PinPre a X ps pc ts tc m p w):
  Calls Tryz.prog 116 #[.pointer (some ⟨a,0,none⟩),uA (.pin k p m n) v,.map (some sm)] w (Fi a X ps pc ts tc k m p n w):=by
 have hal:=ae h.sat.Q5;have HH:=qqH h;clear h;unfold uA;have hta:=fun c=>Ls c w
 have htb:=fun c=>Lq c w
 have htc:=fun c=>Lr c w
 go_enter Tryz.func116,Tryz.ntmps116;go_upto_region 29 with(fail);generalize hW:(w.alloc _).alloc _=W
 have hT1:Turns (jI a X ps pc ts tc) ((w.heap.size+1,Is (.cells #[str m,str p,.int .i64 n] 156 (0,0)))::(w.heap.size,Is (.cells #[(.int .u8 k.toNat),str p,str m,.int .i64 n] 159 (0,0)))::jI a X ps pc ts tc) w W:=by
  rw[<- hW];have:=((Turns.refl HH.out.sat).Q8 (.cells #[(.int .u8 k.toNat),str p,str m,.int .i64 n] 159)).Q8 (.cells #[str m,str p,.int .i64 n] 156);rw[World.size_alloc]at this;exact this
 have h0o:=hT1.sat.tail.Q5;have b0:W.cell? ⟨w.heap.size,0,none⟩=some (.int .u8 k.toNat):=aa h0o 0 rfl;have b1:W.cell? ⟨w.heap.size,1,none⟩=some (str p):=aa h0o 1 rfl;have H1:=qqH hT1;clear hW hT1 h0o hta htb htc;go_wp2_with fail;refine(IW k p _).mono ?_;rintro e W2 ⟨rfl,hs⟩;rcases hk with rfl|rfl
 all_goals
  have hT2:=H1.out.Q9 hs;have h1o:=hT2.sat.Q5;have c0:W2.cell? ⟨w.heap.size+1,0,none⟩=some (str m):=aa h1o 0 rfl;have c1:W2.cell? ⟨w.heap.size+1,1,none⟩=some (str p):=aa h1o 1 rfl;have c2:W2.cell? ⟨w.heap.size+1,2,none⟩=some (.int .i64 n):=aa h1o 2 rfl;have hal2:a<W2.heap.size:=ae (hT2.sat.Q7 (b:=a) (o:=aJ X) (by simp[jI]));have H2:=qqH hT2;clear hT2 h1o hs b0 b1;go_wp2_with fail;refine wp_region_still_tail 4 HM.out (by kernel_rfl) ?_;simp only[QE,take_zero,QD,drop_zero];repeat still_step
  refine wpStill_nil ?_;change wpList _ _ _ _ _ W2.drew;have hT3:=H2.out.drew;have hP:PinPre a X ps pc ts tc m p W2.drew:={ HH.out with sat:=hT3.sat.tail.tail };have HP1:=qqH (xo a X ps pc ts tc m p n W2.drew hP);have HP2:=qqH (sf a X ps pc ts tc m p n W2.drew hP);have H3:=qqH hT3;clear hT3 hP;go_wp2_with fail;first|refine HP1.out.mono ?_|refine HP2.out.mono ?_
  rintro e w4 ⟨rfl,hT4⟩;have H4:=qqH ((H3.out.drop (H:=jI a X ps pc ts tc) (fun x=>by simp only[ao];omega)).trans hT4);clear hT4;go_wp2_with fail;go_ret;refine ⟨rfl,?_⟩;first|rw[if_pos rfl]|rw[if_neg (by decide)]
  exact H4.out
end
section
open Go.RowKit Go.Maps
theorem FF{W W':World}{a:Option Addr}{xs:List Value}(h:ak W a xs)(he:∀x,a=some x->W'.heap[x.block]?=W.heap[x.block]?):ak W' a xs:=fun hp=>by
 obtain⟨g,off,ha,hc⟩:=h hp
 refine⟨g,off,ha,fun j hj=>?_⟩
 rw[<- hc j hj]
 exact World.cell?_of_block (he ⟨g,off,none⟩ ha)
theorem CN(w:World):(Instr.typeAssert .nilIface 200 139 true).run Tryz.prog w=.ok (.tuple #[.agg #[.int .u8 0,.string ⟨#[]⟩,.int .i64 0,.int .i64 0,.slice none 0 0],.bool false]) w:=by kernel_rfl
theorem CL(w:World):(Instr.typeAssert .nilIface 200 220 true).run Tryz.prog w=.ok (.tuple #[.agg #[.int .u8 0,.string ⟨#[]⟩,.slice none 0 0],.bool false]) w:=by kernel_rfl
theorem CM(w:World):(Instr.typeAssert .nilIface 200 159 true).run Tryz.prog w=.ok (.tuple #[.agg #[.int .u8 0,.string ⟨#[]⟩,.string ⟨#[]⟩,.int .i64 0],.bool false]) w:=by kernel_rfl
theorem vR(a sm:Nat)(w:World):Calls Tryz.prog 116 #[.pointer (some ⟨a,0,none⟩),.nilIface,.map (some sm)] w (fun e w'=>e=.returned (.bool false)/\aQ w w'):=by
 have h1:=CN w;have h2:=CL w;have h3:=CM w;go_enter Tryz.func116,Tryz.ntmps116;go_wp2_with fail;go_ret;exact ⟨rfl,Mods.refl _ _⟩
def lw(X:ArchL)(u s b:Int):ArchL:={ X with used:=u,sc:=s,sb:=b }
theorem Gf{X:ArchL}(h:X.used=0/\X.sc=0/\X.sb=0):lw X 0 0 0=X:=by
 cases X
 obtain⟨h1,h2,h3⟩:=h;simp only at h1 h2 h3;subst h1;subst h2;subst h3;rfl
def ctF(a:Nat)(X:ArchL)(ps:List ba)(pc:Nat)(cs:List kT)(cc:Nat)(ts:List fO)(tc:Nat):HF:=(a,Is (aJ X))::(aF X.pm ps pc++(aP X.cm cs cc++bU X.tm ts tc))
def Ho(a sm:Nat)(D:Bs)(X:ArchL)(ps:List ba)(pc:Nat)(cs:List kT)(cc:Nat)(ts:List fO)(tc:Nat)(sz:List (Ent Int))(szc at_:Nat)(s:PSt)(k:UInt8)(body:Bs)(n:Nat)(J:HF)(w:World)(e:Ending)(w':World):Prop :=
 (fC at_ s k body=none/\e=.returned (.bool false)/\Turns (ctF a X ps pc cs cc ts tc++((sm,Is (aO di sz szc))::J)) (ctF a X ps pc cs cc ts tc++((sm,Is (aO di sz szc))::J)) w w') \/
 (∃s' u ps' pc' ts' tc',e=.returned (.bool true)/\CtOk D (i7 X u) ps' pc' cs cc ts' tc' sz szc (at_+n) s'/\Turns (ctF a X ps pc cs cc ts tc++((sm,Is (aO di sz szc))::J)) (ctF a (i7 X u) ps' pc' cs cc ts' tc'++((sm,Is (aO di sz szc))::J)) w w')
theorem vQ{a sm:Nat}{D:Bs}{X:ArchL}{ps:List ba}{pc:Nat}{cs:List kT}{cc:Nat}{ts:List fO}{tc:Nat}{sz:List (Ent Int)}{szc at_:Nat}{s:PSt}{k:UInt8}{body:Bs}{n:Nat}{w:World}(hct:CtOk D X ps pc cs cc ts tc sz szc at_ s)(hk1:k≠1)(ho:ce (D.drop at_)=some (k,body,n))(hat:at_<=810000){r:RecR}(hr:ff k body=some r){v:Value}(hio:iOk v (mz r))(h:Sat w (ctF a X ps pc cs cc ts tc++((sm,Is (aO di sz szc))::bZ v (mz r)))):
  Calls Tryz.prog 116 #[.pointer (some ⟨a,0,none⟩),uA r v,.map (some sm)] w (Ho a sm D X ps pc cs cc ts tc sz szc at_ s k body n (bZ v (mz r)) w):=by
 obtain⟨hb1,-,-,-,hb5,hb6,hb7⟩:=hct.bounds hat;obtain⟨-,-,hbl,-⟩:=hct.on ho;have hrg:=m8 hr;have hT0:=Turns.refl h
 have hsz:∀p,((af ps p).map (·.size)).sum<=65535*90000:=fun p=>by
  have h1:=rr (l:=af ps p) (f:=(·.size)) (m:=65535) (fun V hV=>(hb7 p V hV).2);have h2:=hb5 p;have:65535*(af ps p).length<=65535*90000:=Nat.mul_le_mul (Nat.le_refl _) h2;omega
 cases r with
 | ver p num m ats =>
  obtain⟨r1,r2,r3,r4,r5⟩:=hrg;have hT4:Turns _ (iR a X ps pc sm sz szc v ats++(aP X.cm cs cc++bU X.tm ts tc)) w w:=hT0.to (by unfold ctF iR mz;exact ac);refine(BA a X ps pc sm sz szc v (kx s.K) p num m ats w hT4.sat.left hio hct.map hct.get hb6 r4 (by omega) hct.paths (by unfold OkS;omega) (by have:=hb5 p;omega) (by omega) (by omega)).mono ?_;rintro e w5 (⟨hno,rfl,hT5⟩|⟨chs,b,cv,v',hch,hsm,rfl,hcv,hv',hT5⟩)
  ·refine .inl ⟨?_,rfl,(hT4.step (Perm.refl _) hT5).to (by unfold ctF iR mz;exact ac)⟩;unfold fC;rw[if_neg hk1,hr];dsimp only
   cases hc:du (kx s.K) ats with
   | none=>rfl
   | some chs=>dsimp only;rw[if_neg (hno chs hc)]
  ·have h9:=hT4.step (Perm.refl _) hT5;refine .inr ⟨_,X.used+m,_,_,ts,tc,rfl,hct.ver hk1 ho hr hch hsm hcv hv',h9.to ?_⟩;show Perm (iR a (i7 X (X.used+m)) _ _ sm sz szc v ats++(aP X.cm cs cc++bU X.tm ts tc)) (ctF a (i7 X (X.used+m)) _ _ cs cc ts tc++((sm,Is (aO di sz szc))::bZ v ats));unfold ctF iR i7;exact ac
 | gone p ns =>
  obtain⟨r1,r2⟩:=hrg;have hT4:Turns _ (gZ a X ps pc v ns++((sm,Is (aO di sz szc))::(aP X.cm cs cc++bU X.tm ts tc))) w w:=hT0.to (by unfold ctF gZ mz;exact ac);refine(Bx a sm X ps pc p v ns w hT4.sat.left hio hct.paths hct.nem (by unfold OkS;omega) ⟨by omega,by omega,by have:=hsz p;omega,by have:=hb5 p;omega⟩ (by omega)).mono ?_;rintro e w5 (⟨hno,rfl,hT5⟩|⟨hne,rfl,v',hv',hT5⟩)
  ·refine .inl ⟨?_,rfl,(hT4.step (Perm.refl _) hT5).to (by unfold ctF gZ mz;exact ac)⟩;unfold fC;rw[if_neg hk1,hr];dsimp only;rw[if_neg (fun h=>(hct.has p).1 h hno)]
  ·have h9:=hT4.step (Perm.refl _) hT5;refine .inr ⟨_,X.used-(bO ns (af ps p):Nat),_,pc,ts,tc,rfl,hct.gone hk1 ho hr hne hv',h9.to ?_⟩;show Perm _ (ctF a (i7 X (X.used-(bO ns (af ps p):Nat))) _ _ cs cc ts tc++((sm,Is (aO di sz szc))::bZ v ns));unfold ctF gZ i7;exact ac
 | pin q p m num =>
  obtain⟨rfl,r2,r3,r4,r5⟩:=hrg;have hT4:Turns _ (jI a X ps pc ts tc++((sm,Is (aO di sz szc))::(aP X.cm cs cc++bZ v []))) w w:=hT0.to (by unfold ctF jI mz;exact ac);refine(Bz a sm X ps pc ts tc q r2 m p num v w ⟨hT4.sat.left,hct.paths,hct.tags,by unfold OkS;omega,by unfold OkS;omega,by have:=hb5 p;omega,fun V hV=>by have:=(hb7 p V hV).1;omega⟩).mono ?_;rintro e w5 ⟨rfl,hT5⟩;have h9:=hT4.step (Perm.refl _) hT5;have hux:i7 X X.used=X:=rfl;by_cases hq:q=4
  ·rw[if_pos hq]at h9;refine .inr ⟨{ s with H:=fy s.H p num 1,T:=ma s.T (m,p,num) },X.used,cM ps p num 1,pc,eh ts tc m (mE m (p,(num:Int))) (p,(num:Int)),cf (ts.map aN) tc m,rfl,?_,h9.to ?_⟩
   ·rw[hux];refine hct.tag ho (by omega) (uZ hct.tags (by unfold OkS;omega) (p,(num:Int))) (by rw[Cd,hct.tagT]) (Bl _ _) (fun t ht=>?_) ?_
    ·rcases Bn ht with rfl|ht
     ·exact⟨r4,r3,by show(0:Int)<=num;omega,by show(num:Int)<_;omega⟩
     ·exact hct.cnt.tag t ht
    ·unfold fC;rw[if_neg hk1,hr];dsimp only;rw[if_pos hq]
   ·rw[hux];show Perm _ (ctF a X _ _ cs cc _ _++((sm,Is (aO di sz szc))::bZ v []));unfold ctF jI;exact ac
  ·rw[if_neg hq]at h9;refine .inr ⟨{ s with H:=fy s.H p num (-1),T:=Ap s.T m },X.used,cM ps p num (-1),pc,bE ts m,tc,rfl,?_,h9.to ?_⟩
   ·rw[hux];refine hct.tag ho (by omega) (D3 hct.tags m) (by rw[Jp,hct.tagT]) ?_ (fun t ht=>hct.cnt.tag t (mem_filter.1 ht).1) ?_
    ·have:(Ap s.T m).length<=s.T.length:=length_filter_le _ _;omega
    ·unfold fC;rw[if_neg hk1,hr];dsimp only;rw[if_neg hq]
   ·rw[hux];show Perm _ (ctF a X _ _ cs cc _ _++((sm,Is (aO di sz szc))::bZ v []));unfold ctF jI;exact ac
def En(a:Nat)(X:ArchL)(D:Bs)(g:Nat)(o:Obj)(w:World)(e:Ending)(w':World):Prop :=
 ∃at_ s u sc sb ps pc cs cc ts tc sz szc,e=.returned (.int .i64 (at_:Nat))/\CtOk D (lw X u sc sb) ps pc cs cc ts tc sz szc at_ s/\sC D at_ s /\
  Turns (ctF a X [] 0 [] 0 [] 0++[(g,Is o)]) (ctF a (lw X u sc sb) ps pc cs cc ts tc++[(g,Is o)]) w w'
def Li(a:Nat)(X:ArchL)(D:Bs)(g:Nat)(o:Obj)(sm:Nat)(w:World)(t:Value)(W:World):Prop :=
 ∃at_ s u sc sb ps pc cs cc ts tc sz szc J,t=.int .i64 (at_:Nat)/\CtOk D (lw X u sc sb) ps pc cs cc ts tc sz szc at_ s /\
  Turns (ctF a X [] 0 [] 0 [] 0++[(g,Is o)]) (ctF a (lw X u sc sb) ps pc cs cc ts tc++((sm,Is (aO di sz szc))::(g,Is o)::J)) w W
theorem yU(a:Nat)(X:ArchL)(D:Bs)(g off cap:Nat)(o:Obj)(w:World)(h:Sat w (ctF a X [] 0 [] 0 [] 0++[(g,Is o)]))(hX:X.used=0/\X.sc=0/\X.sb=0)(hD:∀W:World,W.heap[g]?=some o->ak W (some ⟨g,off,none⟩) (D.map al))(hcap:D.length<=cap)(hl:D.length<=1073741824)(hR:∀at_ s,Reach D at_ s->at_<=810000):
  Calls Tryz.prog 83 #[.pointer (some ⟨a,0,none⟩),.slice (some ⟨g,off,none⟩) D.length cap] w (En a X D g o w):=by
 obtain⟨F1,hF1⟩:∃F1,F1=ctF a X [] 0 [] 0 [] 0++[(g,Is o)]:=⟨_,rfl⟩;have HH:=Hq5 h hX hD hR hF1;have hT0:Turns F1 F1 w w:=by rw[hF1];exact Turns.refl h
 have H0:=qqH hT0;clear h hX hD hR hF1 hT0;go_enter Tryz.func83,Tryz.ntmps83;go_wp2_with ((refine ah rfl (vg 240 rfl H0.out ?_);intro sm w1 hT1;have H1:=qqH hT1;clear hT1;simp only[Act.put]));go_loopw [5] (fun t wr=>Li a X D g o sm w t wr) (fun t _=>D.length-(intOf t).toNat)
 case atStart =>
  refine⟨0,⟨[],[],[]⟩,0,0,0,[],0,[],0,[],0,[],0,[],rfl,⟨.zero,Nat.zero_le _,⟨Nat.le_refl _,(fun h hh=>by cases hh),(fun h hh=>by cases hh),(fun h hh=>by cases hh)⟩,⟨⟨nodup_nil,nodup_nil,(fun e he=>by cases he),(fun e he=>by cases he)⟩,(fun p hp=>by cases hp)⟩,⟨⟨nodup_nil,nodup_nil,(fun e he=>by cases he),(fun e he=>by cases he)⟩,(fun p hp=>by cases hp)⟩,⟨⟨nodup_nil,nodup_nil,(fun e he=>by cases he),(fun e he=>by cases he)⟩,(fun p hp=>by cases hp)⟩,fun k=>Perm.refl _,(fun e he=>by cases he),fun l=>rfl,(fun p hp=>by cases hp),(fun e he=>by cases he),rfl,rfl,rfl,⟨nodup_nil,nodup_nil,(fun e he=>by cases he),(fun e he=>by cases he)⟩,fun k=>rfl,rfl⟩,?_⟩;have hx:lw X 0 0 0=X:=Gf HH.b;rw[hx,<- HH.w];exact H1.out.to (by rw[HH.w];show Perm _ (ctF a X [] 0 [] 0 [] 0++((sm,Is (.map #[] 0))::(g,Is o)::[]));exact ac)
 case round =>
  obtain⟨at_,s,us,sc,sb,ps,pc,cs,cc,ts,tc,sz,szc,J,rfl,hct,hT⟩:=hrel;rw[<- HH.w]at hT;have hle:=hct.le;have hgo:=hT.sat.Q7 (b:=g) (o:=o) (by simp);have hgl:=ae hgo
  obtain⟨a1,ha1,hc1⟩:∃a1:Option Addr,a1=(if cap=at_ then some ⟨g,off,none⟩else some ⟨g,off+at_,none⟩)/\ak wr a1 ((D.drop at_).map al):=by
   refine⟨_,rfl,?_⟩;by_cases he:cap=at_
   ·rw[if_pos he,drop_eq_nil_of_le (by omega)];exact eu _ _
   ·rw[if_neg he];exact fW (HH.c wr hgo) at_ hle
  have ha1b:∀x,a1=some x->x.block=g:=fun x hx=>by
   rw[ha1]at hx;split at hx<;>(simp only[Option.some.injEq]at hx;subst hx;rfl)
  have HO:=ji a1 (cap-at_) (D.drop at_) wr hc1 (by rw[length_drop];omega) (by rw[length_drop];omega);rw[length_drop]at HO;obtain⟨rd,hrd⟩:∃rd,rd=D.length-at_:=⟨_,rfl⟩;have hat:=HH.d _ _ hct.reach;have hbnd:=hct.bounds hat;unfold er at HO;have HHO:=qqH HO;have HR:=Hq5 hct hT ha1b hgo hbnd;clear hct hT hgo hc1 ha1b HO hbnd
  cases hop:ce (D.drop at_)with
  | none =>
   have HO2:=HHO.out;rw[hop]at HO2
   have hfin:∀w':World,aQ wr w'->En a X D g o w (.returned (.int .i64 at_)) w':=fun w' hs =>
    ⟨at_,s,us,sc,sb,ps,pc,cs,cc,ts,tc,sz,szc,rfl,HR.a,(fun k b n h=>by rw[hop]at h;cases h),by rw[<- HH.w];exact(HR.b.Q9 hs).drop (fun x=>by simp only[ao,ai,ee];omega)⟩
   have HFin:=qqH hfin;clear hfin HHO hop;by_cases he:cap=at_
   ·rw[if_pos he]at ha1;subst ha1;rw[he,Nat.sub_self,show D.length-at_=0 by omega]at HO2;have HO:=qqH HO2;clear HO2 hrd;subst he;go_wp2_with fail;refine HO.out.mono ?_;rintro e w2 ⟨rfl,hs⟩;have HS:=qqH hs;clear hs;go_wp2_with fail;go_ret;exact (by exact HFin.out _ HS.out)
   ·rw[if_neg he]at ha1;have he2:¬at_=cap:=fun h=>he h.symm
    subst ha1;have HO:=qqH HO2;clear HO2 hrd;go_wp2_with fail;refine HO.out.mono ?_;rintro e w2 ⟨rfl,hs⟩;have HS:=qqH hs;clear hs;go_wp2_with fail;go_ret;exact (by exact HFin.out _ HS.out)
  | some r =>
   obtain⟨k,body,n⟩:=r;have HO2:=HHO.out;rw[hop]at HO2;have HO:=qqH HO2;clear HO2 HHO;obtain⟨hk0,hn,hnl,-,hbl⟩:=eD hop;rw[length_drop]at hnl;have he:¬cap=at_:=by omega
   have he2:¬at_=cap:=by omega
   rw[if_neg he]at ha1;subst ha1;go_wp2_with fail;refine HO.out.mono ?_;rintro e w2 ⟨a2,rfl,hb2,ha2,hs2⟩
   have hg2:∀x,a2=some x->x.block=g:=fun x hx=>by
    obtain⟨y,hy,hxy⟩:=ha2 x hx;rw[hxy];exact HR.c y hy
   have hT2:=HR.b.Q9 hs2;have HX:=Hq5 hb2 hg2 hT2 hop hbl;have hk0n:¬((k.toNat:Int)=0):=xJ (by decide) hk0;clear hb2 ha2 hs2 hg2 hT2 hop hk0;have hsum:IntKind.i64.wrap ((at_:Int)+n)=((at_+n:Nat):Int):=by rw[IntWalk.i64_in _ (by omega)];omega
   have hg2l:g<w2.heap.size:=ae (HX.c.sat.Q7 (b:=g) (o:=o) (by simp));by_cases hk:k=1
   ·subst hk;have hk1:(((1:UInt8).toNat:Nat):Int)=1:=rfl;rw[hk1];go_wp2_with ((refine ah rfl (lF Dn (.tmp 24) (.tmp 25) (.tmp 27) rfl Tryz.underlying240 sm sz szc (HX.c.to (H:=(sm,Is (aO di sz szc))::(ctF a (lw X us sc sb) ps pc cs cc ts tc++((g,Is o)::J))) ac) HR.a.map (at_:Int) (.int .i64 body.length) rfl rfl rfl ⟨by omega,by omega⟩ ?_);intro w3 hT3;have HT3:=qqH hT3;clear hT3;simp only[Act.put]))
    have hb3:ak w3 a2 (body.map al):=FF HX.a (fun x hx=>by
     rw[HX.b x hx,HT3.out.sat.Q7 (b:=g) (o:=o) (by simp),HX.c.sat.Q7 (b:=g) (o:=o) (by simp)])
    have hTk:Turns F1 (((a,Is (.cells (bl (lw X us sc sb)) 59 (0,0)))::aP X.cm cs cc)++((sm,Is (aO di (gF sz szc (at_:Int) (.int .i64 body.length)) (cf sz szc (at_:Int))))::(aF X.pm ps pc++(bU X.tm ts tc++((g,Is o)::J))))) w w3:=HT3.out.to (by unfold ctF aJ lw;exact ac);obtain⟨hb1,hb2',hb3',hb4,-,-,-⟩:=HR.w;have HK:=qqH (pn a X.pm X.tm X.cm cc sc sb us cs body a2 body.length (at_,body.length) (bl (lw X us sc sb)) 59 w3 hTk.sat.left ⟨rfl,rfl,rfl,rfl,rfl,rfl⟩ HR.a.chunks hb3 (by have:=hb4 (be (dq 1 body) 4);omega) (by omega) (by have h:0<=sc/\sc<=90000:=hb2';omega) (by have h:0<=sb/\sb<=65535*90000:=hb3';omega));have HTk:=qqH hTk;clear hb3 hTk hb1 hb2' hb3' hb4;refine HK.out.mono ?_;rintro e w4 ⟨v4,rfl,hv4,hT4⟩;have hT5:=HTk.out.step (Perm.refl _) hT4;have HT5:=Hq2 hv4 hT5;clear hv4 hT4 hT5;go_wp2_with fail;go_roundw
    case rel =>
     refine⟨at_+n,{ s with K:=s.K++[(body,at_,body.length)] },us,sc+1,sb+body.length,ps,pc,eh cs cc (ef body) v4 (bd cs (ef body)++[(at_,body.length)]),cf (cs.map aN) cc (ef body),ts,tc,gF sz szc (at_:Int) (.int .i64 body.length),cf sz szc (at_:Int),J,by go_num,CtOk.chunk HR.a HX.d (by omega) HT5.a,?_⟩;rw[<- HH.w];have h9:=HT5.z;change Turns F1 (((a,Is (aJ (lw X us (sc+1) (sb+body.length))))::aP X.cm (eh cs cc (ef body) v4 (bd cs (ef body)++[(at_,body.length)])) (cf (cs.map aN) cc (ef body)))++_) w w4 at h9;exact h9.to (by unfold ctF lw;exact ac)
    case measure=>simp[intOf];omega
   ·have hk1:¬((k.toNat:Int)=1):=xJ (by decide) hk;have HRd:=qqH (vP k a2 body.length body w2 HX.a (Nat.le_refl _) (fun x hx=>by rw[HX.b x hx];exact hg2l) (by omega));go_wp2_with fail;refine HRd.out.mono ?_;intro e w3 hp;unfold cI at hp
    cases hr:ff k body with
    | none =>
     rw[hr]at hp;obtain⟨rfl,hs3⟩:=hp;have HS3:=Hq2 hs3 hr;clear hs3 hr;go_wp2_with fail;refine(vR a sm w3).mono ?_;rintro e w4 ⟨rfl,hs4⟩;have HS4:=qqH hs4;clear hs4;go_wp2_with fail;go_ret;refine⟨at_,s,us,sc,sb,ps,pc,cs,cc,ts,tc,sz,szc,rfl,HR.a,fun k' b' n' h=>?_,by rw[<- HH.w];exact((HX.c.Q9 HS3.a).Q9 HS4.out).drop (fun x=>by simp only[ao,ai,ee];omega)⟩;rw[HX.d]at h;simp only[Option.some.injEq,Prod.mk.injEq]at h;obtain⟨rfl,rfl,rfl⟩:=h;unfold fC;rw[if_neg hk,HS3.z]
    | some r =>
     rw[hr]at hp;obtain⟨v,rfl,hio,hT3⟩:=hp;have hT4:Turns F1 ((ctF a (lw X us sc sb) ps pc cs cc ts tc++((sm,Is (aO di sz szc))::bZ v (mz r)))++((g,Is o)::J)) w w3:=(HX.c.Qb hT3).to ac;have HRv:=qqH (vQ HR.a hk HX.d hat hr hio hT4.sat.left);have H4:=qqH hT4;clear hio hT3 hT4 hr;obtain⟨R2,hR2⟩:∃R2,R2=bZ v (mz r):=⟨_,rfl⟩;rw[<- hR2]at HRv H4;clear hR2
     cases r
     all_goals
      unfold uA at HRv;unfold uA;go_wp2_with fail;refine HRv.out.mono ?_;rintro e w5 (⟨hno,rfl,hT5⟩|⟨s',u,ps',pc',ts',tc',rfl,hct',hT5⟩)
      ·have H5:=Hq2 hno (H4.out.step (Perm.refl _) hT5);clear hno hT5;go_wp2_with fail;go_ret;refine⟨at_,s,us,sc,sb,ps,pc,cs,cc,ts,tc,sz,szc,rfl,HR.a,fun k' b' n' h=>?_,by rw[<- HH.w];exact H5.z.drop (fun x=>by simp only[ao,ai,ee];omega)⟩;rw[HX.d]at h;simp only[Option.some.injEq,Prod.mk.injEq]at h;obtain⟨rfl,rfl,rfl⟩:=h;exact H5.a
      ·have H5:=Hq2 hct' (H4.out.step (Perm.refl _) hT5);clear hct' hT5;go_wp2_with fail;go_roundw
       case rel =>
        refine⟨at_+n,s',u,sc,sb,ps',pc',cs,cc,ts',tc',sz,szc,R2++J,by go_num,(by exact H5.a),?_⟩;rw[<- HH.w];have h9:=H5.z;change Turns F1 ((ctF a (lw X u sc sb) ps' pc' cs cc ts' tc'++((sm,Is (aO di sz szc))::R2))++((g,Is o)::J)) w w5 at h9;refine h9.to ?_;exact ac
       case measure=>simp[intOf];omega
theorem KD{F G:HF}{A W:World}{v:Value}{D:Bs}(h:Turns F (aA v D++G) A W)(hok:bOk v D)(hne:D≠[]):∃g cap o,v=.slice (some ⟨g,0,none⟩) D.length cap/\D.length<=cap/\cap<=9223372036854775807/\Turns F ((g,Is o)::G) A W/\(∀W':World,W'.heap[g]?=some o->ak W' (some ⟨g,0,none⟩) (D.map al)):=by
 have hown:=cZ h.sat.left hok;rcases hown.2 with⟨-,h0⟩|⟨g,cap,cur,rfl,-,hg,h1,h2,h3,h4⟩
 ·exact absurd (eq_nil_of_length_eq_zero h0) hne
 ·refine⟨g,cap,.cells cur 5 (0,0),rfl,h1,by unfold maxLen at h2;omega,?_,fun W' hW hp=>⟨g,0,rfl,fun j hj=>?_⟩⟩
  ·have e:aA (.slice (some ⟨g,0,none⟩) D.length cap) D++G=(g,_)::G:=rfl;rw[e]at h;exact h.put (Mods.refl _ _) hg Is.rfl
  ·rw[Nat.zero_add];refine aa hW j ?_;rw[<- Array.getElem?_toList];have hj2:j<D.length:=by simpa using hj
   have e1:(cur.toList.take (D.length*1))[j]?=cur.toList[j]?:=by rw[getElem?_take,if_pos (by omega)]
   rw[<- e1,h4];exact getElem?_eq_getElem hj
def lz(pm tm cm d ab e:Nat)(q:Int):ArchL:=⟨pm,tm,cm,0,0,0,d,ab,e,cW q,false,.nilIface⟩
def my(L:DevL)(e ch:Nat):AreaL:=⟨2+e%2*ay L.n,ay L.n,0,am 128,ch,[]⟩
structure OpenIs (d:Nat) (L:DevL) (q:Int) (e:Nat) (D:Bs) (S:AS):Prop where
 ct:∃at_ s sz szc,CtOk D S.X S.ps S.pc S.cs S.cc S.ts S.tc sz szc at_ s/\sC D at_ s/\S.data=D.take at_/\s.K=S.K
 X:∃us sc sb,S.X=lw (lz S.X.pm S.X.tm S.X.cm d S.X.ab e q) us sc sb
 A:S.A.first=2+e%2*ay L.n/\S.A.count=ay L.n/\S.A.end_=S.data.length/\S.A.tail=bF S.data/\S.A.spare=[]
 dev:DevOk S.L/\S.L.n=L.n/\S.L.safe=S.L.now/\S.L.chs=[]
 dat:ez S.L.now S.A.first S.A.count S.data
 other:∀f2 c2,(f2+c2<=S.A.first\/S.A.first+S.A.count<=f2)->aC S.L.now f2 c2=aC L.now f2 c2
def wi(d:Nat)(L:DevL)(q:Int)(e:Nat)(w:World)(ev:Ending)(w':World):Prop :=
 ∃S,ev=.returned (.tuple #[.pointer (some ⟨S.a,0,none⟩),.nilIface])/\OpenIs d L q e (aC L.now (2+e%2*ay L.n) (ay L.n)) S/\Turns (aD d L) (arF S) w w'
theorem He(d:Nat)(L:DevL)(us:Nat->Option (Nat×Nat))(e wh:Nat)(q:Int)(w:World)(h:Sat w (aD d L))(hL:DevOk L)(hn:16<=L.n)(hn2:L.n<=8388608)(hch:L.chs.length<=137438953472)(hU:∀k,k<2->wn L.now us k){rest:List (Nat×Nat)}(hus:jz (lE us 2)=(e,wh)::rest)(hz:cD L.now 2=false)(he:e<4294967296)(hR:∀at_ s,Reach (aC L.now (2+e%2*ay L.n) (ay L.n)) at_ s->at_<=810000)(hwh:∀at_ s,Reach (aC L.now (2+e%2*ay L.n) (ay L.n)) at_ s->sC (aC L.now (2+e%2*ay L.n) (ay L.n)) at_ s->wh<=at_)(hwl:wh<4294967296):
  Calls Tryz.prog 34 #[.pointer (some ⟨d,0,none⟩),.int .i64 q] w (wi d L q e w):=by
 have HSc:=qqH (kV d L w h);have HUs:=qqH (fun W (hW:aQ w W)=>D8 d L us W (h.same hW) hL hn hU);have HH:=Hq7 h hL hch hR hwh hus hz;clear h hL hch hU hus hR hwh hz;go_enter Tryz.func34,Tryz.ntmps34;go_wp2_with fail;refine HSc.out.mono ?_;rintro ev w1 ⟨rfl,rfl⟩;go_wp2_with fail;refine(HUs.out _ (Mods.refl _ _)).mono ?_;rintro ev w2 ⟨v2,rfl,hu2,hT2⟩;rw[HH.u];rw[HH.f]at hu2 hT2;obtain⟨sl,cap,rfl,hcap,hcap2,hcells,hblk⟩:=bv hT2.sat hu2 (by decide);obtain⟨gu,offu,hgu,hcu⟩:=hcells (by simp[nu]);subst hgu;have c0:w2.cell? ⟨gu,offu,none⟩=some (.int .u32 e):=by simpa[nu]using hcu 0 (by simp[nu])
 have c1:w2.cell? ⟨gu,offu+1,none⟩=some (.int .u32 wh):=by simpa[nu]using hcu 1 (by simp[nu])
 obtain⟨m,hm⟩:∃m,m=(((e,wh)::rest:List (Nat×Nat))).length:=⟨_,rfl⟩;rw[<- hm]at hcap ⊢;have hm0:(0:Int)<m:=by rw[hm];simp
 have hTd:Turns (aD d L) (aD d L) w w2:=Turns.same HH.a hT2.news;have H2:=qqH hTd;clear hu2 hT2 hcells hblk hcu hTd hm;go_wp2_with fail;obtain⟨D,hD⟩:∃D,D=aC L.now (2+e%2*ay L.n) (ay L.n):=⟨_,rfl⟩
 have hfit:2+e%2*ay L.n+ay L.n<=L.n:=by
  unfold ay;rcases Nat.mod_two_eq_zero_or_one e with h|h<;>rw[h]<;>omega
 have hDl:D.length=128*ay L.n:=by rw[hD];exact fH HH.b.nowL hfit
 have hh7:7<=ay L.n/\ay L.n<=L.n:=by unfold ay;omega
 have HD:=Hq4 hD hDl hfit hh7;clear hD hDl hfit hh7;go_loopw [37] (fun i wr=>i=.int .i64 0/\wr=w2) (fun _ _=>0)
 case atStart=>exact⟨rfl,rfl⟩
 case round =>
  obtain⟨rfl,rfl⟩:=hrel;go_upto_region 11 with(fail);obtain⟨u,hu⟩:∃u,u=wr.heap.size:=⟨_,rfl⟩;rw[<- hu];have hT0:Turns (aD d L) ((u,Is (iM e wh))::aD d L) w (wr.alloc (.cells #[.int .u32 e,.int .u32 wh] 179)):=by rw[hu];exact H2.out.Q8 (iM e wh)
  have HK:=qqH hT0;clear hT0 hu;refine db [([1,2,3,4,6,7,8,9],0,[1,2,3,4,6,7,8,9]),([],5,[1,6,7,8,9]),([10],11,[])] [12] HM.out (by kernel_rfl) fun W tW=>?_
  simp only[Mix,map_cons,map_nil,nth,QG,QF];have hT0:=tW HK.out;clear tW;have u0:∀{W:World} {F:HF},Sat W F->(u,Is (iM e wh))∈F->W.cell? ⟨u,0,none⟩=some (.int .u32 e):=fun hs hm=>aa (hs.Q7 hm) 0 rfl
  have k0:=u0 hT0.sat (by simp);iterate 7 still_step
  refine eG rfl (v:=.int .i64 (cW q)) (by kernel_rfl) ?_;simp only[Act.put,QA,QB,QC];refine wpStill_nil (aU (by kernel_rfl) (i4 W) ?_);rintro ev W1 ⟨pm,tm,cm,rfl,hT1⟩;have hT1:=Turns.Qb hT0 hT1;refine⟨_,rfl,by(have c1:=u0 hT1.sat (by simp);(iterate 7 still_step);exact eG rfl (v:=.int .i64 (cW q)) (by kernel_rfl) rfl),wpStill_nil (aU (by kernel_rfl) (pj d L e W1 (hT1.sat.sub bB) (by omega) (by omega) he) ?_)⟩;rintro ev W2 ⟨ab,ch,rfl,hT2⟩;have hT2:=Turns.Qb hT1 hT2;refine⟨_,rfl,by(have c1:=u0 hT2.sat (by simp);(iterate 4 still_step);exact eG rfl (v:=.int .i64 (cW q)) (by kernel_rfl) rfl),?_⟩;simp only[Act.put,QA,QB,QC];refine eG rfl (v:=.agg (bl (lz pm tm cm d ab e q))) (by kernel_rfl) ?_;simp only[Act.put,QA,QB,QC];refine wpStill_nil (i8 (aJ (lz pm tm cm d ab e q)) (fun g=>.pointer (some ⟨g,0,none⟩)) (by kernel_rfl) hT2 fun g w3 hT3=>⟨rfl,?_⟩);simp only[Act.put,QA,QB,QC];repeat still_step
  refine wpStill_nil ?_;have hT3:Turns (aD d L) ((g,Is (aJ (lz pm tm cm d ab e q)))::(ap ab d (my L e ch)++([(cm,Is (.map #[] 0)),(tm,Is (.map #[] 0)),(pm,Is (.map #[] 0))]++((u,Is (iM e wh))::aD d L)))) w w3:=hT3;clear hT0 hT1 hT2 u0 k0 HK;have g7:w3.cell? ⟨g,7,none⟩=some (.pointer (some ⟨ab,0,none⟩)):=aa hT3.sat.Q5 7 rfl;have hgl:=ae hT3.sat.Q5;have HAll:=qqH (qE ab d (my L e ch) L w3 (hT3.sat.sub (fun _=>by simp only[ao,ai,ee]<;>omega)) HH.b HD.c (by omega));have H3:=qqH hT3;clear hT3;go_wp2_with fail;refine HAll.out.mono ?_;rintro ev w4 ⟨v,rfl,hok,hT4⟩;change bOk v (aC L.now (2+e%2*ay L.n) (ay L.n))at hok;change Turns [] (aA v (aC L.now (2+e%2*ay L.n) (ay L.n))) w3 w4 at hT4;rw[<- HD.a]at hok hT4;obtain⟨gD,capD,o,rfl,hcD,hcD2,hT5,hcell⟩:=KD (Turns.Qb H3.out hT4) hok (fun h=>by have:=HD.b;rw[h]at this;simp at this;have:=HD.x;omega)
  have hTp:Turns (aD d L) ((ctF g (lz pm tm cm d ab e q) [] 0 [] 0 [] 0++[(gD,Is o)])++(ap ab d (my L e ch)++((u,Is (iM e wh))::aD d L))) w w4:=hT5.to (by
   show Perm _ ((((g,Is (aJ (lz pm tm cm d ab e q)))::([(pm,Is (.map #[] 0))]++([(cm,Is (.map #[] 0))]++[(tm,Is (.map #[] 0))])))++[(gD,Is o)])++(ap ab d (my L e ch)++((u,Is (iM e wh))::aD d L)));exact ac)
  have HRp:=qqH (yU g (lz pm tm cm d ab e q) D gD 0 capD o w4 hTp.sat.left ⟨rfl,rfl,rfl⟩ hcell hcD (by have:=HD.b;have:=HD.x;omega) (by rw[HD.a];exact HH.d));have h4g:w4.cell? ⟨g,7,none⟩=some (.pointer (some ⟨ab,0,none⟩)):=aa (hTp.sat.Q7 (b:=g) (o:=aJ (lz pm tm cm d ab e q)) (by simp[ctF])) 7 rfl;have H5:=Hq4 hTp hcell hcD hcD2;clear hok hT4 hT5 hcell hTp g7;go_wp2_with fail;refine HRp.out.mono ?_;rintro ev w5 ⟨at_,s,us',sc,sb,ps,pc,cs,cc,ts,tc,sz,szc,rfl,hct,href,hTr⟩;have hT6:=H5.a.step (Perm.refl _) hTr;have hle:=hct.le
  have hlt:¬((at_:Int)<(wh:Int)):=by
   have:=HH.e at_ s (by rw[<- HD.a];exact hct.reach) (by rw[<- HD.a];exact href);omega
  have hu6:=hT6.sat.Q7 (b:=u) (o:=iM e wh) (by simp);have u1:w5.cell? ⟨u,1,none⟩=some (.int .u32 wh):=aa hu6 1 rfl;have hul:=ae hu6;have g5:w5.cell? ⟨g,7,none⟩=some (.pointer (some ⟨ab,0,none⟩)):=aa (hT6.sat.Q7 (b:=g) (o:=aJ (lw (lz pm tm cm d ab e q) us' sc sb)) (by simp[ctF])) 7 rfl;have hgl5:g<w5.heap.size:=hT6.sat.lt (by simp[ctF]);have hDl:=HD.b
  have hcut:=qG ab d (my L e ch) L at_ (some ⟨gD,0,none⟩) capD D w5 (hT6.sat.sub (fun _=>by simp only[ao,ai,ee]<;>omega)) HH.b HD.c (by omega) ⟨an _,by simp[my],fun _ h=>by simp[my]at h⟩ (H5.b w5 (hT6.sat.Q7 (b:=gD) (o:=o) (by simp)))
   (fun x hx hin=>by
    simp only[Option.some.injEq]at hx;subst hx;have h1:Sat w5 ((gD,Is o)::(ap ab d (my L e ch)++aD d L)):=hT6.sat.sub (fun _=>by simp only[ao,ai,ee]<;>omega);exact h1.notMem hin) hDl H5.c H5.x (by show 0<ay L.n;have:=HD.x;omega) (by show at_<=128*ay L.n;omega) HH.c
   (fun m hm hx=>by
    rw[HD.a]at hx;rw[mf (by exact hm)]at hx;rw[HD.a];exact hx)
  have HC:=qqH hcut;have H6:=Hq3 hct href hT6;clear hct href hTr hT6 hcut hu6 hDl;go_wp2_with fail;refine HC.out.mono ?_;rintro ev w6 ⟨rfl,L',hT7,hL',hn',hnow',hsafe',hch'⟩;have hT8:=H6.y.step (F:=ap ab d (my L e ch)++aD d L) (R:=ctF g (lw (lz pm tm cm d ab e q) us' sc sb) ps pc cs cc ts tc++((gD,Is o)::[(u,Is (iM e wh))])) ac hT7;have H8:=Hq6 hT8 hL' hn' hnow' hsafe' hch';clear hT7 hT8 hL' hn' hnow' hsafe' hch';go_wp2_with fail;have hDl:=HD.b;have hdl:(D.take at_).length=at_:=by rw[length_take];omega
  have htl:(D.take at_).drop (128*(at_ / 128))++am (128-at_%128)=bF (D.take at_):=by unfold bF dk;rw[hdl]
  obtain⟨S,hS⟩:∃S:AS,S={ a:=g,X:=lw (lz pm tm cm d ab e q) us' sc sb,A:={ my L e ch with end_:=at_,tail:=(D.take at_).drop (128*(at_ / 128))++am (128-at_%128) },L:=L',ps:=ps,pc:=pc,cs:=cs,cc:=cc,ts:=ts,tc:=tc,data:=D.take at_,K:=s.K }:=⟨_,rfl⟩;have hcd:=tL (l:=L.now) (ws:=D) (first:=2+e%2*ay L.n) (count:=ay L.n) (end_:=at_) (by rw[HH.b.nowL];have:=HD.c;omega) (by rw[<- HD.a]) hDl (by omega)
  have hfin:wi d L q e w (.returned (.tuple #[.pointer (some ⟨g,0,none⟩),.nilIface])) w6:=by
   refine⟨S,by rw[hS],?_,?_⟩
   ·rw[<- HD.a];refine⟨⟨at_,s,sz,szc,by rw[hS];exact H6.a,H6.b,by rw[hS],by rw[hS]⟩,⟨us',sc,sb,by rw[hS];rfl⟩,?_,by rw[hS];exact⟨H8.b,H8.c,H8.e,H8.v⟩,?_,fun f2 c2 hf=>?_⟩
    ·rw[hS];exact⟨rfl,rfl,hdl.symm,htl,rfl⟩
    ·rw[hS];show ez L'.now (2+e%2*ay L.n) (ay L.n) (D.take at_);rw[H8.d];exact hcd.1
    ·rw[hS]at hf ⊢;show aC L'.now f2 c2=_;rw[H8.d];exact hcd.2 f2 c2 hf
   ·rw[hS];refine H8.a.drop (fun x=>?_);show cnt x ((g,Is (aJ (lw (lz pm tm cm d ab e q) us' sc sb)))::(ap ab d { my L e ch with end_:=at_,tail:=(D.take at_).drop (128*(at_ / 128))++am (128-at_%128) }++(aD d L'++(aF pm ps pc++(bU tm ts tc++aP cm cs cc)))))<=_;unfold ctF;show _<=cnt x ((ap ab d { my L e ch with end_:=at_,tail:=(D.take at_).drop (128*(at_ / 128))++am (128-at_%128) }++aD d L')++(((g,Is (aJ (lw (lz pm tm cm d ab e q) us' sc sb)))::(aF pm ps pc++(aP cm cs cc++bU tm ts tc)))++((gD,Is o)::[(u,Is (iM e wh))])));simp only[ao,ai,ee];omega
  go_ret2;exact (by exact hfin)
end
section
open Go.RowKit
theorem yV{P:Program}(w:World)(dT sT ty elem:TypeId)(k g n dCap:Nat)(s:Nat)(sCap:Nat)(cur cs:List Value)(t u:TypeId)(hu:P.underlying dT=some (.slice elem))(hs:(P.info? elem).map (·.size)=some k)(hg:w.heap[g]?=some (.cells cur.toArray t (0,0)))(hsr:w.heap[s]?=some (.cells cs.toArray u (0,0)))(hn:cs.length=n*k)(hc:cur.length=n*k)(h1:∀v∈cs,v.oneCell'=true):
  (Builtin.copy_ #[dT,sT] ty #[.slice (some ⟨g,0,none⟩) n dCap,.slice (some ⟨s,0,none⟩) n sCap]).run P w=.ok (goInt n) (w.setCells g 0 cs):=by
 have hl:=run_loadCells_list (P:=P) w ⟨s,0,none⟩ cs (fun j v hj=>by
  rw[Addr.add_lit,Nat.zero_add];exact aa hsr j (by simpa using hj))
 have hth:=dr hg 0 cs.length (by simp;omega);have hst:=run_storeCells_cells (P:=P) g 0 cs 0 w (fun j hj=>by have:=(hth j hj).1;simpa using this) (fun j hj=>by have:=(hth j hj).2;simpa using this) h1
 cases hq:P.info? elem with
 | none=>simp[hq]at hs
 | some i =>
  have hi:i.size=k:=by simpa[hq]using hs
  rw[hn]at hl;simp[Builtin.copy_,run_underlying hu,Builtin.lenOf,Builtin.firstCells,sizeOf,typeInfo,hq,hi,hl,hst]
theorem xM{P:Program}{w a0:World}{o:Oper}{a:Act}{K:Act->World->Prop}{Q:Exit->Act->World->Prop}{F G:HF}(d s:Operand)(dT sT:TypeId)(ho:o.op=.call { callee:=.builtin .copy,args:=#[d,s],argTypes:=#[dT,sT] })(elem:TypeId)(hu:P.underlying dT=some (.slice elem))(k:Nat)(hsz:(P.info? elem).map (·.size)=some k)(g n dCap sb sCap:Nat)(cur cs:List Value)(t u:TypeId)(hd:a.eval d=.slice (some ⟨g,0,none⟩) n dCap)(hs:a.eval s=.slice (some ⟨sb,0,none⟩) n sCap)(hT:Turns F ((g,Is (.cells cur.toArray t (0,0)))::G) a0 w)(hsr:w.heap[sb]?=some (.cells cs.toArray u (0,0)))(hn:cs.length=n*k)(hc:cur.length=n*k)(h1:∀v∈cs,v.oneCell'=true)(h:∀w',Turns F ((g,Is (.cells cs.toArray t (0,0)))::G) a0 w'->K (a.put o.dst (goInt n)) w'):Oper.wp P o a w K Q:=by
 have hrun:=yV (P:=P) w dT sT o.type elem k g n dCap sb sCap cur cs t u hu hsz hT.sat.Q5 hsr hn hc h1;have hq:=dI (C:=cur.toArray) hT.sat.Q5 cs (by simp;omega);unfold Oper.wp;simp[execOp,ho,resolve,invoke,builtin,hd,hs,hrun,Result.andThen];exact h _ (hT.Qa hq.2 hq.1)
def zn(d:Nat)(L:DevL)(w:World)(e:Ending)(w':World):Prop :=
 ∃d' L',e=.returned (.pointer (some ⟨d',0,none⟩))/\Turns (aD d L) (aD d' L'++aD d L) w w'/\DevOk L'/\L'.n=L.n/\L'.now=L.now/\L'.safe=L.now/\L'.chs=[]
def pX(sb nb n:Nat)(chv:Value):Obj:=.cells #[.slice (some ⟨sb,0,none⟩) n n,.slice (some ⟨nb,0,none⟩) n n,chv,.int .i64 (-1)] 86 (0,0)
theorem vu(d:Nat)(L:DevL)(w:World)(h:Sat w (aD d L))(hL:DevOk L):
  Calls Tryz.prog 32 #[.pointer (some ⟨d,0,none⟩)] w (zn d L w):=by
 have hd:=h.Q5;have c0:=aa hd 0 rfl;have hdl:=ae hd;have HN:=qqH (mu L.n hL.hn w);have HH:=Hq2 h hL;clear h hL hd;go_enter Tryz.func32,Tryz.ntmps32;go_wp2_with fail;refine HN.out.mono ?_;rintro e w1 ⟨c,M,rfl,hT,hM,hMn,hnow,hch⟩;have hd1:=hT.sat.Q5;have hT1:=(Turns.refl HH.a).Qb hT;have hMs:M.safe.length=128*L.n:=by rw[hM.safeL,hMn]
 have hMw:M.now.length=128*L.n:=by rw[hM.nowL,hMn]
 have H1:=Hq6 hT1 hM hMn hch hMs hMw;clear hT hM hMn hnow hch hd1 hT1 hMs hMw;go_wp2_with fail;obtain⟨Z2,hZ2⟩:∃Z2:HF,Z2=(M.nb,Is (.cells (aw M.now) 121 (0,0)))::(bK 227 129 M.chv M.chs.length (bW M.chs)++((L.sb,Is (.cells (aw L.safe) 121 (0,0)))::bK 227 129 L.chv L.chs.length (bW L.chs))):=⟨_,rfl⟩
 have k0:Turns (aD d L) ((M.sb,Is (.cells (aw M.safe) 121 (0,0)))::((c,Is (pX M.sb M.nb L.n M.chv))::(d,Is (pX L.sb L.nb L.n L.chv))::(L.nb,Is (.cells (aw L.now) 121 (0,0)))::Z2)) w w1:=by
  refine H1.a.to ?_;rw[hZ2];unfold aD pX;rw[H1.c];exact ac
 have HK:=Hq2 k0 hZ2;clear k0 hZ2;refine db [([0,1,2,3,4,5,6,7],8,[])] [] HM.out (by kernel_rfl) fun W tW=>?_
 simp only[Mix,map_cons,map_nil,nth,QG,QF];have k0:=tW HK.a;clear tW;have g0:W.cell? ⟨c,0,none⟩=some (.slice (some ⟨M.sb,0,none⟩) L.n L.n):=aa (k0.sat.Q7 (b:=c) (o:=pX M.sb M.nb L.n M.chv) (by simp)) 0 rfl;have g1:W.cell? ⟨d,1,none⟩=some (.slice (some ⟨L.nb,0,none⟩) L.n L.n):=aa (k0.sat.Q7 (b:=d) (o:=pX L.sb L.nb L.n L.chv) (by simp)) 1 rfl;repeat still_step
 have hl1:(L.now.map al).length=L.n*128:=by rw[length_map,HH.z.nowL];omega
 have hl2:(M.safe.map al).length=L.n*128:=by rw[length_map,H1.e];omega
 refine wpStill_nil (xM (.tmp 13) (.tmp 17) 83 83 rfl 121 Tryz.underlying83 128 sI M.sb L.n L.n L.nb L.n (M.safe.map al) (L.now.map al) 121 121 rfl rfl k0 (k0.sat.Q7 (b:=L.nb) (o:=.cells (aw L.now) 121 (0,0)) (by simp)) hl1 hl2 (dW _) fun w2 hT2=>⟨rfl,?_⟩);simp only[Act.put,QA,QB,QC];refine wpStill_nil ?_;have hT2:Turns (aD d L) ((M.sb,Is (.cells (aw L.now) 121 (0,0)))::((c,Is (pX M.sb M.nb L.n M.chv))::(d,Is (pX L.sb L.nb L.n L.chv))::(L.nb,Is (.cells (aw L.now) 121 (0,0)))::Z2)) w w2:=hT2;clear k0 g0 g1 hl1 hl2;have HT2:=qqH hT2;clear hT2;go_wp2_with fail
 have k0:Turns (aD d L) ((M.nb,Is (.cells (aw M.now) 121 (0,0)))::((c,Is (pX M.sb M.nb L.n M.chv))::(d,Is (pX L.sb L.nb L.n L.chv))::(L.nb,Is (.cells (aw L.now) 121 (0,0)))::(M.sb,Is (.cells (aw L.now) 121 (0,0)))::(bK 227 129 M.chv M.chs.length (bW M.chs)++((L.sb,Is (.cells (aw L.safe) 121 (0,0)))::bK 227 129 L.chv L.chs.length (bW L.chs))))) w w2:=by
  refine HT2.out.to ?_;rw[HK.z];exact ac
 have HK3:=qqH k0;clear k0;refine db [([0,1,2,3,4,5,6,7],8,[])] [] HM.out (by kernel_rfl) fun W tW=>?_
 simp only[Mix,map_cons,map_nil,nth,QG,QF];have k0:=tW HK3.out;clear tW;have g0:W.cell? ⟨c,1,none⟩=some (.slice (some ⟨M.nb,0,none⟩) L.n L.n):=aa (k0.sat.Q7 (b:=c) (o:=pX M.sb M.nb L.n M.chv) (by simp)) 1 rfl;have g1:W.cell? ⟨d,1,none⟩=some (.slice (some ⟨L.nb,0,none⟩) L.n L.n):=aa (k0.sat.Q7 (b:=d) (o:=pX L.sb L.nb L.n L.chv) (by simp)) 1 rfl;repeat still_step
 have hl1:(L.now.map al).length=L.n*128:=by rw[length_map,HH.z.nowL];omega
 have hl2:(M.now.map al).length=L.n*128:=by rw[length_map,H1.v];omega
 refine wpStill_nil (xM (.tmp 22) (.tmp 26) 83 83 rfl 121 Tryz.underlying83 128 sI M.nb L.n L.n L.nb L.n (M.now.map al) (L.now.map al) 121 121 rfl rfl k0 (k0.sat.Q7 (b:=L.nb) (o:=.cells (aw L.now) 121 (0,0)) (by simp)) hl1 hl2 (dW _) fun w3 hT3=>⟨rfl,?_⟩);simp only[Act.put,QA,QB,QC];refine wpStill_nil ?_;clear k0 g0 g1 hl1 hl2;have HT3:=qqH hT3;clear hT3;go_wp2_with fail;have hM:=H1.b;have hrow:=hM.row;rw[H1.d]at hrow;go_ret;refine ⟨c,{ M with n:=L.n,safe:=L.now,now:=L.now,chs:=[] },rfl,?_,⟨HH.z.hn,HH.z.nowL,HH.z.nowL,hrow,(fun _ hc=>by cases hc),rfl⟩,rfl,rfl,rfl,rfl⟩;have hT4:Turns (aD d L) ((M.nb,Is (.cells (aw L.now) 121 (0,0)))::((c,Is (pX M.sb M.nb L.n M.chv))::(d,Is (pX L.sb L.nb L.n L.chv))::(L.nb,Is (.cells (aw L.now) 121 (0,0)))::(M.sb,Is (.cells (aw L.now) 121 (0,0)))::(bK 227 129 M.chv M.chs.length (bW M.chs)++((L.sb,Is (.cells (aw L.safe) 121 (0,0)))::bK 227 129 L.chv L.chs.length (bW L.chs))))) w w3:=HT3.out;rw[H1.d]at hT4;refine hT4.to ?_;unfold aD pX;exact ac
end
section
open Go.RowKit Go.Maps
def oL(L L':DevL):Prop:=DevOk L'/\L'.n=L.n/\L'.now=L.now/\L'.safe=L.now/\L'.chs=[]
def Dw(R:RefL)(q:Int)(b':Nat)(vv' tv':Value):RefL:={ R with blk:=b',vv:=vv',tv:=tv',quota:=cW q,closed:=false }
def yJ(X:WS)(q:Int)(d':Nat)(S':AS)(b':Nat)(vv' tv':Value):WS:={ X with U:={ X.U with d:=d',a:=some S'.a,r:=b' },S:=S',R:=Dw X.R q b' vv' tv' }
theorem Me{X:WS}{w0 W:World}(h:WsOk w0 W X):∀v∈X.R.vs,v.cv.oneCell'=true:=fun v hv=>by
 obtain⟨sl,cap,e,-⟩:=kn h.pok h.pool (h.inp v hv)
 rw[e];rfl
def ja(S S1:AS):Prop:=(S.X.closed=true/\S1=S)\/(S.X.closed=false/\∃L',jC S.L L'/\S1=oX (iX S L'))
theorem ja.facts{S S1:AS}(h:ja S S1):S1.L.now=S.L.now/\S1.L.n=S.L.n/\S1.a=S.a/\S1.X.d=S.X.d/\S1.X.closed=true:=by
 rcases h with⟨h1,rfl⟩|⟨_,L',hf,rfl⟩
 ·exact⟨rfl,rfl,rfl,rfl,h1⟩
 ·exact⟨hf.2.2.1,hf.2.1,rfl,rfl,rfl⟩
theorem ja.ok{S S1:AS}(h:ja S S1)(hok:ArOk S):ArOk S1:=by
 rcases h with⟨_,rfl⟩|⟨_,L',hf,rfl⟩
 ·exact hok
 ·exact(hok.flush hf).close
theorem ja.link{S S1:AS}(h:ja S S1){R:RefL}(L:Link S R):Link S1 { R with closed:=true }:=by
 rcases h with⟨h1,rfl⟩|⟨_,L',hf,rfl⟩
 ·have:({ R with closed:=true }:RefL)=R:=by
   have:=L.closed;rw[h1]at this
   cases R
   simp only at this;subst this;rfl
  rw[this];exact L
 ·exact(L.flush L').close
def E8(w0:World)(X:WS)(e:Ending)(W':World):Prop :=
 e=.returned (.bool true)/\∃S1,ja X.S S1/\WsOk w0 W' { X with S:=S1,R:={ X.R with closed:=true } }
def JI(w0:World)(X:WS)(q:Int)(Φ:Nat->DevL->AS->Prop)(e:Ending)(W':World):Prop :=
 e=.returned (.bool true)/\∃d' L' S' b' vv' tv',oL X.S.L L'/\Φ d' L' S'/\WsOk w0 W' (yJ X q d' S' b' vv' tv')
theorem sv(w0 W:World)(X:WS)(o:OpL)(b:Nat)(h:WsOk w0 W X)(hB:ArB X.S b)(hb:b<=90000)(hE:aW w0)(hk:o.kind=7):
  Calls Tryz.prog 7 #[.pointer (some ⟨X.U.blk,0,none⟩),opA o] W (E8 w0 X):=by
 obtain⟨ok,oa,ob_,oc,os,ot,odv,od⟩:=o;simp only at hk;subst hk;have HH:=Hq4 h hB hb hE;clear h hB hb hE;unfold opA opV;go_enter Tryz.func7,Tryz.ntmps7;go_upto_region 49 with(fail);obtain⟨ob,hob⟩:∃ob,ob=W.heap.size:=⟨_,rfl⟩
 have hT1:Turns [] ((ob,Is (oO ⟨7,oa,ob_,oc,os,ot,odv,od⟩))::wsF X) w0 (W.alloc (.cells #[.int .i64 7,.int .i64 oa,.int .i64 ob_,.int .i64 oc,str os,str ot,odv] 41)):=by
  rw[hob];exact HH.a.turns.Q8 _
 rw[<- hob];generalize W.alloc (.cells #[.int .i64 7,.int .i64 oa,.int .i64 ob_,.int .i64 oc,str os,str ot,odv] 41)=W1 at hT1 ⊢
 have u1:W1.cell? ⟨X.U.blk,1,none⟩=some (.pointer (some ⟨X.S.a,0,none⟩)):=by
  have:=aa hT1.sat.tail.Q5 1 (v:=l7 X.U.a) rfl;rw[HH.a.a]at this;exact this
 have HT1:=qqH hT1;clear hT1 hob;go_wp2_with fail;refine(rx X.S b W1 HT1.out.sat.tail.tail.left HH.a.ar HH.b HH.c).mono ?_;intro e W2 hp
 have key:∃(S1:AS) (ev:Value),e=.returned ev/\((X.R.closed=false/\ev=.nilIface)\/(X.R.closed=true/\ev=ck 9))/\Turns (arF X.S) (arF S1) W1 W2/\ja X.S S1:=by
  rcases hp with⟨hc,rfl,hG⟩|⟨hc,rfl,L',hf,hG⟩
  ·exact⟨X.S,_,rfl,.inr ⟨by rw[HH.a.link.closed];exact hc,rfl⟩,hG,.inl ⟨hc,rfl⟩⟩
  ·exact⟨oX (iX X.S L'),_,rfl,.inl ⟨by rw[HH.a.link.closed];exact hc,rfl⟩,hG,.inr ⟨hc,L',hf,rfl⟩⟩
 obtain⟨S1,ev,rfl,hev,hG,hS⟩:=key
 have hT2:Turns [] ((X.R.blk,Is (fQ X.R))::((ob,Is (oO ⟨7,oa,ob_,oc,os,ot,odv,od⟩))::(X.U.blk,Is (az X.U))::(arF S1++(dm X.R.vv X.R.vs++(dP X.R.tv X.R.ts++aV X))))) w0 W2:=by
  have:=HT1.out;unfold wsF at this;exact((this.to (H:=arF X.S++((ob,Is (oO ⟨7,oa,ob_,oc,os,ot,odv,od⟩))::(X.U.blk,Is (az X.U))::(aI X.R++aV X))) ac).step (Perm.refl _) hG).to (by unfold aI;exact ac)
 have HEn:=qqH (kf X.U.blk X.U X.R ev W2 (hT2.sat.Q7 (by simp)) HH.a.r hT2.sat.Q5 (HH.x.keep hT2.mods (fun h=>by simp at h)) hev);have HT2:=Hq2 hT2 hS;clear hp hev hG hS hT2 u1;go_wp2_with fail;refine HEn.out.mono ?_;rintro e W3 ⟨rfl,hs3⟩;have hT3:=HT2.a.Q9 hs3
 have u2:W3.cell? ⟨X.U.blk,2,none⟩=some (.pointer (some ⟨X.R.blk,0,none⟩)):=by
  have:=aa (hT3.sat.Q7 (b:=X.U.blk) (o:=az X.U) (by simp)) 2 (v:=.pointer (some ⟨X.U.r,0,none⟩)) rfl;rw[HH.a.r]at this;exact this
 have HT3:=qqH hT3;clear hs3 hT3;go_wp2_with (refine ah rfl (bb 4 (.tmp 270) (.const (.bool true)) rfl X.R.blk 3 (bJ X.R) 46 (.bool true) HT3.out rfl rfl (by simp[bJ]) (by kernel_rfl) rfl rfl ?_);intro W4 hT4;have o0:W4.cell? ⟨ob,0,none⟩=some (.int .i64 7):=aa (hT4.sat.Q7 (b:=ob) (o:=oO ⟨7,oa,ob_,oc,os,ot,odv,od⟩) (by simp)) 0 rfl;have HT4:=qqH (show Turns [] ((X.R.blk,Is (fQ { X.R with closed:=true }))::((ob,Is (oO ⟨7,oa,ob_,oc,os,ot,odv,od⟩))::(X.U.blk,Is (az X.U))::(arF S1++(dm X.R.vv X.R.vs++(dP X.R.tv X.R.ts++aV X))))) w0 W4 from hT4);clear hT4;simp only[Act.put]);go_ret;refine ⟨rfl,S1,HT2.z,?_⟩;have hf:=HT2.z.facts;refine⟨HT4.out.drop (fun x=>?_),?_,HH.a.r,?_,HT2.z.ok HH.a.ar,⟨HH.a.ref.vs,HH.a.ref.ts⟩,HH.a.pok,HH.a.inp,HH.a.out,HH.a.want,HH.a.most,HH.a.ms,HT2.z.link HH.a.link,HH.a.olen⟩
 ·unfold wsF aI aV;simp only[ao,ai]<;>omega
 ·show X.U.a=some S1.a;rw[hf.2.2.1];exact HH.a.a
 ·show X.U.d=S1.X.d;rw[hf.2.2.2.1];exact HH.a.d
theorem uU(Φ:Nat->DevL->AS->Prop)(w0 W:World)(X:WS)(o:OpL)(b:Nat)(h:WsOk w0 W X)(hB:ArB X.S b)(hb:b<=90000)(hl:X.R.vs.length<=100000/\X.R.ts.length<=100000)(hE:aW w0)(hk:o.kind=8)(hO:∀d' L' W',oL X.S.L L'->Sat W' (aD d' L')->Calls Tryz.prog 34 #[.pointer (some ⟨d',0,none⟩),.int .i64 o.a] W' (fun e W''=>∃S,e=.returned (.tuple #[.pointer (some ⟨S.a,0,none⟩),.nilIface])/\Φ d' L' S/\Turns (aD d' L') (arF S) W' W''))(hΦ:∀d' L' S' b' vv' tv',oL X.S.L L'->Φ d' L' S'->ArOk S'/\S'.X.d=d'/\Link S' (Dw X.R o.a b' vv' tv')):
  Calls Tryz.prog 7 #[.pointer (some ⟨X.U.blk,0,none⟩),opA o] W (JI w0 X o.a Φ):=by
 obtain⟨ok,oa,ob_,oc,os,ot,odv,od⟩:=o;simp only at hk;subst hk;have HH:=Hq4 h hB hb hE;have HO:=Hq3 hO hΦ hl;clear h hB hb hE hO hΦ hl;unfold opA opV;go_enter Tryz.func7,Tryz.ntmps7;go_upto_region 49 with(fail);obtain⟨ob,hob⟩:∃ob,ob=W.heap.size:=⟨_,rfl⟩
 have hT1:Turns [] ((ob,Is (oO ⟨8,oa,ob_,oc,os,ot,odv,od⟩))::wsF X) w0 (W.alloc (.cells #[.int .i64 8,.int .i64 oa,.int .i64 ob_,.int .i64 oc,str os,str ot,odv] 41)):=by
  rw[hob];exact HH.a.turns.Q8 _
 rw[<- hob];generalize W.alloc (.cells #[.int .i64 8,.int .i64 oa,.int .i64 ob_,.int .i64 oc,str os,str ot,odv] 41)=W1 at hT1 ⊢
 have u1:W1.cell? ⟨X.U.blk,1,none⟩=some (.pointer (some ⟨X.S.a,0,none⟩)):=by
  have:=aa hT1.sat.tail.Q5 1 (v:=l7 X.U.a) rfl;rw[HH.a.a]at this;exact this
 have HT1:=qqH hT1;clear hT1 hob;go_wp2_with fail;refine(rx X.S b W1 HT1.out.sat.tail.tail.left HH.a.ar HH.b HH.c).mono ?_;intro e W2 hp
 have key:∃(S1:AS) (ev:Value),e=.returned ev/\((X.R.closed=false/\ev=.nilIface)\/(X.R.closed=true/\ev=ck 9))/\Turns (arF X.S) (arF S1) W1 W2/\ja X.S S1:=by
  rcases hp with⟨hc,rfl,hG⟩|⟨hc,rfl,L',hf,hG⟩
  ·exact⟨X.S,_,rfl,.inr ⟨by rw[HH.a.link.closed];exact hc,rfl⟩,hG,.inl ⟨hc,rfl⟩⟩
  ·exact⟨oX (iX X.S L'),_,rfl,.inl ⟨by rw[HH.a.link.closed];exact hc,rfl⟩,hG,.inr ⟨hc,L',hf,rfl⟩⟩
 obtain⟨S1,ev,rfl,hev,hG,hS⟩:=key
 have hT2:Turns [] ((X.R.blk,Is (fQ X.R))::((ob,Is (oO ⟨8,oa,ob_,oc,os,ot,odv,od⟩))::(X.U.blk,Is (az X.U))::(arF S1++(dm X.R.vv X.R.vs++(dP X.R.tv X.R.ts++aV X))))) w0 W2:=by
  have:=HT1.out;unfold wsF at this;exact((this.to (H:=arF X.S++((ob,Is (oO ⟨8,oa,ob_,oc,os,ot,odv,od⟩))::(X.U.blk,Is (az X.U))::(aI X.R++aV X))) ac).step (Perm.refl _) hG).to (by unfold aI;exact ac)
 have HEn:=qqH (kf X.U.blk X.U X.R ev W2 (hT2.sat.Q7 (by simp)) HH.a.r hT2.sat.Q5 (HH.x.keep hT2.mods (fun h=>by simp at h)) hev);have HT2:=Hq2 hT2 hS;clear hp hev hG hS hT2 u1;go_wp2_with fail;refine HEn.out.mono ?_;rintro e W3 ⟨rfl,hs3⟩;have hT3:=HT2.a.Q9 hs3
 have u2:W3.cell? ⟨X.U.blk,2,none⟩=some (.pointer (some ⟨X.R.blk,0,none⟩)):=by
  have:=aa (hT3.sat.Q7 (b:=X.U.blk) (o:=az X.U) (by simp)) 2 (v:=.pointer (some ⟨X.U.r,0,none⟩)) rfl;rw[HH.a.r]at this;exact this
 have HT3:=qqH hT3;clear hs3 hT3;go_wp2_with (refine ah rfl (bb 4 (.tmp 270) (.const (.bool true)) rfl X.R.blk 3 (bJ X.R) 46 (.bool true) HT3.out rfl rfl (by simp[bJ]) (by kernel_rfl) rfl rfl ?_);intro W4 hT4;have o0:W4.cell? ⟨ob,0,none⟩=some (.int .i64 8):=aa (hT4.sat.Q7 (b:=ob) (o:=oO ⟨8,oa,ob_,oc,os,ot,odv,od⟩) (by simp)) 0 rfl;have u0:W4.cell? ⟨X.U.blk,0,none⟩=some (.pointer (some ⟨X.U.d,0,none⟩)):=aa (hT4.sat.Q7 (b:=X.U.blk) (o:=az X.U) (by simp)) 0 rfl;have HT4:=qqH (show Turns [] ((X.R.blk,Is (fQ { X.R with closed:=true }))::((ob,Is (oO ⟨8,oa,ob_,oc,os,ot,odv,od⟩))::(X.U.blk,Is (az X.U))::(arF S1++(dm X.R.vv X.R.vs++(dP X.R.tv X.R.ts++aV X))))) w0 W4 from hT4);clear hT4;simp only[Act.put]);have hf:=HT2.z.facts;have hud:X.U.d=S1.X.d:=by rw[hf.2.2.2.1];exact HH.a.d
 have hsub:Turns [] (aD S1.X.d S1.L++((S1.a,Is (aJ S1.X))::(ap S1.X.ab S1.X.d S1.A++((aF S1.X.pm S1.ps S1.pc++(bU S1.X.tm S1.ts S1.tc++aP S1.X.cm S1.cs S1.cc))++((X.R.blk,Is (fQ { X.R with closed:=true }))::((ob,Is (oO ⟨8,oa,ob_,oc,os,ot,odv,od⟩))::(X.U.blk,Is (az X.U))::(dm X.R.vv X.R.vs++(dP X.R.tv X.R.ts++aV X)))))))) w0 W4:=by
  have:=HT4.out;unfold arF at this;exact this.to ac
 rw[hud];refine(vu S1.X.d S1.L W4 hsub.sat.left (HT2.z.ok HH.a.ar).dev).mono ?_;rintro e W5 ⟨d',L',rfl,hG,hL1,hL2,hL3,hL4,hL5⟩
 have hT5:Turns [] ((X.U.blk,Is (az X.U))::(aI { X.R with closed:=true }++(aD d' L'++((ob,Is (oO ⟨8,oa,ob_,oc,os,ot,odv,od⟩))::aV X)))) w0 W5:=by
  have:=hsub.step (Perm.refl _) hG;refine this.drop (fun x=>?_);unfold aI;simp only[ao,ai]<;>omega
 have hcp:oL X.S.L L':=⟨hL1,by rw[hL2,hf.2.1],by rw[hL3,hf.1],by rw[hL4,hf.1],hL5⟩;have HT5:=Hq2 hT5 hcp;clear hG hL1 hL2 hL3 hL4 hL5 hT5 hcp hsub hf hud;go_wp2_with (refine ah rfl (bb 32 (.tmp 286) (.tmp 284) rfl X.U.blk 0 (bf X.U) 38 (.pointer (some ⟨d',0,none⟩)) HT5.a rfl rfl (by simp[bf]) (by kernel_rfl) rfl rfl ?_);intro W6 hT6;have o1:W6.cell? ⟨ob,1,none⟩=some (.int .i64 oa):=aa (hT6.sat.Q7 (b:=ob) (o:=oO ⟨8,oa,ob_,oc,os,ot,odv,od⟩) (by simp)) 1 rfl;have HT6:=qqH (show Turns [] ((X.U.blk,Is (az { X.U with d:=d' }))::(aI { X.R with closed:=true }++(aD d' L'++((ob,Is (oO ⟨8,oa,ob_,oc,os,ot,odv,od⟩))::aV X)))) w0 W6 from hT6);clear hT6;simp only[Act.put]);have hb0:0<w0.heap.size:=World.block_lt_of_cell? w0 _ (lR HH.x);have h6:Turns [] (((X.U.blk,Is (az { X.U with d:=d' }))::(aI { X.R with closed:=true }++aD d' L'))++((ob,Is (oO ⟨8,oa,ob_,oc,os,ot,odv,od⟩))::aV X)) w0 W6:=HT6.out.to ac;refine(sh (Φ d' L') { X.U with d:=d' } { X.R with closed:=true } L' oa W6 HH.a.r h6.sat.left ⟨HH.a.ref.vs,HH.a.ref.ts⟩ (Me HH.a) ⟨by have:=HO.c;show X.R.vs.length<=_;omega,by have:=HO.x;show X.R.ts.length<=_;omega⟩ (HH.x.keep h6.mods (fun h=>by simp at h)) (fun h0=>by have:=h6.Qs (b:=0) (by rw[cF];exact mem_append_left _ h0);omega) (fun W' hW'=>HO.a d' L' W' HT5.z hW')).mono ?_;rintro e W7 ⟨S',b',vv',tv',rfl,hΦ,hok,hT7⟩;have hfin:=HO.b d' L' S' b' vv' tv' HT5.z hΦ;have hT8:=h6.step (Perm.refl _) hT7;have HF:=Hq4 hfin hT8 hΦ hok;clear hfin hT8 hΦ hok hT7 h6;go_wp2_with fail;go_ret;refine ⟨rfl,d',L',S',b',vv',tv',HT5.z,HF.c,?_⟩;refine⟨HF.b.drop (fun x=>?_),rfl,rfl,HF.a.2.1.symm,HF.a.1,HF.x,HH.a.pok,HH.a.inp,HH.a.out,HH.a.want,HH.a.most,HH.a.ms,HF.a.2.2,HH.a.olen⟩;unfold wsF;rw[show aV (yJ X oa d' S' b' vv' tv')=aV X from rfl];unfold yJ Dw;simp only[ao,ai]<;>omega
end
section
open Go.RowKit Go.Maps
theorem Reach.grow{D r:Bs}{at_:Nat}{s:PSt}(h:Reach D at_ s):at_<=D.length->Reach (D++r) at_ s:=by
 induction h with
 | zero=>exact fun _=>.zero
 | @next at_ s s' k body n h ho hs ih =>
  intro hl;refine .next (ih (by omega)) ?_ hs;refine kK ho ?_;rw[drop_append_of_le_length (by omega),take_append_of_le_length (by rw[length_drop];omega)]
theorem rO{D b c:Bs}{a:Nat}(h1:dw D a b)(h2:dw D a c):b=c:=by
 have e1:ce (D.drop a)=some (1,b,b.length+9):=kK h1.2 (by rw[take_take,Nat.min_self]);have e2:ce (D.drop a)=some (1,c,c.length+9):=kK h2.2 (by rw[take_take,Nat.min_self]);rw[e1]at e2;simp only[Option.some.injEq,Prod.mk.injEq,true_and]at e2;exact e2.1
theorem Jn{K:KL}{D:Bs}(hk:∀e∈K,e.2.2=e.1.length/\dw D e.2.1 e.1){c:Bs}{q:Nat×Nat}(he:(c,q)∈K):kx K (q.1:Int)=some q.2:=by
 unfold kx
 cases hf:K.find? (fun e=>decide ((e.2.1:Int)=q.1))with
 | none=>exact absurd (find?_eq_none.1 hf _ he) (by simp)
 | some x =>
  have hx:=mem_of_find?_eq_some hf;have hx2:=find?_some hf;simp only[decide_eq_true_eq]at hx2;have h1:=hk x hx;have h2:=hk _ he;have hpos:x.2.1=q.1:=by omega
  rw[hpos]at h1;have:=rO h1.2 h2.2;simp only[Option.map_some,Option.some.injEq];rw[h1.1,h2.1,this]
theorem qM{K:KL}{D:Bs}(hk:∀e∈K,e.2.2=e.1.length/\dw D e.2.1 e.1):∀{chs:List (Nat×Nat)},(∀q∈chs,∃e∈K,e.2=q)->du (kx K) (br chs)=some chs
 | [],_=>rfl
 | q::r,h=>by
  obtain⟨e,he,rfl⟩:=h q (by simp)
  have h1:=Jn hk (c:=e.1) (q:=e.2) he
  have h2:=qM hk (chs:=r) (fun x hx=>h x (by simp[hx]))
  unfold br at h2 ⊢
  simp only[map_cons,du,h1,h2,Int.toNat_natCast]
variable {D:Bs} {X:ArchL} {ps:List ba} {pc:Nat} {cs:List kT} {cc:Nat} {ts:List fO} {tc:Nat} {sz:List (Ent Int)} {szc at_:Nat} {s:PSt}
theorem CtOk.more(h:CtOk D X ps pc cs cc ts tc sz szc at_ s)(r:Bs):CtOk (D++r) X ps pc cs cc ts tc sz szc at_ s :=
 { h with
  reach:=h.reach.grow h.le
  le:=by have:=h.le;rw[length_append];omega
  kat:=fun e he=>by rw[take_append_of_le_length h.le];exact h.kat e he }
theorem qY(D:Bs){k:UInt8}{body:Bs}(hk:k≠0)(hb:body.length<65536):ce ((D++frame k body).drop D.length)=some (k,body,body.length+9):=by
 rw[drop_left];have:=jt k body [] hk hb;rwa [append_nil]at this
theorem CtOk.Qp{body:Bs}(h:CtOk D X ps pc cs cc ts tc sz szc D.length s)(hb:body.length<65536)(hD:D.length<=4294967296){v:Value}(hv:bP v (bd cs (ef body)++[(D.length,body.length)])):
  CtOk (D++frame 1 body) { X with sc:=X.sc+1,sb:=X.sb+body.length } ps pc (eh cs cc (ef body) v (bd cs (ef body)++[(D.length,body.length)])) (cf (cs.map aN) cc (ef body)) ts tc (gF sz szc (D.length:Int) (.int .i64 body.length)) (cf sz szc (D.length:Int)) (D++frame 1 body).length { s with K:=s.K++[(body,D.length,body.length)] }:=by
 have:=(h.more (frame 1 body)).chunk (qY D (by decide) hb) hD hv;rw[length_append,aX];exact this
theorem CtOk.addVer{p:Bs}{num m b:Nat}{chs:List (Nat×Nat)}{cv v':Value}(h:CtOk D X ps pc cs cc ts tc sz szc D.length s)(hp:p.length<=20)(hnum:num<4294967296)(hm:m<65536)(hD:D.length<=4294967296)(hvl:(eF p num m (br chs)).length<65536)(hc:∀q∈chs,∃e∈s.K,e.2=q)(hsum:(chs.map (·.2)).sum=m)(hcv:bP cv chs)(hv:eT v' (af ps p++[⟨b,num,m,cv,chs,0⟩])):
  CtOk (D++frame 2 (eF p num m (br chs))) { X with used:=X.used+m } (kw ps pc p v' ⟨b,num,m,cv,chs,0⟩) (cf (ps.map aN) pc p) cs cc ts tc sz szc (D++frame 2 (eF p num m (br chs))).length { s with H:=s.H++[⟨p,num,m,chs,0⟩] }:=by
 have hkd:∀e∈s.K,e.2.2=e.1.length/\dw D e.2.1 e.1:=fun e he=>by
  obtain⟨h1,-,h3⟩:=h.kat e he;rw[take_length]at h3;exact⟨h1,h3⟩
 have hr:=xr (p:=p) (num:=num) (size:=m) (ats:=br chs) (by omega) hnum hm (fun n hn=>by
  obtain⟨q,hq,rfl⟩:=mem_map.1 hn;obtain⟨e,he,rfl⟩:=hc q hq;have:=(hkd e he).2.1;omega)
 have:=(h.more (frame 2 (eF p num m (br chs)))).ver (by decide) (qY D (by decide) hvl) hr (qM hkd hc) hsum hcv hv;rw[length_append,aX];exact this
theorem CtOk.addTag{p m:Bs}{n:Nat}(h:CtOk D X ps pc cs cc ts tc sz szc D.length s)(hp:p.length<=20)(hm:m.length<=20)(hok:OkS m)(hn:n<4294967296)(hbl:(dG p m n).length<65536):
  CtOk (D++frame 4 (dG p m n)) X (cM ps p n 1) pc cs cc (eh ts tc m (mE m (p,(n:Int))) (p,(n:Int))) (cf (ts.map aN) tc m) sz szc (D++frame 4 (dG p m n)).length { s with H:=fy s.H p n 1,T:=ma s.T (m,p,(n:Int)) }:=by
 have hs:fC D.length s 4 (dG p m n)=some { s with H:=fy s.H p n 1,T:=ma s.T (m,p,(n:Int)) }:=by
  unfold fC;rw[if_neg (by decide),ri (.inl rfl) (by omega) (by omega) hn];dsimp only;rw[if_pos rfl]
 have:=(h.more (frame 4 (dG p m n))).tag (qY D (by decide) hbl) (by omega) (uZ h.tags hok (p,(n:Int))) (by rw[Cd,h.tagT]) (Bl _ _) (fun t ht=>by
  rcases Bn ht with rfl|ht
  ·exact⟨by show m.length<=255;omega,by show p.length<=255;omega,by show(0:Int)<=n;omega,by show(n:Int)<4294967296;omega⟩
  ·exact h.cnt.tag t ht) hs
 rw[length_append,aX];exact this
theorem lu{κ:Type}{Ok:κ->Prop}{c:Nat}:MapOk Ok ([]:List (Ent κ)) c:=⟨nodup_nil,nodup_nil,(fun e he=>by cases he),(fun e he=>by cases he)⟩
theorem CtOk.empty{X:ArchL}(hX:X.used=0/\X.sc=0/\X.sb=0):CtOk [] X [] 0 [] 0 [] 0 [] 0 ([]:Bs).length ⟨[],[],[]⟩ where
 reach:=.zero
 le:=Nat.le_refl _
 cnt:=⟨by simp,(fun h hh=>by cases hh),(fun h hh=>by cases hh),(fun h hh=>by cases hh)⟩
 paths:=⟨lu,fun p hp=>by cases hp⟩
 chunks:=⟨lu,fun p hp=>by cases hp⟩
 tags:=⟨lu,fun p hp=>by cases hp⟩
 kin:=fun k=>by simp[bd,gOf]
 kat:=fun e he=>by cases he
 hist:=fun l=>by simp[af,gOf]
 nem:=fun p hp=>by cases hp
 chsK:=fun h hh=>by cases hh
 used:=by rw[hX.1];rfl
 sc:=by rw[hX.2.1];rfl
 sb:=by rw[hX.2.2];rfl
 map:=lu
 get:=fun k=>by simp[dz,kx]
 tagT:=rfl
end
section
open Go.RowKit Go.Maps
def Sec(now:Bs)(e n:Nat):Prop:=∃(us:Nat->Option (Nat×Nat)) (wh:Nat) (rest:List (Nat×Nat)),(∀k,k<2->wn now us k)/\jz (lE us 2)=(e,wh)::rest/\cD now 2=false/\wh<=n/\wh<4294967296
theorem Sec.to{now now':Bs}{e n n':Nat}(h:Sec now e n)(h0:∀k,k<2->aM now' k=aM now k)(hn:n<=n'):Sec now' e n':=by
 obtain⟨us,wh,rest,h1,h2,h3,h4,h5⟩:=h;refine⟨us,wh,rest,fun k hk=>by unfold wn;rw[h0 k hk];exact h1 k hk,h2,?_,by omega,h5⟩;rw[<- h3];unfold cD;exact decide_eq_decide.2 ⟨fun h j hj=>by rw[<- h0 j hj];exact h j hj,fun h j hj=>by rw[h0 j hj];exact h j hj⟩
structure Told (S:AS) (rs:j0) (H:List HV):Prop where
 ok:xZ rs
 data:S.data=cC rs
 run:lf 0 ⟨[],[],[]⟩ rs=some ⟨S.K,H,S.ts.map eZ⟩
 hist:∀l,(af S.ps l).map bI=(H.filter (fun h=>decide (h.p=l))).map cY
 sec:Sec S.L.now S.X.ep S.data.length
 used:S.X.used=((H.map (·.size)).sum:Nat)
theorem jw(l:Bs)(k:Nat):aM l k=aC l k 1:=by unfold aM aC;rfl
theorem Told.flush{S:AS}{rs:j0}{H:List HV}(h:Told S rs H){L':DevL}(hf:L'.now=S.L.now):Told (iX S L') rs H :=
 ⟨h.ok,h.data,h.run,h.hist,h.sec.to (fun k _=>by show aM L'.now k=_;rw[hf]) (Nat.le_refl _),h.used⟩
theorem Told.close{S:AS}{rs:j0}{H:List HV}(h:Told S rs H):Told (oX S) rs H:=⟨h.ok,h.data,h.run,h.hist,h.sec,h.used⟩
theorem Told.spare{S:AS}{rs:j0}{H:List HV}(h:Told S rs H)(sp:List (Nat×Nat×Nat)):Told (ed S sp) rs H:=⟨h.ok,h.data,h.run,h.hist,h.sec,h.used⟩
def zH(S S':AS):Prop:=(∀l,(af S'.ps l).map bI=(af S.ps l).map bI)/\S'.K=S.K/\S'.ts.map eZ=S.ts.map eZ
theorem E2{l l':List VerL}(h:l'.map bI=l.map bI):∀V'∈l',∃V∈l,bI V=bI V':=fun V' hV'=>by
 have:bI V'∈l.map bI:=by rw[<- h];exact mem_map.2 ⟨V',hV',rfl⟩
 obtain⟨V,hV,e⟩:=mem_map.1 this
 exact⟨V,hV,e⟩
theorem xI{S S':AS}(hK:S'.K=S.K):∀{l l':List VerL},l'.map bI=l.map bI->l'.map (cX S')=l.map (cX S)
 | [],[],_=>rfl
 | [],_::_,h=>by cases h
 | _::_,[],h=>by cases h
 | V::l,V'::l',h=>by
  simp only[map_cons,List.cons.injEq]at h ⊢
  refine⟨?_,xI hK h.2⟩
  have h1:=h.1
  unfold bI at h1
  simp only[Prod.mk.injEq]at h1
  unfold cX cE
  rw[hK,h1.1,h1.2.2.1,h1.2.2.2]
theorem OpenIs.eX{d:Nat}{L:DevL}{q:Int}{e:Nat}{D:Bs}{S:AS}(h:OpenIs d L q e D S):S.X.d=d/\S.X.ep=e/\S.X.quota=cW q/\S.X.closed=false/\S.X.broken=.nilIface:=by
 obtain⟨us,sc,sb,hX⟩:=h.X;refine⟨?_,?_,?_,?_,?_⟩<;>(rw[hX];rfl)
theorem Told.open{S:AS}{rs:j0}{H:List HV}(h:Told S rs H)(hok:ArOk S){d':Nat}{L':DevL}{q:Int}{S':AS}(hn:L'.n=S.L.n)(hnow:L'.now=S.L.now)(ho:OpenIs d' L' q S.X.ep (aC L'.now (2+S.X.ep%2*ay L'.n) (ay L'.n)) S'):
  ∃sz szc,CtOk (S.data++am (128*S.A.count-S.data.length)) S'.X S'.ps S'.pc S'.cs S'.cc S'.ts S'.tc sz szc S.data.length ⟨S.K,H,S.ts.map eZ⟩/\S'.K=S.K/\S'.data=S.data:=by
 have hD:aC L'.now (2+S.X.ep%2*ay L'.n) (ay L'.n)=cC rs++am (128*S.A.count-S.data.length):=by
  have h1:=hok.dat.1;have h2:S.A.first=2+S.X.ep%2*ay L'.n:=by rw[hok.first,hn]
  have h3:S.A.count=ay L'.n:=by rw[hok.count,hn]
  rw[hnow,<- h2,<- h3,h1,h.data]
 obtain⟨at_,s,sz,szc,hct,href,hdat,hK⟩:=ho.ct;rw[hD]at hct href hdat;obtain⟨rfl,rfl⟩:=xB h.ok hct.reach href h.run;refine⟨sz,szc,by rw[h.data]at hct ⊢;exact hct,hK.symm,?_⟩;rw[hdat,take_left,h.data]
theorem Gr{S S':AS}(hok:ArOk S){d':Nat}{L':DevL}{q:Int}{D0 D:Bs}(hn:L'.n=S.L.n)(ho:OpenIs d' L' q S.X.ep D0 S'){sz:List (Ent Int)}{szc:Nat}{H:List HV}{rest:Bs}(hD:D=S.data++rest)(hct:CtOk D S'.X S'.ps S'.pc S'.cs S'.cc S'.ts S'.tc sz szc S.data.length ⟨S.K,H,S.ts.map eZ⟩)(hK:S'.K=S.K)(hdat:S'.data=S.data):ArOk S':=by
 obtain⟨-,e2,-,-,e5⟩:=ho.eX
 have hversH:∀p∈S'.ps,∀V∈p.g,∃h∈H,cY h=bI V:=fun p hp V hV=>by
  have h1:=hct.hist p.key;rw[go hct.paths hp]at h1;have h2:bI V∈p.g.map bI:=mem_map.2 ⟨V,hV,rfl⟩;rw[h1]at h2;obtain⟨h,hh,e⟩:=mem_map.1 h2;exact⟨h,(mem_filter.1 hh).1,e⟩
 refine⟨ho.dev.1,by rw[ho.dev.2.1,hn];exact hok.n16,by rw[ho.dev.2.1,hn];exact hok.nmax,⟨by rw[ho.A.2.2.2.1];exact pv _,by rw[ho.A.2.2.2.2];simp,by rw[ho.A.2.2.2.2];intro s hs;cases hs⟩,by rw[ho.A.1,e2,ho.dev.2.1],by rw[ho.A.2.1,ho.dev.2.1],ho.A.2.2.1,ho.A.2.2.2.1,ho.dat,hct.paths,hct.tags,hct.chunks,?_,?_,?_,hct.nem,e5,by rw[e2];exact hok.ep⟩
 ·intro k;rw[hK];exact hct.kin k
 ·intro e he;rw[hK]at he;obtain⟨h1,-,h3⟩:=hct.kat e he;refine⟨h1,?_⟩;rw[hD,take_left]at h3;rw[hdat];exact h3
 ·intro p hp V hV;obtain⟨h,hh,e⟩:=hversH p hp V hV;obtain⟨h1,h2⟩:=hct.chsK h hh;unfold cY bI at e;simp only[Prod.mk.injEq]at e;rw[hK,<- e.2.1,<- e.2.2.1];exact⟨h1,h2⟩
theorem BE{S S':AS}{R R2:RefL}(L:Link S R)(hv:zH S S')(hu:S'.X.used=S.X.used)(hvs:R2.vs=R.vs)(hrt:R2.ts=R.ts)(hq:R2.quota=S'.X.quota)(hc:R2.closed=S'.X.closed):Link S' R2 where
 closed:=hc
 quota:=hq
 used:=by rw[hu,hvs];exact L.used
 vers:=fun p=>by rw[hvs,xI hv.2.1 (hv.1 p)];exact L.vers p
 sorted:=by rw[hvs];exact L.sorted
 asc:=fun p=>by rw[hvs];exact L.asc p
 each:=by rw[hvs];exact L.each
 tags:=by rw[hrt];have:=L.tags;rw[show S.ts.map jL=S'.ts.map jL from hv.2.2.symm]at this;exact this
 tsort:=by rw[hrt];exact L.tsort
 teach:=by rw[hrt,hvs];exact L.teach
 held:=by rw[hrt,hvs];exact L.held
theorem Kn{S S':AS}(hok':ArOk S')(hv:zH S S'):S'.ps.length<=S.ps.length:=by
 have h1:(S'.ps.map (·.key)) ⊆ (S.ps.map (·.key)):=fun k hk=>by
  obtain⟨p,hp,rfl⟩:=mem_map.1 hk;have h2:=hv.1 p.key;rw[go hok'.paths hp]at h2
  have hne:af S.ps p.key≠[]:=fun e=>by
   rw[e]at h2;exact hok'.some p hp (map_eq_nil_iff.1 h2)
  obtain⟨q,hq,hk,-⟩:=bD hne;exact mem_map.2 ⟨q,hq,hk⟩
 have h3:=(lW hok'.paths).length_le_of_subset h1;simpa using h3
theorem Je{S S':AS}{b:Nat}(hB:ArB S b)(_:ArOk S)(hok':ArOk S')(hv:zH S S')(hu:S'.X.used=S.X.used)(hsc:S'.X.sc=S'.K.length)(hsb:S'.X.sb=((S'.K.map (·.1.length)).sum:Nat))(hsb2:(S.K.map (·.1.length)).sum<=65536*b)(hq:S'.X.quota.natAbs<=9223372036854775807)(hch:S'.L.chs=[])(hkl:∀p∈S'.ps,p.key.length<=255):ArB S' b where
 K:=by rw[hv.2.1];exact hB.K
 np:=Nat.le_trans (Kn hok' hv) hB.np
 nt:=by have:=congrArg length hv.2.2;rw[length_map,length_map]at this;rw[this];exact hB.nt
 vers:=fun p hp=>by
  have h2:=hv.1 p.key
  rw[go hok'.paths hp]at h2
  have hne:af S.ps p.key≠[]:=fun e=>by
   rw[e]at h2
   exact hok'.some p hp (map_eq_nil_iff.1 h2)
  obtain⟨q,hq,hk,hg⟩:=bD hne
  have h3:=hB.vers q hq
  rw[<- hg]at h2
  refine⟨hkl p hp,?_,fun V hV=>?_⟩
  ·have:=congrArg length h2
   rw[length_map,length_map]at this
   rw[this];exact h3.2.1
  ·obtain⟨V0,hV0,e⟩:=E2 h2 V hV
   have h4:=h3.2.2 V0 hV0
   unfold bI at e
   simp only[Prod.mk.injEq]at e
   rw[<- e.1,<- e.2.1,<- e.2.2.1,<- e.2.2.2]
   exact h4
 tags:=fun p hp=>by
  have h1:eZ p∈S'.ts.map eZ:=mem_map.2 ⟨p,hp,rfl⟩
  rw[hv.2.2]at h1
  obtain⟨p0,hp0,e⟩:=mem_map.1 h1
  have h2:=hB.tags p0 hp0
  unfold eZ at e
  simp only[Prod.mk.injEq]at e
  rw[<- e.1,<- e.2.1,<- e.2.2];exact h2
 used:=by rw[hu];exact hB.used
 sc:=by rw[hsc,hv.2.1];have:=hB.K;omega
 sb:=by rw[hsb,hv.2.1];omega
 quota:=hq
 chs:=by rw[hch];simp
theorem uI:∀(l:List Bs) (a:Nat) (s:PSt),lf a s (l.map (fun c=>(1,c)))=some { s with K:=s.K++b8 a l }
 | [],a,s=>by simp[lf,b8]
 | c::l,a,s=>by
  simp only[map_cons,lf,fC,if_true,Option.bind_some,b8]
  rw[uI l]
  simp only[Option.some.injEq,PSt.mk.injEq,and_true,append_assoc,cons_append,nil_append]
  rw[Nat.add_assoc]
theorem An(l:List Bs):cC (l.map (fun c=>((1:UInt8),c)))=dY l:=by
 unfold cC dY;rw[map_map];rfl
theorem Im{S:AS}(hok:ArOk S){chs:List (Nat×Nat)}(h:∀q∈chs,∃e∈S.K,e.2=q):du (kx S.K) (br chs)=some chs:=qM hok.kat h
theorem uh:∀{l:List Nat} {n:Nat},n∈l->n<=l.sum
 | a::r,n,h=>by
  rw[sum_cons]
  rcases mem_cons.1 h with rfl|h
  ·omega
  ·have:=uh h;omega
theorem Told.put{S S':AS}{rs:j0}{H:List HV}(h:Told S rs H)(hok:ArOk S)(hok':ArOk S'){l D:Bs}{V:VerL}(hp:PutStep S S' l D V)(hl:l.length<=20)(hD:D.length<=4000)(hnum:V.num<4294967296)(hdl:S'.data.length<4294967296):
  Told S' (rs++(bC S D).map (fun c=>(1,c))++[(2,eF l V.num V.size (br V.chs))]) (H++[⟨l,V.num,V.size,V.chs,0⟩]):=by
 have hfl:∀c∈bC S D,c.length<65536:=fun c hc=>by
  have h1:=iY S D;have h2:c.length<=((bC S D).map length).sum:=uh (mem_map.2 ⟨c,hc,rfl⟩);omega
 have hVm:V∈af S'.ps l:=by rw[hp.vers,if_pos rfl];simp
 obtain⟨p,hpm,-,hpg⟩:=bD (ne_nil_of_mem hVm);have hV:=hok'.vers p hpm V (hpg ▸ hVm)
 have hdat:S'.data=cC (rs++(bC S D).map (fun c=>(1,c))++[(2,eF l V.num V.size (br V.chs))]):=by
  rw[hp.data,dL,dL,An,h.data];simp[cC]
 have hvl:(eF l V.num V.size (br V.chs)).length<65536:=by
  have h1:=ga l V.num V.size V.chs;rw[aX]at h1;have h2:=ue D;have h3:=hp.nchs;have h4:(au D).length=(aE D).length:=by unfold au;rw[cA]
  omega
 refine⟨fun r hr=>?_,hdat,?_,fun m=>?_,?_,?_⟩
 ·rcases mem_append.1 hr with hr|hr
  ·rcases mem_append.1 hr with hr|hr
   ·exact h.ok r hr
   ·obtain⟨c,hc,rfl⟩:=mem_map.1 hr;exact⟨show(1:UInt8)≠0 by decide,hfl c hc⟩
  ·obtain rfl:=mem_singleton.1 hr;exact⟨show(2:UInt8)≠0 by decide,hvl⟩
 ·have hr:=xr (p:=l) (num:=V.num) (size:=V.size) (ats:=br V.chs) (by omega) hnum (by rw[hp.size];omega) (fun n hn=>by
   obtain⟨q,hq,rfl⟩:=mem_map.1 hn;obtain⟨e,he,rfl⟩:=hV.1 q hq;have:=(hok'.kat e he).2.1;omega)
  rw[gk,gk,h.run,Option.bind_some,uI,Option.bind_some];have hKe:S.K++b8 (0+(cC rs).length) (bC S D)=S'.K:=by rw[hp.K,Nat.zero_add,<- h.data]
  simp only[lf,fC];rw[if_neg (by decide),hr];dsimp only;rw[hKe,Im hok' hV.1];dsimp only;rw[if_pos hV.2.symm,hp.ts];rfl
 ·rw[hp.vers,filter_append,map_append];by_cases hm:m=l
  ·subst hm;rw[if_pos rfl,map_append,h.hist];congr 1;simp[bI,cY,hp.held]
  ·rw[if_neg hm,h.hist];have:¬l=m:=fun e=>hm e.symm
   simp[this]
 ·rw[hp.ep];exact h.sec.to (fun k hk=>by rw[jw,hp.other k 1 (.inl (by rw[hok.first];omega)),<- jw]) (by rw[hp.data];simp)
 ·rw[hp.used,h.used,map_append,sum_append];simp[hp.size]
def LX(k:Nat):Option (Nat×Nat):=if k=1 then some (1,0)else none
theorem KI{now:Bs}(h1:aM now 1=cH 1 0)(h0:aM now 0=am 128)(n:Nat):Sec now 1 n:=by
 refine⟨LX,0,[],fun k hk=>?_,rfl,?_,by omega,by omega⟩
 ·rcases(show k=0\/k=1 by omega)with rfl|rfl
  ·exact .inl ⟨rfl,by rw[h0];exact qj 128⟩
  ·exact .inr ⟨1,0,rfl,h1,rfl,by omega,by omega⟩
 ·unfold cD;refine decide_eq_false (fun hz=>D6 1 0 ?_);rw[<- h1];exact hz 1 (by omega)
theorem D5{n:Nat}{q:Int}{d:Nat}{S:AS}(h:lJ n q d S):Told S [] []:=by
 obtain⟨-,-,-,-,h5,-,-,h8,h9,h10,h11,-,-,h14,-,h16,h17⟩:=h;exact⟨(fun r hr=>by cases hr),by rw[h11];rfl,by rw[h10,h9];rfl,fun l=>by rw[h8];rfl,by rw[h14];exact KI h16 h17 _,by rw[h5];rfl⟩
theorem Dr{n:Nat}{q:Int}{d:Nat}{S:AS}(h:lJ n q d S){R:RefL}(hv:R.vs=[])(ht:R.ts=[])(hq:R.quota=cW q)(hc:R.closed=false):Link S R:=by
 obtain⟨-,-,h3,h4,h5,-,-,h8,h9,-⟩:=h;refine⟨by rw[hc,h3],by rw[hq,h4],by rw[h5,hv];rfl,fun p=>by rw[h8,hv];rfl,by rw[hv];exact Pairwise.nil,fun p=>by rw[hv];exact Pairwise.nil,(by rw[hv];intro v hv;cases hv),by rw[h9,ht];exact Perm.refl _,by rw[ht];exact Pairwise.nil,(by rw[ht];intro v hv;cases hv),(by rw[hv];intro v hv;cases hv)⟩
def m9(S:AS)(L':DevL)(r:Bs):AS:={ S with A:={ S.A with end_:=(S.data++r).length,tail:=bF (S.data++r) },L:=L',data:=S.data++r }
structure RecIs (S:AS) (L':DevL) (r:Bs):Prop where
 dev:DevOk L'
 n:L'.n=S.L.n
 dat:ez L'.now S.A.first S.A.count (S.data++r)
 oth:∀f2 c2,(f2+c2<=S.A.first\/S.A.first+S.A.count<=f2)->aC L'.now f2 c2=aC S.L.now f2 c2
 chs:L'.chs.length<=S.L.chs.length+r.length
theorem yT{S:AS}{L':DevL}{r:Bs}(hok:ArOk S)(h:RecIs S L' r):ArOk (m9 S L' r) where
 dev:=h.dev
 n16:=by show 16<=L'.n;rw[h.n];exact hok.n16
 nmax:=by show L'.n<=_;rw[h.n];exact hok.nmax
 area:=⟨pv _,hok.area.few,hok.area.caps⟩
 first:=by show S.A.first=2+S.X.ep%2*ay L'.n;rw[h.n];exact hok.first
 count:=by show S.A.count=ay L'.n;rw[h.n];exact hok.count
 end_:=rfl
 tail:=rfl
 dat:=h.dat
 paths:=hok.paths
 tags:=hok.tags
 chunks:=hok.chunks
 kin:=hok.kin
 kat:=fun e he=>⟨(hok.kat e he).1,(hok.kat e he).2.more⟩
 vers:=hok.vers
 some:=hok.some
 sound:=hok.sound
 ep:=hok.ep
def mD(sb:Nat)(rv:Value)(r:Bs):HF:=(sb,Is (.cells #[rv] 35 (0,0)))::aA rv r
def zl(S:AS)(J:HF)(r:Bs)(w:World)(e:Ending)(w':World):Prop :=
 (128*S.A.count<S.data.length+r.length/\e=.returned (ck 8)/\aQ w w') \/
 (S.data.length+r.length<=128*S.A.count/\e=.returned .nilIface/\∃L',RecIs S L' r/\Turns (arF S++J) (arF (m9 S L' r)++J) w w')
theorem kW(S:AS)(hok:ArOk S)(b:Nat)(hB:ArB S b)(hb:b<=90000)(rv:Value)(r:Bs)(sb:Nat)(w:World)(h:Sat w (arF S++mD sb rv r))(hr:bOk rv r)(hrl:r.length<=70000):
  Calls Tryz.prog 56 #[.pointer (some ⟨S.a,0,none⟩),.slice (some ⟨sb,0,none⟩) 1 1] w (zl S (mD sb rv r) r w):=by
 have hsbo:=h.Q7 (b:=sb) (o:=.cells #[rv] 35 (0,0)) (by simp[mD]);have hT0:=(Turns.refl h).to (H:=((S.a,Is (aJ S.X))::(ap S.X.ab S.X.d S.A++aD S.X.d S.L))++((aF S.X.pm S.ps S.pc++(bU S.X.tm S.ts S.tc++aP S.X.cm S.cs S.cc))++mD sb rv r)) (by unfold arF;exact ac);have hsum:fR [r]=r.length:=by simp[fR]
 have hout:∀x,x∈dom (mD sb rv r)->x∉dom (ap S.X.ab S.X.d S.A++aD S.X.d S.L):=fun x hx hd =>
  hT0.sat.Qh (b:=x) (by rw[gI];exact mem_cons_of_mem _ hd) (by rw[cF];exact mem_append_right _ hx)
 have hsub:Sat w (aA rv r):=h.sub (fun x=>by unfold mD;simp only[ai,ao];omega)
 refine(pR S.a S.X S.X.ab S.X.d rfl S.A S.L S.data [r] [rv] (some ⟨sb,0,none⟩) 1 w hT0.sat.left hok.sound hok.dev hok.fits hok.nmax hok.end_ hok.tail hok.dat rfl (by simp) (by rw[hsum];omega) (by have:=hB.chs;rw[hsum];omega)
  (fun _=>⟨sb,0,rfl,fun j hj=>by
   obtain rfl:j=0:=by simp at hj;omega
   exact aa hsbo 0 rfl⟩) (fun x hx=>?_) (fun k h1 h2=>?_)).mono ?_
 ·simp only[Option.some.injEq]at hx;subst hx;exact hout sb (by simp[mD])
 ·obtain rfl:k=0:=by simp at h1;omega
  obtain⟨ka,kc,ke,-,kcap,kcells,kown⟩:=aL (cZ hsub hr);refine⟨ka,kc,ke,kcap,EO (cZ hsub hr) ke,kcells,fun x hx=>?_⟩;have hin:x.block∈dom (aA rv r):=(eK _ _ _ _ _ _).2 (kown x hx);exact⟨hout x.block (by unfold mD;rw[gI];exact mem_cons_of_mem _ hin),hsub.lt hin⟩
 ·rintro e w' (⟨h1,rfl,hs⟩|⟨h1,rfl,L',hT,g1,g2,g3,g4,g5⟩)
  ·rw[hsum]at h1;exact .inl ⟨h1,rfl,hs⟩
  ·rw[hsum]at h1;have hf:[r].flatten=r:=by simp
   rw[hf]at hT g3 g5;refine .inr ⟨h1,rfl,L',⟨g1,g2,g3,g4,g5⟩,?_⟩;have h5:=hT0.step (F:=ap S.X.ab S.X.d S.A++aD S.X.d S.L) (R:=(S.a,Is (aJ S.X))::((aF S.X.pm S.ps S.pc++(bU S.X.tm S.ts S.tc++aP S.X.cm S.cs S.cc))++mD sb rv r)) ac hT;refine h5.to ?_;unfold arF m9;exact ac
def iu(S:AS)(p:Bs)(ns:List Int)(v':Value)(L':DevL):AS :=
 { m9 S L' (frame 3 (dA p ns))with X:=i7 S.X (S.X.used-(bO ns (af S.ps p):Nat)),ps:=fZ S.ps S.pc p v' ns }
theorem IE{S:AS}{p:Bs}{ns:List Int}{v':Value}{L':DevL}(hok:ArOk S)(h:RecIs S L' (frame 3 (dA p ns)))(hl:OkS p)(hv:eT v' (dC ns (af S.ps p)))(hne:af S.ps p≠[]):ArOk (iu S p ns v' L'):=by
 have hr:=yT hok h;obtain⟨q,hq,hqk,hqg⟩:=jM hne;refine { hr with paths:=Av hok.paths hl hv hne,some:=wN hok.some,vers:=fun x hx V hV=>?_ };have hx2:x∈fZ S.ps S.pc p v' ns:=hx;unfold fZ at hx2;split at hx2
 ·exact hok.vers x (mem_filter.1 hx2).1 V hV
 ·rcases fA hx2 with⟨h1,_⟩|⟨_,_,h3⟩
  ·exact hok.vers x h1 V hV
  ·rw[h3]at hV;exact hok.vers q hq V (hqg ▸ (mem_filter.1 hV).1)
def j5(S:AS)(p:Bs)(ns:List Int)(J:HF)(w:World)(e:Ending)(w':World):Prop :=
 (128*S.A.count<S.data.length+(frame 3 (dA p ns)).length/\e=.returned (ck 8)/\Turns (arF S++J) (arF S++J) w w') \/
 (S.data.length+(frame 3 (dA p ns)).length<=128*S.A.count/\e=.returned .nilIface/\∃v' L',RecIs S L' (frame 3 (dA p ns))/\eT v' (dC ns (af S.ps p))/\Turns (arF S++J) (arF (iu S p ns v' L')++J) w w')
theorem Jq{S:AS}{b:Nat}(_:ArOk S)(hB:ArB S b)(hb:b<=90000)(p:Bs):rC S.X.used (af S.ps p):=by
 have hu:=hB.used;by_cases hne:af S.ps p=[]
 ·rw[hne];exact⟨by omega,by omega,by simp,by simp⟩
 ·obtain⟨q,hq,hqk,hqg⟩:=jM hne;have h1:=hB.vers q hq
  have h2:((af S.ps p).map (·.size)).sum<=65536*b*(af S.ps p).length:=by
   rw[hqg]
   have:∀l:List VerL,(∀V∈l,V.size<=65536*b)->(l.map (·.size)).sum<=65536*b*l.length:=fun l=>by
    induction l with
    | nil=>intro _;simp
    | cons V r ih =>
     intro h;have h1:=h V (by simp);have h2:=ih (fun x hx=>h x (by simp[hx]));simp only[map_cons,sum_cons,length_cons,Nat.mul_add,Nat.mul_one];omega
   exact this _ (fun V hV=>(h1.2.2 V hV).2.2.1)
  have h3:(af S.ps p).length<=b:=by rw[hqg];exact h1.2.1
  have h4:65536*b*(af S.ps p).length<=65536*90000*90000:=Nat.mul_le_mul (Nat.mul_le_mul (Nat.le_refl _) hb) (by omega);exact⟨by omega,by omega,by omega,by omega⟩
theorem qp(S:AS)(hok:ArOk S)(b:Nat)(hB:ArB S b)(hb:b<=90000)(p:Bs)(v:Value)(ns:List Int)(w:World)(h:Sat w (arF S++bZ v ns))(hio:iOk v ns)(hp:p.length<=255)(hn:∀n∈ns,I64 n)(hnl:ns.length<=15000)(hne:af S.ps p≠[]):
  Calls Tryz.prog 64 #[.pointer (some ⟨S.a,0,none⟩),str p,v] w (j5 S p ns (bZ v ns) w):=by
 obtain⟨sl,cap,hv,-,-,hcs,-⟩:=aL (aR h.right hio);have hrl:(frame 3 (dA p ns)).length<=70000:=by simp only[aX,dA,length_append,bw,cr];omega
 have HW:=qqH (fun W (hW:aQ w W)=>sB 3 p sl cap ns W (hcs.keep hW (fun _ _ _=>id)) hp hn (by omega));obtain⟨rec,hrec⟩:∃rec,rec=frame 3 (dA p ns):=⟨_,rfl⟩;rw[<- hrec]at HW hrl;have hal:S.a<w.heap.size:=ae (h.Q7 (b:=S.a) (o:=aJ S.X) (by simp[arF]));have HH:=Hq8 h hio hok hB hne hrec hp hrl;clear h hio hok hB hne hrec hcs hp hn hrl;subst hv;go_enter Tryz.func64,Tryz.ntmps64;go_wp2_with fail;refine(HW.out _ (Mods.refl _ _)).mono ?_;rintro e w1 ⟨rv,rfl,hbo,hT1⟩;obtain⟨ra,rc,hrv,-⟩:=aL (cZ hT1.sat hbo);subst hrv;have hT2:=((Turns.refl HH.a).Qb hT1).Q8 (.cells #[.slice ra rec.length rc] 35);have hT3:=hT2.to (H:=(arF S++mD w1.heap.size (.slice ra rec.length rc) rec)++bZ (.slice sl ns.length cap) ns) (by unfold mD;exact ac);have HC:=qqH (kW S HH.c b HH.d hb (.slice ra rec.length rc) rec w1.heap.size _ hT3.sat.left hbo HH.t);have hal2:=ae (hT3.sat.Q7 (b:=S.a) (o:=aJ S.X) (by simp[arF]));have H3:=qqH hT3;clear hT1 hT2 hT3 hbo;go_wp2_with fail;refine HC.out.mono ?_;rintro e w2 (⟨hful,rfl,hs⟩|⟨hfit,rfl,L',hR,hT4⟩)
 ·have H4:=Hq2 hful (H3.out.Q9 hs);clear hful hs;go_wp2_with fail;go_ret;refine (.inl ⟨by rw[<- HH.f];exact H4.a,rfl,?_⟩);exact H4.z.drop (fun x=>by simp only[ai];omega)
 ·have hT5:=H3.out.step (Perm.refl _) hT4;have hT6:=hT5.to (H:=((S.a,Is (aJ S.X))::(aF S.X.pm S.ps S.pc++bZ (.slice sl ns.length cap) ns))++((ap S.X.ab S.X.d (m9 S L' rec).A++(aD S.X.d L'++(bU S.X.tm S.ts S.tc++aP S.X.cm S.cs S.cc)))++mD w1.heap.size (.slice ra rec.length rc) rec)) (by unfold arF m9;exact ac);have HD:=qqH (tN S.a S.X S.ps S.pc p (.slice sl ns.length cap) ns w2 hT6.sat.left HH.b HH.c.paths (by unfold OkS;have:=HH.g;omega) HH.e (Jq HH.c HH.d hb p) (by omega));have hal3:S.a<w2.heap.size:=ae hT6.sat.Q5;have H6:=Hq3 hT6 hfit hR;clear hT4 hT5 hT6 hfit hR;go_wp2_with fail;refine HD.out.mono ?_;rintro e w3 ⟨v',rfl,hv',hT7⟩;have H7:=Hq2 hv' (H6.a.step (Perm.refl _) hT7);clear hv' hT7;go_wp2_with fail;go_ret;refine (.inr ⟨by rw[<- HH.f];exact H6.b,rfl,v',L',by rw[<- HH.f];exact H6.y,H7.a,?_⟩);refine H7.z.drop (fun x=>?_);unfold iu arF m9 i7;rw[<- HH.f];simp only[ao,ai];omega
structure AB (S:AS) (M:List Bs):Prop where
 kM:S.K.map (·.1)=M
 nd:M.Nodup
 cut:∀l,∀V∈af S.ps l,V.chs.map (bq S.K)=au (cE S V)
 sc:S.X.sc=M.length
 sb:S.X.sb=(fB M:Nat)
theorem kz(l:List Bs):∀(cs acc:List Bs),dU (l++acc) cs=l++bX l acc cs
 | [],acc=>rfl
 | c::r,acc=>by
  show dU (mC (l++acc) c) r=_
  unfold mC
  simp only[mem_append]
  unfold bX
  split
  ·exact kz l r acc
  ·rw[append_assoc];exact kz l r (acc++[c])
theorem kA:∀(cs l:List Bs),l.Nodup->(dU l cs).Nodup
 | [],l,h=>h
 | c::r,l,h=>by
  show(dU (mC l c) r).Nodup
  refine kA r _ ?_
  unfold mC
  split
  ·exact h
  ·rename_i hc
   exact nodup_append.2 ⟨h,nodup_cons.2 ⟨by simp,nodup_nil⟩,fun a ha b hb=>by
    obtain rfl:=mem_singleton.1 hb
    exact fun e=>hc (e ▸ ha)⟩
theorem up:∀(l:List Bs) (a:Nat),(b8 a l).map (·.1)=l
 | [],_=>rfl
 | c::r,a=>by simp only[b8,map_cons,up r]
theorem qt(a b:List Bs):fB (a++b)=fB a+fB b:=by unfold fB;rw[map_append,sum_append]
theorem AB.of{S S':AS}{M:List Bs}(h:AB S M)(hK:S'.K=S.K)(hsc:S'.X.sc=S.X.sc)(hsb:S'.X.sb=S.X.sb)(hv:∀l,∀V∈af S'.ps l,∃V0∈af S.ps l,V0.chs=V.chs):AB S' M:=by
 refine⟨by rw[hK];exact h.kM,h.nd,fun l V hV=>?_,by rw[hsc];exact h.sc,by rw[hsb];exact h.sb⟩;obtain⟨V0,h0,e⟩:=hv l V hV;have:=h.cut l V0 h0;unfold cE at this ⊢;rw[hK,<- e];exact this
theorem EI(K:KL):∀{l:List Bs} {m:List (Nat×Nat)},m.length=l.length->(∀e∈l.zip m,bq K e.2=e.1)->m.map (bq K)=l
 | [],[],_,_=>rfl
 | c::l,q::m,h,hz=>by
  rw[map_cons,hz (c,q) (by simp),EI K (by simpa using h) (fun e he=>hz e (by simp[he]))]
theorem AB.put{S S':AS}{M:List Bs}(h:AB S M)(hok:ArOk S)(hok':ArOk S'){l D:Bs}{V:VerL}(hp:PutStep S S' l D V):AB S' (dU M (au D)):=by
 have hf:dU M (au D)=M++bC S D:=by
  have:=kz M (au D) [];rw[append_nil]at this;rw[this];unfold bC;rw[h.kM]
 refine⟨?_,kA _ _ h.nd,fun m U hU=>?_,?_,?_⟩
 ·rw[hp.K,map_append,up,h.kM,hf]
 ·rw[hp.vers]at hU
  have old:∀m,∀U∈af S.ps m,U.chs.map (bq S'.K)=au (cE S' U):=fun m U hU=>by
   obtain⟨p,hpm,-,hpg⟩:=bD (ne_nil_of_mem hU);have hin:=(hok.vers p hpm U (hpg ▸ hU)).1;rw[tF hp.K hin,<- h.cut m U hU];refine map_congr_left (fun q hq=>?_);rw[hp.K];exact kC (hin q hq)
  split at hU
  ·rename_i hm;rcases mem_append.1 hU with hU|hU
   ·exact old l U hU
   ·obtain rfl:=mem_singleton.1 hU;rw[Ah hok' hp.nchs hp.chs];exact EI _ hp.nchs (fun e he=>pM hok' (hp.chs e he))
  ·exact old m U hU
 ·rw[hp.sc,h.sc,hf,length_append];omega
 ·rw[hp.sb,h.sb,hf,qt];unfold fB;omega
theorem rI{vs:List RVer}{c:Bs}:c∈cB vs->∃v∈vs,c∈au v.cont:=by
 have key:∀(vs:List RVer) (l:List Bs),c∈vs.foldl (fun l v=>dU l (au v.cont)) l->c∈l\/∃v∈vs,c∈au v.cont:=by
  intro vs;induction vs with
  | nil=>intro l h;exact .inl h
  | cons v r ih =>
   intro l h;rcases ih _ h with h1|⟨u,hu,h1⟩
   ·have hb:∀(cs l:List Bs),c∈dU l cs->c∈l\/c∈cs:=by
     intro cs;induction cs with
     | nil=>intro l h;exact .inl h
     | cons x r ih =>
      intro l h;rcases ih _ h with h2|h2
      ·unfold mC at h2;split at h2
       ·exact .inl h2
       ·rcases mem_append.1 h2 with h3|h3
        ·exact .inl h3
        ·obtain rfl:=mem_singleton.1 h3;exact .inr (by simp)
      ·exact .inr (by simp[h2])
    rcases hb _ _ h1 with h2|h2
    ·exact .inl h2
    ·exact .inr ⟨v,by simp,h2⟩
   ·exact .inr ⟨u,by simp[hu],h1⟩
 intro h;rcases key vs [] h with h1|h1
 ·cases h1
 ·exact h1
theorem jd(vs:List RVer):(cB vs).Nodup:=by
 have key:∀(vs:List RVer) (l:List Bs),l.Nodup->(vs.foldl (fun l v=>dU l (au v.cont)) l).Nodup:=by
  intro vs;induction vs with
  | nil=>intro l h;exact h
  | cons v r ih=>intro l h;exact ih _ (kA _ _ h)
 exact key vs [] nodup_nil
theorem ly{f:Bs->Nat}:∀{l m:List Bs},l.Nodup->(∀x∈l,x∈m)->(l.map f).sum<=(m.map f).sum
 | [],_,_,_=>by simp
 | a::r,m,hn,h=>by
  obtain⟨s,t,rfl⟩:=append_of_mem (h a (by simp))
  obtain⟨h1,h2⟩:=nodup_cons.1 hn
  have:=ly (f:=f) (l:=r) (m:=s++t) h2 (fun x hx=>by
   have hx2:=h x (by simp[hx])
   simp only[mem_append,mem_cons]at hx2 ⊢
   rcases hx2 with h3|rfl|h3
   ·exact .inl h3
   ·exact absurd hx h1
   ·exact .inr h3)
  simp only[map_append,map_cons,sum_append,sum_cons]at this ⊢
  omega
theorem nK{K:KL}{q:Nat×Nat}(h:∃e∈K,e.2=q):bq K q∈K.map (·.1):=by
 unfold bq
 cases hf:K.find? (fun e=>decide (e.2=q))with
 | none =>
  obtain⟨e,he,hq⟩:=h;exact absurd hq (by simpa using find?_eq_none.1 hf e he)
 | some e=>exact mem_map.2 ⟨e,mem_of_find?_eq_some hf,rfl⟩
theorem AB.subV{S:AS}{R:RefL}{M:List Bs}(h:AB S M)(hok:ArOk S)(L:Link S R):∀v∈R.vs,∀c∈au v.cont,c∈M:=fun v hv c hcv=>by
 have hm:gn v∈(af S.ps v.path).map (cX S):=by
  rw[L.vers];exact mem_map.2 ⟨v,mem_filter.2 ⟨hv,by simp⟩,rfl⟩
 obtain⟨V,hV,e⟩:=mem_map.1 hm;have e2:cE S V=v.cont:=congrArg (fun t:ku=>t.2.1) e;rw[<- e2,<- h.cut v.path V hV]at hcv;obtain⟨q,hq,rfl⟩:=mem_map.1 hcv;obtain⟨p,hp,-,hpg⟩:=bD (ne_nil_of_mem hV);rw[<- h.kM];exact nK ((hok.vers p hp V (hpg ▸ hV)).1 q hq)
theorem AB.sub{S:AS}{R:RefL}{M:List Bs}(h:AB S M)(hok:ArOk S)(L:Link S R):∀c∈cB R.vs,c∈M:=fun c hc=>by
 obtain⟨v,hv,hcv⟩:=rI hc
 exact h.subV hok L v hv c hcv
theorem IX:∀l:List Bs,(l.map (fun _=>1)).sum=l.length
 | []=>rfl
 | a::r=>by simp only[map_cons,sum_cons,length_cons,IX r];omega
theorem AB.take{S:AS}{R:RefL}{M:List Bs}(h:AB S M)(hok:ArOk S)(L:Link S R)(j:Nat):(cB (R.vs.take j)).length<=M.length:=by
 have h1:=ly (f:=fun _=>1) (jd (R.vs.take j)) (m:=M) (fun c hc=>by
  obtain⟨v,hv,hcv⟩:=rI hc;exact h.subV hok L v (mem_of_mem_take hv) c hcv)
 rwa [IX,IX]at h1
theorem AB.lo{S:AS}{R:RefL}{M:List Bs}(h:AB S M)(hok:ArOk S)(L:Link S R):((cB R.vs).length:Int)<=S.X.sc/\(fB (cB R.vs):Int)<=S.X.sb:=by
 have h1:=ly (f:=fun _=>1) (jd R.vs) (h.sub hok L);have h2:=ly (f:=length) (jd R.vs) (h.sub hok L);rw[IX,IX]at h1;rw[h.sc,h.sb];unfold fB;omega
theorem AB.start{n:Nat}{q:Int}{d:Nat}{S:AS}(h:lJ n q d S):AB S []:=by
 obtain⟨-,-,-,-,-,h6,h7,h8,-,h10,-⟩:=h;refine { kM:=?_,nd:=nodup_nil,cut:=fun l V hV=>?_,sc:=?_,sb:=?_ }
 ·rw[h10];rfl
 ·rw[h8]at hV;exact absurd hV (by simp[af,gOf])
 ·rw[h6];rfl
 ·rw[h7];rfl
theorem AB.views{S S':AS}{M:List Bs}(h:AB S M)(hK:S'.K=S.K)(hsc:S'.X.sc=S'.K.length)(hsb:S'.X.sb=((S'.K.map (·.1.length)).sum:Nat))(hv:∀l,(af S'.ps l).map bI=(af S.ps l).map bI):AB S' M:=by
 refine h.of hK ?_ ?_ (fun l V hV=>?_)
 ·rw[hsc,hK,h.sc,<- h.kM,length_map]
 ·rw[hsb,hK,h.sb,<- h.kM];unfold fB;rw[map_map];rfl
 ·obtain⟨V0,h0,e⟩:=E2 (hv l) V hV;exact⟨V0,h0,congrArg (fun t:Fp=>t.2.2.1) e⟩
theorem AB.gone{S:AS}{M:List Bs}(h:AB S M)(p:Bs)(ns:List Int)(v':Value)(L':DevL)(hv:∀l,∀V∈af (iu S p ns v' L').ps l,V∈af S.ps l):AB (iu S p ns v' L') M:=h.of rfl rfl rfl (fun l V hV=>⟨V,hv l V hV,rfl⟩)
theorem AB.held{S S':AS}{M:List Bs}(h:AB S M){p:Bs}{n d:Int}(hps:S'.ps=cM S.ps p n d)(hK:S'.K=S.K)(hX:S'.X=S.X):AB S' M:=by
 refine h.of hK (by rw[hX]) (by rw[hX]) (fun l V hV=>?_);rw[hps,gX]at hV;split at hV
 ·rename_i hl;obtain⟨V0,h0,rfl⟩:=mem_map.1 hV;exact⟨V0,hl ▸ h0,(gA n d V0).2.2.1.symm⟩
 ·exact⟨V,hV,rfl⟩
def plV(q:Nat×Nat):Value:=.agg #[.int .i64 q.1,.int .i64 q.2]
def Hd(q:Nat×Nat):Prop:=q.1<4611686018427387904/\q.2<4611686018427387904
theorem AP(d:Nat)(n:Nat)(h:n<4611686018427387904):Tryz.prog.keyLits (d+1) 3 [.int .i64 n]=some [.int .i64 n]:=by
 have hw:(Lit.int .i64 (n:Int)).wf=true:=by
  simp[Lit.wf,IntKind.signed,IntKind.bits,IntKind.min,IntKind.max];omega
 unfold Program.keyLits;rw[Tryz.underlying3];simp[hw]
theorem DC(d:Nat)(q:Nat×Nat)(h:Hd q):Tryz.prog.keyLits (d+2) 128 [.int .i64 q.1,.int .i64 q.2]=some [.int .i64 q.1,.int .i64 q.2]:=by
 have hc:Tryz.prog.cellsOf 128=2:=by kernel_rfl
 have hi:Tryz.prog.cellsOf 3=1:=by kernel_rfl
 unfold Program.keyLits;rw[Tryz.underlying128];simp[hc,hi,AP d _ h.1,AP d _ h.2]
theorem I4:EncOk Tryz.prog 128 plV Hd where
 keyed:=Keyed.of_law (deep_law_laid (m:=2) (by kernel_rfl) (by decide) (of_decide_eq_true (by kernel_rfl)) (by kernel_rfl) (by kernel_rfl))
 inj:=fun a b h=>by
  obtain⟨a1,a2⟩:=a
  obtain⟨b1,b2⟩:=b
  simp only[plV,Value.agg.injEq,Array.mk.injEq,List.cons.injEq,Value.int.injEq,true_and,and_true]at h
  obtain⟨h1,h2⟩:=h
  simp only[Prod.mk.injEq];omega
 key:=fun a ha=>by
  refine⟨.string (keyBytes [.int .i64 a.1,.int .i64 a.2]),?_⟩
  have hc:Tryz.prog.cellsOf 128=2:=by kernel_rfl
  have hk2:Tryz.prog.keyType 128=true:=by kernel_rfl
  have hsz:Tryz.prog.types.size+1=334+1:=by kernel_rfl
  unfold keyOf plV
  rw[Tryz.underlying128]
  simp only[hk2,Value.formed,Tryz.underlying128,hc]
  rw[hsz]
  show(Tryz.prog.keyLits (334-1+2) 128 [.int .i64 a.1,.int .i64 a.2]).map _=_
  rw[DC _ a ha]
  rfl
theorem xO(w:World):(zeroValue 128).run Tryz.prog w=.ok (.agg #[.int .i64 0,.int .i64 0]) w:=by kernel_rfl
end
section
open Go.Shelf
def rQ:Go.Shelf.Ren:=⟨fun|7=>73|10=>107|n=>n,fun|23=>51|26=>9|3=>118|28=>169|0=>0|27=>168|33=>144|4=>4|n=>n,fun|n=>n⟩
theorem EF:Go.Proofs.SlLaysZ.n7 Tryz.prog rQ:={
 mixed:=by kernel_rfl,
 f7:=⟨Tryz.f73.name,by decide,Tryz.func73.trans (congrArg some (by kernel_rfl))⟩,
 f10:=⟨Tryz.f107.name,by decide,Tryz.func107.trans (congrArg some (by kernel_rfl))⟩,
 t0:=Tryz.underlying0,
 a0:=Tryz.isAgg0,
 z0:=Tryz.sizeOf0,
 v0:=Tryz.zeroValue0,
 t4:=Tryz.underlying4,
 a4:=Tryz.isAgg4,
 z4:=Tryz.sizeOf4,
 v4:=Tryz.zeroValue4,
 t23:=Tryz.underlying51,
 a23:=Tryz.isAgg51,
 z23:=Tryz.sizeOf51,
 v23:=Tryz.zeroValue51,
 t26:=Tryz.underlying9,
 a26:=Tryz.isAgg9,
 z26:=Tryz.sizeOf9,
 v26:=Tryz.zeroValue9,
 t27:=Tryz.underlying168,
 a27:=Tryz.isAgg168,
 z27:=Tryz.sizeOf168,
 v27:=Tryz.zeroValue168,
 t28:=Tryz.underlying169,
 a28:=Tryz.isAgg169,
 z28:=Tryz.sizeOf169,
 v28:=Tryz.zeroValue169,
 t33:=Tryz.underlying144,
 a33:=Tryz.isAgg144,
 z33:=Tryz.sizeOf144,
 v33:=Tryz.zeroValue144 }
def rR:Go.Shelf.Ren:=⟨fun|7=>75|10=>111|n=>n,fun|23=>52|26=>9|3=>156|28=>169|0=>0|27=>168|33=>144|4=>4|n=>n,fun|n=>n⟩
theorem EG:Go.Proofs.SlLaysZ.n7 Tryz.prog rR:={
 mixed:=by kernel_rfl,
 f7:=⟨Tryz.f75.name,by decide,Tryz.func75.trans (congrArg some (by kernel_rfl))⟩,
 f10:=⟨Tryz.f111.name,by decide,Tryz.func111.trans (congrArg some (by kernel_rfl))⟩,
 t0:=Tryz.underlying0,
 a0:=Tryz.isAgg0,
 z0:=Tryz.sizeOf0,
 v0:=Tryz.zeroValue0,
 t4:=Tryz.underlying4,
 a4:=Tryz.isAgg4,
 z4:=Tryz.sizeOf4,
 v4:=Tryz.zeroValue4,
 t23:=Tryz.underlying52,
 a23:=Tryz.isAgg52,
 z23:=Tryz.sizeOf52,
 v23:=Tryz.zeroValue52,
 t26:=Tryz.underlying9,
 a26:=Tryz.isAgg9,
 z26:=Tryz.sizeOf9,
 v26:=Tryz.zeroValue9,
 t27:=Tryz.underlying168,
 a27:=Tryz.isAgg168,
 z27:=Tryz.sizeOf168,
 v27:=Tryz.zeroValue168,
 t28:=Tryz.underlying169,
 a28:=Tryz.isAgg169,
 z28:=Tryz.sizeOf169,
 v28:=Tryz.zeroValue169,
 t33:=Tryz.underlying144,
 a33:=Tryz.isAgg144,
 z33:=Tryz.sizeOf144,
 v33:=Tryz.zeroValue144 }
def oI:Go.Shelf.Ren:=⟨fun|6=>72|8=>105|9=>106|11=>129|13=>120|12=>130|23=>146|24=>147|14=>151|15=>152|16=>153|17=>154|18=>155|19=>156|20=>157|21=>158|22=>159|25=>166|26=>162|27=>163|28=>167|29=>168|30=>169|31=>171|n=>n,fun|26=>9|28=>169|24=>166|0=>0|3=>3|37=>239|48=>57|50=>285|4=>4|40=>278|39=>277|45=>272|5=>5|9=>9|51=>294|55=>298|57=>302|58=>65|33=>144|n=>n,fun|n=>n⟩
theorem xE:Go.Proofs.SlLaysZ.n6 Tryz.prog oI:={
 mixed:=by kernel_rfl,
 f6:=⟨Tryz.f72.name,by decide,Tryz.func72.trans (congrArg some (by kernel_rfl))⟩,
 f8:=⟨Tryz.f105.name,by decide,Tryz.func105.trans (congrArg some (by kernel_rfl))⟩,
 f11:=⟨Tryz.f129.name,by decide,Tryz.func129.trans (congrArg some (by kernel_rfl))⟩,
 t0:=Tryz.underlying0,
 a0:=Tryz.isAgg0,
 z0:=Tryz.sizeOf0,
 v0:=Tryz.zeroValue0,
 t24:=Tryz.underlying166,
 a24:=Tryz.isAgg166,
 z24:=Tryz.sizeOf166,
 v24:=Tryz.zeroValue166,
 t26:=Tryz.underlying9,
 a26:=Tryz.isAgg9,
 z26:=Tryz.sizeOf9,
 v26:=Tryz.zeroValue9,
 t28:=Tryz.underlying169,
 a28:=Tryz.isAgg169,
 z28:=Tryz.sizeOf169,
 v28:=Tryz.zeroValue169,
 i26:=by kernel_rfl }
def BP:Go.Shelf.Ren:=⟨fun|6=>106|8=>120|9=>130|19=>146|20=>147|21=>151|22=>152|23=>153|24=>154|25=>155|26=>156|27=>157|28=>158|29=>159|36=>166|31=>162|32=>163|37=>167|38=>168|39=>169|41=>171|n=>n,fun|27=>166|29=>9|3=>3|32=>239|26=>166|0=>0|44=>57|46=>285|4=>4|36=>278|35=>277|41=>272|5=>5|9=>9|53=>294|57=>298|63=>302|64=>65|n=>n,fun|n=>n⟩
theorem EZ:Go.Proofs.SlLaysM.n6 Tryz.prog BP:={
 mixed:=by kernel_rfl,
 f6:=⟨Tryz.f106.name,by decide,Tryz.func106.trans (congrArg some (by kernel_rfl))⟩,
 f8:=Tryz.func120.trans (congrArg some (by kernel_rfl)),
 f9:=⟨Tryz.f130.name,by decide,Tryz.func130.trans (congrArg some (by kernel_rfl))⟩,
 f19:=Tryz.func146.trans (congrArg some (by kernel_rfl)),
 f20:=Tryz.func147.trans (congrArg some (by kernel_rfl)),
 f21:=⟨Tryz.f151.name,by decide,Tryz.func151.trans (congrArg some (by kernel_rfl))⟩,
 f22:=⟨Tryz.f152.name,by decide,Tryz.func152.trans (congrArg some (by kernel_rfl))⟩,
 f23:=⟨Tryz.f153.name,by decide,Tryz.func153.trans (congrArg some (by kernel_rfl))⟩,
 f24:=⟨Tryz.f154.name,by decide,Tryz.func154.trans (congrArg some (by kernel_rfl))⟩,
 f25:=⟨Tryz.f155.name,by decide,Tryz.func155.trans (congrArg some (by kernel_rfl))⟩,
 f26:=⟨Tryz.f156.name,by decide,Tryz.func156.trans (congrArg some (by kernel_rfl))⟩,
 f27:=⟨Tryz.f157.name,by decide,Tryz.func157.trans (congrArg some (by kernel_rfl))⟩,
 f28:=⟨Tryz.f158.name,by decide,Tryz.func158.trans (congrArg some (by kernel_rfl))⟩,
 f29:=⟨Tryz.f159.name,by decide,Tryz.func159.trans (congrArg some (by kernel_rfl))⟩,
 f31:=Tryz.func162.trans (congrArg some (by kernel_rfl)),
 f32:=Tryz.func163.trans (congrArg some (by kernel_rfl)),
 f36:=⟨Tryz.f166.name,by decide,Tryz.func166.trans (congrArg some (by kernel_rfl))⟩,
 f37:=⟨Tryz.f167.name,by decide,Tryz.func167.trans (congrArg some (by kernel_rfl))⟩,
 f38:=⟨Tryz.f168.name,by decide,Tryz.func168.trans (congrArg some (by kernel_rfl))⟩,
 f39:=⟨Tryz.f169.name,by decide,Tryz.func169.trans (congrArg some (by kernel_rfl))⟩,
 f41:=⟨Tryz.f171.name,by decide,Tryz.func171.trans (congrArg some (by kernel_rfl))⟩,
 t0:=Tryz.underlying0,
 a0:=Tryz.isAgg0,
 z0:=Tryz.sizeOf0,
 v0:=Tryz.zeroValue0,
 t3:=Tryz.underlying3,
 a3:=Tryz.isAgg3,
 z3:=Tryz.sizeOf3,
 v3:=Tryz.zeroValue3,
 t4:=Tryz.underlying4,
 a4:=Tryz.isAgg4,
 z4:=Tryz.sizeOf4,
 v4:=Tryz.zeroValue4,
 t5:=Tryz.underlying5,
 a5:=Tryz.isAgg5,
 z5:=Tryz.sizeOf5,
 v5:=Tryz.zeroValue5,
 t9:=Tryz.underlying9,
 a9:=Tryz.isAgg9,
 z9:=Tryz.sizeOf9,
 v9:=Tryz.zeroValue9,
 t26:=Tryz.underlying166,
 a26:=Tryz.isAgg166,
 z26:=Tryz.sizeOf166,
 v26:=Tryz.zeroValue166,
 t27:=Tryz.underlying166,
 a27:=Tryz.isAgg166,
 z27:=Tryz.sizeOf166,
 v27:=Tryz.zeroValue166,
 t29:=Tryz.underlying9,
 a29:=Tryz.isAgg9,
 z29:=Tryz.sizeOf9,
 v29:=Tryz.zeroValue9,
 t32:=Tryz.underlying239,
 a32:=Tryz.isAgg239,
 z32:=Tryz.sizeOf239,
 v32:=Tryz.zeroValue239,
 t35:=Tryz.underlying277,
 a35:=Tryz.isAgg277,
 z35:=Tryz.sizeOf277,
 v35:=Tryz.zeroValue277,
 t36:=Tryz.underlying278,
 a36:=Tryz.isAgg278,
 z36:=Tryz.sizeOf278,
 v36:=Tryz.zeroValue278,
 t41:=Tryz.underlying272,
 a41:=Tryz.isAgg272,
 z41:=Tryz.sizeOf272,
 v41:=Tryz.zeroValue272,
 t44:=Tryz.underlying57,
 a44:=Tryz.isAgg57,
 z44:=Tryz.sizeOf57,
 v44:=Tryz.zeroValue57,
 t46:=Tryz.underlying285,
 a46:=Tryz.isAgg285,
 z46:=Tryz.sizeOf285,
 v46:=Tryz.zeroValue285,
 t53:=Tryz.underlying294,
 a53:=Tryz.isAgg294,
 z53:=Tryz.sizeOf294,
 v53:=Tryz.zeroValue294,
 t57:=Tryz.underlying298,
 a57:=Tryz.isAgg298,
 z57:=Tryz.sizeOf298,
 v57:=Tryz.zeroValue298,
 t63:=Tryz.underlying302,
 a63:=Tryz.isAgg302,
 z63:=Tryz.sizeOf302,
 v63:=Tryz.zeroValue302,
 t64:=Tryz.underlying65,
 a64:=Tryz.isAgg65,
 z64:=Tryz.sizeOf65,
 v64:=Tryz.zeroValue65 }
end
section
open Go.RowKit Go.Maps Go.Sort Go.Shelf
theorem AU(m:Nat):AnyZ.SortsIn Tryz.prog oI Fence.wide m :=
 ⟨fun blk off cap ss W hH hblk hsz=>callsIn_wide.2 (AnyM.slices_Sort_string EZ blk off cap ss W hH hblk hsz),
  fun p cap W=>callsIn_wide.2 (AnyM.slices_Sort_string_none EZ p cap W)⟩
theorem ug(mb:Option Nat)(W:World):CallsIn Fence.wide 5 Tryz.prog 75 #[.map mb] W fun e w'=>e=.returned (.func (.func 111) #[] #[.pointer (some ⟨W.heap.size,0,none⟩)])/\w'=W.alloc (.cells #[.map mb] 52) :=
 AnyZ.keys_in EG Fence.wide 5 trivial rfl mb W
theorem oJ{H:Type}(b nn:Nat)(D0:DataW H)(R:Value->Option (DataW H×List MemPlace))(w:World)(hown:w.ownsMap Tryz.prog 9 R b nn D0)(hmax:Maps.size D0<=maxLen)(hbytes:Maps.size D0*16<=140737488355328):
  CallsIn Fence.wide 5 Tryz.prog 72 #[.func (.func 111) #[] #[.pointer (some ⟨w.heap.size,0,none⟩)]] (w.alloc (.cells #[.map (some b)] 52)) fun e w'=>∃(v:Value) (ss:List (List UInt8)),e=.returned v/\ss.Perm (strKeys D0) /\
   w'.ownsRow (w.alloc (.cells #[.map (some b)] 52)).heap.size 9 1 v ss.length ((ss.mergeSort (fun x y=>decide (x<=y))).map encStr)/\(v=.slice none 0 0↔ss=[])/\Below (w.alloc (.cells #[.map (some b)] 52)).heap.size (w.alloc (.cells #[.map (some b)] 52)) w':=by
 have hbl:=hown.lt
 have hseq:SeqGives Fence.wide 2 Tryz.prog 111 #[.pointer (some ⟨w.heap.size,0,none⟩)] encStr (fun ss=>ss.Perm (strKeys D0)) (Maps.size D0) (w.alloc (.cells #[.map (some b)] 52)) :=
  AnyZ.keys_gives (ρ:=rR) { EG with } Fence.wide _ trivial rfl (by omega) w.heap.size b nn D0 _ (by simp) (by simp) (by
   obtain⟨es,clock,hb,Ft,hs,hD⟩:=hown;exact⟨es,clock,(Below.heap_alloc _ _ b hbl).trans hb,Ft,hs,hD⟩)
 exact AnyZ.sorted_in xE Fence.wide 5 trivial trivial trivial trivial rfl (by omega) (AU _) (enters_of Tryz.func106 (by kernel_rfl) rfl) 111 #[.pointer (some ⟨w.heap.size,0,none⟩)] trivial (enters_of Tryz.func111 (by kernel_rfl) rfl) _ _ hmax hbytes _ hseq
def Fr:Value->Option (DataW Unit×List MemPlace):=fun _=>some (.lit (.bool true),[])
theorem AN(x:Lit×DataW Unit):∀l:List (Lit×DataW Unit),(DataW.insert x l).Perm (x::l)
 | []=>Perm.refl _
 | y::r=>by
  unfold DataW.insert
  split
  ·exact Perm.refl _
  ·exact((AN x r).cons y).trans (Perm.swap x y r)
theorem wS:∀l:List (Lit×DataW Unit),(l.foldr DataW.insert []).Perm l
 | []=>Perm.refl _
 | x::r=>(AN x _).trans ((wS r).cons x)
theorem LJ(l:Bs)(h:OkS l):Go.keyOf Tryz.prog 9 (str l)=some (.string l):=by
 have h1:(ByteArray.mk l.toArray).size=l.length:=by simp[ByteArray.size]
 have h2:(ByteArray.mk l.toArray).size<=maxLen:=by rw[h1];unfold OkS at h;unfold maxLen;omega
 exact Go.WideMaps.keyOf_string_mk (k:=9) Tryz.underlying9 (s:=⟨l.toArray⟩) h2
theorem pp{w:World}{b c:Nat}{l:List (Ent Bs)}(hb:w.heap[b]?=some (aO str l c))(hm:MapOk OkS l c)(hl:l.length<=1000000):∃D:DataW Unit,w.ownsMap Tryz.prog 9 Fr b l.length D/\(strKeys D).Perm (l.map (·.key))/\Maps.size D=l.length:=by
 have hrd:∀e∈l,Go.WideElems.rd Tryz.prog 9 Fr (dE str e)=some (.string e.key,.lit (.bool true)):=fun e he=>by
  unfold Go.WideElems.rd;rw[show(dE str e).key=str e.key from rfl,LJ e.key (hm.ok e he)];rfl
 have hrg:(l.map (dE str)).map (Go.WideElems.rg Tryz.prog 9 Fr)=l.map (fun e=>(Lit.string e.key,DataW.lit (.bool true))):=by
  rw[map_map];refine map_congr_left fun e he=>?_
  simp only[Function.comp_apply,Go.WideElems.rg,hrd e he,Option.getD_some]
 have hp:=wS (l.map (fun e=>(Lit.string e.key,(DataW.lit (.bool true):DataW Unit))));refine⟨.map ((l.map (fun e=>(Lit.string e.key,DataW.lit (.bool true)))).foldr DataW.insert []),⟨(l.map (dE str)).toArray,c,hb,⟨?_,⟨?_,?_,?_⟩,?_⟩,by simp,?_⟩,?_,?_⟩
 ·simp[maxLen];omega
 ·intro x hx;obtain⟨e,he,rfl⟩:=mem_map.1 (by simpa using hx);exact hm.lt e he
 ·have:=hm.borns;simp only[map_map];exact this
 ·have:((l.map (·.key)).map str).Nodup:=by
   rw[nodup_iff_pairwise_ne,pairwise_map];exact(nodup_iff_pairwise_ne.1 hm.nodup).imp (fun h e=>h (E0 _ _ e))
  rw[map_map]at this;simp only[map_map];exact this
 ·intro x hx;obtain⟨e,he,rfl⟩:=mem_map.1 (by simpa using hx);exact⟨_,hrd e he⟩
 ·simp only[];rw[hrg]
 ·unfold strKeys;refine(hp.map _).trans ?_;rw[map_map];exact Perm.refl _
 ·show(foldr DataW.insert [] _).length=_;rw[hp.length_eq,length_map]
end
section
open Go.RowKit Go.Maps
theorem lZ(k:UInt8)(m p:Bs)(n:Int)(w:World):Calls Tryz.prog 67 #[.int .u8 k.toNat,q9 m p n] w (fun e w'=>e=.returned (.agg #[.int .u8 k.toNat,str p,str m,.int .i64 n])/\aQ w w'):=by
 unfold q9;go_enter Tryz.func67,Tryz.ntmps67;go_upto_region 1 with(fail);generalize hW:(w.alloc _).alloc _=W;have hs:aQ w W:=by rw[<- hW];exact((Mods.refl _ w).alloc _).alloc _
 have hbo:W.heap[w.heap.size]?=some (.cells #[str m,str p,.int .i64 n] 156 (0,0)):=by rw[<- hW];exact((Mods.refl (fun _=>False) _).alloc _).at (aK w _) id
 have hro:W.heap[w.heap.size+1]?=some (.cells #[.int .u8 0,.string ⟨#[]⟩,.string ⟨#[]⟩,.int .i64 0] 159 (0,0)):=by
  rw[<- hW];have:=aK (w.alloc (.cells #[str m,str p,.int .i64 n] 156)) (.cells #[.int .u8 0,.string ⟨#[]⟩,.string ⟨#[]⟩,.int .i64 0] 159);rwa [World.size_alloc]at this
 have b0:W.cell? ⟨w.heap.size,0,none⟩=some (str m):=aa hbo 0 rfl;have b1:W.cell? ⟨w.heap.size,1,none⟩=some (str p):=aa hbo 1 rfl;have b2:W.cell? ⟨w.heap.size,2,none⟩=some (.int .i64 n):=aa hbo 2 rfl;obtain⟨q1,q2⟩:=dI hro [.int .u8 k.toNat,str p,str m,.int .i64 n] (by simp);have HX:=Hq3 (dr (C:=#[.int .u8 0,.string ⟨#[]⟩,.string ⟨#[]⟩,.int .i64 0]) hro 0 4 (by simp)) q1 (hs.trans' q2 (fun i hi=>.inr (by omega)));clear hW hs hbo hro q1 q2;go_wp2_with ((refine wpList_store_mid rfl 159 (.tmp 4) (.tmp 13) rfl (w.heap.size+1) 0 #[.int .u8 k.toNat,str p,str m,.int .i64 n] rfl rfl HX.a (by kernel_rfl) (by simp[Value.oneCell']) ?_));refine bodyPost_ret (results_cell_row rfl _ _ (w.heap.size+1) 159 _ (0,0) _ rfl HX.b Tryz.underlying159 rfl (by kernel_rfl)) rfl ?_;exact⟨rfl,HX.y⟩
def KT:Value:=.agg #[.string ⟨#[]⟩,.string ⟨#[]⟩,.int .i64 0]
theorem kt(w:World):(zeroValue 156).run Tryz.prog w=.ok KT w:=by kernel_rfl
def zd(S:AS)(m p:Bs)(n:Nat)(L':DevL):AS:={ m9 S L' (frame 4 (dG p m n))with ps:=cM S.ps p n 1,ts:=eh S.ts S.tc m (mE m (p,(n:Int))) (p,(n:Int)),tc:=cf (S.ts.map aN) S.tc m }
def nm(S:AS)(m p:Bs)(n:Int)(L':DevL):AS:={ m9 S L' (frame 5 (dG p m n))with ps:=cM S.ps p n (-1),ts:=bE S.ts m }
theorem ED{S S':AS}(h:ArOk S'){p:Bs}{n d:Int}{ts:List fO}{tc:Nat}(ht:TagsOk ts tc)(hS:S={ S' with ps:=cM S'.ps p n d,ts:=ts,tc:=tc }):ArOk S:=by
 subst hS;refine { h with paths:=AK h.paths p n d,tags:=ht,some:=wZ h.some,vers:=fun q hq V hV=>?_ };obtain⟨q0,hq0,rfl⟩:=mem_map.1 (show q∈cM S'.ps p n d from hq);split at hV
 ·obtain⟨V0,hV0,rfl⟩:=mem_map.1 hV;have:=h.vers q0 hq0 V0 hV0;obtain⟨-,-,e3,-,e5⟩:=gA n d V0;rw[e3,e5];exact this
 ·exact h.vers q0 hq0 V hV
theorem Cc{ts:List fO}{tc:Nat}(h:TagsOk ts tc){m:Bs}(hm:OkS m)(g:Bs×Int):TagsOk (eh ts tc m (mE m g) g) (cf (ts.map aN) tc m):=by
 refine⟨by rw[iG];exact h.map.put hm _,fun q hq=>?_⟩;rcases fA hq with⟨h1,_⟩|⟨h1,h2,h3⟩
 ·exact h.val q h1
 ·rw[h1,h2,h3]
theorem Cb{ts:List fO}{tc:Nat}(h:TagsOk ts tc)(m:Bs):TagsOk (bE ts m) tc :=
 ⟨by rw[mM];exact h.map.del m,fun q hq=>h.val q (mem_filter.1 hq).1⟩
theorem KM{S:AS}{m p:Bs}{n:Nat}{L':DevL}(hok:ArOk S)(h:RecIs S L' (frame 4 (dG p m n)))(hm:OkS m):ArOk (zd S m p n L') :=
 ED (S':=m9 S L' (frame 4 (dG p m n))) (yT hok h) (Cc hok.tags hm (p,(n:Int))) rfl
theorem GM{S:AS}{m p:Bs}{n:Int}{L':DevL}(hok:ArOk S)(h:RecIs S L' (frame 5 (dG p m n))):ArOk (nm S m p n L') :=
 ED (S':=m9 S L' (frame 5 (dG p m n))) (yT hok h) (Cb hok.tags m) rfl
def Ht(S:AS)(m p:Bs)(n k:Int):Prop :=
 (S.X.closed=true/\k=9)\/(S.X.closed=false/\(aq m&&aq p)=false/\k=1)\/(aq m=true/\aq p=true/\S.X.closed=false/\jb S p n k)\/(∃V,aq m=true/\iP S p n V/\((gN S.ts m=true/\k=6)\/(gN S.ts m=false/\128*S.A.count<S.data.length+(frame 4 (dG p m V.num)).length/\k=8)))
def JN(S:AS)(m p:Bs)(n:Int)(w:World)(e:Ending)(w':World):Prop :=
 (∃k,Ht S m p n k/\e=.returned (ck k)/\Turns (arF S) (arF S) w w') \/
 (∃V L',aq m=true/\iP S p n V/\gN S.ts m=false/\S.data.length+(frame 4 (dG p m V.num)).length<=128*S.A.count/\e=.returned .nilIface/\RecIs S L' (frame 4 (dG p m V.num))/\Turns (arF S) (arF (zd S m p V.num L')) w w')
theorem EC{S:AS}{b:Nat}(hB:ArB S b)(hb:b<=90000)(p:Bs):∀V∈af S.ps p,V.held.natAbs<=1099511627776:=fun V hV=>by
 obtain⟨q,hq,-,hqg⟩:=jM (ne_nil_of_mem hV)
 have:=((hB.vers q hq).2.2 V (hqg ▸ hV)).2.2.2
 omega
theorem Fm(S:AS)(m l:Bs)(n:Int)(b:Nat)(w:World)(h:Sat w (arF S))(hok:ArOk S)(hB:ArB S b)(hb:b<=90000):
  Calls Tryz.prog 23 #[.pointer (some ⟨S.a,0,none⟩),str m,str l,.int .i64 n] w (JN S m l n w):=by
 have HBg:=qqH (fun W (hW:aQ w W) (h0:W.cell? ⟨w.heap.size,0,none⟩=some (str m)) (h1:W.cell? ⟨w.heap.size,1,none⟩=some (str l))=>kB S.a S.X (some ⟨w.heap.size,0,none⟩) 2 [m,l] W (hW.at h.Q5 id) (fun _=>⟨_,_,rfl,fun j hj=>by
  rcases(show j=0\/j=1 by simp at hj;omega)with rfl|rfl
  ·exact h0
  ·exact h1⟩) (by simp))
 have HF:=qqH (fun W (hW:aQ w W)=>iV S.a S.X S.ps S.pc l n W (h.same hW).Q5 ((h.same hW).tail.right.right.left) hok.paths);have hal:=ae h.Q5;have HH:=Hq4 h hok hB hb;clear h hok hB hb;go_enter Tryz.func23,Tryz.ntmps23;go_wp2_with fail;have hal0:=aK w (.cells #[str m,str l] 9);refine(HBg.out _ ((Mods.refl _ w).alloc _) (aa hal0 0 rfl) (aa hal0 1 rfl)).mono ?_;rintro e w1 ⟨rfl,hs1⟩;have hs2:aQ w w1:=((Mods.refl _ w).alloc _).trans hs1;obtain⟨cl,hcl⟩:∃cl,cl=S.X.closed:=⟨_,rfl⟩;obtain⟨pb,hpb⟩:∃pb,pb=(aq m&&aq l):=⟨_,rfl⟩;have e1:([m,l].all aq)=pb:=by simp[hpb]
 rw[e1,<- hcl];have HD:=Hq3 hcl hpb hs2;clear hcl hpb hs2 hs1 e1 hal0
 cases cl with
 | true =>
  simp only[if_true];unfold ck;go_wp2_with fail;go_ret;refine (.inl ⟨9,.inl ⟨HD.a.symm,rfl⟩,rfl,Turns.same HH.a HD.y⟩)
 | false =>
  cases pb with
  | false =>
   simp only[Bool.false_eq_true,if_false];unfold ck;go_wp2_with fail;go_ret;refine (.inl ⟨1,.inr (.inl ⟨HD.a.symm,HD.b.symm,rfl⟩),rfl,Turns.same HH.a HD.y⟩)
  | true =>
   simp only[Bool.false_eq_true,if_false,if_true];have hpaths:aq m=true/\aq l=true:=by have:=HD.b.symm;simpa using this
   have HP:=qqH hpaths;clear hpaths;go_wp2_with fail;refine(HF.out _ HD.y).mono ?_;intro e w2 hp;obtain⟨hs,⟨k,hk,rfl⟩|⟨V,hV,rfl⟩⟩:=iW hp
   ·have HK:=Hq2 hk (HD.y.trans hs);clear hp hs hk;unfold ck;go_wp2_with fail;go_ret;refine (.inl ⟨k,.inr (.inr (.inl ⟨HP.a,HP.z,HD.a.symm,HK.a⟩)),rfl,(Turns.same HH.a HK.z)⟩)
   ·have hT1:Turns (arF S) (arF S) w w2:=Turns.same HH.a (HD.y.trans hs);obtain⟨p,hpm,hpk,hVp⟩:=qy hV.2.2;have hps:Sat w2 (d9 p.val p.g):=Sat.flat (f:=fun p:ba=>d9 p.val p.g) (hT1.sat.tail.right.right.left).tail hpm;have hvo:=(Sat.flat (f:=bL) hps.right hVp:Sat w2 (bL V)).Q5;have v0:w2.cell? ⟨V.blk,0,none⟩=some (.int .i64 V.num):=aa hvo 0 rfl;have hvl:=ae hvo;have hnum:=(((HH.c.vers p hpm).2.2 V hVp).1);have hne:af S.ps l≠[]:=fun e=>by have:=hV.2.2;rw[e]at this;cases this
    have a1:w2.cell? ⟨S.a,1,none⟩=some (.map (some S.X.tm)):=aa hT1.sat.Q5 1 rfl;have hal2:=ae hT1.sat.Q5;have htm:=hT1.sat.Q7 (b:=S.X.tm) (o:=aO str (S.ts.map aN) S.tc) (by simp[arF,bU]);have hOm:OkS m:=by have:=bA HP.a;unfold OkS;omega
    obtain⟨hb,hhb⟩:∃hb,hb=iv (S.ts.map aN) m:=⟨_,rfl⟩
    obtain⟨x0,x1,x2,hz⟩:∃x0 x1:Bs,∃x2:Int,(dz (S.ts.map aN) m).getD KT=.agg #[str x0,str x1,.int .i64 x2]:=by
     cases hg:dz (S.ts.map aN) m with
     | none=>exact⟨[],[],0,rfl⟩
     | some u =>
      obtain⟨e,he,hek,hev⟩:=lr hg;obtain⟨q,hq,rfl⟩:=mem_map.1 he;have h3:=HH.b.tags.val q hq;refine⟨q.key,q.g.1,q.g.2,?_⟩;have:u=q.val:=hev.symm;rw[this,h3];rfl
    have HV:=Hq7 hV hT1 htm hOm hhb hz hne;clear hp hs hV hT1 hps hvo hpm hpk hVp hne htm hOm hhb hz;unfold dH;have hhg:gN S.ts m=hb:=by rw[HV.e,qi]
    have HG:=qqH hhg;clear hhg
    cases hb with
    | true =>
     go_wp2_with (at_lookup;refine ah rfl (iJ dK (.tmp 39) (.tmp 40) rfl Tryz.underlying52 HV.c HH.b.tags.map (kt _) m rfl rfl HV.d ?_);rw[HV.f,<- HV.e]);go_ret;refine (.inl ⟨6,.inr (.inr (.inr ⟨V,HP.a,HV.a,.inl ⟨HG.out,rfl⟩⟩)),rfl,HV.b.alloc _⟩)
    | false =>
     go_upto_region 11 with(at_lookup;refine ah rfl (iJ dK (.tmp 39) (.tmp 40) rfl Tryz.underlying52 HV.c HH.b.tags.map (kt _) m rfl rfl HV.d ?_);rw[HV.f,<- HV.e]);generalize hW:(w2.alloc _).alloc _=W
     have hT2:Turns (arF S) ((w2.heap.size+1,Is (.cells #[str m,str l,.int .i64 V.num] 156 (0,0)))::arF S) w W:=by
      rw[<- hW];have:=(HV.b.alloc (.cells #[str x0,str x1,.int .i64 x2] 156)).Q8 (.cells #[str m,str l,.int .i64 V.num] 156);rwa [World.size_alloc]at this
     have hbo:=hT2.sat.Q5;have d0:W.cell? ⟨w2.heap.size+1,0,none⟩=some (str m):=aa hbo 0 rfl;have d1:W.cell? ⟨w2.heap.size+1,1,none⟩=some (str l):=aa hbo 1 rfl;have d2:W.cell? ⟨w2.heap.size+1,2,none⟩=some (.int .i64 V.num):=aa hbo 2 rfl;obtain⟨pb,hpb⟩:∃pb,pb=w2.heap.size+1:=⟨_,rfl⟩;rw[<- hpb]at hT2 d0 d1 d2 ⊢;have H2:=qqH hT2;clear hW hT2 hbo hpb;go_wp2_with fail;refine(lZ 4 m l V.num _).mono ?_;rintro e w3 ⟨rfl,hs3⟩;obtain⟨rec,hrec⟩:∃rec,rec=frame 4 (dG l m V.num):=⟨_,rfl⟩
     have hrl:rec.length<=70000:=by
      have:=bA HP.a;have:=bA HP.z;rw[hrec];simp only[aX,dG,length_append,bw,bM];omega
     have hWr:=kr 4 l m V.num w3 (by have:=bA HP.z;omega) (by have:=bA HP.a;omega) (by unfold I64;have:=HH.x;omega);rw[<- hrec]at hWr;have HW:=qqH hWr;have H3:=Hq3 (H2.out.Q9 hs3) hrec hrl;clear hs3 hrec hrl hWr d0 d1 d2;go_wp2_with fail;refine HW.out.mono ?_;rintro e w4 ⟨rv,rfl,hbo,hT4⟩;obtain⟨ra,rc,hrv,-⟩:=aL (cZ hT4.sat hbo);subst hrv;have hT5:=((H3.a.Qb hT4).Q8 (.cells #[.slice ra rec.length rc] 35)).to (H:=(arF S++mD w4.heap.size (.slice ra rec.length rc) rec)++[(pb,Is (.cells #[str m,str l,.int .i64 V.num] 156 (0,0)))]) (by unfold mD;exact ac);have HC:=qqH (kW S HH.b b HH.c HH.x (.slice ra rec.length rc) rec w4.heap.size _ hT5.sat.left hbo H3.y);have hal4:=ae (hT5.sat.Q7 (b:=S.a) (o:=aJ S.X) (by simp[arF]));have H5:=qqH hT5;clear hT4 hT5 hbo;go_wp2_with fail;refine HC.out.mono ?_;rintro e w5 (⟨hful,rfl,hs⟩|⟨hfit,rfl,L',hR,hT6⟩)
     ·have H6:=Hq2 hful (H5.out.Q9 hs);clear hful hs;unfold ck;go_wp2_with fail;go_ret;refine (.inl ⟨8,.inr (.inr (.inr ⟨V,HP.a,HV.a,.inr ⟨HG.out,by rw[<- H3.b];exact H6.a,rfl⟩⟩)),rfl,?_⟩);exact H6.z.drop (fun x=>by simp only[ai];omega)
     ·have hT7:=H5.out.step (Perm.refl _) hT6;have hT8:=hT7.to (H:=jI S.a S.X S.ps S.pc S.ts S.tc++((ap S.X.ab S.X.d (m9 S L' rec).A++(aD S.X.d L'++aP S.X.cm S.cs S.cc))++(mD w4.heap.size (.slice ra rec.length rc) rec++[(pb,Is (.cells #[str m,str l,.int .i64 V.num] 156 (0,0)))]))) (by unfold arF m9 jI;exact ac);have hbo8:=hT8.sat.Q7 (b:=pb) (o:=.cells #[str m,str l,.int .i64 V.num] 156 (0,0)) (by simp);have d0:w5.cell? ⟨pb,0,none⟩=some (str m):=aa hbo8 0 rfl;have d1:w5.cell? ⟨pb,1,none⟩=some (str l):=aa hbo8 1 rfl;have d2:w5.cell? ⟨pb,2,none⟩=some (.int .i64 V.num):=aa hbo8 2 rfl;have hal5:S.a<w5.heap.size:=ae (hT8.sat.Q7 (b:=S.a) (o:=aJ S.X) (by simp[jI]));have H8:=Hq3 hT8 hfit hR;clear hT6 hT7 hT8 hbo8 hfit hR;go_wp2_with fail;refine wp_region_still_tail 4 HM.out (by kernel_rfl) ?_;simp only[QE,take_zero,QD,drop_zero];repeat still_step
      refine wpStill_nil ?_;change wpList _ _ _ _ _ w5.drew;have hT9:=H8.a.drew;have HPn:=qqH (xo S.a S.X S.ps S.pc S.ts S.tc m l V.num w5.drew ⟨hT9.sat.left,HH.b.paths,HH.b.tags,HV.d,by unfold OkS;have:=bA HP.z;omega,by have:=zf HH.c l;have:=HH.x;omega,EC HH.c HH.x l⟩);have H9:=qqH hT9;clear hT9 d0 d1 d2;go_wp2_with fail;refine HPn.out.mono ?_;rintro e w6 ⟨rfl,hT10⟩;have H10:=qqH (H9.out.step (Perm.refl _) hT10);clear hT10;go_wp2_with fail;go_ret;refine (.inr ⟨V,L',HP.a,HV.a,HG.out,by rw[<- H3.b];exact H8.b,rfl,by rw[<- H3.b];exact H8.y,?_⟩);refine H10.out.drop (fun x=>?_);unfold zd arF m9 jI;rw[<- H3.b];simp only[ao,ai];omega
end
section
open Go.RowKit Go.Maps Go.Sort Go.Shelf
def yN(t:Bs×Bs×Int):List Value:=[str t.1,str t.2.1,.int .i64 t.2.2]
def gQ(l:List (Bs×Bs×Int)):List Value:=l.flatMap yN
def q8(v:Value)(l:List (Bs×Bs×Int)):HF:=bK 156 3 v l.length (gQ l)
def xm(v:Value)(l:List (Bs×Bs×Int)):Prop:=et 3 v l.length (gQ l)
theorem qk(l m:List (Bs×Bs×Int)):gQ (l++m)=gQ l++gQ m:=by simp[gQ]
theorem l5(l:List (Bs×Bs×Int)):(gQ l).length=l.length*3:=by
 induction l with
 | nil=>rfl
 | cons a r ih=>simp only[gQ,flatMap_cons,length_append,length_cons]at ih ⊢;rw[ih];simp[yN];omega
theorem Kk:(Tryz.prog.info? 156).map (fun i=>(i.zero,i.size,i.bytes))=some (some (.agg #[str [],str [],.int .i64 0]),3,40):=by kernel_rfl
theorem I2(l:List (Bs×Bs×Int)):∀u∈gQ l,u.oneCell'=true:=fun u hu=>by
 obtain⟨v,hv,hx⟩:=mem_flatMap.1 hu
 simp only[yN,mem_cons,not_mem_nil,or_false]at hx
 rcases hx with rfl|rfl|rfl<;>rfl
theorem zh{o:Oper}{a:Act}{w a0:World}{K:Act->World->Prop}{Q:Exit->Act->World->Prop}{F G:HF}(s x:Operand)(hop:o.op=.call { callee:=.builtin .append,args:=#[s,x],argTypes:=#[109,109] })(v:Value)(l:List (Bs×Bs×Int))(hs:a.eval s=v)(hT:Turns F (q8 v l++G) a0 w)(hok:xm v l)(sa:Option Addr)(m c:Nat)(hx:a.eval x=.slice sa m c)(r:List (Bs×Bs×Int))(hm:m=r.length)(hc:ak w sa (gQ r))(hb:l.length+r.length<=1000000)(hk:∀v' w',xm v' (l++r)->Turns F (q8 v' (l++r)++G) a0 w'->K (a.put o.dst v') w'):o.wp Tryz.prog a w K Q:=by
 obtain⟨i0,hi0,hz1,hz2,hz3⟩:=info_parts Kk;refine cV s x 109 156 i0 (.agg #[str [],str [],.int .i64 0]) 3 40 hop Tryz.underlying109 hi0 hz1 hz2 hz3 rfl (by decide) v l.length (gQ l) hs hT hok sa m c hx (gQ r) (by rw[l5,hm]) (fun hp=>?_) (I2 r) (by unfold maxLen;omega) (by omega) (fun v' w' k1 k2 _=>hk v' w' (by unfold xm;rw[length_append,qk,<- hm];exact k1) (by unfold q8;rw[length_append,qk,<- hm];exact k2));obtain⟨g,off,e,hcc⟩:=hc (by rw[l5];omega);refine⟨_,e,fun j u hu=>?_⟩;obtain⟨hj,rfl⟩:=List.getElem?_eq_some_iff.1 hu;rw[Addr.add_lit];exact hcc j hj
def gC(ts:List fO):List Bs:=(ts.map (·.key)).mergeSort (fun x y=>decide (x<=y))
def ec(ts:List fO)(ks:List Bs):List (Bs×Bs×Int):=ks.map (fun k=>(k,gOf ([],0) ts k))
def Hu(S:AS)(w:World)(e:Ending)(w':World):Prop :=
 (S.X.closed=true/\e=.returned (.tuple #[.slice none 0 0,ck 9])/\Turns (arF S) (arF S) w w') \/
 (S.X.closed=false/\∃v,e=.returned (.tuple #[v,.nilIface])/\xm v (ec S.ts (gC S.ts))/\Turns (arF S) (q8 v (ec S.ts (gC S.ts))++arF S) w w')
def JO(S:AS)(ks:List Bs)(kv:Value)(w:World)(out i:Value)(W:World):Prop :=
 ∃j:Nat,j<=ks.length/\i=.int .i64 j/\xm out (ec S.ts (ks.take j))/\Turns (arF S) (q8 out (ec S.ts (ks.take j))++(arF S++bK 9 1 kv ks.length (ks.map str))) w W
theorem xD{a b:List Bs}(h:a.Perm b):a.mergeSort (fun x y=>decide (x<=y))=b.mergeSort (fun x y=>decide (x<=y)):=by
 have ht:∀x y z:Bs,decide (x<=y)=true->decide (y<=z)=true->decide (x<=z)=true:=fun x y z h1 h2=>by
  simp only[decide_eq_true_eq]at h1 h2 ⊢;exact List.le_trans h1 h2
 have htot:∀x y:Bs,(decide (x<=y) || decide (y<=x))=true:=fun x y=>by
  simp only[Bool.or_eq_true,decide_eq_true_eq];exact List.le_total x y
 refine Perm.eq_of_pairwise (le:=fun x y=>decide (x<=y)=true) (fun x y _ _ h1 h2=>?_) (pairwise_mergeSort ht htot a) (pairwise_mergeSort ht htot b) (((mergeSort_perm a _).trans h).trans (mergeSort_perm b _).symm);simp only[decide_eq_true_eq]at h1 h2;exact List.le_antisymm h1 h2
theorem Ku{S:AS}{w wa w':World}{B:Nat}{v:Value}{xs:List Value}(hT:Turns (arF S) (arF S) w wa)(hB:B=wa.heap.size)(ho:w'.ownsRow B 9 1 v xs.length xs)(hb:Below B wa w'):et 1 v xs.length xs/\Turns (arF S) (bK 9 1 v xs.length xs++arF S) w w':=by
 subst hB;obtain⟨h1,h2⟩:=fg ho;refine⟨h2,hT.Qb ⟨(aQ.of_below hb).mods _,h1,fun g hg=>.inr ?_⟩⟩;have hg:=(eK _ _ _ _ _ _).1 hg;rcases ho.2 with⟨rfl,-⟩|⟨g',cap,cur,rfl,hb',-⟩
 ·cases hg
 ·simp only[Value.ownBlock,Option.some.injEq]at hg;subst hg;exact hb'
theorem BQ{S:AS}{ss:List Bs}{D:DataW Unit}(h1:ss.Perm (strKeys D))(h2:(strKeys D).Perm ((S.ts.map aN).map (·.key))):(ss.mergeSort (fun x y=>decide (x<=y))).map encStr=(gC S.ts).map str/\ss.length=(gC S.ts).length:=by
 have h3:ss.Perm (S.ts.map (·.key)):=by rw[<- cy];exact h1.trans h2
 refine⟨?_,?_⟩
 ·unfold gC;rw[xD h3];try rfl
 ·unfold gC;rw[length_mergeSort];exact h3.length_eq
theorem Ca{S:AS}(ht:TagsOk S.ts S.tc){k:Bs}(hk:k∈gC S.ts):(dz (S.ts.map aN) k).getD KT=.agg #[str k,str (gOf ([],0) S.ts k).1,.int .i64 (gOf ([],0) S.ts k).2]/\OkS k:=by
 have hk2:k∈S.ts.map (·.key):=(mergeSort_perm _ _).mem_iff.1 hk;obtain⟨q,hq,hqk⟩:=mem_map.1 hk2;rw[cP];unfold eH gOf
 cases hf:S.ts.find? (fun p=>decide (p.key=k))with
 | none=>exact absurd hqk (by simpa using find?_eq_none.1 hf q hq)
 | some p =>
  have h1:p.key=k:=by simpa using find?_some hf
  have h2:=mem_of_find?_eq_some hf;refine⟨by have:=ht.val p h2;simp only[];rw[this,h1];rfl,?_⟩;have:=ht.map.ok (aN p) (mem_map.2 ⟨p,h2,rfl⟩);rw[<- h1];exact this
theorem Ac(w:World)(xs:List Value)(t:TypeId):ak (w.alloc (.cells xs.toArray t)) (some ⟨w.heap.size,0,none⟩) xs:=fun _ =>
 ⟨_,_,rfl,fun j hj=>by rw[Nat.zero_add];exact aa (aK w _) j (by simp)⟩
theorem CA(S:AS)(b:Nat)(w:World)(h:Sat w (arF S))(hok:ArOk S)(hB:ArB S b)(hb:b<=90000):
  Calls Tryz.prog 47 #[.pointer (some ⟨S.a,0,none⟩)] w (Hu S w):=by
 have ha:=h.Q5;have hal:=ae ha
 cases hc:S.X.closed with
 | true =>
  have a10:w.cell? ⟨S.a,10,none⟩=some (.bool true):=by rw[<- hc];exact aa ha 10 rfl
  have HC:=Hq2 hc h;clear h hok hB hb ha hc;go_enter Tryz.func47,Tryz.ntmps47;go_wp2_with fail;exact bodyPost_ret (results_tmp2 rfl _ _ _) rfl (.inl ⟨HC.a,rfl,Turns.refl HC.z⟩)
 | false =>
  have a10:w.cell? ⟨S.a,10,none⟩=some (.bool false):=by rw[<- hc];exact aa ha 10 rfl
  have a1:w.cell? ⟨S.a,1,none⟩=some (.map (some S.X.tm)):=aa ha 1 rfl;have htm:=h.Q7 (b:=S.X.tm) (o:=aO str (S.ts.map aN) S.tc) (by simp[arF,bU]);obtain⟨D,hD,hDp,hDs⟩:=pp htm hok.tags.map (by rw[length_map];have:=hB.nt;omega);have hlen:(S.ts.map aN).length<=90000:=by rw[length_map];have:=hB.nt;omega
  have hKs:=oJ S.X.tm _ D Fr w hD (by rw[hDs];unfold maxLen;omega) (by rw[hDs];omega);have HK:=qqH (callsIn_wide.1 hKs);have HM:=qqH (callsIn_wide.1 (ug (some S.X.tm) w));have HH:=Hq7 h hok hB hb hc hDp hlen;clear h hok hB hb ha hc htm hD hDp hDs hlen hKs;go_enter Tryz.func47,Tryz.ntmps47;go_wp2_with fail;refine HM.out.mono ?_;rintro e w1 ⟨rfl,rfl⟩;go_wp2_with fail;refine HK.out.mono ?_;rintro e w2 ⟨v,ss,rfl,hss,hown,-,hbel⟩;obtain⟨hs1,hs2⟩:=BQ hss HH.f;rw[hs1,hs2]at hown;obtain⟨ks,hks⟩:∃ks,ks=gC S.ts:=⟨_,rfl⟩;rw[<- hks]at hown;obtain⟨hro,hT0⟩:=Ku (S:=S) ((Turns.refl HH.a).alloc _) rfl (by rw[length_map];exact hown) hbel;rw[length_map]at hro hT0;obtain⟨sl,cap,rfl,-,hcap,-,-⟩:=bv hT0.sat.left hro (by decide)
  have hkl:ks.length<=90000:=by
   have:=HH.u;rw[hks];unfold gC;rw[length_mergeSort,length_map];rw[length_map]at this;exact this
  have hal2:=ae (hT0.sat.right.Q5);have HV:=Hq4 hT0 hro hks hkl;clear hss hown hbel hs1 hs2 hks hro hT0;go_wp2_with fail;go_loopw [4,20] (fun out i wr=>JO S ks (.slice sl ks.length cap) w out i wr) (fun _ i _=>ks.length-(intOf i).toNat)
  case atStart=>exact⟨0,Nat.zero_le _,rfl,by unfold xm;exact⟨rfl,fun _=>⟨rfl,rfl⟩⟩,by exact HV.a.drop (fun x=>by show cnt x ([]++(arF S++_))<=_;simp only[ai,ee];omega)⟩
  case round =>
   obtain⟨j,hj,rfl,hio,hT⟩:=hrel;have HR:=Hq2 hio hT;clear hio hT;by_cases hlt:j<ks.length
   ·obtain⟨sl2,cap2,e1',-,-,hcell,-⟩:=bv (w:=wr) (HR.z.sat.right.right) HV.b (by decide);simp only[Value.slice.injEq]at e1';obtain⟨rfl,-,rfl⟩:=e1';obtain⟨g,off,hg,hcc⟩:=hcell (by rw[length_map];omega);subst hg;have hc1:=hcc j (by rw[length_map];exact hlt);rw[getElem_map]at hc1;obtain⟨k,hk⟩:∃k,k=ks[j]:=⟨_,rfl⟩;rw[<- hk]at hc1;have hkm:k∈gC S.ts:=by rw[<- HV.c,hk];exact getElem_mem hlt
    obtain⟨hlk,hOk⟩:=Ca HH.b.tags hkm;have hA:=(HR.z.sat.right.left).Q5;have a1':wr.cell? ⟨S.a,1,none⟩=some (.map (some S.X.tm)):=aa hA 1 rfl;have htm:=HR.z.sat.Q7 (b:=S.X.tm) (o:=aO str (S.ts.map aN) S.tc) (by simp[arF,bU]);obtain⟨p1,n1,hpn⟩:∃p1 n1,gOf ([],0) S.ts k=(p1,n1):=⟨_,_,rfl⟩;rw[hpn]at hlk
    have htk:ec S.ts (ks.take (j+1))=ec S.ts (ks.take j)++[(k,p1,n1)]:=by
     unfold ec;rw[QH hlt,<- hk,map_append];simp[hpn]
    have hlen:(ec S.ts (ks.take j)).length<=90000:=by have:=HV.x;simp[ec];omega
    have HU:=Hq5 htk hlen hlk hOk htm;obtain⟨ns,hns⟩:∃ns,ns=ec S.ts (ks.take j):=⟨_,rfl⟩;rw[<- hns]at HR HU;clear hcell hcc htk hlen hlk hOk htm hA hpn hk hkm hns;go_wp2_with ((first|(refine dQ dK rfl _ _ rfl Tryz.underlying52 HU.w HH.b.tags.map (kt _) k rfl rfl HU.d ?_;rw[HU.c])|(at_builtin;refine ah rfl ?_;refine zh (.tmp 24) (.tmp 32) rfl _ ns rfl (HR.z.alloc _) HR.a _ 1 1 rfl [(k,p1,n1)] rfl (Ac wr (gQ [(k,p1,n1)]) _) (by have:=HU.b;show ns.length+1<=1000000;omega) ?_;intro av w5 hok5 hT5;have H5:=Hq2 hok5 hT5;clear hok5 hT5)));go_roundw
    case rel =>
     refine⟨j+1,by omega,by go_num,?_,?_⟩
     ·rw[HU.a];exact H5.a
     ·rw[HU.a];exact H5.z
    case measure=>simp[intOf];omega
   ·obtain rfl:j=ks.length:=by omega
    rw[take_length]at HR;go_wp2_with fail;go_ret2;refine (.inr ⟨HH.e,u4,rfl,?_,?_⟩)
    ·rw[<- HV.c];exact HR.a
    ·rw[<- HV.c];exact HR.z.drop (fun x=>by simp only[ai];omega)
end
end Go.Proofs.YtdhobpbngkainabGreatDoor
