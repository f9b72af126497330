/-
  'versionslaw.Frees' answers true at every input, and leaves its arguments as they were. Conditions: none of ours (the given statement's own: errors.errorType as the program's text lays it).
-/
import Derived.Test.YtdhobpbngkainabGreatDoorFr08
set_option maxRecDepth 100000
set_option maxHeartbeats 4000000
namespace Go.Proofs.YtdhobpbngkainabGreatDoor
open List
section
open Go.RowKit Go.Maps
def js(B:CB):Obj:=.cells (dS B.pm B.tm B.cm B.X.sc B.X.sb B.X.used) 55 (0,0)
def cbF(nx mv:Nat)(vb:Value)(B:CB):HF:=(nx,Is (js B))::(aF B.pm B.ps B.pc++(bU B.tm B.ts B.tc++(aP B.cm B.cs B.cc++((mv,Is (aO plV B.mp B.mc))::aA vb B.D))))
def fj(S:AS)(sp:List (Nat×Nat×Nat))(kv:Value)(ks:List Bs)(nx mv:Nat)(vb:Value)(B:CB)(J:HF):HF:=bK 9 1 kv ks.length (ks.map str)++(cbF nx mv vb B++(arF (ed S sp)++J))
def L7(S:AS)(kv:Value)(ks:List Bs)(nx mv:Nat)(w:World)(vb i:Value)(W:World):Prop :=
 ∃(j:Nat) (B:CB) (J:HF) (sp:List (Nat×Nat×Nat)),j<=ks.length/\i=.int .i64 j/\CbOk S (dZ S (ks.take j)) [] [] B vb/\AreaOk { S.A with spare:=sp }/\Turns (arF S) (fj S sp kv ks nx mv vb B J) w W
def L8(S:AS)(kv:Value)(ks:List Bs)(nx mv:Nat)(w:World)(dn:zo)(l:Bs)(vs:List VerL)(vb i:Value)(W:World):Prop :=
 ∃(k:Nat) (B:CB) (J:HF) (sp:List (Nat×Nat×Nat)),k<=vs.length/\i=.int .i64 k/\CbOk S (dn++(vs.take k).map (fun V=>(l,V))) [] [] B vb/\AreaOk { S.A with spare:=sp }/\Turns (arF S) (fj S sp kv ks nx mv vb B J) w W
def L9(S:AS)(kv:Value)(ks:List Bs)(nx mv:Nat)(w:World)(dn:zo)(V:VerL)(wb:Nat)(vb i:Value)(W:World):Prop :=
 ∃(m:Nat) (B:CB) (J:HF) (sp:List (Nat×Nat×Nat)) (wv:Value) (chs:List (Nat×Nat)),m<=V.chs.length/\i=.int .i64 m/\CbOk S dn ((V.chs.take m).map (bq S.K)) [] B vb/\iO S B.s.K (V.chs.take m) chs/\bP wv chs/\AreaOk { S.A with spare:=sp } /\
  Turns (arF S) (bL (gP wb V wv chs)++fj S sp kv ks nx mv vb B J) w W
def Ma(S:AS)(kv:Value)(ns:List Bs)(nx mv:Nat)(w:World)(vb i:Value)(W:World):Prop :=
 ∃(j:Nat) (B:CB) (J:HF) (sp:List (Nat×Nat×Nat)),j<=ns.length/\i=.int .i64 j/\CbOk S (dZ S (fP S.ps)) [] (ec S.ts (ns.take j)) B vb/\AreaOk { S.A with spare:=sp }/\Turns (arF S) (fj S sp kv ns nx mv vb B J) w W
theorem yx{γ:Type}{z:γ}{q:GE γ}:∀{ts:List (GE γ)},(ts.map (·.key)).Nodup->q∈ts->gOf z ts q.key=q.g
 | a::r,hn,hq=>by
  obtain⟨n1,n2⟩:=nodup_cons.1 hn
  rcases mem_cons.1 hq with rfl|hq
  ·unfold gOf;simp
  ·have h:¬a.key=q.key:=fun e=>n1 (mem_map.2 ⟨q,hq,e.symm⟩)
   have:=yx (z:=z) n2 hq
   unfold gOf at this ⊢
   rw[find?_cons_of_neg (by simpa using h)]
   exact this
theorem ColIn.tag_is{S:AS}(hi:ColIn S){m:Bs}(hm:m∈gC S.ts):m.length<=20/\∃(p:Bs) (n:Nat),gOf ([],0) S.ts m=(p,(n:Int))/\p.length<=20/\n<4294967296:=by
 obtain⟨q,hq,rfl⟩:=mem_map.1 ((mergeSort_perm _ _).mem_iff.1 hm);obtain⟨h1,h2,h3,h4⟩:=hi.tags q hq;refine⟨h1,q.g.1,q.g.2.toNat,?_,h2,by omega⟩;rw[yx (by rw[<- cy];exact hi.ok.tags.map.nodup) hq];refine Prod.ext rfl ?_;show q.g.2=_;omega
theorem ColIn.pins{S:AS}(hi:ColIn S):(ec S.ts (gC S.ts)).Perm (S.ts.map eZ):=by
 have h1:(S.ts.map (·.key)).map (fun k=>(k,gOf ([],0) S.ts k))=S.ts.map eZ:=by
  rw[map_map];refine map_congr_left (fun q hq=>?_);show(q.key,gOf ([],0) S.ts q.key)=(q.key,q.g.1,q.g.2);rw[yx (by rw[<- cy];exact hi.ok.tags.map.nodup) hq]
 rw[<- h1];unfold ec;exact(mergeSort_perm _ _).map _
theorem ColIn.Qi{S:AS}(hi:ColIn S){l:List Bs}(h:l <+: gC S.ts):dV (ec S.ts l)<=dV (S.ts.map eZ):=by
 have h1:dV (ec S.ts (gC S.ts))=dV (S.ts.map eZ):=by unfold dV;exact(hi.pins.map _).sum_nat
 obtain⟨r,hr⟩:=h;rw[<- h1,<- hr];unfold dV ec;rw[map_append,map_append,sum_append];omega
theorem wU(S:AS)(ks:List Bs){j:Nat}(h:j<ks.length):dZ S (ks.take (j+1))=dZ S (ks.take j)++(af S.ps ks[j]).map (fun V=>(ks[j],V)):=by
 unfold dZ;rw[QH h,flatMap_append];simp
theorem AC(S:AS)(ks:List Bs)(j:Nat):dZ S (ks.take j) <+: dZ S ks:=by
 refine⟨dZ S (ks.drop j),?_⟩;unfold dZ;rw[<- flatMap_append,take_append_drop]
theorem yw(S:AS)(ks:List Bs){j:Nat}(h:j<ks.length)(k:Nat):dZ S (ks.take j)++((af S.ps ks[j]).take k).map (fun V=>(ks[j],V)) <+: dZ S ks:=by
 refine IsPrefix.trans ?_ (AC S ks (j+1));rw[wU S ks h];exact(prefix_append_right_inj _).2 ((take_prefix k _).map _)
theorem ColIn.le{S:AS}(hi:ColIn S){dn:zo}{pt:List Bs}{td:List Tg}{B:CB}{vb:Value}(h:CbOk S dn pt td B vb)(hp:dn <+: dZ S (fP S.ps))(ht:dV td<=dV (S.ts.map eZ))(hpt:∀c∈pt,c∈S.K.map (·.1)):B.D.length<=je S:=by
 have h1:=h.costs (fun x hx q hq=>by
  obtain⟨l,-,hx⟩:=mem_flatMap.1 (hp.subset hx);obtain⟨V,hV,rfl⟩:=mem_map.1 hx;obtain⟨p,hp,-,hpg⟩:=bD (ne_nil_of_mem hV);exact(hi.ok.vers p hp V (hpg ▸ hV)).1 q hq) hpt
 obtain⟨r,hr⟩:=hp;unfold je pU at *
 rw[<- hr,map_append,sum_append];omega
theorem sK{S:AS}(hok:ArOk S){l:Bs}{V:VerL}(hV:V∈af S.ps l){W:World}(hs:Sat W (aF S.X.pm S.ps S.pc)):Sat W (bL V)/\bP V.cv V.chs/\(∀q∈V.chs,∃e∈S.K,e.2=q)/\V.size=(V.chs.map (·.2)).sum:=by
 obtain⟨p,hp,-,hpg⟩:=bD (ne_nil_of_mem hV);have hV':V∈p.g:=hpg ▸ hV;have hps:Sat W (d9 p.val p.g):=Sat.flat (f:=fun p:ba=>d9 p.val p.g) hs.tail hp;exact⟨Sat.flat (f:=bL) hps.right hV',(hok.paths.rows p hp).2 V hV',hok.vers p hp V hV'⟩
theorem I1{S:AS}(hok:ArOk S){l:Bs}(h:l∈fP S.ps):OkS l:=by
 obtain⟨p,hp,rfl⟩:=mem_map.1 (nV.1 h);exact hok.paths.map.ok (aN p) (mem_map.2 ⟨p,hp,rfl⟩)
theorem ia(S:AS)(sp:List (Nat×Nat×Nat)):arF (ed S sp)=(S.a,Is (aJ S.X))::(ap S.X.ab S.X.d { S.A with spare:=sp }++(aD S.X.d S.L++(aF S.X.pm S.ps S.pc++(bU S.X.tm S.ts S.tc++aP S.X.cm S.cs S.cc)))):=rfl
theorem FE(nx mv:Nat)(vb:Value)(B:CB)(c:Bs)(p:Nat×Nat)(v:Value):cbF nx mv vb (B.chunk c p v)=(nx,Is (js (B.chunk c p v)))::(aF B.pm B.ps B.pc++(bU B.tm B.ts B.tc++(aP B.cm (B.chunk c p v).cs (B.chunk c p v).cc++((mv,Is (aO plV (gF B.mp B.mc p (plV (B.D.length,c.length))) (cf B.mp B.mc p)))::aA vb (B.D++frame 1 c))))):=rfl
theorem J6(nx mv:Nat)(vb:Value)(B:CB)(l:Bs)(V:VerL)(b:Nat)(cv v':Value)(chs:List (Nat×Nat)):cbF nx mv vb (B.ver l V b cv v' chs)=(nx,Is (js (B.ver l V b cv v' chs)))::(aF B.pm (kw B.ps B.pc l v' (gP b V cv chs)) (cf (B.ps.map aN) B.pc l)++(bU B.tm B.ts B.tc++(aP B.cm B.cs B.cc++((mv,Is (aO plV B.mp B.mc))::aA vb (B.D++frame 2 (eF l V.num V.size (br chs))))))):=rfl
theorem J5(nx mv:Nat)(vb:Value)(B:CB)(m p:Bs)(n:Nat):cbF nx mv vb (B.tag m p n)=(nx,Is (js B))::(aF B.pm (cM B.ps p n 1) B.pc++(bU B.tm (eh B.ts B.tc m (mE m (p,(n:Int))) (p,(n:Int))) (cf (B.ts.map aN) B.tc m)++(aP B.cm B.cs B.cc++((mv,Is (aO plV B.mp B.mc))::aA vb (B.D++frame 4 (dG p m n)))))):=rfl
theorem Ec{P:Program}{o:Oper}{a:Act}{w a0:World}{K:Act->World->Prop}{Q:Exit->Act->World->Prop}{F G:HF}(ty:TypeId)(x y:Operand)(ho:o.op=.store ty x y)(b i:Nat)(old:List Value)(cells:Array Value)(t:TypeId)(hT:Turns F ((b,Is (.cells old.toArray t (0,0)))::G) a0 w)(hx:a.eval x=.pointer (some ⟨b,i,none⟩))(hy:a.eval y=.agg cells)(hsz:i+cells.size<=old.length)(hi:(P.info? ty).map (·.size)=some cells.size)(h1:cells.all (·.oneCell')=true)(hk:∀w',Turns F ((b,Is (.cells (spl old i cells.toList).toArray t (0,0)))::G) a0 w'->K (a.put o.dst undef) w'):o.wp P a w K Q:=by
 have hb:=hT.sat.Q5;obtain⟨q1,q2⟩:=fq hb i cells.toList (by simpa using hsz);exact wp_store_mid ty x y ho b i cells hx hy (dr hb i _ (by simpa using hsz)) hi h1 (hk _ (hT.Qa q2 q1))
theorem JV(S:AS)(B:CB)(L':DevL)(ab ch:Nat):arF (Ag S B L' ab ch)=(S.a,Is (aJ (Ag S B L' ab ch).X))::(ap ab S.X.d ⟨2+(S.X.ep+1)%2*ay S.L.n,ay S.L.n,B.D.length,bF B.D,ch,[]⟩++(aD S.X.d L'++(aF B.pm B.ps B.pc++(bU B.tm B.ts B.tc++aP B.cm B.cs B.cc)))):=rfl
def ky(S:AS)(w:World)(e:Ending)(w':World):Prop :=
 (S.X.closed=true/\e=.returned (ck 9)/\Turns (arF S) (arF S) w w')\/(S.X.closed=false/\e=.returned .nilIface/\∃S',CollectIs S S'/\Turns (arF S) (arF S') w w')
theorem Ch(wb:Nat)(V:VerL)(wv:Value)(chs:List (Nat×Nat)):bL (gP wb V wv chs)=(wb,Is (dt (gP wb V wv chs)))::aY wv chs:=rfl
def Lb(S:AS)(kv:Value)(ks:List Bs)(nx mv:Nat)(w:World)(dn:zo)(V:VerL)(wb m tb:Nat)(c:Bs)(p q:Nat×Nat)(wv:Value)(chs:List (Nat×Nat))(vb:Value)(B:CB)(J:HF)(sp:List (Nat×Nat×Nat))(W:World):Prop :=
 CbOk S dn ((V.chs.take m).map (bq S.K)++[c]) [] B vb/\iO S B.s.K (V.chs.take m) chs/\bq B.s.K q=c/\(c,q)∈B.s.K/\AreaOk { S.A with spare:=sp }/\Turns (arF S) ((tb+1,Is (aB q))::(bL (gP wb V wv chs)++fj S sp kv ks nx mv vb B ((tb,Is (aB p))::J))) w W
theorem xP(S:AS)(w:World)(h:Sat w (arF S))(hi:ColIn S)(b:Nat)(hB:ArB S b)(hb:b<=90000)(hc:S.X.closed=false):
  Calls Tryz.prog 29 #[.pointer (some ⟨S.a,0,none⟩)] w (fun e w'=>e=.returned .nilIface/\∃S',CollectIs S S'/\Turns (arF S) (arF S') w w'):=by
 have ha:=h.Q5;have hal:=ae ha;have a10:w.cell? ⟨S.a,10,none⟩=some (.bool false):=by rw[<- hc];exact aa ha 10 rfl
 have a11:w.cell? ⟨S.a,11,none⟩=some .nilIface:=by rw[<- hi.ok.sound];exact aa ha 11 rfl
 have HN:=qqH i4;have hmm:=@run_makeMap Tryz.prog;have hlen0:S.ps.length<=90000:=Nat.le_trans hB.np hb;have hlenT:S.ts.length<=90000:=Nat.le_trans hB.nt hb;have HI:=qqH hi;have HCH:=qqH (show S.L.chs.length<=23592960000 by have:=hB.chs;omega);have HH:=Hq3 h hlen0 hlenT;clear h hi hB hb hc ha hlen0 hlenT;go_enter Tryz.func29,Tryz.ntmps29;go_wp2_with fail;refine(HN.out w).mono ?_;rintro e w1 ⟨pm,tm,cm,rfl,hT1⟩;unfold dS;have HT1:=qqH (Turns.Qb (Turns.refl HH.a) hT1);clear hT1 a10 a11;go_upto_region 8 with(fail);obtain⟨B0,hB0⟩:∃B:CB,B=⟨pm,tm,cm,{ S.X with used:=0,sc:=0,sb:=0 },[],0,[],0,[],0,[],0,[],⟨[],[],[]⟩,[],0⟩:=⟨_,rfl⟩;obtain⟨nx,hnx⟩:∃n,n=w1.heap.size:=⟨_,rfl⟩
 have hT2:Turns (arF S) (cbF nx (nx+1) (.slice none 0 0) B0++arF S) w ((w1.alloc (.cells (dS pm tm cm 0 0 0) 55 (0,0))).alloc (.map #[] 0)):=by
  have h1:=HT1.out.Q8 (.cells (dS pm tm cm 0 0 0) 55 (0,0));have h2:=h1.Q8 (.map #[] 0);rw[World.size_alloc,<- hnx]at h2;refine h2.to ?_;rw[hB0];show Perm _ (((nx,Is (.cells (dS pm tm cm 0 0 0) 55 (0,0)))::([(pm,Is (.map #[] 0))]++([(tm,Is (.map #[] 0))]++([(cm,Is (.map #[] 0))]++[(nx+1,Is (.map #[] 0))]))))++arF S);exact ac
 have hok0:CbOk S [] [] [] B0 (.slice none 0 0):=by
  rw[hB0];exact⟨CtOk.empty ⟨rfl,rfl,rfl⟩,lu,(fun e he=>by cases he),(fun c q hq=>by cases hq),fi,rfl,fun l=>rfl,(fun l V hV=>absurd hV (by simp[af,gOf])),rfl,rfl⟩
 rw[<- hnx];generalize hw2:(w1.alloc (.cells #[.map (some pm),.map (some tm),.map (some cm),.int .i64 0,.int .i64 0,.int .i64 0] 55 (0,0))).alloc (.map #[] 0)=w2;have hT2:Turns (arF S) (cbF nx (nx+1) (.slice none 0 0) B0++arF S) w w2:=hw2 ▸ hT2;clear hw2 HT1;have hpm:=hT2.sat.right.Q7 (b:=S.X.pm) (o:=aO str (S.ps.map aN) S.pc) (by simp[arF,aF]);have hlen:(S.ps.map aN).length<=90000:=by rw[length_map];exact HH.b
 obtain⟨D,hD,hDp,hDs⟩:=pp hpm HI.out.ok.paths.map (by omega);have hKs:=uR S.X.pm _ D Fr w2 hD (by rw[hDs];unfold maxLen;omega) (by rw[hDs];omega);have HK:=qqH (callsIn_wide.1 hKs);have HMk:=qqH (callsIn_wide.1 (A6 (some S.X.pm) w2));have a0:w2.cell? ⟨S.a,0,none⟩=some (.map (some S.X.pm)):=aa hT2.sat.right.Q5 0 rfl;have hal2:=ae hT2.sat.right.Q5;have H2:=Hq4 hT2 hok0 hDp hlen;clear hT2 hok0 hpm hlen hD hDp hDs hKs hB0 hnx;go_wp2_with fail;refine HMk.out.mono ?_;rintro e w3 ⟨rfl,rfl⟩;go_wp2_with fail;refine HK.out.mono ?_;rintro e w4 ⟨v,ss,rfl,hss,hown,-,hbel⟩;obtain⟨hs1,hs2⟩:=sd hss H2.c;rw[hs1,hs2]at hown;obtain⟨ks,hks⟩:∃ks,ks=fP S.ps:=⟨_,rfl⟩;have hks':kO ((S.ps.map aN).map (·.key))=ks:=by rw[hks];unfold fP;rw[cy]
 rw[hks']at hown;obtain⟨hro,hT4⟩:=Bd (H2.a.alloc _) rfl (by rw[length_map];exact hown) hbel;rw[length_map]at hro hT4;obtain⟨sl,cap,rfl,hcap0,hcap,-,-⟩:=bv hT4.sat.left hro (by decide)
 have hkl:ks.length<=90000:=by
  have:=HH.b;rw[hks];unfold fP kO;rw[length_mergeSort,length_map];exact this
 have hal4:=ae (hT4.sat.right.right.Q5);have H4:=Hq4 hT4 hro hks hkl;clear hss hown hbel hs1 hs2 hks hks' hro hT4 a0;go_wp2_with fail;go_loopw [4,45] (fun vb i wr=>L7 S (.slice sl ks.length cap) ks nx (nx+1) w vb i wr) (fun _ i _=>ks.length-(intOf i).toNat)
 case atStart=>exact⟨0,B0,[],S.A.spare,Nat.zero_le _,rfl,H2.b,HI.out.ok.area,H4.a.to (by unfold fj;rw[append_nil];exact Perm.refl _)⟩
 case round =>
  obtain⟨j,B,J,sp,hj,rfl,hcb,hAo,hT⟩:=hrel;by_cases hlt:j<ks.length
  ·obtain⟨sl2,cap2,e1',-,-,hcell,-⟩:=bv (w:=wr) hT.sat.left H4.b (by decide);simp only[Value.slice.injEq]at e1';obtain⟨rfl,-,rfl⟩:=e1';obtain⟨g,off,hg,hcc⟩:=hcell (by rw[length_map];omega);subst hg;have hc1:=hcc j (by rw[length_map];exact hlt);rw[getElem_map]at hc1;obtain⟨l,hl⟩:∃l,l=ks[j]:=⟨_,rfl⟩;rw[<- hl]at hc1;have hA:=(hT.sat.right.right.left).Q5;have a0':wr.cell? ⟨S.a,0,none⟩=some (.map (some S.X.pm)):=aa hA 0 rfl;have hal5:=ae hA;obtain⟨vsl,vcap,hval,hvc,hvc2,-,-,-⟩:=fo (hT.sat.sub (G:=aF S.X.pm S.ps S.pc) (fun x=>by unfold fj ed arF;simp only[ao,ai];omega)) HI.out.ok.paths l;obtain⟨vs,hvs⟩:∃vs,vs=af S.ps l:=⟨_,rfl⟩;rw[<- hvs]at hval hvc;have hmo:wr.heap[S.X.pm]?=some (aO str (S.ps.map aN) S.pc):=hT.sat.Q7 (by simp[fj,arF,ed,aF]);have hOk:OkS l:=I1 HI.out.ok (by rw[<- H4.c,hl];exact getElem_mem hlt);have HR:=Hq8 hcb hAo hT hmo hval hOk hl hvs;clear hcb hAo hT hmo hval hOk hl hvs hcell hcc hA;go_wp2_with ((refine dQ dK rfl _ _ rfl Tryz.underlying51 HR.d HI.out.ok.paths.map (fN _) l rfl rfl HR.f ?_;rw[cP,HR.e]));obtain⟨dn,hdn⟩:∃dn,dn=dZ S (ks.take j):=⟨_,rfl⟩
   have hdn1:dn++vs.map (fun V=>(l,V))=dZ S (ks.take (j+1)):=by
    have:=wU S ks hlt;rw[<- HR.g,<- HR.t,<- hdn]at this;exact this.symm
   have hpre:∀k,dn++(vs.take k).map (fun V=>(l,V)) <+: dZ S (fP S.ps):=fun k=>by
    have:=yw S ks hlt k;rw[<- HR.g,<- HR.t,<- hdn]at this;rw[<- H4.c];exact this
   have hvm:∀V∈vs,V∈af S.ps l:=fun V hV=>by rw[<- HR.t];exact hV
   have HD:=Hq7 hdn hdn1 hpre hvm HR.t HR.e HR.f
   have hl20:vs≠[]->l.length<=20:=fun hne=>by
    obtain⟨V,hV⟩:=exists_mem_of_ne_nil vs hne;exact(HI.out.vers l V (hvm V hV)).2.2.2
   have HL:=qqH hl20;clear hdn hdn1 hpre hvm hc1 a0' hl20;go_loopw [4,57] (fun vb i wr=>L8 S (.slice (some ⟨g,off,none⟩) ks.length cap) ks nx (nx+1) w dn l vs vb i wr) (fun _ i _=>vs.length-(intOf i).toNat)
   case atStart=>exact⟨0,B,J,sp,Nat.zero_le _,rfl,by rw[take_zero,map_nil,append_nil,HD.a];exact HR.a,HR.b,HR.c⟩
   case round =>
    clear HR;obtain⟨k,B,J,sp,hk,rfl,hcb,hAo,hT⟩:=hrel;by_cases hkl:k<vs.length
    ·obtain⟨vsl2,vcap2,e2',-,-,hvcell,-,-⟩:=fo (hT.sat.sub (G:=aF S.X.pm S.ps S.pc) (fun x=>by unfold fj ed arF;simp only[ao,ai];omega)) HI.out.ok.paths l;rw[<- HD.e]at e2' hvcell;rw[HD.f]at e2';simp only[Value.slice.injEq,true_and]at e2';obtain⟨rfl,rfl⟩:=e2';obtain⟨g2,off2,hg2,hc2⟩:=hvcell (by rw[length_map];omega);subst hg2;obtain⟨V,hV⟩:∃V,V=vs[k]:=⟨_,rfl⟩;have hp1:wr.cell? ⟨g2,off2+k,none⟩=some (.pointer (some ⟨V.blk,0,none⟩)):=by rw[hc2 k (by simpa using hkl)];simp[hV,dH]
     have hVm:V∈af S.ps l:=HD.d V (by rw[hV];exact getElem_mem hkl);obtain⟨hvf,hvo,hvK,hvs⟩:=sK HI.out.ok hVm (hT.sat.sub (G:=aF S.X.pm S.ps S.pc) (fun x=>by unfold fj ed arF;simp only[ao,ai];omega));obtain⟨csl,ccap,hcv,hcc,hcc9,-⟩:=fd hvf.tail hvo;have hvb:=ae hvf.Q5;have hnum:=HI.out.vers l V hVm
     have htk:dn++(vs.take (k+1)).map (fun V=>(l,V))=(dn++(vs.take k).map (fun V=>(l,V)))++[(l,V)]:=by
      rw[QH hkl,<- hV,map_append,append_assoc];rfl
     have HV:=qqH (And.intro hcb (And.intro hAo (And.intro hT (And.intro hVm (And.intro hvo (And.intro hvK (And.intro hvs (And.intro hcv (And.intro hnum htk)))))))));have hcl:V.chs.length<=16000:=hnum.2.2.1;clear hcb hAo hT hVm hvf hvo hvK hvs hcv hnum htk hvcell hc2 hV;go_upto_region 14 with(fail);refine db [([0,1,2,3,4,5,6,7,8],9,[])] [10] HM.out (by kernel_rfl) fun W tW=>?_
     simp only[Mix,map_cons,map_nil,nth,QG,QF];have hT1:=tW HV.c;clear tW;have hvf:=(sK HI.out.ok HV.d (hT1.sat.sub (G:=aF S.X.pm S.ps S.pc) (fun x=>by unfold fj ed arF;simp only[ao,ai];omega))).1;have v0:W.cell? ⟨V.blk,0,none⟩=some (.int .i64 V.num):=aa hvf.Q5 0 rfl;have v1:W.cell? ⟨V.blk,1,none⟩=some (.int .i64 V.size):=aa hvf.Q5 1 rfl;repeat still_step
     refine wpStill_nil (i8 (dt (gP 0 V (.slice none 0 0) [])) (fun n=>.pointer (some ⟨n,0,none⟩)) (by kernel_rfl) hT1 fun wb W1 hT2=>⟨rfl,?_⟩);simp only[Act.put,QA,QB,QC];repeat still_step
     refine wpStill_nil ?_;have hvf2:=(sK HI.out.ok HV.d (hT2.sat.sub (G:=aF S.X.pm S.ps S.pc) (fun x=>by unfold fj ed arF;simp only[ao,ai];omega))).1;have v2:W1.cell? ⟨V.blk,2,none⟩=some (.slice csl V.chs.length ccap):=by rw[<- HV.h];exact aa hvf2.Q5 2 rfl
     have hvl:=ae hvf2.Q5;have H2:=qqH hT2;clear hT1 hvf v0 v1 hT2 hvf2;go_wp2_with fail;go_loopw [4,76] (fun vb i wr=>L9 S (.slice (some ⟨g,off,none⟩) ks.length cap) ks nx (nx+1) w (dn++(vs.take k).map (fun V=>(l,V))) V wb vb i wr) (fun _ i _=>V.chs.length-(intOf i).toNat)
     case atStart=>exact⟨0,B,J,sp,.slice none 0 0,[],Nat.zero_le _,rfl,HV.a,iO.nil _ _,⟨rfl,fun _=>⟨rfl,rfl⟩⟩,HV.b,H2.out⟩
     case round =>
      have HV:=qqH HV.x;obtain⟨m,B,J,sp,wv,chs,hm,rfl,hcb,hch,hpo,hAo,hT⟩:=hrel;by_cases hml:m<V.chs.length
      ·obtain⟨hvf,-,-,-⟩:=sK HI.out.ok HV.a (hT.sat.sub (G:=aF S.X.pm S.ps S.pc) (fun x=>by unfold fj ed arF;simp only[ao,ai];omega));obtain⟨csl2,ccap2,e3',-,-,hcells⟩:=fd hvf.tail HV.b;rw[HV.e]at e3';simp only[Value.slice.injEq,true_and]at e3';obtain⟨rfl,rfl⟩:=e3';obtain⟨g3,off3,hg3,hc3⟩:=hcells (by rw[eS];omega);subst hg3;obtain⟨hq1,hq2⟩:=mY hc3 hml;obtain⟨⟨c,p1,p2⟩,heK,hep⟩:=HV.c V.chs[m] (getElem_mem hml);have hp2:p2=c.length:=(HI.out.ok.kat _ heK).1;subst hp2;have hep:V.chs[m]=(p1,c.length):=hep.symm;rw[hep]at hq1 hq2;simp only at hq1 hq2;obtain⟨bsl,bcap,hbv,-,hbc,hbcells,-⟩:=aL (cZ (hT.sat.sub (G:=aA u4 B.D) (fun x=>by unfold fj cbF;simp only[ao,ai];omega)) hcb.row);subst hbv;have hcl6:c.length<65536:=(eD (HI.out.ok.kat _ heK).2.2).2.2.2.2;have hfit:=(HI.out.ok.kat _ heK).2.1;have hbody:=pM HI.out.ok heK
       have hdl:S.data.length<=137438953472:=by
        have h1:=HI.out.ok.dat.2;have h2:=HI.out.ok.fits;have h3:=HI.out.ok.nmax;omega
       have hpl:Hd (p1,c.length):=⟨by show p1<_;simp only at hfit;omega,by show c.length<_;omega⟩
       have hD:B.D.length<=810000:=Nat.le_trans (HI.out.le hcb (HD.c k) (by simp[dV]) (fun x hx=>by
        obtain⟨q,hq,rfl⟩:=mem_map.1 hx;exact nK (HV.c q (mem_of_mem_take hq)))) HI.out.cost
       have htm:V.chs.take (m+1)=V.chs.take m++[(p1,c.length)]:=by rw[QH hml,hep]
       have hT1:=hT.Q8 (aB (p1,c.length));have hmo1:(wr.alloc (.cells #[.int .i64 p1,.int .i64 c.length] 128)).heap[nx+1]?=some (aO plV B.mp B.mc):=hT1.sat.Q7 (by simp[fj,cbF]);have hchl:chs.length=m:=by rw[hch.len,length_take];omega
       obtain⟨tb,htb⟩:∃tb,tb=wr.heap.size:=⟨_,rfl⟩;have HTB:=qqH htb;have hcom:∃hh:Bool,iv B.mp (p1,c.length)=hh:=⟨_,rfl⟩;obtain⟨hh,hhe⟩:=hcom
       cases hh
       case' true =>
        obtain⟨e,he,hek⟩:=iw.1 hhe;obtain⟨q,hq,hqK,hcb2⟩:=hcb.hit HI.out.ok heK he hek;have hge:dz B.mp (p1,c.length)=some (plV q):=by rw[<- hek,qe hcb.map.nodup he,hq]
        have HR:=Hq5 hmo1 hcb.map hge hhe hpl;have hT2:=hT1.Q8 (aB q);rw[World.size_alloc,<- htb]at hT2;have hqb:bq B.s.K q=c:=hcb.ct.body hqK;obtain⟨B2,rfl⟩:∃B2,B2=B:=⟨_,rfl⟩;obtain⟨sp2,rfl⟩:∃sp2,sp2=sp:=⟨_,rfl⟩;obtain⟨J2,rfl⟩:∃J2,J2=J:=⟨_,rfl⟩;have hT3:=hT2.to (H:=(tb+1,Is (aB q))::(bL (gP wb V wv chs)++fj S sp2 (.slice (some ⟨g,off,none⟩) ks.length cap) ks nx (nx+1) (.slice bsl B2.D.length bcap) B2 ((tb,Is (aB (p1,c.length)))::J2))) (by unfold fj;exact ac);have HC0:=qqH (show Lb S (.slice (some ⟨g,off,none⟩) ks.length cap) ks nx (nx+1) w (dn++(vs.take k).map (fun V=>(l,V))) V wb m tb c (p1,c.length) q wv chs (.slice bsl B2.D.length bcap) B2 J2 sp2 _ from⟨hcb2,hch,hqb,hqK,hAo,hT3⟩);have HX:=Hq4 hpo htm hbody hchl;clear hvf hcells hc3 heK hep hbcells hcl6 hfit hbody hdl hpl hD htm hT1 hmo1 hT2 hT3 hcb hcb2 hch hpo hAo hT hhe he hek hq hqK hge hqb hchl htb;go_upto_region 27 with(first|(refine ah rfl (iJ I4 (.tmp 81) (.tmp 82) rfl Tryz.underlying165 HR.a HR.b (xO _) (p1,c.length) rfl rfl HR.w ?_);rw[HR.c,HR.d];simp only[Option.getD_some,plV])|fail);generalize hW5:(wr.alloc (.cells #[.int .i64 p1,.int .i64 c.length] 128)).alloc (.cells #[.int .i64 q.1,.int .i64 q.2] 128)=W5;have HC:Hid (Lb S (.slice (some ⟨g,off,none⟩) ks.length cap) ks nx (nx+1) w (dn++(vs.take k).map (fun V=>(l,V))) V wb m tb c (p1,c.length) q wv chs (.slice bsl B2.D.length bcap) B2 J2 sp2 W5):=qqH (by rw[<- hW5];exact HC0.out);generalize hvb2:Value.slice bsl B2.D.length bcap=vb2 at HC ⊢;rw[<- HTB.out];clear hW5 HTB HR HC0 hq1 hq2 hvb2 hbc
       case' false =>
        have hne:∀e∈B.mp,e.key≠(p1,c.length):=fun e he hk=>by
         rw[iw.2 ⟨e,he,hk⟩]at hhe;cases hhe
        have hge:dz B.mp (p1,c.length)=none:=gz.2 hne;have hms:=hcb.miss HI.out.nd heK hne;obtain⟨bd1,bd2,bd3,bd4,-,-,-⟩:=hcb.ct.bounds hD;have hT2:=hT1.Q8 (.cells #[.int .i64 0,.int .i64 0] 128 (0,0));rw[World.size_alloc,<- htb]at hT2;obtain⟨R0,hR0⟩:∃R0,R0=(S.a,Is (aJ S.X))::(aD S.X.d S.L++(aF S.X.pm S.ps S.pc++(bU S.X.tm S.ts S.tc++(aP S.X.cm S.cs S.cc++((tb+1,Is (.cells #[.int .i64 0,.int .i64 0] 128 (0,0)))::(tb,Is (aB (p1,c.length)))::(bL (gP wb V wv chs)++(bK 9 1 (.slice (some ⟨g,off,none⟩) ks.length cap) ks.length (ks.map str)++(cbF nx (nx+1) (.slice bsl B.D.length bcap) B++J)))))))):=⟨_,rfl⟩;have hT3:=hT2.to (H:=ap S.X.ab S.X.d { S.A with spare:=sp }++R0) (by rw[hR0];unfold fj;rw[ia];exact ac);have HL2:=qqH (lX S.a S.X S.X.ab S.X.d rfl { S.A with spare:=sp } S.L p1 c R0 _ hT3.sat (fun x=>by rw[hR0];simp only[ao,ai];omega) HI.out.ok.dev hAo HI.out.ok.fits HI.out.ok.nmax ((HI.out.ok.kat _ heK).2.Qd HI.out.ok.dat));have HR:=Hq7 hmo1 hcb.map hge hhe hpl hT3 hR0;have HB:=Hq8 hcb hms hne heK hcl6 bd2 bd3 bd4;have HX:=Hq5 hpo htm hbody hchl hch;clear hvf hcells hc3 heK hep hbcells hcl6 hfit hbody hdl hpl htm hT1 hmo1 hT2 hT3 hcb hch hpo hAo hT hhe hge hchl hne hms bd1 bd2 bd3 bd4 htb hR0;go_wp2_with (first|(refine ah rfl (iJ I4 (.tmp 81) (.tmp 82) rfl Tryz.underlying165 HR.a HR.b (xO _) (p1,c.length) rfl rfl HR.e ?_);rw[HR.c,HR.d];simp only[Option.getD_none])|fail);refine HL2.out.mono ?_;rintro e w5 ⟨av,cv,sp2,rfl,hbo,hAo2,hT5⟩
        have hT6:Turns (arF S) ((tb+1,Is (.cells #[.int .i64 0,.int .i64 0] 128 (0,0)))::((tb,Is (aB (p1,c.length)))::(aA (.slice av c.length cv) c++(bL (gP wb V wv chs)++fj S sp2 (.slice (some ⟨g,off,none⟩) ks.length cap) ks nx (nx+1) (.slice bsl B.D.length bcap) B J)))) w w5:=by
         have h1:=HR.f.trans hT5;rw[HR.u]at h1;exact h1.to (by unfold fj;rw[ia];exact ac)
        have t1:w5.cell? ⟨tb,1,none⟩=some (.int .i64 c.length):=aa (hT6.sat.Q7 (b:=tb) (o:=aB (p1,c.length)) (by simp)) 1 rfl;have tl:=ae (hT6.sat.Q7 (b:=tb) (o:=aB (p1,c.length)) (by simp));have tl2:=ae hT6.sat.Q5;have H6:=Hq3 hbo hAo2 hT6;rw[<- HTB.out];clear hbo hAo2 hT5 hT6 HL2
        go_wp2_with (first
         | (refine ah rfl (ny 128 (.tmp 13) (.tmp 101) rfl (tb+1) #[.int .i64 0,.int .i64 0] #[.int .i64 B.D.length,.int .i64 c.length] 128 H6.y rfl rfl rfl (by kernel_rfl) (by simp[Value.oneCell']) ?_);intro w6 hT6;have d0:=aa hT6.sat.Q5 0 rfl;have d1:=aa hT6.sat.Q5 1 rfl;have d2:w6.cell? ⟨tb,0,none⟩=some (.int .i64 p1):=aa (hT6.sat.Q7 (b:=tb) (o:=aB (p1,c.length)) (by simp)) 0 rfl;have d3:w6.cell? ⟨tb,1,none⟩=some (.int .i64 c.length):=aa (hT6.sat.Q7 (b:=tb) (o:=aB (p1,c.length)) (by simp)) 1 rfl;have tl:=ae (hT6.sat.Q7 (b:=tb) (o:=aB (p1,c.length)) (by simp));have tl2:=ae hT6.sat.Q5;have H7:=qqH (hT6.to (H:=(nx+1,Is (aO plV B.mp B.mc))::((tb+1,Is (.cells #[.int .i64 B.D.length,.int .i64 c.length] 128 (0,0)))::((tb,Is (aB (p1,c.length)))::(aA (.slice av c.length cv) c++(bL (gP wb V wv chs)++(bK 9 1 (.slice (some ⟨g,off,none⟩) ks.length cap) ks.length (ks.map str)++((nx,Is (js B))::(aF B.pm B.ps B.pc++(bU B.tm B.ts B.tc++(aP B.cm B.cs B.cc++(aA (.slice bsl B.D.length bcap) B.D++(arF (ed S sp2)++J)))))))))))) (by unfold fj cbF;exact ac));clear hT6;simp only[Act.put])
         | (refine ah rfl (lF I4 (.tmp 102) (.tmp 103) (.tmp 104) rfl Tryz.underlying165 (nx+1) B.mp B.mc H7.out HR.b (p1,c.length) (plV (B.D.length,c.length)) rfl rfl rfl HR.e ?_);intro w7 hT7;have e0:w7.cell? ⟨tb+1,0,none⟩=some (.int .i64 B.D.length):=aa hT7.sat.tail.Q5 0 rfl;have e1:w7.cell? ⟨tb+1,1,none⟩=some (.int .i64 c.length):=aa hT7.sat.tail.Q5 1 rfl;have tl3:=ae hT7.sat.tail.Q5;have H8:=qqH hT7;clear hT7;simp only[Act.put])
         | fail)
        obtain⟨R8,hR8⟩:∃R8,R8=(tb+1,Is (.cells #[.int .i64 B.D.length,.int .i64 c.length] 128 (0,0)))::(tb,Is (aB (p1,c.length)))::(bL (gP wb V wv chs)++(bK 9 1 (.slice (some ⟨g,off,none⟩) ks.length cap) ks.length (ks.map str)++(aF B.pm B.ps B.pc++(bU B.tm B.ts B.tc++((nx+1,Is (aO plV (gF B.mp B.mc (p1,c.length) (plV (B.D.length,c.length))) (cf B.mp B.mc (p1,c.length))))::(arF (ed S sp2)++J)))))):=⟨_,rfl⟩;have hT8:=H8.out.to (H:=((nx,Is (.cells (dS B.pm B.tm B.cm B.X.sc B.X.sb B.X.used) 55 (0,0)))::aP B.cm B.cs B.cc)++(aA (.slice av c.length cv) c++(aA (.slice bsl B.D.length bcap) B.D++R8))) (by rw[hR8];unfold js;exact ac);have HK2:=qqH (pn nx B.pm B.tm B.cm B.cc B.X.sc B.X.sb B.X.used B.cs c av cv (B.D.length,c.length) (dS B.pm B.tm B.cm B.X.sc B.X.sb B.X.used) 55 w7 hT8.sat.left ⟨rfl,rfl,rfl,rfl,rfl,rfl⟩ HB.a.ct.chunks (kD (hT8.sat.right.left) H6.a) (by have:=HB.t (be (dq 1 c) 4);omega) (by have:=HB.e;omega) (by have:=HB.f;omega) (by have:=HB.g;omega));have H9:=Hq2 hT8 hR8;clear hT8 hR8;go_wp2_with fail;refine HK2.out.mono ?_;rintro e w8 ⟨v',rfl,hv',hT9⟩;have hT10:=H9.a.step (Perm.refl _) hT9;have hT10:Turns (arF S) ((nx,Is (js (B.chunk c (p1,c.length) v')))::(aP B.cm (B.chunk c (p1,c.length) v').cs (B.chunk c (p1,c.length) v').cc++(aA (.slice av c.length cv) c++(aA (.slice bsl B.D.length bcap) B.D++R8)))) w w8:=hT10;have hcc:=kD (hT10.sat.tail.right.left) H6.a;have HF1:=qqH (g8 1 av cv c w8 hcc (by have:=HB.e;omega));have H10:=Hq2 hv' hT10;clear hv' hT9 hT10 hcc e0 e1 tl3;go_wp2_with fail;refine HF1.out.mono ?_;rintro e w9 ⟨v9,rfl,hok9,hT11⟩;have hT12:=(Turns.Qb H10.z hT11).to (H:=aA (.slice bsl B.D.length bcap) B.D++(aA v9 (frame 1 c)++((nx,Is (js (B.chunk c (p1,c.length) v')))::(aP B.cm (B.chunk c (p1,c.length) v').cs (B.chunk c (p1,c.length) v').cc++(aA (.slice av c.length cv) c++R8))))) ac;obtain⟨sl9,cap9,rfl,-,-,hcl9,-⟩:=aL (cZ (hT12.sat.right.left) hok9);have H12:=Hq2 hT12 hcl9;clear hok9 hT11 hT12 hcl9
        go_upto_region 27 with(first
         | (at_builtin;refine ah rfl ?_;refine fu (.tmp 108) (.tmp 110) rfl (.slice bsl B.D.length bcap) B.D rfl H12.a HB.a.row sl9 (frame 1 c).length cap9 rfl (frame 1 c) rfl H12.z (by rw[aX];have:=HB.e;omega) ?_;intro a13 c13 W5 hok13 hT13 _;have H13:=Hq2 hok13 hT13;clear hok13 hT13)
         | fail)
        obtain⟨q,hq⟩:∃q,q=(B.D.length,c.length):=⟨_,rfl⟩;obtain⟨J2,hJ2⟩:∃J2,J2=aA (.slice av c.length cv) c++(aA (.slice sl9 (frame 1 c).length cap9) (frame 1 c)++J):=⟨_,rfl⟩;have hcb2:=HB.a.chunk HB.d HB.b HB.c HB.e (by omega) HR.e H10.a H13.a;have hqK:(c,q)∈(B.chunk c (p1,c.length) v').s.K:=by rw[hq];exact mem_append_right _ (by simp)
        have hT3:=H13.z.to (H:=(tb+1,Is (aB q))::(bL (gP wb V wv chs)++fj S sp2 (.slice (some ⟨g,off,none⟩) ks.length cap) ks nx (nx+1) (.slice a13 (B.D++frame 1 c).length c13) (B.chunk c (p1,c.length) v') ((tb,Is (aB (p1,c.length)))::J2))) (by
         rw[hJ2,hq];unfold fj;rw[FE,H9.z];show Perm _ ((tb+1,Is (.cells #[.int .i64 B.D.length,.int .i64 c.length] 128 (0,0)))::_);exact ac)
        have hch2:iO S (B.chunk c (p1,c.length) v').s.K (V.chs.take m) chs:=HX.w.more _;obtain⟨B2,hB2⟩:∃B2,B2=B.chunk c (p1,c.length) v':=⟨_,rfl⟩;have HC:Hid (Lb S (.slice (some ⟨g,off,none⟩) ks.length cap) ks nx (nx+1) w (dn++(vs.take k).map (fun V=>(l,V))) V wb m tb c (p1,c.length) q wv chs (.slice a13 (B.D.length+(frame 1 c).length) c13) B2 J2 sp2 W5):=qqH (by rw[hB2,<- length_append];exact⟨hcb2,hch2,hcb2.ct.body hqK,hqK,H6.b,hT3⟩);generalize hvb2:Value.slice a13 ((B.D.length:Nat)+(frame 1 c).length) c13=vb2 at HC ⊢;have HX:=Hq4 HX.a HX.b HX.c HX.d;clear hq hJ2 hcb2 hqK hT3 hch2 hB2 hvb2 H13 H12 H10 H9 H8 H7 H6 HR HB HF1 HK2 HTB hD hq1 hq2 hbc tl tl2 d0 d1 d2 d3
       all_goals
        refine db [([0,1,2,3,4,5],6,[0,1,2,3,4]),([],7,[0]),([8,9],10,[])] [] HM.out (by kernel_rfl) fun W tW=>?_
        simp only[Mix,map_cons,map_nil,nth,QG,QF];have hT:=tW HC.v;clear tW;have gv:∀{W:World},W.heap[wb]?=some (dt (gP wb V wv chs))->W.cell? ⟨wb,2,none⟩=some wv:=fun h=>aa h 2 rfl
        have gq:∀{W:World},W.heap[tb+1]?=some (aB q)->W.rangeAt (tb+1) 0 [.int .i64 q.1,.int .i64 q.2]:=fun h j v hv=>aa h (0+j) (by rw[Nat.zero_add,<- Array.getElem?_toList];exact hv)
        have g0:=gv (hT.sat.Q7 (by simp[bL,gP]));repeat still_step
        refine iL 128 (.tmp 13) rfl rfl (tb+1) 0 rfl [.int .i64 q.1,.int .i64 q.2] _ (gq (hT.sat.Q7 (by simp))) Tryz.underlying128 rfl (by kernel_rfl) ?_;refine wpStill_nil (i8 (aB q) (fun n=>.slice (some ⟨n,0,none⟩) 1 1) (by kernel_rfl) hT fun n W1 hT1=>⟨?_,?_⟩)
        ·have g0:=gv (hT1.sat.Q7 (by simp[bL,gP]));repeat still_step
         exact rfl
        have hn:=hT1.sat.Q5
        refine wpStill_nil (kR (.tmp 116) (.tmp 118) rfl wv chs rfl (hT1.to (H:=aY wv chs++((wb,Is (dt (gP wb V wv chs)))::(n,Is (aB q))::(tb+1,Is (aB q))::fj S sp2 (.slice (some ⟨g,off,none⟩) ks.length cap) ks nx (nx+1) vb2 B2 ((tb,Is (aB (p1,c.length)))::J2))) (by rw[Ch];exact ac)) HX.a (some ⟨n,0,none⟩) 1 1 rfl [q] rfl (fun _=>⟨_,rfl,fun j u hu=>by
         rw[Addr.add_lit,Nat.zero_add];exact aa hn j (by rw[<- Array.getElem?_toList];exact hu)⟩) (by have:=HX.x;simp;omega) fun v2 W2 h1 hT2=>⟨?_,?_⟩)
        ·repeat still_step
         exact rfl
        simp only[Act.put,QA,QB,QC];repeat still_step
        have h21:=dl hT2.sat.left h1;refine wpStill_nil (bb 115 (.tmp 121) (.tmp 119) rfl wb 2 (fD (gP wb V wv chs)) 117 v2 (hT2.to (H:=(wb,Is (dt (gP wb V wv chs)))::(aY v2 (chs++[q])++((n,Is (aB q))::(tb+1,Is (aB q))::fj S sp2 (.slice (some ⟨g,off,none⟩) ks.length cap) ks nx (nx+1) vb2 B2 ((tb,Is (aB (p1,c.length)))::J2)))) ac) rfl rfl (by simp[fD]) (by kernel_rfl) h21.1 h21.2.1 fun W3 hT3=>⟨rfl,?_⟩);refine wpStill_nil ?_;have HF:=Hq2 h1 hT3;clear hT gv gq g0 hT1 hn h1 hT2 h21 hT3;go_wp2_with fail;go_roundw
        case rel =>
         refine⟨m+1,B2,(n,Is (aB q))::(tb+1,Is (aB q))::(tb,Is (aB (p1,c.length)))::J2,sp2,v2,chs++[q],by omega,by go_num,?_,?_,HF.a,HC.e,?_⟩
         ·rw[HX.b,map_append,map_cons,map_nil,HX.c];exact HC.a
         ·rw[HX.b];exact HC.b.snoc HX.c HC.c ⟨_,HC.d,rfl⟩
         ·have h3:Turns (arF S) ((wb,Is (dt (gP wb V v2 (chs++[q]))))::(aY v2 (chs++[q])++((n,Is (aB q))::(tb+1,Is (aB q))::fj S sp2 (.slice (some ⟨g,off,none⟩) ks.length cap) ks nx (nx+1) vb2 B2 ((tb,Is (aB (p1,c.length)))::J2)))) w _:=HF.z;exact h3.to (by rw[Ch];unfold fj;exact ac)
        case measure=>simp[intOf];omega
      ·obtain rfl:m=V.chs.length:=by omega
       rw[take_length]at hcb hch
       have hD:B.D.length<=810000:=Nat.le_trans (HI.out.le hcb (HD.c k) (by simp[dV]) (fun x hx=>by
        obtain⟨q,hq,rfl⟩:=mem_map.1 hx;exact nK (HV.c q hq))) HI.out.cost
       obtain⟨bd1,bd2,bd3,bd4,bd5,-,-⟩:=hcb.ct.bounds hD;obtain⟨bsl,bcap,hbv,-,hbc,-,-⟩:=aL (cZ (hT.sat.sub (G:=aA u4 B.D) (fun x=>by unfold fj cbF;simp only[ao,ai];omega)) hcb.row);subst hbv;have hl20:=HL.out (fun e=>by rw[e]at hkl;simp at hkl);have hnum:=HV.f;have hkn:(B.ps.map (·.key)).Nodup:=by rw[<- cy];exact hcb.ct.paths.map.nodup
       obtain⟨R4,hR4⟩:∃R4,R4=bK 9 1 (.slice (some ⟨g,off,none⟩) ks.length cap) ks.length (ks.map str)++(bU B.tm B.ts B.tc++(aP B.cm B.cs B.cc++((nx+1,Is (aO plV B.mp B.mc))::(arF (ed S sp)++J)))):=⟨_,rfl⟩;have hT1:=hT.to (H:=((nx,Is (.cells (dS B.pm B.tm B.cm B.X.sc B.X.sb B.X.used) 55 (0,0)))::(aF B.pm B.ps B.pc++bL (gP wb V wv chs)))++(aA (.slice bsl B.D.length bcap) B.D++R4)) (by rw[hR4];unfold fj cbF js;exact ac);have HA:=qqH (qK nx B.pm B.tm B.cm B.pc B.X.sc B.X.sb B.X.used B.ps l (gP wb V wv chs) (dS B.pm B.tm B.cm B.X.sc B.X.sb B.X.used) 55 wr hT1.sat.left ⟨rfl,rfl,rfl,rfl,rfl,rfl⟩ hcb.ct.paths (by unfold OkS;omega) (by have:=bd5 l;omega) (by simp only[gP];omega) (by simp only[gP];omega));have HX:=Hq9 hcb hch hpo hAo hT1 hR4 hl20 hnum hkn;clear hcb hch hpo hAo hT bd1 bd2 bd3 bd4 bd5 hT1 hR4 hl20 hnum hkn;go_wp2_with fail;refine HA.out.mono ?_;rintro e w5 ⟨v',rfl,hv',hT2⟩;have hT3:=HX.e.step (Perm.refl _) hT2;have hT3:Turns (arF S) ((nx,Is (js (B.ver l V wb wv v' chs)))::(aF B.pm (kw B.ps B.pc l v' (gP wb V wv chs)) (cf (B.ps.map aN) B.pc l)++(aA (.slice bsl B.D.length bcap) B.D++R4))) w w5:=hT3;have hvf:=(hT3.sat.tail.left.tail.perm (q7 B.pc l v' (gP wb V wv chs) HX.out.2.2.2.2.2.2.2.2)).right.right
       have HVR:Hid (Calls Tryz.prog 55 #[str l,.pointer (some ⟨wb,0,none⟩)] w5 (fun e w'=>∃av cv,e=.returned (.agg #[.int .u8 2,str l,.int .i64 V.num,.int .i64 V.size,.slice av (br chs).length cv])/\ak w' av ((br chs).map di)/\aQ w5 w')) :=
        qqH (jA l (gP wb V wv chs) w5 hvf HX.c (by have:=HX.b.len;show chs.length<=_;omega))
       have H3:=Hq2 hv' hT3;clear hv' hT2 hT3 hvf;go_wp2_with fail;refine HVR.out.mono ?_;rintro e w6 ⟨av,cv,rfl,hc6,hs6⟩;have hlen:=HX.b.len
       have HW:=qqH (nB 2 l V.num V.size av cv (br chs) w6 hc6 (by have:=HX.g;omega) (by have:=HX.h.1;unfold I64;omega) (by have:=HX.h.2.1;unfold I64;omega) (fun n hn=>by
        obtain⟨q,hq,rfl⟩:=mem_map.1 hn;obtain⟨e,he,rfl⟩:=HX.b.2 q hq;have:=HX.a.ct.at_lt e he;unfold I64;omega) (by unfold br;rw[length_map];omega))
       have H6:=qqH (H3.z.Q9 hs6);clear hc6 hs6 hlen;go_wp2_with fail;refine HW.out.mono ?_;rintro e w7 ⟨v7,rfl,hok7,hT7⟩;have hT8:=(Turns.Qb H6.out hT7).to (H:=aA (.slice bsl B.D.length bcap) B.D++(aA v7 (frame 2 (eF l V.num V.size (br chs)))++((nx,Is (js (B.ver l V wb wv v' chs)))::(aF B.pm (kw B.ps B.pc l v' (gP wb V wv chs)) (cf (B.ps.map aN) B.pc l)++R4)))) ac;obtain⟨sl9,cap9,rfl,-,-,hcl9,-⟩:=aL (cZ (hT8.sat.right.left) hok7);have hfl:=ga l V.num V.size chs;have hlen:=HX.b.len;have H8:=Hq3 hT8 hcl9 hfl;clear hok7 hT7 hT8 hcl9 hfl
       go_wp2_with (first
        | (at_builtin;refine ah rfl ?_;refine fu (.tmp 126) (.tmp 131) rfl (.slice bsl B.D.length bcap) B.D rfl H8.a HX.a.row sl9 _ cap9 rfl (frame 2 (eF l V.num V.size (br chs))) rfl H8.b (by rw[H8.y];have:=HX.g;omega) ?_;intro a13 c13 W5 hok13 hT13 _;rw[length_append]at hok13 hT13;have H13:=Hq2 hok13 hT13;clear hok13 hT13)
        | fail)
       go_roundw
       case rel =>
        refine⟨k+1,B.ver l V wb wv v' chs,aA (.slice sl9 (frame 2 (eF l V.num V.size (br chs))).length cap9) (frame 2 (eF l V.num V.size (br chs)))++J,sp,by omega,by go_num,?_,HX.d,?_⟩
        ·rw[HV.u];exact HX.a.ver HI.out.ok HX.g HX.h.1 HX.h.2.1 (by omega) HX.h.2.2.1 ⟨HV.c,HV.d⟩ HX.b HX.c H3.a H13.a
        ·refine H13.z.to ?_;unfold fj;rw[J6,HX.f];exact ac
       case measure=>simp[intOf];omega
    ·obtain rfl:k=vs.length:=by omega
     have HR:=Hq3 hcb hAo hT;clear hcb hAo hT;go_wp2_with fail;go_roundw
     case rel=>exact⟨j+1,B,J,sp,by omega,by go_num,by rw[<- HD.b];rw[take_length]at HR;exact HR.a,HR.b,HR.y⟩
     case measure=>simp[intOf];omega
  ·obtain rfl:j=ks.length:=by omega
   rw[take_length]at hcb;have htm:=hT.sat.Q7 (b:=S.X.tm) (o:=aO str (S.ts.map aN) S.tc) (by simp[fj,ia,bU]);have hlenT:(S.ts.map aN).length<=90000:=by rw[length_map];exact HH.y
   obtain⟨D2,hD2,hD2p,hD2s⟩:=pp htm HI.out.ok.tags.map (by omega);have hKs2:=oJ S.X.tm _ D2 Fr wr hD2 (by rw[hD2s];unfold maxLen;omega) (by rw[hD2s];omega);have HK2:=qqH (callsIn_wide.1 hKs2);have HM2:=qqH (callsIn_wide.1 (ug (some S.X.tm) wr));have hA:=(hT.sat.right.right.left).Q5;have a1:wr.cell? ⟨S.a,1,none⟩=some (.map (some S.X.tm)):=aa hA 1 rfl;have hal6:=ae hA;have HR:=Hq4 hcb hAo hT hD2p;clear hcb hAo hT htm hlenT hD2 hD2p hD2s hKs2 hA;go_wp2_with fail;refine HM2.out.mono ?_;rintro e w5 ⟨rfl,rfl⟩;go_wp2_with fail;refine HK2.out.mono ?_;rintro e w6 ⟨v2,ss2,rfl,hss2,hown2,-,hbel2⟩;obtain⟨hs1,hs2⟩:=sd hss2 HR.x;rw[hs1,hs2]at hown2;obtain⟨ns,hns⟩:∃ns,ns=gC S.ts:=⟨_,rfl⟩;have hns':kO ((S.ts.map aN).map (·.key))=ns:=by rw[hns,cy];rfl
   rw[hns']at hown2;obtain⟨hro2,hT6⟩:=Bd (HR.c.alloc _) rfl (by rw[length_map];exact hown2) hbel2;rw[length_map]at hro2 hT6;obtain⟨nsl,ncap,rfl,hncap0,hncap,-,-⟩:=bv hT6.sat.left hro2 (by decide)
   have hnl:ns.length<=90000:=by
    have:=HH.y;rw[hns];unfold gC;rw[length_mergeSort,length_map];exact this
   have hT7:=hT6.to (H:=fj S sp (.slice nsl ns.length ncap) ns nx (nx+1) u4 B (bK 9 1 (.slice sl ks.length cap) ks.length (ks.map str)++J)) (by unfold fj;exact ac);have hal7:=ae (hT7.sat.right.right.left).Q5;have H7:=Hq4 hT7 hro2 hns hnl;clear hss2 hown2 hbel2 hs1 hs2 hns hns' hro2 hT6 hT7 a1;go_wp2_with fail;go_loopw [4,143] (fun vb i wr=>Ma S (.slice nsl ns.length ncap) ns nx (nx+1) w vb i wr) (fun _ i _=>ns.length-(intOf i).toNat)
   case atStart=>exact⟨0,B,_,sp,Nat.zero_le _,rfl,by rw[<- H4.c];exact HR.a,HR.b,H7.a⟩
   case round =>
    clear HR;obtain⟨j,B,J,sp,hj,rfl,hcb,hAo,hT⟩:=hrel;by_cases hlt:j<ns.length
    ·obtain⟨sl2,cap2,e1',-,-,hcell,-⟩:=bv (w:=wr) hT.sat.left H7.b (by decide);simp only[Value.slice.injEq]at e1';obtain⟨rfl,-,rfl⟩:=e1';obtain⟨g,off,hg,hcc⟩:=hcell (by rw[length_map];omega);subst hg;have hc1:=hcc j (by rw[length_map];exact hlt);rw[getElem_map]at hc1;obtain⟨m,hm⟩:∃m,m=ns[j]:=⟨_,rfl⟩;rw[<- hm]at hc1;have hmk:m∈gC S.ts:=by rw[<- H7.c,hm];exact getElem_mem hlt
     obtain⟨hlk,hOk⟩:=Ca HI.out.ok.tags hmk;obtain⟨hm20,p,n,hpn,hp20,hn32⟩:=HI.out.tag_is hmk;rw[hpn]at hlk;have htm:=hT.sat.Q7 (b:=S.X.tm) (o:=aO str (S.ts.map aN) S.tc) (by simp[fj,ia,bU]);have hA:=(hT.sat.right.right.left).Q5;have a1:wr.cell? ⟨S.a,1,none⟩=some (.map (some S.X.tm)):=aa hA 1 rfl;have hal8:=ae hA;obtain⟨bsl,bcap,hbv,-,hbc,-,-⟩:=aL (cZ (hT.sat.sub (G:=aA u4 B.D) (fun x=>by unfold fj cbF;simp only[ao,ai];omega)) hcb.row);subst hbv;have hnd:=HI.out.ok.tags.map.nodup
     have hnew:∀t∈ec S.ts (ns.take j),t.1≠m:=fun t ht e=>by
      obtain⟨x,hx,rfl⟩:=mem_map.1 ht
      have hn2:(ns.take (j+1)).Nodup:=(take_sublist _ _).nodup (by
       rw[H7.c];unfold gC;rw[cy]at hnd;exact(mergeSort_perm _ _).nodup_iff.2 hnd)
      rw[QH hlt,<- hm]at hn2;exact(nodup_append.1 hn2).2.2 x hx m (by simp) e
     have htk:ec S.ts (ns.take (j+1))=ec S.ts (ns.take j)++[(m,p,(n:Int))]:=by
      unfold ec;rw[QH hlt,<- hm,map_append];simp[hpn]
     have hD:B.D.length<=810000:=Nat.le_trans (HI.out.le hcb (prefix_refl _) (HI.out.Qi (by rw[<- H7.c];exact take_prefix _ _)) (fun c hc=>by cases hc)) HI.out.cost;obtain⟨-,-,-,-,bd5,-,bd7⟩:=hcb.ct.bounds hD;obtain⟨R4,hR4⟩:∃R4,R4=bK 9 1 (.slice (some ⟨g,off,none⟩) ns.length ncap) ns.length (ns.map str)++(aP B.cm B.cs B.cc++((nx+1,Is (aO plV B.mp B.mc))::(arF (ed S sp)++J))):=⟨_,rfl⟩;have hT1:=hT.to (H:=jv nx (js B) B.pm B.tm B.ps B.pc B.ts B.tc++(aA (.slice bsl B.D.length bcap) B.D++R4)) (by rw[hR4];unfold fj cbF jv;exact ac);have hPre:PinPreG nx (js B) B.pm B.tm B.ps B.pc B.ts B.tc m p wr:=⟨hT1.sat.left,fun a W h=>aa h 0 rfl,fun a W h=>aa h 1 rfl,hcb.ct.paths,hcb.ct.tags,hOk,by unfold OkS;omega,by have:=bd5 p;omega,fun V hV=>by have:=bd7 p V hV;omega⟩;have HP:=qqH (EP nx (js B) B.pm B.tm B.ps B.pc B.ts B.tc m p n wr hPre);have HX:=qqH (And.intro hcb (And.intro hAo (And.intro hT1 (And.intro hR4 (And.intro hnew (And.intro htk (And.intro hlk (And.intro hOk (And.intro htm (And.intro hm20 (And.intro hp20 hn32)))))))))));clear hcb hAo hT hcell hcc hm hmk hlk hOk hpn htm hA hnd hnew htk bd5 bd7 hT1 hPre hR4 hm20 hp20 hn32;unfold q9 at HP;go_wp2_with ((refine dQ dK rfl _ _ rfl Tryz.underlying52 HX.out.2.2.2.2.2.2.2.2.1 HI.out.ok.tags.map (kt _) m rfl rfl HX.h ?_;rw[HX.g]));refine HP.out.mono ?_;rintro e w5 ⟨rfl,hT2⟩;have hT3:=HX.c.step (Perm.refl _) hT2;have htm:=hT3.sat.Q7 (b:=S.X.tm) (o:=aO str (S.ts.map aN) S.tc) (by simp[HX.d,ia,bU]);have a1:w5.cell? ⟨S.a,1,none⟩=some (.map (some S.X.tm)):=aa (hT3.sat.Q7 (b:=S.a) (o:=aJ S.X) (by simp[HX.d,ia])) 1 rfl;have hal9:=ae (hT3.sat.Q7 (b:=S.a) (o:=aJ S.X) (by simp[HX.d,ia]));have HPR:=qqH (lZ 4 m p n w5);unfold q9 at HPR;have H3:=Hq2 hT3 htm;clear hT2 hT3 htm;go_wp2_with ((refine dQ dK rfl _ _ rfl Tryz.underlying52 H3.z HI.out.ok.tags.map (kt _) m rfl rfl HX.h ?_;rw[HX.g]));refine HPR.out.mono ?_;rintro e w6 ⟨rfl,hs6⟩;have HW:=qqH (kr 4 p m n w6 (by have:=HX.out.2.2.2.2.2.2.2.2.2.2.1;omega) (by have:=HX.out.2.2.2.2.2.2.2.2.2.1;omega) (by have:=HX.out.2.2.2.2.2.2.2.2.2.2.2;unfold I64;omega));have H6:=qqH (H3.a.Q9 hs6);clear hs6 a1;go_wp2_with fail;refine HW.out.mono ?_;rintro e w7 ⟨v7,rfl,hok7,hT7⟩;have hT8:=(Turns.Qb H6.out hT7).to (H:=aA (.slice bsl B.D.length bcap) B.D++(aA v7 (frame 4 (dG p m n))++(jv nx (js B) B.pm B.tm (cM B.ps p n 1) B.pc (eh B.ts B.tc m (mE m (p,(n:Int))) (p,(n:Int))) (cf (B.ts.map aN) B.tc m)++R4))) ac;obtain⟨sl9,cap9,rfl,-,-,hcl9,-⟩:=aL (cZ (hT8.sat.right.left) hok7);have hfl:=tS p m n;have H8:=Hq3 hT8 hcl9 hfl;clear hok7 hT7 hT8 hcl9 hfl
     go_wp2_with (first
      | (at_builtin;refine ah rfl ?_;refine fu (.tmp 155) (.tmp 165) rfl (.slice bsl B.D.length bcap) B.D rfl H8.a HX.a.row sl9 _ cap9 rfl (frame 4 (dG p m n)) rfl H8.b (by rw[H8.y];have:=HX.out.2.2.2.2.2.2.2.2.2.1;have:=HX.out.2.2.2.2.2.2.2.2.2.2.1;omega) ?_;intro a13 c13 W5 hok13 hT13 _;rw[length_append]at hok13 hT13;have H13:=Hq2 hok13 hT13;clear hok13 hT13)
      | fail)
     go_roundw
     case rel =>
      refine⟨j+1,B.tag m p n,aA (.slice sl9 (frame 4 (dG p m n)).length cap9) (frame 4 (dG p m n))++J,sp,by omega,by go_num,?_,HX.b,?_⟩
      ·rw[HX.f];exact HX.a.tag HX.out.2.2.2.2.2.2.2.2.2.2.1 HX.out.2.2.2.2.2.2.2.2.2.1 HX.out.2.2.2.2.2.2.2.2.2.2.2 HX.e H13.a
      ·refine H13.z.to ?_;unfold fj;rw[J5,HX.d];unfold jv;exact ac
     case measure=>simp[intOf];omega
    ·obtain rfl:j=ns.length:=by omega
     rw[take_length,H7.c]at hcb;have hlen:B.D.length<=je S:=HI.out.le hcb (prefix_refl _) (HI.out.Qi (prefix_refl _)) (fun c hc=>by cases hc);have hcost:=HI.out.cost;have hroom:=HI.out.room;have hep:=HI.out.ep;obtain⟨bsl,bcap,hbv,-,hbc,-,-⟩:=aL (cZ (hT.sat.sub (G:=aA u4 B.D) (fun x=>by unfold fj cbF;simp only[ao,ai];omega)) hcb.row);subst hbv;obtain⟨e1,he1⟩:∃e1,e1=S.X.ep+1:=⟨_,rfl⟩;obtain⟨hN,hhN⟩:∃n,n=ay S.L.n:=⟨_,rfl⟩;obtain⟨R5,hR5⟩:∃R5,R5=(nx,Is (js B))::(aF B.pm B.ps B.pc++(bU B.tm B.ts B.tc++(aP B.cm B.cs B.cc++((nx+1,Is (aO plV B.mp B.mc))::(ap S.X.ab S.X.d { S.A with spare:=sp }++(aF S.X.pm S.ps S.pc++(bU S.X.tm S.ts S.tc++(aP S.X.cm S.cs S.cc++(bK 9 1 (.slice nsl ns.length ncap) ns.length (ns.map str)++J))))))))):=⟨_,rfl⟩;have hT1:=hT.to (H:=aD S.X.d S.L++((S.a,Is (aJ S.X))::(aA (.slice bsl B.D.length bcap) B.D++R5))) (by rw[hR5];unfold fj cbF;rw[ia];exact ac);have hw1:IntKind.u32.wrap ((S.X.ep:Int)+1)=(e1:Int):=by rw[wrap_u32 (by omega) (by omega)];omega
     have n16:=HI.out.ok.n16;have nmax:=HI.out.ok.nmax
     have hNl:7<=hN/\hN<=1073741824/\2+e1%2*hN+hN<=S.L.n:=by
      rw[hhN];unfold ay;rcases Nat.mod_two_eq_zero_or_one e1 with e|e<;>rw[e]<;>omega
     have hal8:=ae (hT1.sat.right.Q5);have HX:=Hq7 hcb hlen hT1 hR5 he1 hhN hNl;have hbd:B.D.length<=128*hN:=by rw[hhN];omega
     have hN9:hN<=1073741824:=hNl.2.1;clear hcb hlen hT hT1 hR5 he1 hhN hNl hroom;go_upto_region 39 with(fail);refine db [([0,1,2,3,4,5,6,7,8],9,[])] [10] HM.out (by kernel_rfl) fun W tW=>?_
     simp only[Mix,map_cons,map_nil,nth,QG,QF];have hT2:=tW HX.c;clear tW;have k6:W.cell? ⟨S.a,6,none⟩=some (.pointer (some ⟨S.X.d,0,none⟩)):=aa hT2.sat.right.Q5 6 rfl;have k8:W.cell? ⟨S.a,8,none⟩=some (.int .u32 S.X.ep):=aa hT2.sat.right.Q5 8 rfl;have hh:=pj S.X.d S.L e1 W hT2.sat.left (by omega) nmax (by have:=HX.e;omega);rw[<- HX.f]at hh;repeat still_step
     refine wpStill_nil (aU (by kernel_rfl) hh ?_);rintro ev W5 ⟨ab,ch,rfl,hT3⟩;refine⟨_,rfl,rfl,?_⟩;simp only[Act.put,QA,QB,QC];repeat still_step
     refine wpStill_nil ?_;have hT4:=Turns.Qb hT2 hT3;obtain⟨T,hTd⟩:∃T:AreaL,T=⟨2+e1%2*hN,hN,0,am 128,ch,[]⟩:=⟨_,rfl⟩;rw[<- hTd]at hT4;have hRo:=sX ab S.X.d T W5 hT4.sat.left (by rw[hTd];exact hN9) (by rw[hTd];exact Nat.zero_le _);have e2:((T.count:Int)*128-T.end_)=(hN:Int)*128:=by rw[hTd];simp
     unfold zF at hRo;rw[e2]at hRo;have HRo:=qqH hRo;have H4:=Hq2 hT4 hTd;have hro:¬((hN:Int)*128<(B.D.length:Int)):=by omega
     clear hT2 k6 k8 hh hT3 hT4 hTd e2 hRo;go_wp2_with fail;refine HRo.out.mono ?_;rintro e W6 ⟨rfl,hs6⟩;have hT6:=(H4.a.Q9 hs6).to (H:=((S.a,Is (aJ S.X))::(ap ab S.X.d T++(aD S.X.d S.L++aA (.slice bsl B.D.length bcap) B.D)))++R5) ac
     have HMv:=qqH (Ds S.a ab S.X.d S.X T S.L (.slice bsl B.D.length bcap) B.D W6 hT6.sat.left rfl hep HI.out.ok.dev n16 nmax (by rw[H4.z];exact HX.out.2.2.2.2.2.2.2.2) (by rw[H4.z];exact Nat.le_add_right _ _) (by rw[H4.z];show 0<hN;have:=HX.g;omega) (by rw[H4.z]) (by rw[H4.z])
      (by rw[H4.z];exact⟨by rw[an],Nat.zero_le _,fun s hs=>by cases hs⟩) HX.a.row (by rw[H4.z];exact hbd) (by have:=HX.b;omega) (by have:=HX.b;have:=HCH.out;omega))
     have H6:=qqH hT6;clear hT6 hs6;go_wp2_with fail;refine HMv.out.mono ?_;rintro e W7 ⟨rfl,L',hT7,hL',hn',hsafe,hchs',hdat,hsec,hoth⟩;have hT8:=H6.out.step (Perm.refl _) hT7;have hT9:=hT8.to (H:=(S.a,Is (.cells (bl S.X).toList.toArray 59 (0,0)))::(ap ab S.X.d { T with end_:=B.D.length,tail:=bF B.D }++(aD S.X.d L'++(aA (.slice bsl B.D.length bcap) B.D++R5)))) (by show Perm (((S.a,Is (.cells (bl S.X).toList.toArray 59 (0,0)))::_)++_) _;exact ac);have hno:=hT9.sat.Q7 (b:=nx) (o:=js B) (by simp[HX.d]);have n0:W7.cell? ⟨nx,0,none⟩=some (.map (some B.pm)):=aa hno 0 rfl;have n1:W7.cell? ⟨nx,1,none⟩=some (.map (some B.tm)):=aa hno 1 rfl;have n2:W7.cell? ⟨nx,2,none⟩=some (.map (some B.cm)):=aa hno 2 rfl;have n3:W7.cell? ⟨nx,3,none⟩=some (.int .i64 B.X.sc):=aa hno 3 rfl;have n4:W7.cell? ⟨nx,4,none⟩=some (.int .i64 B.X.sb):=aa hno 4 rfl;have n5:W7.cell? ⟨nx,5,none⟩=some (.int .i64 B.X.used):=aa hno 5 rfl;have hnl:=ae hno;have hal9:=ae hT9.sat.Q5;have H9:=Hq7 hT9 hL' hn' hchs' hdat hsec hoth;clear hT7 hT8 hT9 hno hL' hn' hsafe hchs' hdat hsec hoth
     go_wp2_with (first
      | (refine ah rfl (Ec 55 (.tmp 200) (.tmp 197) rfl S.a 0 (bl S.X).toList #[.map (some B.pm),.map (some B.tm),.map (some B.cm),.int .i64 B.X.sc,.int .i64 B.X.sb,.int .i64 B.X.used] 59 H9.a rfl rfl (by simp[bl]) (by kernel_rfl) (by simp[Value.oneCell']) ?_);intro W8 hT10;have d7:=aa hT10.sat.Q5 7 (v:=.pointer (some ⟨S.X.ab,0,none⟩)) rfl;have d8:=aa hT10.sat.Q5 8 (v:=.int .u32 S.X.ep) rfl;have f7:=bc hT10.sat.Q5 7;have f8:=bc hT10.sat.Q5 8;have hal10:=ae hT10.sat.Q5;have H10:=qqH hT10;clear hT10;simp only[Act.put])
      | fail)
     have s1:=bn H10.out.sat.Q5 7 (.pointer (some ⟨ab,0,none⟩));have s2:=bn s1 8 (.int .u32 e1);have m1:=((Mods.refl (fun k=>k=S.a) W8).set1 (i:=7) (.pointer (some ⟨ab,0,none⟩))).set1 (i:=8) (.int .u32 e1);have hT11:=H10.out.Qa m1 s2;go_ret;refine ⟨rfl,Ag S B L' ab ch,?_,?_⟩
     ·obtain⟨-,q1,q2,q3,q4,q5,q6⟩:=H9.out;rw[H4.z,HX.e,HX.f]at q4;refine CY HI.out HX.a HI.out.pins q1 q2 q3 q4 q5 ?_;rw[jw,jw];refine q6 _ 1 (.inl ?_) ?_
      ·rw[H4.z];show _<=2+_;omega
      ·rcases Nat.mod_two_eq_zero_or_one S.X.ep with e|e
       ·exact .inl (by omega)
       ·exact .inr (by omega)
     ·have he:=HX.e;subst he;have hT12:Turns (arF S) ((S.a,Is (aJ (Ag S B L' ab ch).X))::(ap ab S.X.d { T with end_:=B.D.length,tail:=bF B.D }++(aD S.X.d L'++(aA (.slice bsl B.D.length bcap) B.D++R5)))) w _:=hT11;refine hT12.drop (fun x=>?_);rw[JV,HX.d,H4.z,HX.f];simp only[ao,ai];omega
theorem vr(S:AS)(w:World)(h:Sat w (arF S))(hi:ColIn S)(b:Nat)(hB:ArB S b)(hb:b<=90000):
  Calls Tryz.prog 29 #[.pointer (some ⟨S.a,0,none⟩)] w (ky S w):=by
 cases hc:S.X.closed with
 | true=>exact(sO S w h hc).mono (fun e w' he=>.inl ⟨hc,he.1,Turns.same h he.2⟩)
 | false=>exact(xP S w h hi b hB hb hc).mono (fun e w' he=>.inr ⟨hc,he.1,he.2⟩)
theorem Told.more{S S':AS}{rs:j0}{H H':List HV}(h:Told S rs H)(hok:ArOk S){L':DevL}{k:UInt8}{body:Bs}(hr:RecIs S L' (frame k body))(hk:k≠0)(hb:body.length<65536)(hd:S'.data=S.data++frame k body)(hL:S'.L=L')(hX:S'.X.ep=S.X.ep)(hrun:fC (cC rs).length ⟨S.K,H,S.ts.map eZ⟩ k body=some ⟨S'.K,H',S'.ts.map eZ⟩)(hh:∀l,(af S'.ps l).map bI=(H'.filter (fun h=>decide (h.p=l))).map cY)(hu:S'.X.used=((H'.map (·.size)).sum:Nat)):Told S' (rs++[(k,body)]) H' where
 ok:=fun r hr=>by
  rcases mem_append.1 hr with hr|hr
  ·exact h.ok r hr
  ·obtain rfl:=mem_singleton.1 hr
   exact⟨hk,hb⟩
 data:=by rw[hd,dL,h.data];simp[cC]
 run:=by
  rw[gk,h.run,Option.bind_some,Nat.zero_add]
  simp only[lf,hrun,Option.bind_some]
 hist:=hh
 sec:=by rw[hX];exact h.sec.to (fun k hk=>by rw[hL,jw,hr.oth k 1 (.inl (by rw[hok.first];omega)),<- jw]) (by rw[hd];simp)
 used:=hu
theorem F7(ns:List Int)(vs:List VerL):(dC ns vs).map bI=(vs.map bI).filter (fun t => !ns.contains (t.1:Int)):=by
 rw[filter_map];rfl
theorem IG(ns:List Int)(vs:List VerL):bO ns vs=(((vs.map bI).filter (fun t=>ns.contains (t.1:Int))).map (·.2.1)).sum:=by
 unfold bO;rw[filter_map,map_map];rfl
theorem FK(H:List HV)(p:Bs)(ns:List Int):(H.map (·.size)).sum=((jy H p ns).map (·.size)).sum+(((((H.filter (fun h=>decide (h.p=p))).map cY).filter (fun t=>ns.contains (t.1:Int))).map (·.2.1)).sum):=by
 have h1:(H.map (·.size)).sum=(((H.filter (fun h=>decide (h.p=p)&&ns.contains (h.num:Int)))++(H.filter (fun h => !(decide (h.p=p)&&ns.contains (h.num:Int))))).map (·.size)).sum:=((filter_append_perm _ H).symm.map _).sum_nat;rw[map_append,sum_append]at h1
 have h2:(((H.filter (fun h=>decide (h.p=p))).map cY).filter (fun t=>ns.contains (t.1:Int))).map (·.2.1)=(H.filter (fun h=>decide (h.p=p)&&ns.contains (h.num:Int))).map (·.size):=by
  rw[filter_map,map_map,filter_filter]
  have:H.filter (fun h=>((fun t:Nat×Nat×List (Nat×Nat)×Int=>ns.contains (t.1:Int)) ∘ cY) h&&decide (h.p=p))=H.filter (fun h=>decide (h.p=p)&&ns.contains (h.num:Int)):=filter_congr fun h _=>by
   show(ns.contains (h.num:Int)&&_)=_;rw[Bool.and_comm]
  rw[this];rfl
 rw[h2];unfold jy;omega
theorem Told.gone{S:AS}{rs:j0}{H:List HV}(h:Told S rs H)(hok:ArOk S){p:Bs}{ns:List Int}{v':Value}{L':DevL}(hr:RecIs S L' (frame 3 (dA p ns)))(hp:p.length<=20)(hn:∀n∈ns,0<=n/\n<4294967296)(hnl:ns.length<=15000)(hne:af S.ps p≠[]):
  Told (iu S p ns v' L') (rs++[(3,dA p ns)]) (jy H p ns):=by
 have hany:H.any (fun h=>decide (h.p=p))=true:=by
  rw[any_eq_true];have h1:=congrArg length (h.hist p);rw[length_map,length_map]at h1
  have h2:H.filter (fun h=>decide (h.p=p))≠[]:=fun e=>by
   rw[e]at h1;exact hne (length_eq_zero_iff.1 h1)
  obtain⟨x,hx⟩:=exists_mem_of_ne_nil _ h2;exact⟨x,mem_filter.1 hx⟩
 have hs:=FK H p ns;rw[<- h.hist,<- IG]at hs;refine h.more hok hr (by decide) (by unfold dA;rw[length_append,bw,cr];omega) rfl rfl rfl ?_ (fun l=>?_) ?_
 ·unfold fC;rw[if_neg (by decide),DS (by omega) hn];dsimp only;rw[if_pos hany];rfl
 ·show(af (fZ S.ps S.pc p v' ns) l).map bI=_;rw[lP];unfold jy;rw[filter_filter];by_cases hl:l=p
  ·subst hl;rw[if_pos rfl,F7,h.hist,filter_map,filter_filter];congr 1;refine filter_congr fun x _=>?_
   by_cases hx:x.p=l
   ·simp only[Function.comp_apply,cY,hx,decide_true,Bool.true_and,Bool.and_true]
   ·simp only[hx,decide_false,Bool.false_and,Bool.and_false]
  ·rw[if_neg hl,h.hist];congr 1;refine filter_congr fun x _=>?_
   by_cases hx:x.p=l
   ·have:¬x.p=p:=fun e=>hl (hx.symm.trans e)
    simp[hx,hl]
   ·simp[hx]
 ·show S.X.used-(bO ns (af S.ps p):Nat)=_;rw[h.used];omega
theorem wY(H:List HV)(p:Bs)(n d:Int):((fy H p n d).map (·.size)).sum=(H.map (·.size)).sum:=by
 unfold fy;rw[map_map];congr 1;refine map_congr_left fun x _=>?_
 simp only[Function.comp_apply];split<;>rfl
def tb2(n d:Int)(t:Nat×Nat×List (Nat×Nat)×Int):Nat×Nat×List (Nat×Nat)×Int:=if(t.1:Int)=n then(t.1,t.2.1,t.2.2.1,t.2.2.2+d)else t
theorem t8{S:AS}{H:List HV}(h:∀l,(af S.ps l).map bI=(H.filter (fun h=>decide (h.p=l))).map cY)(p:Bs)(n d:Int)(l:Bs):(af (cM S.ps p n d) l).map bI=((fy H p n d).filter (fun h=>decide (h.p=l))).map cY:=by
 have e0:(fy H p n d).filter (fun h=>decide (h.p=l))=(H.filter (fun h=>decide (h.p=l))).map (fun h=>if h.p=p/\(h.num:Int)=n then { h with held:=h.held+d } else h):=by
  unfold fy;rw[filter_map];congr 1;refine filter_congr fun x _=>?_
  simp only[Function.comp_apply];split<;>rfl
 rw[gX,e0,map_map];by_cases hl:l=p
 ·subst hl;rw[if_pos rfl,map_map];have h1:=congrArg (List.map (tb2 n d)) (h l);rw[map_map,map_map]at h1;refine Eq.trans (map_congr_left fun V _=>?_) (h1.trans (map_congr_left fun x hx=>?_))
  ·show bI (dj n d V)=tb2 n d (bI V);unfold tb2 dj;by_cases hV:(V.num:Int)=n
   ·rw[if_pos hV,if_pos (show((bI V).1:Int)=n from hV)];rfl
   ·rw[if_neg hV,if_neg (show ¬((bI V).1:Int)=n from hV)]
  ·have hx2:x.p=l:=by simpa using(mem_filter.1 hx).2
   show tb2 n d (cY x)=cY (if x.p=l/\(x.num:Int)=n then { x with held:=x.held+d } else x);unfold tb2;by_cases hV:(x.num:Int)=n
   ·rw[if_pos (show((cY x).1:Int)=n from hV),if_pos ⟨hx2,hV⟩];rfl
   ·rw[if_neg (show ¬((cY x).1:Int)=n from hV),if_neg (fun e=>hV e.2)]
 ·rw[if_neg hl,h l];refine map_congr_left fun x hx=>?_
  have hx2:x.p=l:=by simpa using(mem_filter.1 hx).2
  simp only[Function.comp_apply];rw[if_neg (fun e=>hl (hx2.symm.trans e.1))]
theorem I6(ts:List fO)(c:Nat)(m:Bs)(v:Value)(g:Bs×Int):(eh ts c m v g).map eZ=ma (ts.map eZ) (m,g.1,g.2):=by
 have e:(ts.map eZ).any (fun t=>decide (t.1=m))=gN ts m:=by unfold gN;rw[any_map];rfl
 unfold eh ma;rw[e];split
 ·rw[map_map,map_map];refine map_congr_left fun x _=>?_
  simp only[Function.comp_apply];by_cases hx:x.key=m
  ·rw[if_pos hx,if_pos (show(eZ x).1=m from hx)];simp[eZ,hx]
  ·rw[if_neg hx,if_neg (show ¬(eZ x).1=m from hx)]
 ·simp[eZ]
theorem uo{p m:Bs}(hp:p.length<=20)(hm:m.length<=20)(n:Int):(dG p m n).length<=60:=by
 unfold dG;simp only[length_append,bw,bM];omega
theorem Told.tag{S:AS}{rs:j0}{H:List HV}(h:Told S rs H)(hok:ArOk S){m p:Bs}{n:Nat}{L':DevL}(hr:RecIs S L' (frame 4 (dG p m n)))(hp:p.length<=20)(hm:m.length<=20)(hn:n<4294967296):
  Told (zd S m p n L') (rs++[(4,dG p m n)]) (fy H p n 1):=by
 refine h.more hok hr (by decide) (by have:=uo hp hm n;omega) rfl rfl rfl ?_ (fun l=>t8 h.hist p n 1 l) ?_
 ·unfold fC;rw[if_neg (by decide),ri (.inl rfl) (by omega) (by omega) hn];dsimp only;rw[if_pos rfl];show _=some (PSt.mk S.K _ ((eh S.ts S.tc m (mE m (p,(n:Int))) (p,(n:Int))).map eZ));rw[I6]
 ·show S.X.used=_;rw[h.used,wY]
theorem Told.Qu{S:AS}{rs:j0}{H:List HV}(h:Told S rs H)(hok:ArOk S){m p:Bs}{n:Nat}{L':DevL}(hr:RecIs S L' (frame 5 (dG p m n)))(hp:p.length<=20)(hm:m.length<=20)(hn:n<4294967296):
  Told (nm S m p n L') (rs++[(5,dG p m n)]) (fy H p n (-1)):=by
 refine h.more hok hr (by decide) (by have:=uo hp hm n;omega) rfl rfl rfl ?_ (fun l=>t8 h.hist p n (-1) l) ?_
 ·unfold fC;rw[if_neg (by decide),ri (.inr rfl) (by omega) (by omega) hn];dsimp only;rw[if_neg (by decide)];show _=some (PSt.mk S.K _ ((bE S.ts m).map eZ));unfold Ap bE;rw[filter_map];rfl
 ·show S.X.used=_;rw[h.used,wY]
theorem ArB.mono{S:AS}{b c:Nat}(h:ArB S b)(hbc:b<=c):ArB S c where
 K:=Nat.le_trans h.K hbc
 np:=Nat.le_trans h.np hbc
 nt:=Nat.le_trans h.nt hbc
 vers:=fun p hp=>⟨(h.vers p hp).1,Nat.le_trans (h.vers p hp).2.1 hbc,fun V hV=>by
  obtain⟨h1,h2,h3,h4⟩:=(h.vers p hp).2.2 V hV
  exact⟨by omega,by omega,by omega,by omega⟩⟩
 tags:=fun p hp=>by
  obtain⟨h1,h2,h3⟩:=h.tags p hp
  exact⟨h1,h2,by omega⟩
 used:=by have:=h.used;omega
 sc:=by have:=h.sc;omega
 sb:=by have:=h.sb;omega
 quota:=h.quota
 chs:=by have:=h.chs;omega
structure PB (X:WS) (k m:Nat):Prop where
 b:ArB X.S (m+2*k)
 vs:X.R.vs.length<=k
 ts:X.R.ts.length<=k
 ml:X.M.length<=m
 nums:∀v∈X.R.vs,v.num<=k
 data:X.S.data.length+4*X.R.vs.length<=110*k+2*m
 n:X.S.L.n=20000
 q:0<=X.S.X.quota/\X.S.X.quota<=9223372036854775807
 ab:AB X.S (X.M.map (·.bs))
 told:∃rs H,Told X.S rs H
 ep:X.S.X.ep<=k+1
theorem PB.mono{X:WS}{k m k' m':Nat}(h:PB X k m)(hk:k<=k')(hm:m<=m'):PB X k' m' where
 b:=h.b.mono (by omega)
 vs:=Nat.le_trans h.vs hk
 ts:=Nat.le_trans h.ts hk
 ml:=Nat.le_trans h.ml hm
 nums:=fun v hv=>by have:=h.nums v hv;omega
 data:=by have:=h.data;omega
 n:=h.n
 q:=h.q
 ab:=h.ab
 told:=h.told
 ep:=by have:=h.ep;omega
theorem PB.out{X:WS}{k m:Nat}(h:PB X k m)(sp:List (Nat×Nat×Nat))(ov wv:Value)(D:Bs):PB (Gi X sp ov wv D) k m where
 b:=h.b.spare sp
 vs:=h.vs
 ts:=h.ts
 ml:=h.ml
 nums:=h.nums
 data:=h.data
 n:=h.n
 q:=h.q
 ab:=h.ab.of rfl rfl rfl (fun l V hV=>⟨V,hV,rfl⟩)
 told:=by obtain⟨rs,H,h1⟩:=h.told;exact⟨rs,H,h1.spare sp⟩
 ep:=h.ep
theorem PB.flush{X:WS}{k m:Nat}(h:PB X k m){L':DevL}(hf:jC X.S.L L'):PB { X with S:=iX X.S L' } k m where
 b:=h.b.flush hf
 vs:=h.vs
 ts:=h.ts
 ml:=h.ml
 nums:=h.nums
 data:=h.data
 n:=by show L'.n=_;rw[hf.2.1];exact h.n
 q:=h.q
 ab:=h.ab.of rfl rfl rfl (fun l V hV=>⟨V,hV,rfl⟩)
 told:=by obtain⟨rs,H,h1⟩:=h.told;exact⟨rs,H,h1.flush hf.2.2.1⟩
 ep:=h.ep
theorem PB.close{X:WS}{k m:Nat}(h:PB X k m){S1:AS}(hc:ja X.S S1):PB { X with S:=S1,R:={ X.R with closed:=true } } k m:=by
 rcases hc with⟨_,rfl⟩|⟨_,L',hf,rfl⟩
 ·exact⟨h.b,h.vs,h.ts,h.ml,h.nums,h.data,h.n,h.q,h.ab.of rfl rfl rfl (fun l V hV=>⟨V,hV,rfl⟩),h.told,h.ep⟩
 ·have h2:=h.flush hf;refine⟨h2.b.close,h2.vs,h2.ts,h2.ml,h2.nums,h2.data,h2.n,h2.q,h2.ab.of rfl rfl rfl (fun l V hV=>⟨V,hV,rfl⟩),?_,h2.ep⟩;obtain⟨rs,H,h1⟩:=h2.told;exact⟨rs,H,h1.close⟩
theorem tD(D:Bs):(au D).length<=D.length:=by
 unfold au;rw[cA];exact cK D
theorem FP(S:AS)(D:Bs):(bC S D).length<=(au D).length:=by
 unfold bC
 have:∀(has l acc:List Bs),(bX has acc l).length<=acc.length+l.length:=by
  intro has l;induction l with
  | nil=>intro acc;simp[bX]
  | cons c r ih =>
   intro acc;simp only[bX];split
   ·have:=ih acc;simp only[length_cons];omega
   ·have:=ih (acc++[c]);simp only[length_append,length_cons,length_nil]at this ⊢;omega
 simpa using this (S.K.map (·.1)) (au D) []
theorem PB.put{X:WS}{k m:Nat}(h:PB X k m){w0 W W':World}(hw:WsOk w0 W X){o:OpL}{S':AS}{V:VerL}{vv cv mv:Value}{M':List SlB}(hp:PutStep X.S S' o.s o.d V)(hpb:Cr X.S o.d (m+2*k) S')(hD:o.d.length<=4000)(hl:aq o.s=true)(hM:M'.map (·.bs)=dU (X.M.map (·.bs)) (au o.d))(hw':WsOk w0 W' (KA X o S' vv cv mv M'))(hk:k+1<=400)(hm:m+o.d.length<=60000):PB (KA X o S' vv cv mv M') (k+1) (m+o.d.length):=by
 have hnr:i5 X.R.vs o.s X.R.vs.length<=k+1:=by
  rw[nT _ _ _ (Nat.le_refl _),take_length]
  cases hg:(aH X.R.vs o.s).getLast? with
  | none=>simp;omega
  | some v =>
   have:=h.nums v (mem_filter.1 (mem_of_getLast? hg)).1;simp only[Option.map_some,Option.getD_some];omega
 have hVn:(V.num:Int)=i5 X.R.vs o.s X.R.vs.length:=by rw[hw.link.nr,hp.num];simp
 have hroom:=Bo (S:=X.S) (D:=o.d) (bA hl) (n:=V.num) (s:=V.size) hp.nchs
 have hdl:S'.data.length+4*(dd X.R.vs o.s ⟨o.s,i5 X.R.vs o.s X.R.vs.length,o.d,cv,0⟩).length<=110*(k+1)+2*(m+o.d.length):=by
  have:=h.data;rw[hp.data,length_append,length_append,EE];omega
 refine⟨?_,?_,?_,?_,?_,hdl,?_,?_,(by show AB S' (M'.map (·.bs));rw[hM];exact h.ab.put hw.ar hw'.ar hp),?_,(by show S'.X.ep<=_;rw[hp.ep];have:=h.ep;omega)⟩
 ·have h1:=FP X.S o.d;have h2:=tD o.d;exact hpb _ (by omega) (by omega)
 ·show(dd _ _ _).length<=_;rw[EE];have:=h.vs;omega
 ·have:=h.ts;show X.R.ts.length<=_;omega
 ·show M'.length<=_;have h1:=congrArg length hM;have h2:=wo (X.M.map (·.bs)) (au o.d);have h3:=tD o.d;have h4:=h.ml;rw[length_map]at h1 h2;omega
 ·intro v hv;rcases nQ.1 hv with hv|rfl
  ·have:=h.nums v hv;omega
  ·simp only;omega
 ·show S'.L.n=_;rw[hp.n];exact h.n
 ·show 0<=S'.X.quota/\S'.X.quota<=9223372036854775807;rw[hp.quota];exact h.q
 ·obtain⟨rs,H,h1⟩:=h.told;exact⟨_,_,h1.put hw.ar hw'.ar hp (bA hl) hD (by omega) (by show S'.data.length<_;omega)⟩
theorem Told.opens{S:AS}{rs:j0}{H:List HV}(h:Told S rs H)(hok:ArOk S)(hn:S.L.n=20000)(hr:S.data.length<=810000)(d':Nat)(L':DevL)(q:Int)(W:World)(hc:oL S.L L')(hs:Sat W (aD d' L')):
  Calls Tryz.prog 34 #[.pointer (some ⟨d',0,none⟩),.int .i64 q] W (fun e W''=>∃S',e=.returned (.tuple #[.pointer (some ⟨S'.a,0,none⟩),.nilIface])/\OpenIs d' L' q S.X.ep (aC L'.now (2+S.X.ep%2*ay L'.n) (ay L'.n)) S'/\Turns (aD d' L') (arF S') W W''):=by
 have hD:aC L'.now (2+S.X.ep%2*ay L'.n) (ay L'.n)=cC rs++am (128*S.A.count-S.data.length):=by
  have h1:=hok.dat.1;have h2:S.A.first=2+S.X.ep%2*ay L'.n:=by rw[hok.first,hc.2.1]
  have h3:S.A.count=ay L'.n:=by rw[hok.count,hc.2.1]
  rw[hc.2.2.1,<- h2,<- h3,h1,h.data]
 obtain⟨us,wh,rest,u1,u2,u3,u4,u5⟩:=h.sec;refine He d' L' us S.X.ep wh q W hs hc.1 (by rw[hc.2.1,hn];omega) (by rw[hc.2.1,hn];omega) (by rw[hc.2.2.2.2];simp) (by rw[hc.2.2.1];exact u1) u2 (by rw[hc.2.2.1];exact u3) hok.ep ?_ (fun at_ s hR hF=>?_) u5
 ·intro at_ s hR;rw[hD]at hR;obtain⟨a,b,e1,e2,-⟩:=xq h.ok hR;rw[h.data,e1,dL,length_append]at hr;omega
 ·rw[hD]at hR hF;obtain⟨rfl,-⟩:=xB h.ok hR hF h.run;rw[<- h.data];exact u4
theorem Told.Ql{S S':AS}{rs:j0}{H:List HV}(h:Told S rs H)(hok:ArOk S){d':Nat}{L':DevL}{q:Int}(hc:oL S.L L')(ho:OpenIs d' L' q S.X.ep (aC L'.now (2+S.X.ep%2*ay L'.n) (ay L'.n)) S'):
  ArOk S'/\zH S S'/\S'.X.used=S.X.used/\S'.data=S.data/\Told S' rs H/\S'.X.sc=S'.K.length/\S'.X.sb=((S'.K.map (·.1.length)).sum:Nat)/\(∀e∈S.K,e.1.length<=65535):=by
 obtain⟨sz,szc,hct,hK,hdat⟩:=h.open hok hc.2.1 hc.2.2.1 ho;have hok':ArOk S':=Gr hok hc.2.1 ho rfl hct hK hdat;have hv:zH S S':=⟨fun l=>by rw[hct.hist,h.hist],hK,by rw[hct.tagT]⟩;obtain⟨e1,e2,e3,e4,e5⟩:=ho.eX;refine⟨hok',hv,by rw[hct.used,h.used],hdat,?_,by rw[hct.sc,hK],by rw[hct.sb,hK],fun e he=>(hct.kat e he).2.1⟩;refine⟨h.ok,by rw[hdat,h.data],by rw[hK,hv.2.2];exact h.run,fun l=>by rw[hv.1];exact h.hist l,?_,by rw[hct.used]⟩;rw[e2,hdat];exact h.sec.to (fun k hk=>by rw[jw,ho.other k 1 (.inl (by rw[ho.A.1];omega)),<- jw,hc.2.2.1]) (Nat.le_refl _)
theorem PB.opened{X:WS}{k m:Nat}(h:PB X k m)(hok:ArOk X.S){d':Nat}{L':DevL}{q:Int}{S':AS}(hq:q<=9223372036854775807){b':Nat}{vv' tv':Value}(hc:oL X.S.L L')(ho:OpenIs d' L' q X.S.X.ep (aC L'.now (2+X.S.X.ep%2*ay L'.n) (ay L'.n)) S'):PB (yJ X q d' S' b' vv' tv') k m:=by
 obtain⟨rs,H,ht⟩:=h.told;obtain⟨hok',hv,hu,hdat,ht',hsc,hsb,hkl⟩:=ht.Ql hok hc ho;obtain⟨e1,e2,e3,e4,e5⟩:=ho.eX;have hclip:0<=cW q/\cW q<=9223372036854775807:=by unfold cW;split<;>omega
 refine⟨?_,h.vs,h.ts,h.ml,h.nums,?_,?_,?_,h.ab.views hv.2.1 hsc hsb hv.1,⟨rs,H,ht'⟩,by show S'.X.ep<=_;rw[e2];exact h.ep⟩
 ·refine Je h.b hok hok' hv hu hsc hsb ?_ (by show S'.X.quota.natAbs<=_;rw[e3];omega) ho.dev.2.2.2 (fun p hp=>?_)
  ·have h1:=rr (l:=X.S.K) (f:=(·.1.length)) (m:=65535) hkl;have h2:=h.b.K;have h3:65535*X.S.K.length<=65536*(m+2*k):=Nat.mul_le_mul (by omega) h2;omega
  ·have h2:=hv.1 p.key;rw[go hok'.paths hp]at h2
   have hne:af X.S.ps p.key≠[]:=fun e=>by
    rw[e]at h2;exact hok'.some p hp (map_eq_nil_iff.1 h2)
   obtain⟨p0,hp0,hk0,-⟩:=bD hne;rw[<- hk0];exact(h.b.vers p0 hp0).1
 ·show S'.data.length+4*X.R.vs.length<=_;rw[hdat];exact h.data
 ·show S'.L.n=_;rw[ho.dev.2.1,hc.2.1];exact h.n
 ·show 0<=S'.X.quota/\S'.X.quota<=_;rw[e3];exact hclip
def Ae(X:WS)(S':AS)(R':RefL):WS:={ X with S:=S',R:=R' }
theorem WsOk.chg{w0 W W':World}{X:WS}(h:WsOk w0 W X){S':AS}{R':RefL}(hT:Turns [] (wsF (Ae X S' R')) w0 W')(ha:S'.a=X.S.a)(hd:S'.X.d=X.S.X.d)(hr:R'.blk=X.R.blk)(hok:ArOk S')(href:RefOk R')(hin:ry X.P R')(hl:Link S' R'):WsOk w0 W' (Ae X S' R') where
 turns:=hT
 a:=by show X.U.a=some S'.a;rw[ha];exact h.a
 r:=by show X.U.r=R'.blk;rw[hr];exact h.r
 d:=by show X.U.d=S'.X.d;rw[hd];exact h.d
 ar:=hok
 ref:=href
 pok:=h.pok
 inp:=hin
 out:=h.out
 want:=h.want
 most:=h.most
 ms:=h.ms
 link:=hl
 olen:=h.olen
theorem AJ(ts:List RTag)(p:Bs)(n:Int):0<=iQ ts p n/\iQ ts p n<=ts.length:=by
 unfold iQ;have:=countP_le_length (p:=fun t:RTag=>decide (t.path=p/\t.num=n)) (l:=ts);omega
theorem Link.ver{S:AS}{R:RefL}(L:Link S R)(hok:ArOk S){q:ba}(hq:q∈S.ps){V:VerL}(hV:V∈q.g):∃v∈R.vs,v.path=q.key/\v.num=V.num/\v.held=V.held/\V.held.natAbs<=R.ts.length:=by
 have h1:cX S V∈(aH R.vs q.key).map gn:=by
  rw[<- L.vers,go hok.paths hq];exact mem_map.2 ⟨V,hV,rfl⟩
 obtain⟨v,hv,e⟩:=mem_map.1 h1;obtain⟨hv1,hv2⟩:=mem_filter.1 hv;unfold gn cX at e;simp only[Prod.mk.injEq]at e;have h2:=AJ R.ts v.path v.num;rw[<- L.held v hv1]at h2;exact⟨v,hv1,by simpa using hv2,e.1,e.2.2,by omega⟩
theorem ArB.more{S S':AS}{b:Nat}(h:ArB S b){L':DevL}{r:Bs}(hr:RecIs S L' r)(hrl:r.length<=70000)(hK:S'.K=S.K)(hL:S'.L=L')(hu:S'.X.used.natAbs<=S.X.used.natAbs)(hX:S'.X.sc=S.X.sc/\S'.X.sb=S.X.sb/\S'.X.quota=S.X.quota)(np:S'.ps.length<=S.ps.length)(nt:S'.ts.length<=S.ts.length+1)(hv:∀q∈S'.ps,q.key.length<=255/\q.g.length<=b/\∀V∈q.g,V.num<=4294967296+b/\V.chs.length<=b/\V.size<=65536*b/\V.held.natAbs<=b+2)(ht:∀p∈S'.ts,p.key.length<=255/\p.g.1.length<=255/\p.g.2.natAbs<=4294967296+b):ArB S' (b+2) where
 K:=by rw[hK];have:=h.K;omega
 np:=by have:=h.np;omega
 nt:=by have:=h.nt;omega
 vers:=fun q hq=>by
  obtain⟨h1,h2,h3⟩:=hv q hq
  refine⟨h1,by omega,fun V hV=>?_⟩
  obtain⟨a1,a2,a3,a4⟩:=h3 V hV
  exact⟨by omega,by omega,by omega,a4⟩
 tags:=fun p hp=>by
  obtain⟨h1,h2,h3⟩:=ht p hp
  exact⟨h1,h2,by omega⟩
 used:=by have:=h.used;omega
 sc:=by rw[hX.1];have:=h.sc;omega
 sb:=by rw[hX.2.1];have:=h.sb;omega
 quota:=by rw[hX.2.2];exact h.quota
 chs:=by rw[hL];have:=h.chs;have:=hr.chs;omega
theorem FS{S:AS}{p:Bs}{ns:List Int}{v':Value}{L':DevL}(hne:af S.ps p≠[]){q:ba}(hq:q∈(iu S p ns v' L').ps):∃q0∈S.ps,q.key=q0.key/\∀V∈q.g,V∈q0.g:=by
 have hq2:q∈fZ S.ps S.pc p v' ns:=hq;obtain⟨q0,h0,hk,hg⟩:=jM hne;unfold fZ at hq2;split at hq2
 ·exact⟨q,(mem_filter.1 hq2).1,rfl,fun V hV=>hV⟩
 ·rcases fA hq2 with⟨h1,_⟩|⟨h1,h2,h3⟩
  ·exact⟨q,h1,rfl,fun V hV=>hV⟩
  ·refine⟨q0,h0,by rw[h1,hk],fun V hV=>?_⟩;rw[h3]at hV;rw[<- hg];exact(mem_filter.1 hV).1
theorem FT{S:AS}{p:Bs}{ns:List Int}{v':Value}{L':DevL}(hne:af S.ps p≠[]):(iu S p ns v' L').ps.length<=S.ps.length/\∀q∈(iu S p ns v' L').ps,∃q0∈S.ps,q.g.length<=q0.g.length/\q.key=q0.key:=by
 obtain⟨q0,h0,hk,hg⟩:=jM hne;constructor
 ·show(fZ S.ps S.pc p v' ns).length<=_;unfold fZ;split
  ·exact length_filter_le _ _
  ·have hh:gN S.ps p=true:=by unfold gN;rw[any_eq_true];exact⟨q0,h0,by simpa using hk⟩
   unfold eh;rw[hh,if_pos rfl,length_map];exact Nat.le_refl _
 ·intro q hq;have hq2:q∈fZ S.ps S.pc p v' ns:=hq;unfold fZ at hq2;split at hq2
  ·exact⟨q,(mem_filter.1 hq2).1,Nat.le_refl _,rfl⟩
  ·rcases fA hq2 with⟨h1,_⟩|⟨h1,h2,h3⟩
   ·exact⟨q,h1,Nat.le_refl _,rfl⟩
   ·refine⟨q0,h0,?_,by rw[h1,hk]⟩;rw[h3,<- hg];exact length_filter_le _ _
theorem D7(vs:List RVer)(p:Bs)(ns:List Int):fS (fx vs p ns)<=fS vs:=by have:=ve vs p ns;omega
theorem Dh{vs:List RVer}(h:pF vs){p:Bs}{ns:List Int}(hn:ns.Nodup)(hm:∀n∈ns,∃v∈vs,v.path=p/\v.num=n):(fx vs p ns).length+ns.length=vs.length:=by
 have h1:=(filter_append_perm (inR p ns) vs).length_eq;rw[length_append]at h1
 have h2:((vs.filter (inR p ns)).map (·.num)).Perm ns:=by
  refine(perm_ext_iff_of_nodup ?_ hn).2 fun n=>?_
  ·rw[nodup_iff_pairwise_ne,pairwise_map];refine(Pairwise.filter (inR p ns) h).imp_of_mem (fun {a b} ha hb hab=>?_);have e1:=(mem_filter.1 ha).2;have e2:=(mem_filter.1 hb).2;unfold inR at e1 e2;simp only[Bool.and_eq_true,decide_eq_true_eq]at e1 e2;have:=hab (by rw[e1.1,e2.1]);omega
  ·constructor
   ·intro hx;obtain⟨v,hv,rfl⟩:=mem_map.1 hx;have e1:=(mem_filter.1 hv).2;unfold inR at e1;simp only[Bool.and_eq_true,contains_iff_mem]at e1;exact e1.2
   ·intro hx;obtain⟨v,hv,hp,hv2⟩:=hm n hx;exact mem_map.2 ⟨v,mem_filter.2 ⟨hv,by unfold inR;simp[hp,hv2,hx]⟩,hv2⟩
 have h3:=h2.length_eq;rw[length_map]at h3;unfold fx;omega
structure GoneStep (S:AS) (R:RefL) (p:Bs) (ns:List Int) (v':Value) (L':DevL) (vv:Value):Prop where
 path:aq p=true
 rcd:RecIs S L' (frame 3 (dA p ns))
 ptr:eT v' (dC ns (af S.ps p))
 ne:af S.ps p≠[]
 mem:∀n∈ns,∃v∈R.vs,v.path=p/\v.num=n
 nd:ns.Nodup
 held:∀v∈R.vs,v.path=p->v.num∈ns->v.held<=0
 rv:nh vv (fx R.vs p ns)
def Ez(X:WS)(p:Bs)(ns:List Int)(v':Value)(L':DevL)(vv:Value):WS:=Ae X (iu X.S p ns v' L') { X.R with vv:=vv,vs:=fx X.R.vs p ns }
theorem GoneStep.ws{w0 W W':World}{X:WS}{p:Bs}{ns:List Int}{v':Value}{L':DevL}{vv:Value}(hg:GoneStep X.S X.R p ns v' L' vv)(h:WsOk w0 W X)(hT:Turns [] (wsF (Ez X p ns v' L' vv)) w0 W'):WsOk w0 W' (Ez X p ns v' L' vv) :=
 h.chg hT rfl rfl rfl (IE h.ar hg.rcd (by have:=bA hg.path;unfold OkS;omega) hg.ptr hg.ne) { h.ref with vs:=hg.rv } (fun v hv=>h.inp v (mem_filter.1 hv).1) (h.link.gone h.ar hg.held)
theorem PB.gone{X:WS}{k m:Nat}(h:PB X k m){w0 W:World}(hw:WsOk w0 W X){p:Bs}{ns:List Int}{v':Value}{L':DevL}{vv:Value}(hg:GoneStep X.S X.R p ns v' L' vv)(hk:k+1<=400):PB (Ez X p ns v' L' vv) (k+1) m:=by
 have hc:=Dh hw.link.uniq hg.nd hg.mem;have hpl:=bA hg.path;have hnl:ns.length<=k:=by have:=h.vs;omega
 have hr:(frame 3 (dA p ns)).length<=30+4*ns.length:=by
  rw[aX];unfold dA;rw[length_append,bw,cr];omega
 have hd:=h.data;obtain⟨hl1,hl2⟩:=FT (ns:=ns) (v':=v') (L':=L') hg.ne;have hL:=hw.link.gone (v':=v') (vv:=vv) (L':=L') hw.ar hg.held;refine⟨?_,?_,?_,h.ml,?_,?_,?_,h.q,h.ab.gone p ns v' L' (fun l V hV=>?_),?_,by show X.S.X.ep<=_;have:=h.ep;omega⟩
 ·refine ArB.mono (h.b.more (S':=iu X.S p ns v' L') hg.rcd (by omega) rfl rfl ?_ ⟨rfl,rfl,rfl⟩ hl1 (Nat.le_succ _) (fun q hq=>?_) (fun t ht=>h.b.tags t ht)) (by omega)
  ·have h1:=hL.used;have h2:=hw.link.used;have h3:=D7 X.R.vs p ns;simp only at h1;omega
  ·obtain⟨q0,h0,e1,e2⟩:=FS hg.ne hq;obtain⟨q1,h1,e3,e4⟩:=hl2 q hq;have b0:=h.b.vers q0 h0;have b1:=h.b.vers q1 h1;refine⟨by rw[e1];exact b0.1,by omega,fun V hV=>?_⟩;obtain⟨a1,a2,a3,a4⟩:=b0.2.2 V (e2 V hV);exact⟨a1,a2,a3,by omega⟩
 ·show(fx X.R.vs p ns).length<=_;have:=h.vs;omega
 ·have:=h.ts;show X.R.ts.length<=_;omega
 ·intro v hv;have:=h.nums v (mem_filter.1 hv).1;omega
 ·show(X.S.data++frame 3 (dA p ns)).length+4*(fx X.R.vs p ns).length<=_;rw[length_append];omega
 ·show L'.n=_;rw[hg.rcd.n];exact h.n
 ·rw[show(iu X.S p ns v' L').ps=fZ X.S.ps X.S.pc p v' ns from rfl,lP]at hV;split at hV
  ·rename_i hl;rw[hl];exact(mem_filter.1 hV).1
  ·exact hV
 ·obtain⟨rs,H,ht⟩:=h.told;refine⟨_,_,ht.gone hw.ar hg.rcd hpl (fun n hn=>?_) (by omega) hg.ne⟩;obtain⟨v,hv,-,e⟩:=hg.mem n hn;have h1:=(hw.link.each v hv).1;have h2:=h.nums v hv;omega
theorem F3{ps:List ba}{p:Bs}{n d:Int}{q:ba}(hq:q∈cM ps p n d):∃q0∈ps,q.key=q0.key/\q.g.length=q0.g.length/\∀V∈q.g,∃V0∈q0.g,V.num=V0.num/\V.chs=V0.chs/\V.size=V0.size:=by
 obtain⟨q0,h0,rfl⟩:=mem_map.1 (show q∈ps.map _ from hq);refine⟨q0,h0,?_⟩;split
 ·refine⟨rfl,by simp,fun V hV=>?_⟩;obtain⟨V0,hV0,rfl⟩:=mem_map.1 hV;obtain⟨-,-,e3,e4,e5⟩:=gA n d V0;exact⟨V0,hV0,e4,e3,e5⟩
 ·exact⟨rfl,rfl,fun V hV=>⟨V,hV,rfl,rfl,rfl⟩⟩
theorem PB.held{X:WS}{k m:Nat}(h:PB X k m){p:Bs}{n d:Int}{S':AS}{R':RefL}{L':DevL}{r:Bs}(hr:RecIs X.S L' r)(hrl:r.length<=69)(hok':ArOk S')(hL:Link S' R')(hps:S'.ps=cM X.S.ps p n d)(hS:S'.K=X.S.K/\S'.L=L'/\S'.X=X.S.X/\S'.data=X.S.data++r)(hR:R'.vs=X.R.vs.map (ei p n d))(hrt:R'.ts.length<=X.R.ts.length+1)(hst:S'.ts.length<=X.S.ts.length+1)(ht:∀p∈S'.ts,p.key.length<=255/\p.g.1.length<=255/\p.g.2.natAbs<=4294967296+(m+2*k))(htold:∃rs H,Told S' rs H):PB (Ae X S' R') (k+1) m:=by
 have hts:=h.ts;refine⟨?_,?_,?_,h.ml,?_,?_,?_,?_,h.ab.held hps hS.1 hS.2.2.1,htold,by show S'.X.ep<=_;rw[hS.2.2.1];have:=h.ep;omega⟩
 ·refine ArB.mono (h.b.more (S':=S') hr (by omega) hS.1 hS.2.1 (by rw[hS.2.2.1];exact Nat.le_refl _) ⟨by rw[hS.2.2.1],by rw[hS.2.2.1],by rw[hS.2.2.1]⟩ (by rw[hps];unfold cM;rw[length_map];exact Nat.le_refl _) hst (fun q hq=>?_) ht) (by omega);have hq2:=hq;rw[hps]at hq2;obtain⟨q0,h0,e1,e2,e3⟩:=F3 hq2;have b0:=h.b.vers q0 h0;refine⟨by rw[e1];exact b0.1,by omega,fun V hV=>?_⟩;obtain⟨V0,hV0,f1,f2,f3⟩:=e3 V hV;obtain⟨a1,a2,a3,a4⟩:=b0.2.2 V0 hV0;obtain⟨v,-,-,-,-,hh⟩:=hL.ver hok' hq hV;exact⟨by omega,by rw[f2];exact a2,by omega,by omega⟩
 ·show R'.vs.length<=_;rw[hR,length_map];have:=h.vs;omega
 ·show R'.ts.length<=_;omega
 ·intro v hv;have hv2:v∈R'.vs:=hv;rw[hR]at hv2;obtain⟨u,hu,rfl⟩:=mem_map.1 hv2;rw[(gH p n d u).2.1];have:=h.nums u hu;omega
 ·show S'.data.length+4*R'.vs.length<=_;rw[hS.2.2.2,hR,length_append,length_map];have:=h.data;omega
 ·show S'.L.n=_;rw[hS.2.1,hr.n];exact h.n
 ·show 0<=S'.X.quota/\S'.X.quota<=_;rw[hS.2.2.1];exact h.q
theorem ry.bump{P:eO}{R:RefL}(h:ry P R)(k:Nat)(d:Int)(tv:Value)(ts:List RTag):ry P (gT R (kg R.vs k d) tv ts):=fun v hv=>by
 obtain⟨v0,hv0,e1,e2,-⟩:=Kg v hv
 rw[e1,e2];exact h v0 hv0
theorem sG{k:UInt8}{p m:Bs}(hp:aq p=true)(hm:aq m=true)(n:Int):(frame k (dG p m n)).length<=69:=by
 have:=uo (bA hp) (bA hm) n;rw[aX];omega
def nG(w0:World)(X:WS)(Ψ:AS->RefL->Prop)(e:Ending)(w':World):Prop:=∃S' R',e=.returned (.bool true)/\Ψ S' R'/\Turns [] (wsF { X with S:=S',R:=R' }) w0 w'
theorem sw(w0 W:World)(X:WS)(o:OpL)(h:WsOk w0 W X)(hl:X.R.vs.length<=100000)(hE:aW w0)(hk:o.kind=9)(Φ:Int->AS->Prop)(Ψ:AS->RefL->Prop)(hours:∀W',Sat W' (arF X.S)->Calls Tryz.prog 19 #[.pointer (some ⟨X.S.a,0,none⟩),str o.s,.int .i64 o.a] W' (fun e w'=>∃ev n S',e=.returned (ev)/\xT ev n/\Φ n S'/\Turns (arF X.S) (arF S') W' w'))(href:∀n S' W',Φ n S'->RefAt X.R X.P W'->Sat W' (aI X.R++bi X.P)->Calls Tryz.prog 20 #[.pointer (some ⟨X.R.blk,0,none⟩),str o.s,.int .i64 o.a] W' (fun e w'=>∃R',e=.returned (.int .i64 n)/\Ψ S' R'/\Turns (aI X.R++bi X.P) (aI R'++bi X.P) W' w')):
  Calls Tryz.prog 7 #[.pointer (some ⟨X.U.blk,0,none⟩),opA o] W (nG w0 X Ψ):=by
 obtain⟨ok,oa,ob_,oc,os,ot,odv,od⟩:=o;simp only at hk hours href;subst hk;have HH:=Hq5 h hl hE hours href;clear h hl hE hours href;unfold opA opV;go_enter Tryz.func7,Tryz.ntmps7;go_upto_region 18 with(fail);obtain⟨ob,hob⟩:∃ob,ob=W.heap.size:=⟨_,rfl⟩
 have hT1:Turns [] (arF X.S++((aI X.R++bi X.P)++((ob,Is (oO ⟨9,oa,ob_,oc,os,ot,odv,od⟩))::(X.U.blk,Is (az X.U))::(cN X.U.most X.M++(aA X.U.out X.O++X.J))))) w0 (W.alloc (.cells #[.int .i64 9,.int .i64 oa,.int .i64 ob_,.int .i64 oc,str os,str ot,odv] 41)):=by
  rw[hob];have:=HH.a.turns.Q8 (.cells #[.int .i64 9,.int .i64 oa,.int .i64 ob_,.int .i64 oc,str os,str ot,odv] 41);unfold wsF aV at this;exact this.to (H:=arF X.S++((aI X.R++bi X.P)++((W.heap.size,Is (.cells #[.int .i64 9,.int .i64 oa,.int .i64 ob_,.int .i64 oc,str os,str ot,odv] 41))::(X.U.blk,Is (az X.U))::(cN X.U.most X.M++(aA X.U.out X.O++X.J))))) ac
 rw[<- hob];generalize W.alloc (.cells #[.int .i64 9,.int .i64 oa,.int .i64 ob_,.int .i64 oc,str os,str ot,odv] 41)=W1 at hT1 ⊢
 have hcells:∀(W:World) (G:HF),Turns [] (G++((ob,Is (oO ⟨9,oa,ob_,oc,os,ot,odv,od⟩))::(X.U.blk,Is (az X.U))::(cN X.U.most X.M++(aA X.U.out X.O++X.J)))) w0 W ->
   W.cell? ⟨X.U.blk,1,none⟩=some (.pointer (some ⟨X.S.a,0,none⟩))/\W.cell? ⟨X.U.blk,2,none⟩=some (.pointer (some ⟨X.R.blk,0,none⟩))/\W.cell? ⟨ob,4,none⟩=some (str os)/\W.cell? ⟨ob,5,none⟩=some (str ot)/\W.cell? ⟨ob,1,none⟩=some (.int .i64 oa):=by
  intro W G hT;have hu:W.heap[X.U.blk]?=some (az X.U):=hT.sat.Q7 (by simp);have ho:W.heap[ob]?=some (oO ⟨9,oa,ob_,oc,os,ot,odv,od⟩):=hT.sat.Q7 (by simp);refine⟨?_,?_,aa ho 4 rfl,aa ho 5 rfl,aa ho 1 rfl⟩
  ·have:=aa hu 1 (v:=l7 X.U.a) rfl;rw[HH.a.a]at this;exact this
  ·have:=aa hu 2 (v:=.pointer (some ⟨X.U.r,0,none⟩)) rfl;rw[HH.a.r]at this;exact this
 obtain⟨u1,-,o4,o5,o1⟩:=hcells W1 (arF X.S++(aI X.R++bi X.P)) (hT1.to ac);have HCE:=qqH hcells;have HT1:=qqH hT1;clear hT1 hcells hob;refine wp_region_still_tail 8 HM.out (by kernel_rfl) ?_;simp only[QE,take_zero,QD,drop_zero];repeat still_step
 refine wpStill_nil ?_;change wpList _ _ _ _ _ W1.drew;have HO:=qqH (HH.d W1.drew HT1.out.drew.sat.left);go_wp2_with fail;refine HO.out.mono ?_;rintro e W3 ⟨ev,n,S',rfl,hev,hph,hG⟩;have hT3:=HT1.out.drew.step (Perm.refl _) hG;obtain⟨-,u2,o4',o5',o1'⟩:=HCE.out W3 (arF S'++(aI X.R++bi X.P)) (hT3.to ac);have HT3:=Hq3 hT3 hev hph;clear hG hT3 hev hph u1 o4 o5 o1;go_upto_region 19 with(fail);refine wp_region_still_tail 8 HM.out (by kernel_rfl) ?_;simp only[QE,take_zero,QD,drop_zero];repeat still_step
 refine wpStill_nil ?_;change wpList _ _ _ _ _ W3.drew;have hT3:=(HT3.a.drew).to (H:=(aI X.R++bi X.P)++(arF S'++((ob,Is (oO ⟨9,oa,ob_,oc,os,ot,odv,od⟩))::(X.U.blk,Is (az X.U))::(cN X.U.most X.M++(aA X.U.out X.O++X.J))))) ac;have HR:=qqH (HH.w n S' W3.drew HT3.y (HH.a.refAt' HH.b (by unfold aV;exact hT3.sat.sub bB)) hT3.sat.left);have HT4:=qqH hT3;clear hT3 u2 o4' o5' o1';go_wp2_with fail;refine HR.out.mono ?_;rintro e W4 ⟨R',rfl,hpsi,hG⟩;have hT5:=HT4.out.step (Perm.refl _) hG;have hE5:aW W4:=HH.c.keep hT5.mods (fun h=>by simp at h);have HTe:=qqH (cz ev n W4 hE5 (HT3.b.is W4));have HT5:=Hq2 hT5 hpsi;clear hG hT5 hE5 hpsi;go_wp2_with fail;refine HTe.out.mono ?_;rintro e W5 ⟨rfl,hs5⟩;have HT6:=qqH (HT5.a.Q9 hs5);clear hs5;go_wp2_with (go_at_call 18;refine(fK _ _).mono ?_;rintro e w' ⟨rfl,rfl⟩);go_ret;refine ⟨S',R',by simp,HT5.z,?_⟩;exact HT6.out.drop (fun x=>by unfold wsF aV;simp only[ao,ai]<;>omega)
theorem zc(w0 W:World)(X:WS)(o:OpL)(h:WsOk w0 W X)(hl:X.R.vs.length<=100000)(hE:aW w0)(hk:o.kind=11)(Φ:Int->AS->Prop)(Ψ:AS->RefL->Prop)(hours:∀W',Sat W' (arF X.S)->Calls Tryz.prog 23 #[.pointer (some ⟨X.S.a,0,none⟩),str o.t,str o.s,.int .i64 o.a] W' (fun e w'=>∃ev n S',e=.returned (ev)/\xT ev n/\Φ n S'/\Turns (arF X.S) (arF S') W' w'))(href:∀n S' W',Φ n S'->RefAt X.R X.P W'->Sat W' (aI X.R++bi X.P)->Calls Tryz.prog 24 #[.pointer (some ⟨X.R.blk,0,none⟩),str o.t,str o.s,.int .i64 o.a] W' (fun e w'=>∃R',e=.returned (.int .i64 n)/\Ψ S' R'/\Turns (aI X.R++bi X.P) (aI R'++bi X.P) W' w')):
  Calls Tryz.prog 7 #[.pointer (some ⟨X.U.blk,0,none⟩),opA o] W (nG w0 X Ψ):=by
 obtain⟨ok,oa,ob_,oc,os,ot,odv,od⟩:=o;simp only at hk hours href;subst hk;have HH:=Hq5 h hl hE hours href;clear h hl hE hours href;unfold opA opV;go_enter Tryz.func7,Tryz.ntmps7;go_upto_region 28 with(fail);obtain⟨ob,hob⟩:∃ob,ob=W.heap.size:=⟨_,rfl⟩
 have hT1:Turns [] (arF X.S++((aI X.R++bi X.P)++((ob,Is (oO ⟨11,oa,ob_,oc,os,ot,odv,od⟩))::(X.U.blk,Is (az X.U))::(cN X.U.most X.M++(aA X.U.out X.O++X.J))))) w0 (W.alloc (.cells #[.int .i64 11,.int .i64 oa,.int .i64 ob_,.int .i64 oc,str os,str ot,odv] 41)):=by
  rw[hob];have:=HH.a.turns.Q8 (.cells #[.int .i64 11,.int .i64 oa,.int .i64 ob_,.int .i64 oc,str os,str ot,odv] 41);unfold wsF aV at this;exact this.to (H:=arF X.S++((aI X.R++bi X.P)++((W.heap.size,Is (.cells #[.int .i64 11,.int .i64 oa,.int .i64 ob_,.int .i64 oc,str os,str ot,odv] 41))::(X.U.blk,Is (az X.U))::(cN X.U.most X.M++(aA X.U.out X.O++X.J))))) ac
 rw[<- hob];generalize W.alloc (.cells #[.int .i64 11,.int .i64 oa,.int .i64 ob_,.int .i64 oc,str os,str ot,odv] 41)=W1 at hT1 ⊢
 have hcells:∀(W:World) (G:HF),Turns [] (G++((ob,Is (oO ⟨11,oa,ob_,oc,os,ot,odv,od⟩))::(X.U.blk,Is (az X.U))::(cN X.U.most X.M++(aA X.U.out X.O++X.J)))) w0 W ->
   W.cell? ⟨X.U.blk,1,none⟩=some (.pointer (some ⟨X.S.a,0,none⟩))/\W.cell? ⟨X.U.blk,2,none⟩=some (.pointer (some ⟨X.R.blk,0,none⟩))/\W.cell? ⟨ob,4,none⟩=some (str os)/\W.cell? ⟨ob,5,none⟩=some (str ot)/\W.cell? ⟨ob,1,none⟩=some (.int .i64 oa):=by
  intro W G hT;have hu:W.heap[X.U.blk]?=some (az X.U):=hT.sat.Q7 (by simp);have ho:W.heap[ob]?=some (oO ⟨11,oa,ob_,oc,os,ot,odv,od⟩):=hT.sat.Q7 (by simp);refine⟨?_,?_,aa ho 4 rfl,aa ho 5 rfl,aa ho 1 rfl⟩
  ·have:=aa hu 1 (v:=l7 X.U.a) rfl;rw[HH.a.a]at this;exact this
  ·have:=aa hu 2 (v:=.pointer (some ⟨X.U.r,0,none⟩)) rfl;rw[HH.a.r]at this;exact this
 obtain⟨u1,-,o4,o5,o1⟩:=hcells W1 (arF X.S++(aI X.R++bi X.P)) (hT1.to ac);have HCE:=qqH hcells;have HT1:=qqH hT1;clear hT1 hcells hob;refine wp_region_still_tail 10 HM.out (by kernel_rfl) ?_;simp only[QE,take_zero,QD,drop_zero];repeat still_step
 refine wpStill_nil ?_;change wpList _ _ _ _ _ W1.drew;have HO:=qqH (HH.d W1.drew HT1.out.drew.sat.left);go_wp2_with fail;refine HO.out.mono ?_;rintro e W3 ⟨ev,n,S',rfl,hev,hph,hG⟩;have hT3:=HT1.out.drew.step (Perm.refl _) hG;obtain⟨-,u2,o4',o5',o1'⟩:=HCE.out W3 (arF S'++(aI X.R++bi X.P)) (hT3.to ac);have HT3:=Hq3 hT3 hev hph;clear hG hT3 hev hph u1 o4 o5 o1;go_upto_region 29 with(fail);refine wp_region_still_tail 10 HM.out (by kernel_rfl) ?_;simp only[QE,take_zero,QD,drop_zero];repeat still_step
 refine wpStill_nil ?_;change wpList _ _ _ _ _ W3.drew;have hT3:=(HT3.a.drew).to (H:=(aI X.R++bi X.P)++(arF S'++((ob,Is (oO ⟨11,oa,ob_,oc,os,ot,odv,od⟩))::(X.U.blk,Is (az X.U))::(cN X.U.most X.M++(aA X.U.out X.O++X.J))))) ac;have HR:=qqH (HH.w n S' W3.drew HT3.y (HH.a.refAt' HH.b (by unfold aV;exact hT3.sat.sub bB)) hT3.sat.left);have HT4:=qqH hT3;clear hT3 u2 o4' o5' o1';go_wp2_with fail;refine HR.out.mono ?_;rintro e W4 ⟨R',rfl,hpsi,hG⟩;have hT5:=HT4.out.step (Perm.refl _) hG;have hE5:aW W4:=HH.c.keep hT5.mods (fun h=>by simp at h);have HTe:=qqH (cz ev n W4 hE5 (HT3.b.is W4));have HT5:=Hq2 hT5 hpsi;clear hG hT5 hE5 hpsi;go_wp2_with fail;refine HTe.out.mono ?_;rintro e W5 ⟨rfl,hs5⟩;have HT6:=qqH (HT5.a.Q9 hs5);clear hs5;go_wp2_with (go_at_call 18;refine(fK _ _).mono ?_;rintro e w' ⟨rfl,rfl⟩);go_ret;refine ⟨S',R',by simp,HT5.z,?_⟩;exact HT6.out.drop (fun x=>by unfold wsF aV;simp only[ao,ai]<;>omega)
theorem uX(w0 W:World)(X:WS)(o:OpL)(h:WsOk w0 W X)(hl:X.R.vs.length<=100000)(hE:aW w0)(hk:o.kind=12)(Φ:Int->AS->Prop)(Ψ:AS->RefL->Prop)(hours:∀W',Sat W' (arF X.S)->Calls Tryz.prog 25 #[.pointer (some ⟨X.S.a,0,none⟩),str o.t] W' (fun e w'=>∃ev n S',e=.returned (ev)/\xT ev n/\Φ n S'/\Turns (arF X.S) (arF S') W' w'))(href:∀n S' W',Φ n S'->RefAt X.R X.P W'->Sat W' (aI X.R++bi X.P)->Calls Tryz.prog 26 #[.pointer (some ⟨X.R.blk,0,none⟩),str o.t] W' (fun e w'=>∃R',e=.returned (.int .i64 n)/\Ψ S' R'/\Turns (aI X.R++bi X.P) (aI R'++bi X.P) W' w')):
  Calls Tryz.prog 7 #[.pointer (some ⟨X.U.blk,0,none⟩),opA o] W (nG w0 X Ψ):=by
 obtain⟨ok,oa,ob_,oc,os,ot,odv,od⟩:=o;simp only at hk hours href;subst hk;have HH:=Hq5 h hl hE hours href;clear h hl hE hours href;unfold opA opV;go_enter Tryz.func7,Tryz.ntmps7;go_upto_region 33 with(fail);obtain⟨ob,hob⟩:∃ob,ob=W.heap.size:=⟨_,rfl⟩
 have hT1:Turns [] (arF X.S++((aI X.R++bi X.P)++((ob,Is (oO ⟨12,oa,ob_,oc,os,ot,odv,od⟩))::(X.U.blk,Is (az X.U))::(cN X.U.most X.M++(aA X.U.out X.O++X.J))))) w0 (W.alloc (.cells #[.int .i64 12,.int .i64 oa,.int .i64 ob_,.int .i64 oc,str os,str ot,odv] 41)):=by
  rw[hob];have:=HH.a.turns.Q8 (.cells #[.int .i64 12,.int .i64 oa,.int .i64 ob_,.int .i64 oc,str os,str ot,odv] 41);unfold wsF aV at this;exact this.to (H:=arF X.S++((aI X.R++bi X.P)++((W.heap.size,Is (.cells #[.int .i64 12,.int .i64 oa,.int .i64 ob_,.int .i64 oc,str os,str ot,odv] 41))::(X.U.blk,Is (az X.U))::(cN X.U.most X.M++(aA X.U.out X.O++X.J))))) ac
 rw[<- hob];generalize W.alloc (.cells #[.int .i64 12,.int .i64 oa,.int .i64 ob_,.int .i64 oc,str os,str ot,odv] 41)=W1 at hT1 ⊢
 have hcells:∀(W:World) (G:HF),Turns [] (G++((ob,Is (oO ⟨12,oa,ob_,oc,os,ot,odv,od⟩))::(X.U.blk,Is (az X.U))::(cN X.U.most X.M++(aA X.U.out X.O++X.J)))) w0 W ->
   W.cell? ⟨X.U.blk,1,none⟩=some (.pointer (some ⟨X.S.a,0,none⟩))/\W.cell? ⟨X.U.blk,2,none⟩=some (.pointer (some ⟨X.R.blk,0,none⟩))/\W.cell? ⟨ob,4,none⟩=some (str os)/\W.cell? ⟨ob,5,none⟩=some (str ot)/\W.cell? ⟨ob,1,none⟩=some (.int .i64 oa):=by
  intro W G hT;have hu:W.heap[X.U.blk]?=some (az X.U):=hT.sat.Q7 (by simp);have ho:W.heap[ob]?=some (oO ⟨12,oa,ob_,oc,os,ot,odv,od⟩):=hT.sat.Q7 (by simp);refine⟨?_,?_,aa ho 4 rfl,aa ho 5 rfl,aa ho 1 rfl⟩
  ·have:=aa hu 1 (v:=l7 X.U.a) rfl;rw[HH.a.a]at this;exact this
  ·have:=aa hu 2 (v:=.pointer (some ⟨X.U.r,0,none⟩)) rfl;rw[HH.a.r]at this;exact this
 obtain⟨u1,-,o4,o5,o1⟩:=hcells W1 (arF X.S++(aI X.R++bi X.P)) (hT1.to ac);have HCE:=qqH hcells;have HT1:=qqH hT1;clear hT1 hcells hob;refine wp_region_still_tail 6 HM.out (by kernel_rfl) ?_;simp only[QE,take_zero,QD,drop_zero];repeat still_step
 refine wpStill_nil ?_;change wpList _ _ _ _ _ W1.drew;have HO:=qqH (HH.d W1.drew HT1.out.drew.sat.left);go_wp2_with fail;refine HO.out.mono ?_;rintro e W3 ⟨ev,n,S',rfl,hev,hph,hG⟩;have hT3:=HT1.out.drew.step (Perm.refl _) hG;obtain⟨-,u2,o4',o5',o1'⟩:=HCE.out W3 (arF S'++(aI X.R++bi X.P)) (hT3.to ac);have HT3:=Hq3 hT3 hev hph;clear hG hT3 hev hph u1 o4 o5 o1;go_upto_region 34 with(fail);refine wp_region_still_tail 6 HM.out (by kernel_rfl) ?_;simp only[QE,take_zero,QD,drop_zero];repeat still_step
 refine wpStill_nil ?_;change wpList _ _ _ _ _ W3.drew;have hT3:=(HT3.a.drew).to (H:=(aI X.R++bi X.P)++(arF S'++((ob,Is (oO ⟨12,oa,ob_,oc,os,ot,odv,od⟩))::(X.U.blk,Is (az X.U))::(cN X.U.most X.M++(aA X.U.out X.O++X.J))))) ac;have HR:=qqH (HH.w n S' W3.drew HT3.y (HH.a.refAt' HH.b (by unfold aV;exact hT3.sat.sub bB)) hT3.sat.left);have HT4:=qqH hT3;clear hT3 u2 o4' o5' o1';go_wp2_with fail;refine HR.out.mono ?_;rintro e W4 ⟨R',rfl,hpsi,hG⟩;have hT5:=HT4.out.step (Perm.refl _) hG;have hE5:aW W4:=HH.c.keep hT5.mods (fun h=>by simp at h);have HTe:=qqH (cz ev n W4 hE5 (HT3.b.is W4));have HT5:=Hq2 hT5 hpsi;clear hG hT5 hE5 hpsi;go_wp2_with fail;refine HTe.out.mono ?_;rintro e W5 ⟨rfl,hs5⟩;have HT6:=qqH (HT5.a.Q9 hs5);clear hs5;go_wp2_with (go_at_call 18;refine(fK _ _).mono ?_;rintro e w' ⟨rfl,rfl⟩);go_ret;refine ⟨S',R',by simp,HT5.z,?_⟩;exact HT6.out.drop (fun x=>by unfold wsF aV;simp only[ao,ai]<;>omega)
theorem uV(w0 W:World)(X:WS)(o:OpL)(h:WsOk w0 W X)(hl:X.R.vs.length<=100000)(hE:aW w0)(hk:o.kind=10)(Φ:Int->Int->AS->Prop)(Ψ:AS->RefL->Prop)(hours:∀W',Sat W' (arF X.S)->Calls Tryz.prog 21 #[.pointer (some ⟨X.S.a,0,none⟩),str o.s,.int .i64 o.a] W' (fun e w'=>∃c ev n S',e=.returned (.tuple #[.int .i64 c,ev])/\xT ev n/\Φ c n S'/\Turns (arF X.S) (arF S') W' w'))(href:∀c n S' W',Φ c n S'->RefAt X.R X.P W'->Sat W' (aI X.R++bi X.P)->Calls Tryz.prog 22 #[.pointer (some ⟨X.R.blk,0,none⟩),str o.s,.int .i64 o.a] W' (fun e w'=>∃R',e=.returned (.tuple #[.int .i64 c,.int .i64 n])/\Ψ S' R'/\Turns (aI X.R++bi X.P) (aI R'++bi X.P) W' w')):
  Calls Tryz.prog 7 #[.pointer (some ⟨X.U.blk,0,none⟩),opA o] W (nG w0 X Ψ):=by
 obtain⟨ok,oa,ob_,oc,os,ot,odv,od⟩:=o;simp only at hk hours href;subst hk;have HH:=Hq5 h hl hE hours href;clear h hl hE hours href;unfold opA opV;go_enter Tryz.func7,Tryz.ntmps7;go_upto_region 23 with(fail);obtain⟨ob,hob⟩:∃ob,ob=W.heap.size:=⟨_,rfl⟩
 have hT1:Turns [] (arF X.S++((aI X.R++bi X.P)++((ob,Is (oO ⟨10,oa,ob_,oc,os,ot,odv,od⟩))::(X.U.blk,Is (az X.U))::(cN X.U.most X.M++(aA X.U.out X.O++X.J))))) w0 (W.alloc (.cells #[.int .i64 10,.int .i64 oa,.int .i64 ob_,.int .i64 oc,str os,str ot,odv] 41)):=by
  rw[hob];have:=HH.a.turns.Q8 (.cells #[.int .i64 10,.int .i64 oa,.int .i64 ob_,.int .i64 oc,str os,str ot,odv] 41);unfold wsF aV at this;exact this.to (H:=arF X.S++((aI X.R++bi X.P)++((W.heap.size,Is (.cells #[.int .i64 10,.int .i64 oa,.int .i64 ob_,.int .i64 oc,str os,str ot,odv] 41))::(X.U.blk,Is (az X.U))::(cN X.U.most X.M++(aA X.U.out X.O++X.J))))) ac
 rw[<- hob];generalize W.alloc (.cells #[.int .i64 10,.int .i64 oa,.int .i64 ob_,.int .i64 oc,str os,str ot,odv] 41)=W1 at hT1 ⊢
 have hcells:∀(W:World) (G:HF),Turns [] (G++((ob,Is (oO ⟨10,oa,ob_,oc,os,ot,odv,od⟩))::(X.U.blk,Is (az X.U))::(cN X.U.most X.M++(aA X.U.out X.O++X.J)))) w0 W ->
   W.cell? ⟨X.U.blk,1,none⟩=some (.pointer (some ⟨X.S.a,0,none⟩))/\W.cell? ⟨X.U.blk,2,none⟩=some (.pointer (some ⟨X.R.blk,0,none⟩))/\W.cell? ⟨ob,4,none⟩=some (str os)/\W.cell? ⟨ob,5,none⟩=some (str ot)/\W.cell? ⟨ob,1,none⟩=some (.int .i64 oa):=by
  intro W G hT;have hu:W.heap[X.U.blk]?=some (az X.U):=hT.sat.Q7 (by simp);have ho:W.heap[ob]?=some (oO ⟨10,oa,ob_,oc,os,ot,odv,od⟩):=hT.sat.Q7 (by simp);refine⟨?_,?_,aa ho 4 rfl,aa ho 5 rfl,aa ho 1 rfl⟩
  ·have:=aa hu 1 (v:=l7 X.U.a) rfl;rw[HH.a.a]at this;exact this
  ·have:=aa hu 2 (v:=.pointer (some ⟨X.U.r,0,none⟩)) rfl;rw[HH.a.r]at this;exact this
 obtain⟨u1,-,o4,o5,o1⟩:=hcells W1 (arF X.S++(aI X.R++bi X.P)) (hT1.to ac);have HCE:=qqH hcells;have HT1:=qqH hT1;clear hT1 hcells hob;refine bh 8 HM.out (by kernel_rfl) rfl ?_;simp only[QE,take_zero];repeat still_step
 refine wpStill_nil ?_;have HO:=qqH (HH.d W1.drew HT1.out.drew.sat.left);refine aU (by kernel_rfl) HO.out ?_;rintro e W3 ⟨c,ev,n,S',rfl,hev,hph,hG⟩;refine⟨_,rfl,?_⟩;simp only[Act.put,QA,QB,QC,QD,drop_zero];repeat still_step
 refine wpStill_nil ?_;have hT3:=HT1.out.drew.step (Perm.refl _) hG;obtain⟨-,u2,o4',o5',o1'⟩:=HCE.out W3 (arF S'++(aI X.R++bi X.P)) (hT3.to ac);have HT3:=Hq3 hT3 hev hph;clear hG hT3 hev hph u1 o4 o5 o1;go_upto_region 24 with(fail);refine bh 8 HM.out (by kernel_rfl) rfl ?_;simp only[QE,take_zero];repeat still_step
 refine wpStill_nil ?_;have hT3:=(HT3.a.drew).to (H:=(aI X.R++bi X.P)++(arF S'++((ob,Is (oO ⟨10,oa,ob_,oc,os,ot,odv,od⟩))::(X.U.blk,Is (az X.U))::(cN X.U.most X.M++(aA X.U.out X.O++X.J))))) ac;have HR:=qqH (HH.w c n S' W3.drew HT3.y (HH.a.refAt' HH.b (by unfold aV;exact hT3.sat.sub bB)) hT3.sat.left);have HT4:=qqH hT3;clear hT3 u2 o4' o5' o1';refine aU (by kernel_rfl) HR.out ?_;rintro e W4 ⟨R',rfl,hpsi,hG⟩;refine⟨_,rfl,?_⟩;simp only[Act.put,QA,QB,QC,QD,drop_zero];repeat still_step
 refine wpStill_nil ?_;have hT5:=HT4.out.step (Perm.refl _) hG;have hE5:aW W4:=HH.c.keep hT5.mods (fun h=>by simp at h);have HTe:=qqH (cz ev n W4 hE5 (HT3.b.is W4));have HT5:=Hq2 hT5 hpsi;clear hG hT5 hE5 hpsi;go_wp2_with fail;refine HTe.out.mono ?_;rintro e W5 ⟨rfl,hs5⟩;have HT6:=qqH (HT5.a.Q9 hs5);clear hs5;go_wp2_with (go_at_call 18;refine(fK _ _).mono ?_;rintro e w' ⟨rfl,rfl⟩);go_ret;refine ⟨S',R',by simp,HT5.z,?_⟩;exact HT6.out.drop (fun x=>by unfold wsF aV;simp only[ao,ai]<;>omega)
theorem uz(w0 W:World)(X:WS)(o:OpL)(b:Nat)(h:WsOk w0 W X)(hB:ArB X.S b)(hb:b<=90000)(htl:X.R.ts.length<=100000)(hE:aW w0)(hk:o.kind=13):
  Calls Tryz.prog 11 #[.pointer (some ⟨X.U.blk,0,none⟩),opA o] W (jY w0 X):=by
 obtain⟨ok,oa,ob_,oc,os,ot,odv,od⟩:=o;simp only at hk;subst hk;have HH:=Hq5 h hB hb hE htl;clear h hB hb hE;unfold opA opV;go_enter Tryz.func11,Tryz.ntmps11;go_upto_region 37 with(fail);have hT1:=HH.a.turns.alloc (.cells #[.int .i64 13,.int .i64 oa,.int .i64 ob_,.int .i64 oc,str os,str ot,odv] 41);generalize W.alloc (.cells #[.int .i64 13,.int .i64 oa,.int .i64 ob_,.int .i64 oc,str os,str ot,odv] 41)=W1 at hT1 ⊢
 have hcells:∀(W:World) (G:HF),Turns [] (G++((X.U.blk,Is (az X.U))::(aI X.R++aV X))) w0 W ->
   W.cell? ⟨X.U.blk,1,none⟩=some (.pointer (some ⟨X.S.a,0,none⟩))/\W.cell? ⟨X.U.blk,2,none⟩=some (.pointer (some ⟨X.R.blk,0,none⟩))/\W.cell? ⟨X.R.blk,3,none⟩=some (.bool X.R.closed)/\W.cell? ⟨X.R.blk,1,none⟩=some X.R.tv:=by
  intro W G hT;have hu:W.heap[X.U.blk]?=some (az X.U):=hT.sat.Q7 (by simp);have hr:W.heap[X.R.blk]?=some (fQ X.R):=hT.sat.Q7 (by unfold aI;simp);refine⟨?_,?_,aa hr 3 rfl,aa hr 1 rfl⟩
  ·have:=aa hu 1 (v:=l7 X.U.a) rfl;rw[HH.a.a]at this;exact this
  ·have:=aa hu 2 (v:=.pointer (some ⟨X.U.r,0,none⟩)) rfl;rw[HH.a.r]at this;exact this
 have hT2:Turns [] (arF X.S++((X.U.blk,Is (az X.U))::(aI X.R++aV X))) w0 W1:=by
  unfold wsF at hT1;exact hT1.to ac
 have HCE:=qqH hcells;obtain⟨u1,-,-,-⟩:=hcells W1 _ hT2;have HT2:=qqH hT2;clear hT1 hcells hT2;go_wp2_with fail;refine(CA X.S b W1 HT2.out.sat.left HH.a.ar HH.b HH.c).mono ?_;intro e W3 hp;rcases hp with⟨hcl,rfl,hG⟩|⟨hcl,v,rfl,hpo,hG⟩
 ·have hT3:=HT2.out.step (Perm.refl _) hG;have hE3:aW W3:=HH.d.keep hT3.mods (fun h=>by simp at h);have HT3:=Hq3 hT3 hE3 hcl;clear hG hT3 hE3 hcl u1;unfold ck;go_wp2_with fail;refine(cz (ck 9) 9 W3 HT3.b (.inr (.inl rfl))).mono ?_;rintro e W5 ⟨rfl,hs5⟩;have hT5:=HT3.a.Q9 hs5;obtain⟨-,u2,r3,-⟩:=HCE.out W5 _ hT5;rw[HH.a.link.closed,HT3.y]at r3;have HT5:=qqH hT5;clear hT5 hs5;have heq:∀W,(binOp .eql 109 (.slice none 0 0) (.slice none 0 0)).run Tryz.prog W=.ok (.bool true) W:=fun W=>by kernel_rfl
  go_wp2_with fail;go_ret;refine ⟨X.S.A.spare,X.U.out,X.U.want,X.O,rfl,(HH.a.back ?_:WsOk w0 _ X)⟩;exact HT5.out.drop (fun x=>by unfold wsF;simp only[ao,ai]<;>omega)
 ·have hT3:Turns [] ((q8 v (ec X.S.ts (gC X.S.ts))++arF X.S)++((X.U.blk,Is (az X.U))::(aI X.R++aV X))) w0 W3:=HT2.out.step (Perm.refl _) hG;rw[HH.a.link.pins HH.a.ar]at hT3 hpo;obtain⟨ns,hns⟩:∃ns,ns=X.R.ts.map tagT:=⟨_,rfl⟩;rw[<- hns]at hT3 hpo;have hnl:ns.length=X.R.ts.length:=by rw[hns,length_map]
  have hE3:aW W3:=HH.d.keep hT3.mods (fun h=>by simp at h);have HT3:=Hq6 hT3 hE3 hcl hpo hns hnl;clear hG hT3 hE3 hcl u1 hpo hns hnl;go_wp2_with fail;refine(cz .nilIface 0 W3 HT3.b (.inl ⟨rfl,rfl⟩)).mono ?_;rintro e W5 ⟨rfl,hs5⟩;have hT5:=HT3.a.Q9 hs5;obtain⟨-,u2,r3,r1⟩:=HCE.out W5 _ hT5;rw[HH.a.link.closed,HT3.c]at r3;obtain⟨ca,cc,hcv,-,-,hcc,-⟩:=bv (hT5.sat.right.tail.left.tail.right) HH.a.ref.ts (by decide);obtain⟨la,lc,hlv,-,-,hlc,-⟩:=bv (hT5.sat.left.left) HT3.d (by decide);rw[hcv]at r1;rw[BI,<- HT3.e]at hcc;have hsc:=uL ns ns la ca lc cc W5 hlc hcc (by rw[HT3.v];have:=HH.w;omega) (by rw[HT3.v];have:=HH.w;omega);rw[HT3.v]at hsc;rw[HT3.v]at hlv;have HSC:=qqH hsc;have HT5:=qqH hT5;subst hlv;clear hs5 hT5 hcv hcc hlc hsc;go_wp2_with fail;refine HSC.out.mono ?_;rintro e W6 ⟨b6,rfl,hb6,hs6⟩;obtain rfl:=hb6 rfl;have HT6:=qqH (HT5.out.Q9 hs6);clear hs6 hb6;go_wp2_with fail;go_ret;refine ⟨X.S.A.spare,X.U.out,X.U.want,X.O,rfl,(HH.a.back ?_:WsOk w0 _ X)⟩;exact HT6.out.drop (fun x=>by unfold wsF;simp only[ao,ai]<;>omega)
structure MRel (kd:Int) (X X':WS):Prop where
 same:kd≠1/\kd≠14->X'.M=X.M
 put:kd=1->∃l,X'.M.map (·.bs)=X.M.map (·.bs)++l
 col:kd=14->X'.R.closed=false->X'.M.map (·.bs)=cB X'.R.vs
 shut:kd≠8->X'.R.closed=false->X.R.closed=false
 J:X'.J=X.J
theorem MRel.of{kd:Int}{X X':WS}(h:kd≠1/\kd≠14)(e:X'.M=X.M)(hs:kd≠8->X'.R.closed=false->X.R.closed=false)(hJ:X'.J=X.J):MRel kd X X':=⟨fun _=>e,fun h1=>absurd h1 h.1,fun h1=>absurd h1 h.2,hs,hJ⟩
def ij(w0:World)(X:WS)(kd:Int)(k m:Nat)(e:Ending)(W':World):Prop:=∃X',e=.returned (.bool true)/\WsOk w0 W' X'/\PB X' k m/\X'.U.blk=X.U.blk/\MRel kd X X'
theorem BS(w0 W:World)(X:WS)(o:OpL)(k m:Nat)(h:WsOk w0 W X)(hp:PB X k m)(hE:aW w0)(ho:OpOk w0 o)(hk:1<=o.kind/\o.kind<=8)(hk4:k+1<=400)(hm:m+o.d.length<=60000):
  Calls Tryz.prog 7 #[.pointer (some ⟨X.U.blk,0,none⟩),opA o] W (ij w0 X o.kind (k+1) (m+o.d.length)):=by
 have hb:m+2*k<=90000:=by omega
 have hl:X.R.vs.length<=100000:=by have:=hp.vs;omega
 have hpm:=hp.mono (k':=k+1) (m':=m+o.d.length) (by omega) (by omega)
 have hrd:∀{e W'},o.kind≠1/\o.kind≠14->jY w0 X e W'->ij w0 X o.kind (k+1) (m+o.d.length) e W':=by
  rintro e W' hkd ⟨sp,ov,wv,D,rfl,hw⟩;exact⟨_,rfl,hw,hpm.out sp ov wv D,rfl,.of hkd rfl (fun _ h=>h) rfl⟩
 have hcase:o.kind=1\/o.kind=2\/o.kind=3\/o.kind=4\/o.kind=5\/o.kind=6\/o.kind=7\/o.kind=8:=by omega
 rcases hcase with h1|h1|h1|h1|h1|h1|h1|h1
 ·refine(vX w0 W X o (m+2*k) h hp.b hb hl hE ho h1 (by omega) (by have:=hp.ml;omega) ?_ (by have:=hp.q;omega)).mono ?_
  ·have h2:=h.ar.count;have h3:=hp.data;rw[h2,hp.n];unfold ay;omega
  ·rintro e W' ⟨rfl,hw|⟨S',V,vv,cv,mv,M',hcl,hps,hpb,hD,hM,hw⟩⟩
   ·exact⟨X,rfl,hw,hpm,rfl,fun h2=>absurd h1 h2.1,fun _=>⟨[],by rw[append_nil]⟩,fun h2=>by omega,fun _ h=>h,rfl⟩
   ·have hl:aq o.s=true:=by
     have hm2:=(hw.link.each ⟨o.s,i5 X.R.vs o.s X.R.vs.length,o.d,cv,0⟩ (nQ.2 (.inr rfl))).2.1;exact hm2
    exact⟨_,rfl,hw,hp.put h hps hpb hD hl hM hw (by omega) (by omega),rfl,fun h2=>absurd h1 h2.1,fun _=>⟨_,hM.trans (by have:=kz (X.M.map (·.bs)) (au o.d) [];rwa [append_nil]at this)⟩,fun h2=>by omega,fun _ h=>h,rfl⟩
 ·exact(gl w0 W X o h (.inl h1) (fun W' hw=>vM w0 W' X o (m+2*k) hw hp.b hb hl hE ho h1)).mono (fun e W'=>hrd (by omega))
 ·exact(gl w0 W X o h (.inr (.inl h1)) (fun W' hw=>yR w0 W' X o (m+2*k) hw hp.b hb hl hE ho h1)).mono (fun e W'=>hrd (by omega))
 ·exact(gl w0 W X o h (.inr (.inr (.inl h1))) (fun W' hw=>vO w0 W' X o (m+2*k) hw hp.b hb hl hE h1)).mono (fun e W'=>hrd (by omega))
 ·exact(gl w0 W X o h (.inr (.inr (.inr (.inl h1)))) (fun W' hw=>ux w0 W' X o (m+2*k) hw hp.b hb hl hE h1)).mono (fun e W'=>hrd (by omega))
 ·refine(uW w0 W X o (m+2*k) h hp.b hb hE h1).mono ?_;rintro e W' ⟨rfl,hw|⟨L',hf,hw⟩⟩
  ·exact⟨X,rfl,hw,hpm,rfl,.of (by omega) rfl (fun _ h=>h) rfl⟩
  ·exact⟨_,rfl,hw,hpm.flush hf,rfl,.of (by omega) rfl (fun _ h=>h) rfl⟩
 ·refine(sv w0 W X o (m+2*k) h hp.b hb hE h1).mono ?_;rintro e W' ⟨rfl,S1,hc,hw⟩;exact⟨_,rfl,hw,hpm.close hc,rfl,.of (by omega) rfl (fun _ h=>by cases h) rfl⟩
 ·obtain⟨rs,H,ht⟩:=hp.told;have hdt:=hp.data
  refine(uU (fun d' L' S'=>OpenIs d' L' o.a X.S.X.ep (aC L'.now (2+X.S.X.ep%2*ay L'.n) (ay L'.n)) S') w0 W X o (m+2*k) h hp.b hb ⟨hl,by have:=hp.ts;omega⟩ hE h1
   (fun d' L' W' hc hs=>ht.opens h.ar hp.n (by omega) d' L' o.a W' hc hs) (fun d' L' S' b' vv' tv' hc hi=>?_)).mono ?_
  ·obtain⟨hok',hv,hu,hdat,ht',-,-,-⟩:=ht.Ql h.ar hc hi;obtain⟨e1,e2,e3,e4,e5⟩:=hi.eX;refine⟨hok',e1,BE h.link hv hu rfl rfl ?_ ?_⟩
   ·show cW o.a=_;rw[e3]
   ·show false=_;rw[e4]
  ·rintro e W' ⟨rfl,d',L',S',b',vv',tv',hc,hi,hw⟩;exact⟨_,rfl,hw,hpm.opened h.ar ho.a.2 hc hi,rfl,.of (by omega) rfl (fun h2=>absurd h1 h2) rfl⟩
theorem AA{S:AS}{p:Bs}{n:Int}{V:VerL}(h:iP S p n V):af S.ps p≠[]:=fun e=>by
 have:=h.2.2;rw[e]at this;cases this
def xW(X:WS)(S':AS)(R':RefL):Prop:=(S'=X.S/\R'=X.R)\/∃p ns v' L' vv,GoneStep X.S X.R p ns v' L' vv/\S'=iu X.S p ns v' L'/\R'={ X.R with vv:=vv,vs:=fx X.R.vs p ns }
theorem wV{w0 W:World}{X:WS}{kd:Int}{k m m':Nat}(hkd:kd≠1/\kd≠14)(h:WsOk w0 W X)(hp:PB X k m)(hk4:k+1<=400)(hm:m<=m'){e:Ending}{W':World}(hc:nG w0 X (xW X) e W'):ij w0 X kd (k+1) m' e W':=by
 obtain⟨S',R',rfl,⟨rfl,rfl⟩|⟨p,ns,v',L',vv,hg,rfl,rfl⟩,hT⟩:=hc
 ·exact⟨X,rfl,h.back hT,hp.mono (Nat.le_succ k) hm,rfl,.of hkd rfl (fun _ h=>h) rfl⟩
 ·exact⟨Ez X p ns v' L' vv,rfl,hg.ws h hT,(hp.gone h hg hk4).mono (Nat.le_refl _) hm,rfl,.of hkd rfl (fun _ h=>h) rfl⟩
def Lc(X:WS)(p:Bs)(a n:Int)(S':AS):Prop :=
 (S'=X.S/\(jb X.S p a n\/(n=5/\∃V,iP X.S p a V/\0<V.held))) \/
 (n=0/\∃V v' L',iP X.S p a V/\V.held<=0/\RecIs X.S L' (frame 3 (dA p [(V.num:Int)]))/\eT v' (dC [(V.num:Int)] (af X.S.ps p))/\S'=iu X.S p [(V.num:Int)] v' L')
theorem PB.room{X:WS}{k m:Nat}(hp:PB X k m)(hok:ArOk X.S)(hk4:k+1<=400)(hm:m<=60000){r:Bs}(hr:r.length<=70000):¬128*X.S.A.count<X.S.data.length+r.length:=by
 have h2:=hok.count;have h3:=hp.data;rw[h2,hp.n];unfold ay;omega
theorem AH{p:Bs}(hp:p.length<=20)(ns:List Int)(hn:ns.length<=10000):(frame 3 (dA p ns)).length<=70000:=by
 rw[aX];unfold dA;rw[length_append,bw,cr];omega
theorem rn(w0 W:World)(X:WS)(o:OpL)(k m:Nat)(h:WsOk w0 W X)(hp:PB X k m)(hE:aW w0)(hk:o.kind=9)(hk4:k+1<=400)(hm:m+o.d.length<=60000):
  Calls Tryz.prog 7 #[.pointer (some ⟨X.U.blk,0,none⟩),opA o] W (ij w0 X o.kind (k+1) (m+o.d.length)):=by
 have hb:m+2*k<=90000:=by omega
 have hl:X.R.vs.length<=100000:=by have:=hp.vs;omega
 refine(sw w0 W X o h hl hE hk (Lc X o.s o.a) (xW X) (fun W' hs=>?_) (fun n S' W' hph hr hs=>?_)).mono (fun e W' hc=>wV (by omega) h hp hk4 (Nat.le_add_right _ _) hc)
 ·refine(xR X.S o.s o.a (m+2*k) W' hs h.ar hp.b hb).mono ?_;rintro e w' (⟨n,hf,rfl,hT⟩|⟨V,hf,⟨hh,rfl,hT⟩|⟨hh,hrem⟩⟩)
  ·exact⟨_,n,X.S,rfl,.inr rfl,.inl ⟨rfl,.inl hf⟩,hT⟩
  ·exact⟨_,5,X.S,rfl,.inr rfl,.inl ⟨rfl,.inr ⟨rfl,V,hf,hh⟩⟩,hT⟩
  ·unfold j5 at hrem;simp only[append_nil]at hrem;rcases hrem with⟨hful,-,-⟩|⟨-,rfl,v',L',hr,hv,hT⟩
   ·exact absurd hful (hp.room h.ar hk4 (by omega) (AH (bA hf.2.1) _ (by simp)))
   ·exact⟨_,0,_,rfl,.inl ⟨rfl,rfl⟩,.inr ⟨rfl,V,v',L',hf,hh,hr,hv,rfl⟩,hT⟩
 ·refine(oD X.R X.P o.s o.a W' hr).mono ?_;intro e w' hd;rcases hph with⟨rfl,hf|⟨rfl,V,hf,hh⟩⟩|⟨rfl,V,v',L',hf,hh,hrc,hv,rfl⟩
  ·have hg:=h.link.err hf;rcases hd with⟨n',h1,rfl,hT⟩|⟨v,h1,-⟩|⟨i,vv,hi,h1,-⟩
   ·rw[hg]at h1;obtain rfl:=Except.error.inj h1;exact⟨X.R,rfl,.inl ⟨rfl,rfl⟩,hT.frame hs⟩
   ·rw[hg]at h1;cases h1
   ·rw[hg]at h1;cases h1
  ·obtain⟨v,hg,htr,-,-⟩:=h.link.found hf;have hvh:v.held=V.held:=congrArg (·.2.2) htr;rcases hd with⟨n',h1,-⟩|⟨u,h1,-,rfl,hT⟩|⟨i,vv,hi,h1,-,h3,-⟩
   ·rw[hg]at h1;cases h1
   ·exact⟨X.R,rfl,.inl ⟨rfl,rfl⟩,hT.frame hs⟩
   ·rw[hg]at h1;obtain rfl:=Except.ok.inj h1;omega
  ·obtain⟨v,hg,htr,-,-⟩:=h.link.found hf;have hvh:v.held=V.held:=congrArg (·.2.2) htr;rcases hd with⟨n',h1,-⟩|⟨u,h1,h3,-⟩|⟨i,vv,hi,h1,-,h3,rfl,hrv,hT⟩
   ·rw[hg]at h1;cases h1
   ·rw[hg]at h1;obtain rfl:=Except.ok.inj h1;omega
   ·obtain⟨hcut,-⟩:=h.link.delete h.ar hf hh hi h1 (v':=v') (vv:=vv) (L':=L');obtain⟨e1,e2,e3⟩:=h.link.at hf hi h1;have hT2:=hT.frame (R:=bi X.P) hs;unfold Gp at hT2;rw[hcut]at hrv hT2;refine⟨_,rfl,.inr ⟨o.s,[(V.num:Int)],v',L',vv,⟨hf.2.1,hrc,hv,AA hf,fun n hn=>?_,by simp,fun u hu hup hun=>?_,hrv⟩,rfl,rfl⟩,hT2⟩
    ·rw[mem_singleton]at hn;exact⟨X.R.vs[i],getElem_mem hi,e1,by rw[e2,hn]⟩
    ·rw[mem_singleton]at hun;obtain⟨j,hj,rfl⟩:=getElem_of_mem hu;obtain rfl:=h.link.uniq.one hj hi (by rw[hup,e1]) (by rw[hun,e2]);rw[e3];exact hh
def Lf(X:WS)(p:Bs)(a c n:Int)(S':AS):Prop :=
 (S'=X.S/\c=0/\jb X.S p 0 n) \/
 (n=0/\∃V v' L',iP X.S p 0 V/\c=(cS (af X.S.ps p) a).length/\RecIs X.S L' (frame 3 (dA p (cS (af X.S.ps p) a)))/\eT v' (dC (cS (af X.S.ps p) a) (af X.S.ps p))/\S'=iu X.S p (cS (af X.S.ps p) a) v' L')
theorem I5{S:AS}{R:RefL}(L:Link S R)(p:Bs)(a:Int):(cS (af S.ps p) a).Nodup/\(∀n∈cS (af S.ps p) a,∃v∈R.vs,v.path=p/\v.num=n)/\(cS (af S.ps p) a).length<=R.vs.length:=by
 obtain⟨j,hj⟩:∃j,j=(af S.ps p).length-(min (max a 0) ((af S.ps p).length:Int)).toNat:=⟨_,rfl⟩;have hns:cS (af S.ps p) a=(((aH R.vs p).take j).filter mT).map (·.num):=by unfold cS;rw[<- hj];exact L.Qr p j
 have hsub:(((aH R.vs p).take j).filter mT).Sublist (aH R.vs p):=filter_sublist.trans (take_sublist _ _);rw[hns];refine⟨?_,fun n hn=>?_,?_⟩
 ·rw[nodup_iff_pairwise_ne];exact((L.asc p).sublist (hsub.map _)).imp (fun h e=>by omega)
 ·obtain⟨v,hv,rfl⟩:=mem_map.1 hn;have:=mem_filter.1 (hsub.mem hv);exact⟨v,this.1,by simpa using this.2,rfl⟩
 ·rw[length_map];exact Nat.le_trans hsub.length_le (length_filter_le _ _)
theorem sx(w0 W:World)(X:WS)(o:OpL)(k m:Nat)(h:WsOk w0 W X)(hp:PB X k m)(hE:aW w0)(ho:OpOk w0 o)(hk:o.kind=10)(hk4:k+1<=400)(hm:m+o.d.length<=60000):
  Calls Tryz.prog 7 #[.pointer (some ⟨X.U.blk,0,none⟩),opA o] W (ij w0 X o.kind (k+1) (m+o.d.length)):=by
 have hb:m+2*k<=90000:=by omega
 have hvs:=hp.vs;have hl:X.R.vs.length<=100000:=by omega
 have hvl:(af X.S.ps o.s).length<=15000:=by
  have h1:=congrArg length (h.link.vers o.s);rw[length_map,length_map]at h1;have h2:(aH X.R.vs o.s).length<=X.R.vs.length:=length_filter_le _ _;omega
 obtain⟨n1,n2,n3⟩:=I5 h.link o.s o.a;refine(uV w0 W X o h hl hE hk (Lf X o.s o.a) (xW X) (fun W' hs=>?_) (fun c n S' W' hph hr hs=>?_)).mono (fun e W' hc=>wV (by omega) h hp hk4 (Nat.le_add_right _ _) hc)
 ·refine(zz X.S o.s o.a (m+2*k) W' hs h.ar hp.b hb hvl).mono ?_;rintro e w' (⟨n,hf,rfl,hT⟩|⟨V,hf,⟨hful,-⟩|⟨-,rfl,v',L',hr,hv,hT⟩⟩)
  ·exact⟨0,_,n,X.S,rfl,.inr rfl,.inl ⟨rfl,rfl,hf⟩,hT⟩
  ·exact absurd hful (hp.room h.ar hk4 (by omega) (AH (bA hf.2.1) _ (by omega)))
  ·exact⟨_,_,0,_,rfl,.inl ⟨rfl,rfl⟩,.inr ⟨rfl,V,v',L',hf,rfl,hr,hv,rfl⟩,hT⟩
 ·refine(yP X.R X.P o.s o.a W' hr hs (by have:=ho.a;unfold I63 at this;exact this)).mono ?_;intro e w' hd;rcases hph with⟨rfl,rfl,hf⟩|⟨rfl,V,v',L',hf,rfl,hrc,hv,rfl⟩
  ·have hg:=h.link.err hf;rcases hd with⟨n',h1,rfl,hT⟩|⟨v,h1,-⟩
   ·rw[hg]at h1;obtain rfl:=Except.error.inj h1;exact⟨X.R,rfl,.inl ⟨rfl,rfl⟩,hT⟩
   ·rw[hg]at h1;cases h1
  ·obtain⟨v,hg,-,-,-⟩:=h.link.found hf;rcases hd with⟨n',h1,-⟩|⟨u,-,vs',c,vv,hfold,rfl,hrv,hT⟩
   ·rw[hg]at h1;cases h1
   ·obtain⟨rfl,rfl,hheld⟩:=h.link.prune h.ar o.s o.a hfold;exact⟨_,rfl,.inr ⟨o.s,_,v',L',vv,⟨hf.2.1,hrc,hv,AA hf,n2,n1,hheld,hrv⟩,rfl,rfl⟩,hT⟩
theorem t7{S:AS}{R:RefL}(L:Link S R)(ht:R.ts.length<=100000):∀v∈R.vs,v.held.natAbs<=1099511627776:=fun v hv=>by
 rw[L.held v hv];have:=AJ R.ts v.path v.num;omega
def Cz(X:WS)(k m:Nat)(w0:World)(S':AS)(R':RefL):Prop:=(S'=X.S/\R'=X.R)\/(PB (Ae X S' R') (k+1) m/\(∀W W',WsOk w0 W X->Turns [] (wsF (Ae X S' R')) w0 W'->WsOk w0 W' (Ae X S' R'))/\R'.closed=X.R.closed)
theorem B4{w0 W:World}{X:WS}{kd:Int}{k m m':Nat}(hkd:kd≠1/\kd≠14)(h:WsOk w0 W X)(hp:PB X k m)(hm:m<=m'){e:Ending}{W':World}(hc:nG w0 X (Cz X k m w0) e W'):ij w0 X kd (k+1) m' e W':=by
 obtain⟨S',R',rfl,⟨rfl,rfl⟩|⟨h1,h2,h0⟩,hT⟩:=hc
 ·exact⟨X,rfl,h.back hT,hp.mono (Nat.le_succ k) hm,rfl,.of hkd rfl (fun _ h=>h) rfl⟩
 ·exact⟨Ae X S' R',rfl,h2 W W' h hT,h1.mono (Nat.le_refl _) hm,rfl,.of hkd rfl (fun _ h=>h0.symm.trans h) rfl⟩
def zJ(R:RefL)(m p:Bs)(n k:Int):Prop:=(R.closed=true/\k=9)\/(R.closed=false/\aq m=false/\k=1)\/(R.closed=false/\aq m=true/\cL R p n=.error k)\/(R.closed=false/\aq m=true/\(∃v,cL R p n=.ok v)/\(∃t∈R.ts,t.name=m)/\k=6)
theorem zJ.one{R:RefL}{m p:Bs}{n k k':Int}(h:zJ R m p n k)(h':zJ R m p n k'):k=k':=by
 rcases h with⟨a,b⟩|⟨a,b,c⟩|⟨a,b,c⟩|⟨a,b,⟨v,c⟩,d,e⟩<;>rcases h' with⟨a',b'⟩|⟨a',b',c'⟩|⟨a',b',c'⟩|⟨a',b',⟨v',c'⟩,d',e'⟩<;>first|omega|(rw[a]at a';cases a';done)|(rw[b]at b';cases b';done)|(rw[c]at c';first|exact Except.error.inj c'|(cases c';done))
theorem LK{S:AS}{R:RefL}(L:Link S R){m p:Bs}{n k:Int}(h:Ht S m p n k)(hr:∀V:VerL,aq m=true->aq p=true->¬128*S.A.count<S.data.length+(frame 4 (dG p m V.num)).length):zJ R m p n k:=by
 have hc:=L.closed;rcases h with⟨a,rfl⟩|⟨a,b,rfl⟩|⟨a,b,c,d⟩|⟨V,a,b,⟨c,rfl⟩|⟨-,c,-⟩⟩
 ·exact .inl ⟨by rw[hc,a],rfl⟩
 ·cases hm:aq m with
  | false=>exact .inr (.inl ⟨by rw[hc,a],hm,rfl⟩)
  | true =>
   rw[hm,Bool.true_and]at b;refine .inr (.inr (.inl ⟨by rw[hc,a],hm,?_⟩));unfold cL;rw[hc,a,b];rfl
 ·exact .inr (.inr (.inl ⟨by rw[hc,c],a,L.err d⟩))
 ·obtain⟨v,hg,-⟩:=L.found b;exact .inr (.inr (.inr ⟨by rw[hc,b.1],a,⟨v,hg⟩,(L.names m).1 c,rfl⟩))
 ·exact absurd c (hr V a b.2.1)
def Lj(X:WS)(m p:Bs)(a n:Int)(S':AS):Prop :=
 (S'=X.S/\zJ X.R m p a n)\/(n=0/\∃V L',aq m=true/\iP X.S p a V/\gN X.S.ts m=false/\RecIs X.S L' (frame 4 (dG p m V.num))/\S'=zd X.S m p V.num L')
theorem vY(w0 W:World)(X:WS)(o:OpL)(k m:Nat)(h:WsOk w0 W X)(hp:PB X k m)(hE:aW w0)(hk:o.kind=11)(hk4:k+1<=400)(hm:m+o.d.length<=60000):
  Calls Tryz.prog 7 #[.pointer (some ⟨X.U.blk,0,none⟩),opA o] W (ij w0 X o.kind (k+1) (m+o.d.length)):=by
 have hb:m+2*k<=90000:=by omega
 have hl:X.R.vs.length<=100000:=by have:=hp.vs;omega
 have htl:X.R.ts.length<=100000:=by have:=hp.ts;omega
 refine(zc w0 W X o h hl hE hk (Lj X o.t o.s o.a) (Cz X k m w0) (fun W' hs=>?_) (fun n S' W' hph hr hs=>?_)).mono (fun e W' hc=>B4 (by omega) h hp (Nat.le_add_right _ _) hc)
 ·refine(Fm X.S o.t o.s o.a (m+2*k) W' hs h.ar hp.b hb).mono ?_;rintro e w' (⟨n,hf,rfl,hT⟩|⟨V,L',hpm,hf,hno,-,rfl,hrc,hT⟩)
  ·exact⟨_,n,X.S,rfl,.inr rfl,.inl ⟨rfl,LK h.link hf (fun V a b=>hp.room h.ar hk4 (by omega) (Nat.le_trans (sG b a _) (by omega)))⟩,hT⟩
  ·exact⟨_,0,_,rfl,.inl ⟨rfl,rfl⟩,.inr ⟨rfl,V,L',hpm,hf,hno,hrc,rfl⟩,hT⟩
 ·refine(DP X.R X.P o.t o.s o.a W' hr hs htl (t7 h.link htl)).mono ?_;intro e w' hd;rcases hph with⟨rfl,hf⟩|⟨rfl,V,L',hpm,hf,hno,hrc,rfl⟩
  ·rcases hd with⟨n',rfl,hT,hn⟩|⟨h1,h2,h3,i,tv,hi,h4,-⟩
   ·obtain rfl:=hf.one hn;exact⟨X.R,rfl,.inl ⟨rfl,rfl⟩,hT.frame hs⟩
   ·exfalso;rcases hf with⟨a,-⟩|⟨-,a,-⟩|⟨-,-,a⟩|⟨-,-,-,⟨t,ht,a⟩,-⟩
    ·rw[h1]at a;cases a
    ·rw[h2]at a;cases a
    ·rw[h4]at a;cases a
    ·exact h3 t ht a
  ·obtain⟨v,hg,htr,-,-⟩:=h.link.found hf;rcases hd with⟨n',rfl,hT,hn⟩|⟨h1,h2,h3,i,tv,hi,h4,-,rfl,hro,hT⟩
   ·exfalso;rcases hn with⟨a,-⟩|⟨-,a,-⟩|⟨-,-,a⟩|⟨-,-,-,a,-⟩
    ·rw[h.link.closed,hf.1]at a;cases a
    ·rw[hpm]at a;cases a
    ·rw[hg]at a;cases a
    ·have:=(h.link.names o.t).2 a;rw[hno]at this;cases this
   ·obtain⟨e1,hL⟩:=h.link.tag hpm hf hno hi h4 (tv:=tv) (L':=L');have hok':ArOk (zd X.S o.t o.s V.num L'):=KM h.ar hrc (by have:=bA hpm;unfold OkS;omega)
    have hVn:V.num<4294967296:=by
     have:=hp.nums _ (getElem_mem hi);omega
    obtain⟨f1,f2,-⟩:=h.link.at hf hi h4;have hbm:=lT h.link.uniq hi 1;refine⟨_,rfl,.inr ⟨hp.held (p:=X.R.vs[i].path) (n:=X.R.vs[i].num) (d:=1) hrc (sG hf.2.1 hpm _) hok' hL (by rw[f1,f2];rfl) ⟨rfl,rfl,rfl,rfl⟩ hbm ?_ ?_ (fun t ht=>?_) ?_,fun W1 W2 hw1 hT2=>hw1.chg hT2 rfl rfl rfl hok' hro (ry.bump h.inp _ _ _ _) hL,rfl⟩,hT⟩
    ·have:=(xG X.R.ts o.t ⟨o.t,o.s,X.R.vs[i].num⟩).length_eq;show(sA X.R.ts o.t _).length<=_;rw[this];simp
    ·show(eh X.S.ts X.S.tc o.t _ _).length<=_;unfold eh;rw[hno];simp
    ·have ht2:t∈eh X.S.ts X.S.tc o.t (mE o.t (o.s,(V.num:Int))) (o.s,(V.num:Int)):=ht;rcases fA ht2 with⟨g1,_⟩|⟨g1,-,g3⟩
     ·exact hp.b.tags t g1
     ·have q1:=bA hpm;have q2:=bA hf.2.1;rw[g1,g3];refine⟨by omega,by simp only;omega,by simp only;omega⟩
    ·obtain⟨rs,H,ht⟩:=hp.told;exact⟨_,_,ht.tag h.ar hrc (bA hf.2.1) (bA hpm) hVn⟩
def Hy(X:WS)(m:Bs)(n:Int)(S':AS):Prop :=
 (S'=X.S/\((X.R.closed=true/\n=9)\/(X.R.closed=false/\aq m=false/\n=1)\/(X.R.closed=false/\aq m=true/\(∀t∈X.R.ts,t.name≠m)/\n=3))) \/
 (n=0/\∃q∈X.S.ts,∃L',q.key=m/\X.S.X.closed=false/\aq m=true/\RecIs X.S L' (frame 5 (dG q.g.1 m q.g.2))/\S'=nm X.S m q.g.1 q.g.2 L')
theorem Link.tagged{S:AS}{R:RefL}(L:Link S R){q:fO}(hq:q∈S.ts):aq q.key=true/\∃v∈R.vs,v.path=q.g.1/\v.num=q.g.2:=by
 have:jL q∈R.ts.map rt:=L.tags.mem_iff.1 (mem_map.2 ⟨q,hq,rfl⟩);obtain⟨t,ht,e⟩:=mem_map.1 this;obtain⟨h1,v,hv,h2,h3⟩:=L.teach t ht;have e1:t.name=q.key:=congrArg (·.1) e;have e2:t.path=q.g.1:=congrArg (·.2.1) e;have e3:t.num=q.g.2:=congrArg (·.2.2) e;exact⟨by rw[<- e1];exact h1,v,hv,by rw[h2,e2],by rw[h3,e3]⟩
theorem sy(w0 W:World)(X:WS)(o:OpL)(k m:Nat)(h:WsOk w0 W X)(hp:PB X k m)(hE:aW w0)(hk:o.kind=12)(hk4:k+1<=400)(hm:m+o.d.length<=60000):
  Calls Tryz.prog 7 #[.pointer (some ⟨X.U.blk,0,none⟩),opA o] W (ij w0 X o.kind (k+1) (m+o.d.length)):=by
 have hb:m+2*k<=90000:=by omega
 have hl:X.R.vs.length<=100000:=by have:=hp.vs;omega
 have htl:X.R.ts.length<=100000:=by have:=hp.ts;omega
 have hone:=fun v (hv:v∈X.R.vs)=>(h.link.each v hv).1
 have hte:∀t∈X.R.ts,∃k:Nat,k<X.R.vs.length/\bQ X.R.vs t.path t.num X.R.vs.length=k:=fun t ht=>by
  obtain⟨-,v,hv,e1,e2⟩:=h.link.teach t ht;obtain⟨i,hi,-,hbe,-⟩:=lM h.link.uniq hone hv;rw[e1,e2]at hbe;exact⟨i,hi,hbe⟩
 have hnm:∀m:Bs,gN X.S.ts m=false->∀t∈X.R.ts,t.name≠m:=fun m hno t ht e=>by
  have:=(h.link.names m).2 ⟨t,ht,e⟩;rw[hno]at this;cases this
 refine(uX w0 W X o h hl hE hk (Hy X o.t) (Cz X k m w0) (fun W' hs=>?_) (fun n S' W' hph hr hs=>?_)).mono (fun e W' hc=>B4 (by omega) h hp (Nat.le_add_right _ _) hc)
 ·refine(zK X.S o.t (m+2*k) W' hs h.ar hp.b hb).mono ?_;rintro e w' (⟨n,hf,rfl,hT⟩|⟨q,hq,L',hqk,hcl,hpm,-,rfl,hrc,hT⟩)
  ·refine⟨_,n,X.S,rfl,.inr rfl,.inl ⟨rfl,?_⟩,hT⟩;rw[h.link.closed];rcases hf with⟨a,b⟩|⟨a,b,c⟩|⟨a,b,c,d⟩|⟨q,hq,-,-,b,c,-⟩
   ·exact .inl ⟨a,b⟩
   ·exact .inr (.inl ⟨a,b,c⟩)
   ·exact .inr (.inr ⟨a,b,hnm _ c,d⟩)
   ·obtain⟨-,v,hv,e1,-⟩:=h.link.tagged hq;have hpp:=(h.link.each v hv).2.1;rw[e1]at hpp;exact absurd c (hp.room h.ar hk4 (by omega) (Nat.le_trans (sG hpp b _) (by omega)))
  ·exact⟨_,0,_,rfl,.inl ⟨rfl,rfl⟩,.inr ⟨rfl,q,hq,L',hqk,hcl,hpm,hrc,rfl⟩,hT⟩
 ·refine(yQ X.R X.P o.t W' hr hs htl (t7 h.link htl) hte).mono ?_;intro e w' hd;rcases hph with⟨rfl,hf⟩|⟨rfl,q,hq,L',hqk,hcl,hpm,hrc,rfl⟩
  ·rcases hd with⟨n',rfl,hT,hn⟩|⟨h1,h2,i,j,tv,hi,h3,-⟩
   ·have:n=n':=by
     rcases hf with⟨a,b⟩|⟨a,b,c⟩|⟨a,b,c,d⟩<;>rcases hn with⟨a',b'⟩|⟨a',b',c'⟩|⟨a',b',c',d'⟩<;>first|omega|(rw[a]at a';cases a';done)|(rw[b]at b';cases b';done)
    obtain rfl:=this;exact⟨X.R,rfl,.inl ⟨rfl,rfl⟩,hT.frame hs⟩
   ·exfalso;rcases hf with⟨a,-⟩|⟨-,a,-⟩|⟨-,-,a,-⟩
    ·rw[h1]at a;cases a
    ·rw[h2]at a;cases a
    ·exact a _ (getElem_mem hi) h3
  ·rcases hd with⟨n',rfl,hT,hn⟩|⟨h1,h2,i,j,tv,hi,h3,hj,hbe,rfl,hro,hT⟩
   ·exfalso;rcases hn with⟨a,-⟩|⟨-,a,-⟩|⟨-,-,a,-⟩
    ·rw[h.link.closed,hcl]at a;cases a
    ·rw[hpm]at a;cases a
    ·obtain⟨t,ht,e⟩:=(h.link.names o.t).1 (by unfold gN;rw[any_eq_true];exact⟨q,hq,by simpa using hqk⟩);exact a t ht e
   ·have hL:=h.link.Qu hq hqk hi h3 hbe (tv:=tv) (L':=L');obtain⟨-,v,hv,e1,e2⟩:=h.link.tagged hq;have hpp:=(h.link.each v hv).2.1;rw[e1]at hpp;obtain⟨num,hnum⟩:∃num:Nat,q.g.2=num:=⟨q.g.2.toNat,by have:=hone v hv;omega⟩;have hnb:num<4294967296:=by have:=hp.nums v hv;omega
    rw[hnum]at hrc hL ⊢;have hok':ArOk (nm X.S o.t q.g.1 num L'):=GM h.ar hrc;have hbt:=(wF h.link.uniq hone hj)
    have hjk:X.R.vs[j].path=q.g.1/\X.R.vs[j].num=num:=by
     obtain⟨-,u,hu,g1,g2⟩:=h.link.teach _ (getElem_mem hi);obtain⟨j2,hj2,hj3,hb2,-⟩:=lM h.link.uniq hone hu;rw[g1,g2,hbe]at hb2;have:j=j2:=by omega
     subst this
     have hqt:rt X.R.ts[i]=jL q:=by
      have:jL q∈X.R.ts.map rt:=h.link.tags.mem_iff.1 (mem_map.2 ⟨q,hq,rfl⟩);obtain⟨t,ht,e⟩:=mem_map.1 this;obtain⟨i2,hi2,rfl⟩:=getElem_of_mem ht;have hn2:X.R.ts[i2].name=X.R.ts[i].name:=by rw[h3,<- hqk];exact congrArg (·.1) e
      have h5:=pairwise_iff_getElem.1 h.link.tsort
      have:i2=i:=by
       rcases Nat.lt_trichotomy i2 i with hl|hl|hl
       ·have:=h5 i2 i hi2 hi hl;rw[hn2,bR]at this;cases this
       ·exact hl
       ·have:=h5 i i2 hi hi2 hl;rw[hn2,bR]at this;cases this
      subst this;exact e
     rw[hj3,g1,g2,<- hnum];exact⟨congrArg (·.2.1) hqt,congrArg (·.2.2) hqt⟩
    have hbm:=lT h.link.uniq hj (-1);refine⟨_,rfl,.inr ⟨hp.held (p:=X.R.vs[j].path) (n:=X.R.vs[j].num) (d:=-1) hrc (sG hpp hpm _) hok' hL (by rw[hjk.1,hjk.2];rfl) ⟨rfl,rfl,rfl,rfl⟩ hbm ?_ ?_ (fun t ht=>hp.b.tags t (mem_filter.1 (show t∈bE X.S.ts o.t from ht)).1) ?_,fun W1 W2 hw1 hT2=>hw1.chg hT2 rfl rfl rfl hok' hro (ry.bump h.inp _ _ _ _) hL,rfl⟩,hT⟩
    ·show(qO X.R.ts i).length<=_;unfold qO;simp;omega
    ·show(bE X.S.ts o.t).length<=_;exact Nat.le_succ_of_le (length_filter_le _ _)
    ·obtain⟨rs,H,ht⟩:=hp.told;exact⟨_,_,ht.Qu h.ar hrc (bA hpp) (bA hpm) hnb⟩
theorem y8(w0 W:World)(X:WS)(o:OpL)(k m:Nat)(h:WsOk w0 W X)(hp:PB X k m)(hE:aW w0)(ho:OpOk w0 o)(hk:1<=o.kind/\o.kind<=13)(hk4:k+1<=400)(hm:m+o.d.length<=60000):
  Calls Tryz.prog 7 #[.pointer (some ⟨X.U.blk,0,none⟩),opA o] W (ij w0 X o.kind (k+1) (m+o.d.length)):=by
 have hcase:(1<=o.kind/\o.kind<=8)\/o.kind=9\/o.kind=10\/o.kind=11\/o.kind=12\/o.kind=13:=by omega
 rcases hcase with h1|h1|h1|h1|h1|h1
 ·exact BS w0 W X o k m h hp hE ho h1 hk4 hm
 ·exact rn w0 W X o k m h hp hE h1 hk4 hm
 ·exact sx w0 W X o k m h hp hE ho h1 hk4 hm
 ·exact vY w0 W X o k m h hp hE h1 hk4 hm
 ·exact sy w0 W X o k m h hp hE h1 hk4 hm
 ·refine(gl w0 W X o h (.inr (.inr (.inr (.inr h1)))) (fun W' hw=>uz w0 W' X o (m+2*k) hw hp.b (by omega) (by have:=hp.ts;omega) hE h1)).mono ?_;rintro e W' ⟨sp,ov,wv,D,rfl,hw⟩;exact⟨_,rfl,hw,(hp.mono (Nat.le_succ k) (Nat.le_add_right _ _)).out sp ov wv D,rfl,.of (by omega) rfl (fun _ h=>h) rfl⟩
theorem PB.stored{w0 W:World}{X:WS}{k m:Nat}(hp:PB X k m)(hw:WsOk w0 W X)(hk:k<=400)(hm:m<=60000):StoredIn X false where
 len:=by have:=hp.vs;omega
 cl:=fun j _=>by
  have h1:=hp.ab.take hw.ar hw.link j
  have h2:=hp.ml
  rw[length_map]at h1
  omega
 ml:=by have:=hp.ml;omega
 mb:=fun x hx=>by
  have h1:x.bs∈X.S.K.map (·.1):=by rw[hp.ab.kM];exact mem_map.2 ⟨x,hx,rfl⟩
  obtain⟨e,he,h2⟩:=mem_map.1 h1
  have h3:=(hw.ar.kat e he).2.1
  have h4:=hp.data
  rw[<- h2];omega
 lo:=hp.ab.lo hw.ar hw.link
 eq:=fun h=>by cases h
 hi:=fun _=>by
  rw[hp.ab.sc,hp.ab.sb,length_map]
  exact⟨by omega,by omega⟩
theorem zb(w0 W:World)(X:WS)(o:OpL)(k m:Nat)(h:WsOk w0 W X)(hp:PB X k m)(hE:aW w0)(hk:o.kind=15)(hk4:k+1<=400)(hm:m+o.d.length<=60000):
  Calls Tryz.prog 7 #[.pointer (some ⟨X.U.blk,0,none⟩),opA o] W (ij w0 X o.kind (k+1) (m+o.d.length)):=by
 refine(ro w0 W X o h hE hk (fun _=>hp.stored h (by omega) (by omega))).mono ?_;rintro e W' ⟨rfl,hw⟩;exact⟨X,rfl,hw,hp.mono (by omega) (by omega),rfl,.of (by omega) rfl (fun _ h=>h) rfl⟩
theorem Link.collect{S S':AS}{R:RefL}(L:Link S R)(h:CollectIs S S'):Link S' R where
 closed:=by rw[h.closed];exact L.closed
 quota:=by rw[h.quota];exact L.quota
 used:=by rw[h.used];exact L.used
 vers:=fun p=>by rw[h.trips];exact L.vers p
 sorted:=L.sorted
 asc:=L.asc
 each:=L.each
 tags:=h.tags.trans L.tags
 tsort:=L.tsort
 teach:=L.teach
 held:=L.held
def qF(w0:World)(X:WS)(e:Ending)(W':World):Prop :=
 e=.returned (.bool true)/\((X.R.closed=true/\WsOk w0 W' X)\/(X.R.closed=false/\∃S' v M',CollectIs X.S S'/\M'.map (·.bs)=cB X.R.vs/\WsOk w0 W' { X with S:=S',U:={ X.U with most:=v },M:=M' }))
theorem vU(w0 W:World)(X:WS)(o:OpL)(h:WsOk w0 W X)(hE:aW w0)(hk:o.kind=14)(hc:X.R.closed=true)(hC:∀W,Sat W (arF X.S)->Calls Tryz.prog 29 #[.pointer (some ⟨X.S.a,0,none⟩)] W (ky X.S W)):
  Calls Tryz.prog 7 #[.pointer (some ⟨X.U.blk,0,none⟩),opA o] W (qF w0 X):=by
 obtain⟨ok,oa,ob_,oc,os,ot,odv,od⟩:=o;simp only at hk;subst hk;have HH:=Hq4 h hE hC hc;clear h hE hC hc;unfold opA opV;go_enter Tryz.func7,Tryz.ntmps7;go_upto_region 41 with(fail);have hT1:=HH.a.turns.alloc (.cells #[.int .i64 14,.int .i64 oa,.int .i64 ob_,.int .i64 oc,str os,str ot,odv] 41);generalize W.alloc (.cells #[.int .i64 14,.int .i64 oa,.int .i64 ob_,.int .i64 oc,str os,str ot,odv] 41)=W1 at hT1 ⊢
 have u1:W1.cell? ⟨X.U.blk,1,none⟩=some (.pointer (some ⟨X.S.a,0,none⟩)):=by
  have:=aa hT1.sat.Q5 1 (v:=l7 X.U.a) rfl;rw[HH.a.a]at this;exact this
 have hul:=ae hT1.sat.Q5;have HC:=qqH (HH.c W1 hT1.sat.tail.left);have HT1:=qqH hT1;clear hT1;go_wp2_with fail;refine HC.out.mono ?_;intro e W2 hp;have hcl:X.S.X.closed=true:=by rw[<- HH.a.link.closed];exact HH.x
 rcases hp with⟨-,rfl,hG⟩|⟨hf,-,-⟩
 ·have hT2:Turns [] (wsF X) w0 W2:=by
   have:=HT1.out;unfold wsF at this ⊢;exact((this.to (H:=arF X.S++((X.U.blk,Is (az X.U))::(aI X.R++aV X))) ac).step (Perm.refl _) hG).to ac
  have hr2:W2.heap[X.R.blk]?=some (fQ X.R):=hT2.sat.tail.right.left.Q5;have r3:W2.cell? ⟨X.R.blk,3,none⟩=some (.bool X.R.closed):=aa hr2 3 rfl;rw[HH.x]at r3
  have u2:W2.cell? ⟨X.U.blk,2,none⟩=some (.pointer (some ⟨X.R.blk,0,none⟩)):=by
   have:=aa hT2.sat.Q5 2 (v:=.pointer (some ⟨X.U.r,0,none⟩)) rfl;rw[HH.a.r]at this;exact this
  have hul2:=ae hT2.sat.Q5;have HEn:=qqH (kf X.U.blk X.U X.R (ck 9) W2 hT2.sat.Q5 HH.a.r hr2 (HH.b.keep hT2.mods (fun h=>by simp at h)) (.inr ⟨HH.x,rfl⟩));have HT2:=qqH hT2;clear hT2 hG hr2 u1 hcl;go_wp2_with fail;refine HEn.out.mono ?_;rintro e W3 ⟨rfl,hs3⟩;have HT3:=qqH (HT2.out.Q9 hs3);clear hs3 u2 r3;go_wp2_with fail;go_ret;exact ⟨rfl,.inl ⟨HH.x,{ HH.a with turns:=HT3.out }⟩⟩
 ·rw[hcl]at hf;cases hf
theorem BR(w0 W:World)(X:WS)(o:OpL)(h:WsOk w0 W X)(hE:aW w0)(hk:o.kind=14)(hc:X.R.closed=false)(hi:StoredIn X false)(hC:∀W,Sat W (arF X.S)->Calls Tryz.prog 29 #[.pointer (some ⟨X.S.a,0,none⟩)] W (ky X.S W)):
  Calls Tryz.prog 7 #[.pointer (some ⟨X.U.blk,0,none⟩),opA o] W (qF w0 X):=by
 obtain⟨ok,oa,ob_,oc,os,ot,odv,od⟩:=o;simp only at hk;subst hk;have HH:=Hq5 h hE hC hc hi;clear h hE hC hc hi;unfold opA opV;go_enter Tryz.func7,Tryz.ntmps7;go_upto_region 41 with(fail);have hT1:=HH.a.turns.alloc (.cells #[.int .i64 14,.int .i64 oa,.int .i64 ob_,.int .i64 oc,str os,str ot,odv] 41);generalize W.alloc (.cells #[.int .i64 14,.int .i64 oa,.int .i64 ob_,.int .i64 oc,str os,str ot,odv] 41)=W1 at hT1 ⊢
 have u1:W1.cell? ⟨X.U.blk,1,none⟩=some (.pointer (some ⟨X.S.a,0,none⟩)):=by
  have:=aa hT1.sat.Q5 1 (v:=l7 X.U.a) rfl;rw[HH.a.a]at this;exact this
 have hul:=ae hT1.sat.Q5;have HC:=qqH (HH.c W1 hT1.sat.tail.left);have HT1:=qqH hT1;clear hT1;go_wp2_with fail;refine HC.out.mono ?_;intro e W2 hp;have hcl:X.S.X.closed=false:=by rw[<- HH.a.link.closed];exact HH.d
 rcases hp with⟨hf,-,-⟩|⟨-,rfl,S',hci,hG⟩
 ·rw[hcl]at hf;cases hf
 ·have hT2:Turns [] ((X.U.blk,Is (az X.U))::(arF S'++(aI X.R++aV X))) w0 W2:=by
   have:=HT1.out;unfold wsF at this;exact((this.to (H:=arF X.S++((X.U.blk,Is (az X.U))::(aI X.R++aV X))) ac).step (Perm.refl _) hG).to ac
  have hr2:W2.heap[X.R.blk]?=some (fQ X.R):=hT2.sat.tail.right.left.Q5;have r3:W2.cell? ⟨X.R.blk,3,none⟩=some (.bool X.R.closed):=aa hr2 3 rfl;rw[HH.d]at r3
  have u2:W2.cell? ⟨X.U.blk,2,none⟩=some (.pointer (some ⟨X.R.blk,0,none⟩)):=by
   have:=aa hT2.sat.Q5 2 (v:=.pointer (some ⟨X.U.r,0,none⟩)) rfl;rw[HH.a.r]at this;exact this
  have hul2:=ae hT2.sat.Q5;have HCh:=qqH (oC X.R X.P W2 (HH.a.refAt' HH.w.len hT2.sat.tail.right) HH.w.cl);have HT2:=Hq2 hT2 hci;clear hT2 hG hr2 u1 hcl hci;go_wp2_with fail;refine HCh.out.mono ?_;rintro e W3 ⟨v,M',rfl,hok',hM',hin',hT3⟩;have hT4:=(Turns.Qb HT2.a hT3).to (H:=(X.U.blk,Is (az X.U))::(cN v M'++(arF S'++(aI X.R++aV X)))) ac;have k2:=dl hT4.sat.tail.left hok';have HT4:=Hq5 hT4 hok' hM' hin' k2;have hul3:=ae hT4.sat.Q5;clear hT4 hok' hM' hin' hT3 k2 u2 r3;go_wp2_with (refine ah rfl (bb 36 (.tmp 246) (.tmp 244) rfl X.U.blk 5 (bf X.U) 38 v HT4.a rfl rfl (by simp[bf]) (by kernel_rfl) HT4.e HT4.f ?_);intro W5 k5;have HT5:=qqH k5;clear k5);have hT5:Turns [] ((X.U.blk,Is (az { X.U with most:=v }))::(cN v M'++(arF S'++(aI X.R++aV X)))) w0 W5:=HT5.out;have HEn:=qqH (kf X.U.blk { X.U with most:=v } X.R .nilIface W5 hT5.sat.Q5 HH.a.r (hT5.sat.tail.right.right.left.Q5) (HH.b.keep hT5.mods (fun h=>by simp at h)) (.inl ⟨HH.d,rfl⟩));have HT6:=qqH hT5;clear hT5 HT5;go_wp2_with fail;refine HEn.out.mono ?_;rintro e W6 ⟨rfl,hs6⟩;have HT7:=qqH (HT6.out.Q9 hs6);clear hs6;go_wp2_with fail;go_ret;refine ⟨rfl,.inr ⟨HH.d,S',v,M',HT2.z,HT4.c,?_⟩⟩
  exact { HH.a with
   turns:=HT7.out.drop (fun x=>by unfold wsF aV;simp only[ao,ai];omega)
   a:=by show X.U.a=some S'.a;rw[HT2.z.a];exact HH.a.a
   d:=by show X.U.d=S'.X.d;rw[HT2.z.d];exact HH.a.d
   ar:=HT2.z.ok
   most:=HT4.b
   ms:=fun x hx=>by
    obtain⟨u,hu,sl,cap,e1,e2,e3,e4⟩:=HT4.d x hx
    exact .inr ⟨_,HH.a.inp u hu,sl,cap,e1,e2,e3,e4⟩
   link:=HH.a.link.collect HT2.z }
theorem PB.col{w0 W:World}{X:WS}{k m:Nat}(hp:PB X k m)(hw:WsOk w0 W X)(hk:k<=400)(hm:m<=60000):ColIn X.S:=by
 obtain⟨rs,H,ht⟩:=hp.told;have hd:=hp.data;have hc:=ht.costs hw.ar
 have hver:∀l,∀V∈af X.S.ps l,∃v∈X.R.vs,v.path=l/\v.num=V.num/\v.cont=cE X.S V/\v.held=V.held:=fun l V hV=>by
  have h1:cX X.S V∈(aH X.R.vs l).map gn:=by rw[<- hw.link.vers];exact mem_map.2 ⟨V,hV,rfl⟩
  obtain⟨v,hv,e⟩:=mem_map.1 h1;obtain⟨hv1,hv2⟩:=mem_filter.1 hv;unfold gn cX at e;simp only[Prod.mk.injEq]at e;exact⟨v,hv1,by simpa using hv2,e.1,e.2.1,e.2.2⟩
 have htag:∀t∈X.S.ts,∃r∈X.R.ts,rt r=jL t:=fun t h=>by
  have h1:jL t∈X.R.ts.map rt:=hw.link.tags.mem_iff.1 (mem_map.2 ⟨t,h,rfl⟩);exact mem_map.1 h1
 refine⟨hw.ar,by rw[hp.ab.kM];exact hp.ab.nd,fun l V hV=>?_,fun t h=>?_,fun l V hV=>?_,by omega,⟨rs,H,ht⟩,by have:=hp.ep;omega,by rw[hp.n];unfold ay;omega⟩
 ·obtain⟨v,hv,e1,e2,e3,-⟩:=hver l V hV;obtain⟨-,hp1,hp2⟩:=hw.link.each v hv;have hn:=hp.nums v hv;obtain⟨p,hpm,-,hpg⟩:=bD (ne_nil_of_mem hV);have h2:=jR hw.ar hpm (V:=V) (hpg ▸ hV);have h3:=congrArg length (hp.ab.cut l V hV);rw[length_map,bS]at h3;have h4:=cK (cE X.S V);rw[e3]at hp2;rw[e1]at hp1;have:=bA hp1;exact⟨by omega,by omega,by omega,by omega⟩
 ·obtain⟨r,hr,e⟩:=htag t h;unfold rt jL at e;simp only[Prod.mk.injEq]at e;obtain⟨h1,v,hv,h2,h3⟩:=hw.link.teach r hr;obtain⟨q1,q2,-⟩:=hw.link.each v hv;have hn:=hp.nums v hv;rw[e.1]at h1;rw[h2,e.2.1]at q2;have:=bA h1;have:=bA q2;refine⟨by omega,by omega,?_,?_⟩
  ·rw[<- e.2.2,<- h3];omega
  ·rw[<- e.2.2,<- h3];omega
 ·obtain⟨v,hv,e1,e2,-,e4⟩:=hver l V hV;rw[<- e4,hw.link.held v hv,e1,e2];unfold iQ;have h1:=hw.link.tags.countP_eq (fun t=>decide (t.2.1=l/\t.2.2=(V.num:Int)));have e5:X.S.ts.map eZ=X.S.ts.map jL:=rfl;rw[e5,h1,countP_map];rfl
theorem PB.collected{X:WS}{k m:Nat}(h:PB X k m){w0 W W':World}(hw:WsOk w0 W X){S':AS}(hc:CollectIs X.S S'){v:Value}{M':List SlB}(hM:M'.map (·.bs)=cB X.R.vs)(hk:k+1<=400)(_:m<=60000)(hw':WsOk w0 W' { X with S:=S',U:={ X.U with most:=v },M:=M' }):PB { X with S:=S',U:={ X.U with most:=v },M:=M' } (k+1) m:=by
 obtain⟨rs,H,ht⟩:=h.told;have hcs:=ht.costs hw.ar;have hKM:S'.K.map (·.1)=M'.map (·.bs):=by rw[hc.K,hM,h.ab.order hw.ar hw.link]
 have hKl:S'.K.length=M'.length:=by have:=congrArg length hKM;simpa using this
 have hMm:M'.length<=m:=by
  have h1:=h.ab.take hw.ar hw.link X.R.vs.length;rw[take_length,<- hM,length_map,length_map]at h1;have:=h.ml;omega
 have hkeys:S'.ps.length<=X.S.ps.length/\∀p∈S'.ps,∃q∈X.S.ps,q.key=p.key/\p.g.map (fF S'.K)=q.g.map (fF X.S.K):=by
  have key:∀p∈S'.ps,∃q∈X.S.ps,q.key=p.key/\p.g.map (fF S'.K)=q.g.map (fF X.S.K):=fun p hp=>by
   have h2:=hc.views p.key;rw[go hc.ok.paths hp]at h2
   have hne:af X.S.ps p.key≠[]:=fun e=>by
    rw[e]at h2;exact hc.ok.some p hp (map_eq_nil_iff.1 h2)
   obtain⟨q,hq,hqk,hqg⟩:=bD hne;exact⟨q,hq,hqk,by rw[h2,hqg]⟩
  refine⟨?_,key⟩
  have h1:(S'.ps.map (·.key)) ⊆ (X.S.ps.map (·.key)):=fun k hk=>by
   obtain⟨p,hp,rfl⟩:=mem_map.1 hk;obtain⟨q,hq,e,-⟩:=key p hp;exact mem_map.2 ⟨q,hq,e⟩
  have h3:=(lW hc.ok.paths).length_le_of_subset h1;simpa using h3
 have hsz:∀e∈S'.K,e.1.length<=65535:=fun e he=>by
  have:=(eD (hc.ok.kat e he).2.2).2.2.2.2;omega
 refine⟨?_,by have:=h.vs;show X.R.vs.length<=_;omega,by have:=h.ts;show X.R.ts.length<=_;omega,hMm,fun v hv=>by have:=h.nums v hv;omega,?_,?_,?_,?_,hc.told,?_⟩
 ·refine⟨by rw[hKl];show M'.length<=_;omega,Nat.le_trans hkeys.1 (Nat.le_trans h.b.np (by omega)),?_,fun p hp=>?_,fun p hp=>?_,?_,?_,?_,?_,by show S'.L.chs.length<=_;rw[hc.chs];simp⟩
  ·have h1:=hc.tags.length_eq;rw[length_map,length_map]at h1;have h2:=h.b.nt;show S'.ts.length<=_;omega
  ·obtain⟨q,hq,e1,e2⟩:=hkeys.2 p hp;obtain⟨b1,b2,b3⟩:=h.b.vers q hq;have h3:=congrArg length e2;rw[length_map,length_map]at h3;refine⟨by rw[<- e1];exact b1,by omega,fun V hV=>?_⟩;have h4:fF S'.K V∈q.g.map (fF X.S.K):=by rw[<- e2];exact mem_map.2 ⟨V,hV,rfl⟩
   obtain⟨V0,hV0,e⟩:=mem_map.1 h4;obtain⟨c1,c2,c3,-⟩:=b3 V0 hV0;unfold fF at e;simp only[Prod.mk.injEq]at e;have h5:=congrArg length e.2.2;rw[length_map,length_map]at h5;obtain⟨-,-,-,-,-,h6⟩:=hw'.link.ver hw'.ar hp hV;have h7:=h.ts;refine⟨by rw[<- e.1];omega,by omega,by rw[<- e.2.1];omega,?_⟩;have h8:V.held.natAbs<=X.R.ts.length:=h6;omega
  ·have h1:jL p∈X.S.ts.map jL:=hc.tags.mem_iff.1 (mem_map.2 ⟨p,hp,rfl⟩);obtain⟨p0,hp0,e⟩:=mem_map.1 h1;obtain⟨c1,c2,c3⟩:=h.b.tags p0 hp0;unfold jL at e;simp only[Prod.mk.injEq]at e;rw[<- e.1,<- e.2.1,<- e.2.2];exact⟨c1,c2,by omega⟩
  ·show S'.X.used.natAbs<=_;rw[hc.used];have:=h.b.used;omega
  ·show S'.X.sc.natAbs<=_;rw[hc.sc,hKl];omega
  ·show S'.X.sb.natAbs<=_;have h1:=rr (l:=S'.K) (f:=(·.1.length)) (m:=65535) hsz;rw[hKl]at h1;rw[hc.sb];omega
  ·show S'.X.quota.natAbs<=_;rw[hc.quota];exact h.b.quota
 ·show S'.data.length+4*X.R.vs.length<=_;have:=hc.data;have:=h.data;omega
 ·show S'.L.n=_;rw[hc.n];exact h.n
 ·show 0<=S'.X.quota/\S'.X.quota<=_;rw[hc.quota];exact h.q
 ·show AB S' (M'.map (·.bs));refine⟨hKM,by rw[hM];exact jd _,fun l V hV=>?_,by rw[hc.sc,hKl,length_map],?_⟩
  ·have h1:fF S'.K V∈(af X.S.ps l).map (fF X.S.K):=by rw[<- hc.views];exact mem_map.2 ⟨V,hV,rfl⟩
   obtain⟨V0,hV0,e⟩:=mem_map.1 h1;unfold fF at e;simp only[Prod.mk.injEq]at e;have h2:=h.ab.cut l V0 hV0
   have h3:cE S' V=cE X.S V0:=by
    unfold cE;rw[flatMap_def,flatMap_def,e.2.2]
   rw[h3,<- h2,e.2.2]
  ·rw[hc.sb,<- hKM];unfold fB;rw[map_map];rfl
 ·show S'.X.ep<=_;rw[hc.ep];have:=h.ep;omega
theorem y9(w0 W:World)(X:WS)(o:OpL)(k m:Nat)(h:WsOk w0 W X)(hp:PB X k m)(hE:aW w0)(hk:o.kind=14)(hk4:k+1<=400)(hm:m+o.d.length<=60000):
  Calls Tryz.prog 7 #[.pointer (some ⟨X.U.blk,0,none⟩),opA o] W (ij w0 X o.kind (k+1) (m+o.d.length)):=by
 have hC:∀W,Sat W (arF X.S)->Calls Tryz.prog 29 #[.pointer (some ⟨X.S.a,0,none⟩)] W (ky X.S W):=fun W' hs=>vr X.S W' hs (hp.col h (by omega) (by omega)) _ hp.b (by omega)
 have fin:∀{e W'},qF w0 X e W'->ij w0 X o.kind (k+1) (m+o.d.length) e W':=by
  rintro e W' ⟨rfl,⟨hcl,hw⟩|⟨-,S',v,M',hc,hM,hw⟩⟩
  ·exact⟨X,rfl,hw,hp.mono (by omega) (by omega),rfl,fun h2=>absurd hk h2.2,fun h2=>by omega,fun _ h2=>(by rw[hcl]at h2;cases h2),fun _ h=>h,rfl⟩
  ·exact⟨_,rfl,hw,(hp.collected h hc hM hk4 (by omega) hw).mono (Nat.le_refl _) (by omega),rfl,fun h2=>absurd hk h2.2,fun h2=>by omega,fun _ _=>hM,fun _ h=>h,rfl⟩
 cases hcl:X.R.closed with
 | true=>exact(vU w0 W X o h hE hk hcl hC).mono (fun e W'=>fin)
 | false=>exact(BR w0 W X o h hE hk hcl (hp.stored h (by omega) (by omega)) hC).mono (fun e W'=>fin)
theorem vV(w0 W:World)(X:WS)(o:OpL)(k m:Nat)(h:WsOk w0 W X)(hp:PB X k m)(hE:aW w0)(ho:OpOk w0 o)(hk:1<=o.kind/\o.kind<=15)(hk4:k+1<=400)(hm:m+o.d.length<=60000):
  Calls Tryz.prog 7 #[.pointer (some ⟨X.U.blk,0,none⟩),opA o] W (ij w0 X o.kind (k+1) (m+o.d.length)):=by
 rcases(show o.kind<=13\/o.kind=14\/o.kind=15 by omega)with h1|h1|h1
 ·exact y8 w0 W X o k m h hp hE ho ⟨hk.1,h1⟩ hk4 hm
 ·exact y9 w0 W X o k m h hp hE h1 hk4 hm
 ·exact zb w0 W X o k m h hp hE h1 hk4 hm
theorem LO{w w1 w2:World}{U:WorldL}{S:AS}{R:RefL}{q:Int}(hs:aQ w w1)(hst:lJ 20000 q U.d S)(hUa:U.a=some S.a)(hUr:U.r=R.blk)(hRf:zE q R)(ho1:U.out=.slice none 0 0)(ho2:U.want=.slice none 0 0)(ho3:U.most=.slice none 0 0)(hT:Turns [] ((U.blk,Is (az U))::(arF S++aI R)) w1 w2)(hq:q<=9223372036854775807):∃X:WS,X.U.blk=U.blk/\X.J=[]/\WsOk w w2 X/\PB X 0 0:=by
 have hT2:Turns [] ((U.blk,Is (az U))::(arF S++aI R)) w w2:=Turns.Qg (Sat.nil w) hs hT;have hst':=hst;obtain⟨s1,s2,s3,s4,s5,s6,s7,s8,s9,s10,s11,s12,s13,s14,s15,s16,s17⟩:=hst';refine⟨⟨U,S,R,[],[],[],[]⟩,rfl,rfl,?_,?_⟩
 ·refine⟨?_,hUa,hUr,s13.symm,s1,hRf.1,(fun p hp=>by cases hp),?_,by show bOk U.out [];rw[ho1];exact fi,by show j6 [] U.want [];rw[ho2];exact qz _,?_,(fun x hx=>by cases hx),Dr hst hRf.2.1 hRf.2.2.1 hRf.2.2.2.1 hRf.2.2.2.2,by simp⟩
  ·refine hT2.to ?_;unfold wsF aV;rw[ho1,ho3,lp,show cN (.slice none 0 0) []=[]from rfl,show bi []=[]from rfl];exact ac
  ·intro v hv;rw[hRf.2.1]at hv;cases hv
  ·show uP U.most [];rw[ho3];exact⟨rfl,fun _=>⟨rfl,rfl⟩⟩
 ·refine⟨s2,by rw[hRf.2.1];simp,by rw[hRf.2.2.1];simp,by simp,(by rw[hRf.2.1];intro v hv;cases hv),by rw[s11,hRf.2.1];simp,s12,?_,AB.start hst,⟨[],[],D5 hst⟩,by rw[s14];omega⟩;rw[s4];unfold cW;split<;>omega
theorem WsOk.junk{w0 W W':World}{X:WS}(h:WsOk w0 W X){J:HF}(hT:Turns [] (wsF { X with J:=J }) w0 W'):WsOk w0 W' { X with J:=J }:={ h with turns:=hT }
theorem PB.junk{X:WS}{k m:Nat}(h:PB X k m)(J:HF):PB { X with J:=J } k m:=⟨h.b,h.vs,h.ts,h.ml,h.nums,h.data,h.n,h.q,h.ab,h.told,h.ep⟩
theorem uT(u:Nat)(o:OpL)(W:World)(hk:o.kind<1\/15<o.kind):
  Calls Tryz.prog 7 #[.pointer (some ⟨u,0,none⟩),opA o] W (fun e W'=>e=.returned (.bool true)/\aQ W W'):=by
 obtain⟨ok,oa,ob_,oc,os,ot,odv,od⟩:=o;simp only at hk;have n1:¬ok=1:=by omega
 have n2:¬ok=2:=by omega
 have n3:¬ok=3:=by omega
 have n4:¬ok=4:=by omega
 have n5:¬ok=5:=by omega
 have n6:¬ok=6:=by omega
 have n7:¬ok=7:=by omega
 have n8:¬ok=8:=by omega
 have n9:¬ok=9:=by omega
 have n10:¬ok=10:=by omega
 have n11:¬ok=11:=by omega
 have n12:¬ok=12:=by omega
 have n13:¬ok=13:=by omega
 have n14:¬ok=14:=by omega
 have n15:¬ok=15:=by omega
 clear hk;unfold opA opV;go_enter Tryz.func7,Tryz.ntmps7;go_wp2_with fail;go_ret;exact ⟨rfl,(Mods.refl _ W).alloc _⟩
theorem vW(w0 W:World)(X:WS)(o:OpL)(k m:Nat)(h:WsOk w0 W X)(hp:PB X k m)(hE:aW w0)(ho:OpOk w0 o)(hk4:k+1<=400)(hm:m+o.d.length<=60000):
  Calls Tryz.prog 7 #[.pointer (some ⟨X.U.blk,0,none⟩),opA o] W (ij w0 X o.kind (k+1) (m+o.d.length)):=by
 by_cases hk:1<=o.kind/\o.kind<=15
 ·exact vV w0 W X o k m h hp hE ho hk hk4 hm
 ·refine(uT X.U.blk o W (by omega)).mono ?_;rintro e W' ⟨rfl,hs⟩;exact⟨X,rfl,h.back (h.turns.Q9 hs),hp.mono (by omega) (by omega),rfl,.of (by omega) rfl (fun _ h=>h) rfl⟩
theorem PB.just{w0 W:World}{X:WS}{k m:Nat}(hp:PB X k m)(hw:WsOk w0 W X)(hk:k<=400)(hm:m<=60000)(hM:X.M.map (·.bs)=cB X.R.vs)(j:Bool):StoredIn X j :=
 { hp.stored hw hk hm with
  eq:=fun _=>by
   rw[hp.ab.sc,hp.ab.sb,hM];exact⟨rfl,rfl⟩
  hi:=fun _=>(hp.stored hw hk hm).hi rfl }
def qu(c b:Int):Obj:=.cells #[.int .i64 c,.int .i64 b] 28 (0,0)
def zt(w:World)(l:List OpL)(ub lb:Nat)(v:Value)(W:World):Prop :=
 ∃(k:Nat) (X:WS) (c b:Int),k<=l.length/\v=.int .i64 k/\X.U.blk=ub/\WsOk w W X/\PB X k (eE (l.take k))/\X.J=[(lb,Is (qu c b))]/\(X.R.closed=false->c=X.S.X.sc/\b=X.S.X.sb)
theorem uY(w0 W:World)(X:WS)(h:WsOk w0 W X):∃(c b:Int) (ev:Value),(X.R.closed=false->c=X.S.X.sc/\b=X.S.X.sb) /\
  Calls Tryz.prog 6 #[.pointer (some ⟨X.S.a,0,none⟩)] W (fun e w'=>e=.returned (.tuple #[.agg #[.int .i64 c,.int .i64 b],ev])/\aQ W w'):=by
 have hA:W.heap[X.S.a]?=some (aJ X.S.X):=h.Qq.Q5
 cases hc:X.S.X.closed with
 | true=>exact⟨0,0,_,(fun h2=>by rw[h.link.closed,hc]at h2;cases h2),og X.S.a X.S.X W hA hc⟩
 | false=>exact⟨_,_,_,(fun _=>⟨rfl,rfl⟩),rB X.S.a X.S.X W hA hc⟩
theorem zv(l:List OpL)(sl:Option Addr)(cap:Nat)(q:Int)(w:World)(h:ak w sl (vG l))(hok:∀o∈l,OpOk w o)(hcap:l.length<=1125899906842624)(hE:aW w)(hq:q<=9223372036854775807):
  Calls Tryz.prog 3 #[.slice sl l.length cap,.int .i64 q] w (fun e w'=>e=.returned (.bool true)/\aQ w w'):=by
 have HS:=qqH (BO l sl cap w h hok hcap);have HH:=Hq4 h hok hE hq;clear h hok hE hq;go_enter Tryz.func3,Tryz.ntmps3;go_wp2_with fail;refine HS.out.mono ?_;rintro e w1 ⟨rfl,hs1⟩;have HS1:=qqH hs1;clear hs1
 cases hsm:mi l with
 | false =>
  go_wp2_with fail;go_ret;exact ⟨rfl,HS1.out⟩
 | true =>
  have hlen:l.length<=400/\eE l<=60000:=by unfold mi at hsm;simpa using hsm
  have HB:=qqH (ye 20000 q w1 (by omega) (by omega) (HH.c.keep HS1.out (fun h=>h)) HH.x);clear hsm;go_wp2_with fail;refine HB.out.mono ?_;rintro e w2 ⟨U,S,R,rfl,hst,hUa,hUr,hRf,ho1,ho2,ho3,hT⟩;obtain⟨X,hXu,hXJ,hW,hP⟩:=LO HS1.out hst hUa hUr hRf ho1 ho2 ho3 hT HH.x;obtain⟨ub,hub⟩:∃ub,ub=U.blk:=⟨_,rfl⟩;rw[<- hub]at hXu ⊢
  have u1:w2.cell? ⟨ub,1,none⟩=some (.pointer (some ⟨X.S.a,0,none⟩)):=by
   rw[<- hXu];have:=aa hW.turns.sat.Q5 1 (v:=l7 X.U.a) rfl;rw[hW.a]at this;exact this
  have hul:ub<w2.heap.size:=by rw[<- hXu];exact ae hW.turns.sat.Q5
  obtain⟨c0,b0,ev,hcb,hSt⟩:=uY w w2 X hW;have HW:=Hq5 hW hP hXu hXJ hcb;have HSt:=qqH hSt;clear hst hUa hUr hRf ho1 ho2 ho3 hT hW hP hXu hXJ hub hcb hSt;go_wp2_with fail;refine HSt.out.mono ?_;rintro e w3 ⟨rfl,hs3⟩;have HT3:=qqH (HW.a.turns.Q9 hs3);clear hs3 u1;go_wp2_with fail;obtain⟨lb,hlb⟩:∃lb,lb=w3.heap.size:=⟨_,rfl⟩;have hT4:=HT3.out.Q8 (qu c0 b0);rw[<- hlb]at hT4 ⊢
  have hX1:zt w l ub lb (.int .i64 0) (w3.alloc (.cells #[.int .i64 c0,.int .i64 b0] 28)) :=
   ⟨0,{ X with J:=[(lb,Is (qu c0 b0))] },c0,b0,Nat.zero_le _,rfl,HW.c,HW.a.junk (hT4.to (by unfold wsF aV;rw[HW.d];exact ac)),by simpa[eE]using HW.b.junk _,rfl,HW.w⟩
  have HX1:=qqH hX1;clear hX1 hT4 hlb;go_loopw [10] (fun v wr=>zt w l ub lb v wr) (fun v _=>l.length-(intOf v).toNat)
  case atStart=>exact HX1.out
  case round =>
   clear HX1 HT3 HW HSt;obtain⟨k,Y,c,b,hk,rfl,hYu,hY,hYP,hYJ,hYc⟩:=hrel;by_cases hlt:k<l.length
   ·obtain⟨g,off,hg,c0,c1,c2,c3,c4,c5,c6⟩:=K3 (HH.a.keep hY.turns.news (fun _ _ _=>id)) hlt;have hoo:=HH.b l[k] (getElem_mem hlt);obtain⟨dsl,dcap,hdv,-,-,-⟩:=hoo.dv;have hnx:=rV hlt;have hle:=xi l (k+1);subst hg;obtain⟨o,hod⟩:∃o,o=l[k]:=⟨_,rfl⟩;rw[<- hod]at c0 c1 c2 c3 c4 c5 c6 hoo hdv hnx;obtain⟨ok,oa,ob_,oc,os,ot,odv,od⟩:=o;simp only at c0 c1 c2 c3 c4 c5 c6 hdv;subst hdv;have hgl:=World.block_lt_of_cell? wr _ c0;have hnl:eE (l.take k)+od.length<=eE (l.take (k+1))/\eE (l.take (k+1))<=60000:=by unfold uk at hnx;simp only at hnx;omega
    have hT1:=hY.turns.Q8 (.cells #[.int .i64 ok,.int .i64 oa,.int .i64 ob_,.int .i64 oc,str os,str ot,.slice dsl od.length dcap] 41 (0,0));obtain⟨Z,hZ⟩:∃Z:WS,Z={ Y with J:=(wr.heap.size,Is (.cells #[.int .i64 ok,.int .i64 oa,.int .i64 ob_,.int .i64 oc,str os,str ot,.slice dsl od.length dcap] 41 (0,0)))::Y.J }:=⟨_,rfl⟩
    have hZw:WsOk w (wr.alloc (.cells #[.int .i64 ok,.int .i64 oa,.int .i64 ob_,.int .i64 oc,str os,str ot,.slice dsl od.length dcap] 41)) Z:=by
     rw[hZ];exact hY.junk (hT1.to (by unfold wsF aV;exact ac))
    have hZP:PB Z k (eE (l.take k)):=by rw[hZ];exact hYP.junk _
    have hZu:Z.U.blk=ub:=by rw[hZ];exact hYu
    have hZM:Z.M=Y.M:=by rw[hZ]
    have hZR:Z.R=Y.R:=by rw[hZ]
    have hZJ:Z.J=[(wr.heap.size,Is (.cells #[.int .i64 ok,.int .i64 oa,.int .i64 ob_,.int .i64 oc,str os,str ot,.slice dsl od.length dcap] 41 (0,0))),(lb,Is (qu c b))]:=by rw[hZ];simp[hYJ]
    have hstep:=vW w _ Z ⟨ok,oa,ob_,oc,os,ot,.slice dsl od.length dcap,od⟩ k (eE (l.take k)) hZw hZP HH.c hoo (by omega) (by simp only;omega);rw[hZu]at hstep;have HC:=qqH hstep;have HY:=Hq6 hYP hYc hZM hZR hZJ hnl;clear hY hYP hYu hYc hoo hnx hle hod hT1 hZw hZP hZM hZR hZJ hstep hnl hYJ hZ;go_wp2_with fail;refine HC.out.mono ?_;rintro e w4 ⟨X',rfl,hw',hp',hu',hM⟩;rw[hZu]at hu';obtain⟨ob,hob⟩:∃ob,ob=wr.heap.size:=⟨_,rfl⟩;obtain⟨ow,how⟩:∃ow:Obj,ow=.cells #[.int .i64 ok,.int .i64 oa,.int .i64 ob_,.int .i64 oc,str os,str ot,.slice dsl od.length dcap] 41 (0,0):=⟨_,rfl⟩;have hJ:X'.J=[(ob,Is ow),(lb,Is (qu c b))]:=by rw[hM.J,HY.e,hob,how]
    rw[<- hob]
    have u1:w4.cell? ⟨ub,1,none⟩=some (.pointer (some ⟨X'.S.a,0,none⟩)):=by
     rw[<- hu'];have:=aa hw'.turns.sat.Q5 1 (v:=l7 X'.U.a) rfl;rw[hw'.a]at this;exact this
    have hul4:ub<w4.heap.size:=by rw[<- hu'];exact ae hw'.turns.sat.Q5
    obtain⟨c1',b1',ev,hcb,hSt⟩:=uY w w4 X' hw';have HSt:=qqH hSt;have HX:=Hq7 hw' hp' hu' hM hJ hcb how;clear hw' hp' hu' hM hJ hcb hSt hob how c0 c1 c2 c3 c4 c5 c6 hZu HC;go_wp2_with fail;refine HSt.out.mono ?_;rintro e w5 ⟨rfl,hs5⟩;have HT5:=qqH (HX.a.turns.Q9 hs5);clear hs5 u1;go_upto_region 14 with(fail);obtain⟨cb,hcb2⟩:∃cb,cb=w5.heap.size:=⟨_,rfl⟩;have hT6:=HT5.out.Q8 (qu c1' b1');rw[<- hcb2]at hT6 ⊢;generalize hW6:w5.alloc (.cells #[.int .i64 c1',.int .i64 b1'] 28)=W6;have hT6:Turns [] ([(cb,Is (qu c1' b1'))]++wsF X') w W6:=hW6 ▸ hT6;have h6:WsOk w W6 X':=HX.a.back hT6.right;have m1:=hT6.sat.Q7 (b:=ob) (o:=ow) (by simp[wsF,aV,HX.e]);have m2:=hT6.sat.Q7 (b:=lb) (o:=qu c b) (by simp[wsF,aV,HX.e]);have m3:=hT6.sat.Q7 (b:=cb) (o:=qu c1' b1') (by simp);have m4:=h6.turns.sat.Q5;rw[HX.c]at m4;have m5:=h6.Qm.Q5;have o0:W6.cell? ⟨ob,0,none⟩=some (.int .i64 ok):=aa (HX.u ▸ m1) 0 rfl;have l0:W6.cell? ⟨lb,0,none⟩=some (.int .i64 c):=aa m2 0 rfl;have l1:W6.cell? ⟨lb,1,none⟩=some (.int .i64 b):=aa m2 1 rfl;have s0:W6.cell? ⟨cb,0,none⟩=some (.int .i64 c1'):=aa m3 0 rfl;have s1:W6.cell? ⟨cb,1,none⟩=some (.int .i64 b1'):=aa m3 1 rfl
    have u2:W6.cell? ⟨ub,2,none⟩=some (.pointer (some ⟨X'.R.blk,0,none⟩)):=by
     have:=aa m4 2 (v:=.pointer (some ⟨X'.U.r,0,none⟩)) rfl;rw[HX.a.r]at this;exact this
    have r3:W6.cell? ⟨X'.R.blk,3,none⟩=some (.bool X'.R.closed):=aa m5 3 rfl;have t1:=ae m1;have t2:=ae m2;have t3:=ae m3;have t4:=ae m4;have t5:=ae m5;have hk4:k+1<=400/\eE (l.take k)+od.length<=60000:=⟨by omega,by have:=HY.v;omega⟩
    have HSd:Hid (∀j:Bool,(j=true->ok=14)->Calls Tryz.prog 8 #[.pointer (some ⟨ub,0,none⟩),.bool j] W6 (fun e w'=>e=.returned (.bool true)/\aQ W6 w')):=qqH (fun j hj=>by
     rw[<- HX.c]
     cases hcl:X'.R.closed with
     | true=>exact nC w W6 X' j h6 HH.c hcl
     | false =>
      refine qC w W6 X' j h6 HH.c hcl ?_
      cases j with
      | true=>exact HX.b.just h6 hk4.1 hk4.2 (HX.d.col (hj rfl) hcl) true
      | false=>exact HX.b.stored h6 hk4.1 hk4.2)
    have hcases:X'.R.closed=true\/(X'.R.closed=false/\ok=14)\/(X'.R.closed=false/\ok=8)\/(X'.R.closed=false/\ok=1/\¬c1'<c/\¬b1'<b)\/(X'.R.closed=false/\¬ok=14/\¬ok=8/\¬ok=1/\c1'=c/\b1'=b):=by
     cases hcl:X'.R.closed with
     | true=>exact .inl rfl
     | false =>
      refine .inr ?_;by_cases h14:ok=14
      ·exact .inl ⟨rfl,h14⟩
      by_cases h8:ok=8
      ·exact .inr (.inl ⟨rfl,h8⟩)
      have hM:=HX.d;obtain⟨q1,q2⟩:=HX.f hcl;have hz:=hM.shut h8 hcl;rw[HY.d]at hz;obtain⟨q3,q4⟩:=HY.b hz;have a1:=HX.b.ab.sc;have a2:=HX.b.ab.sb;have a3:=HY.a.ab.sc;have a4:=HY.a.ab.sb;by_cases h1:ok=1
      ·obtain⟨x,hx⟩:=hM.put h1;rw[HY.c]at hx;rw[hx,length_append]at a1;rw[hx,qt]at a2;exact .inr (.inr (.inl ⟨rfl,h1,by omega,by omega⟩))
      ·have hx:=hM.same ⟨h1,h14⟩;rw[HY.c]at hx;rw[hx]at a1 a2;exact .inr (.inr (.inr ⟨rfl,h14,h8,h1,by omega,by omega⟩))
    have HT6:=qqH hT6;clear hT6 h6 m1 m2 m3 m4 m5 hk4 hW6 hcb2 HSt HT5;rcases hcases with hA|⟨hA,rfl⟩|⟨hA,rfl⟩|⟨hA,rfl,hA2,hA3⟩|⟨hA,hA2,hA3,hA4,hA5,hA6⟩
    all_goals
     rw[hA]at r3;clear hA;go_wp2_with fail
    all_goals
     refine(HSd.out _ (fun h=>by first|rfl|exact of_decide_eq_true h|(simp at h))).mono ?_;rintro e w7 ⟨rfl,hs7⟩;try clear hA5 hA6
     have hT7:=HT6.out.Q9 hs7;have m3:=hT7.sat.Q7 (b:=cb) (o:=qu c1' b1') (by simp);have s0:w7.cell? ⟨cb,0,none⟩=some (.int .i64 c1'):=aa m3 0 rfl;have s1:w7.cell? ⟨cb,1,none⟩=some (.int .i64 b1'):=aa m3 1 rfl;have t3:=ae m3;have H7:=qqH (hT7.to (H:=(lb,Is (.cells #[.int .i64 c,.int .i64 b] 28 (0,0)))::((cb,Is (qu c1' b1'))::(ob,Is ow)::wsF { X' with J:=[] })) (by unfold wsF aV;rw[HX.e];unfold qu;exact ac));clear hT7 m3 hs7
     go_wp2_with (first
      | (refine ah rfl (ny 28 (.tmp 8) (.tmp 107) rfl lb #[.int .i64 c,.int .i64 b] #[.int .i64 c1',.int .i64 b1'] 28 H7.out rfl rfl rfl (by kernel_rfl) (by simp[Value.oneCell']) ?_);intro w8 hT8;have H8:=qqH hT8;clear hT8;simp only[Act.put])
      | fail)
     go_roundw
     case rel =>
      refine⟨k+1,{ X' with J:=[(lb,Is (qu c1' b1'))] },c1',b1',by omega,by go_num,HX.c,HX.a.junk (H8.out.drop (fun x=>?_)),(HX.b.mono (Nat.le_refl _) ?_).junk _,rfl,HX.f⟩
      ·unfold wsF aV qu;simp only[ao,ai,ee];omega
      ·have:=HY.v;omega
     case measure=>simp[intOf];omega
   ·obtain rfl:k=l.length:=by omega
    have HY:=qqH hY;clear hY hYP;go_wp2_with fail;go_ret;exact ⟨rfl,HY.out.turns.news⟩
end
section
open Go.ChangeShapes Go.WideShapes Go.ChangeAt Go.RowKit
def Ei(k:IntKind)(w:World)(a:Option Addr)(len cap:Nat)(zs:List Int):Prop :=
 (a=none/\len=0/\cap=0/\zs=[]) \/
 ∃x,a=some x/\len<=cap/\cap<=maxLen/\zs.length=cap/\(∀i,i<zs.length->w.cell? (x.add i)=some (.int k (zs.getD i 0)))/\∀n∈zs,(Lit.int k n).wf=true
theorem LZ{n:Int}(h:(Lit.int .u8 n).wf=true):0<=n/\n<=255:=by
 have:=bounds_u8 h;omega
theorem Ei.bytes{w:World}{a:Option Addr}{len cap:Nat}{zs:List Int}(h:Ei .u8 w a len cap zs):
  ∃l:List UInt8,l.length=len/\ak w a (l.map al)/\len<=cap/\cap<=maxLen:=by
 rcases h with⟨rfl,rfl,rfl,rfl⟩|⟨x,rfl,hl,hm,hz,hcell,hwf⟩
 ·exact⟨[],rfl,fun hp=>by simp at hp,by omega,by unfold maxLen;omega⟩
 ·refine⟨(zs.take len).map fun z=>UInt8.ofNat z.toNat,by simp;omega,fun hp=>?_,hl,hm⟩;have hlen:0<len:=by simp at hp;omega
  obtain⟨b,off,spot⟩:=x;have h0:=hcell 0 (by omega);have hspot:spot=none:=by simpa[Addr.add]using World.cell?_spot h0
  subst hspot;refine⟨b,off,rfl,fun j hj=>?_⟩;have hj':j<zs.length:=by simp at hj;omega
  have hc:=hcell j hj';rw[Addr.add_lit]at hc;rw[hc];have hb:=LZ (hwf _ (getElem_mem hj'));simp only[getElem_map,getElem_take,al,Option.some.injEq,Value.int.injEq,true_and];rw[getD_eq_getElem?_getD,getElem?_eq_getElem hj']
  have e:(UInt8.ofNat zs[j].toNat).toNat=zs[j].toNat:=by
   rw[UInt8.toNat_ofNat'];omega
  rw[e];simp;omega
theorem BT(s:ByteArray):str s.data.toList=.string s:=by
 unfold str;congr 1
theorem mW{H:Type}{P:Program}{e:TypeId}{k:Nat}:∀{ds:List (DataW H)} {d:DataW H},d∈ds->k∈d.weights P e->k∈DataW.weightsAll P e ds
 | [],_,h,_=>by simp at h
 | x::r,d,h,hk=>by
  simp only[DataW.weightsAll,mem_append]
  rcases mem_cons.1 h with rfl|h
  ·exact .inl hk
  ·exact .inr (mW h hk)
theorem EH{α:Type}(Q:Nat->α->Prop):∀n:Nat,(∀i,i<n->∃o,Q i o)->∃l:List α,l.length=n/\∀(i:Nat) (o:α),l[i]?=some o->Q i o
 | 0,_=>⟨[],rfl,fun i o h=>by simp at h⟩
 | n+1,h=>by
  obtain⟨l,h1,h2⟩:=EH Q n (fun i hi=>h i (by omega))
  obtain⟨o,ho⟩:=h n (by omega)
  refine⟨l++[o],by simp[h1],fun i o' hi=>?_⟩
  by_cases hlt:i<n
  ·rw[getElem?_append_left (by omega)]at hi
   exact h2 i o' hi
  ·have hb:=(List.getElem?_eq_some_iff.1 hi).1
   simp only[length_append,length_cons,length_nil]at hb
   obtain rfl:i=n:=by omega
   rw[<- h1,getElem?_append_right (Nat.le_refl _),Nat.sub_self]at hi
   simp only[getElem?_cons_zero,Option.some.injEq]at hi
   subst hi
   exact ho
theorem iZ{α:Type}{n:Nat}:∀{l:List α},l.length=n+1->∃a r,l=a::r/\r.length=n
 | [],h=>by simp at h
 | a::r,h=>⟨a,r,rfl,by simpa using h⟩
theorem uf{α:Type}(l:List α)(h:l.length=7):∃a b c d e f g,l=[a,b,c,d,e,f,g]:=by
 obtain⟨a,r1,rfl,h1⟩:=iZ h;obtain⟨b,r2,rfl,h2⟩:=iZ h1;obtain⟨c,r3,rfl,h3⟩:=iZ h2;obtain⟨d,r4,rfl,h4⟩:=iZ h3;obtain⟨e,r5,rfl,h5⟩:=iZ h4;obtain⟨f,r6,rfl,h6⟩:=iZ h5;obtain⟨g,r7,rfl,h7⟩:=iZ h6;exact⟨a,b,c,d,e,f,g,by rw[length_eq_zero_iff.1 h7]⟩
theorem CW{H:Type}{enc:TypeId×Value->H}{W:World}{n:Nat}{cs:List Value}{x:DataW H×List MemPlace}(h:DataW.trod enc Tryz.prog W 0 (fun _=>true) true n 35 cs=some x)(hz:∀k∈x.1.weights Tryz.prog 35,k<=reachBytes):
  ∃(l:Bs) (sl:Option Addr) (cap:Nat),cs=[.slice sl l.length cap]/\ak W sl (l.map al)/\l.length<=cap/\cap<=9223372036854775807/\l.length<=1125899906842624:=by
 rcases open_ints Tryz.underlying35 Tryz.underlying5 (by kernel_rfl) h with⟨rfl,rfl⟩|⟨a,len,cap,zs,rfl,_,hl,hm,hzl,rfl,hcell,hwz⟩
 ·exact⟨[],none,0,rfl,fun hp=>by simp at hp,by simp,by omega,by simp⟩
 ·have hzl':zs.length=cap:=by simpa using hzl
  obtain⟨l,h1,h2,h3,_⟩:=Ei.bytes (.inr ⟨_,rfl,hl,hm,hzl',hcell,hwz⟩:Ei .u8 W (some a) len cap zs);subst h1;refine⟨l,some a,cap,rfl,h2,h3,by unfold maxLen at hm;omega,?_⟩;have h4:=hz (((lits (H:=H) .u8 (zs.take l.length)).length+(lits (H:=H) .u8 (zs.drop l.length)).length)*Tryz.prog.bytesOf 5) (by simp only[DataW.weights,Tryz.underlying35];exact mem_cons_self);rw[show Tryz.prog.bytesOf 5=1 from by kernel_rfl,Nat.mul_one]at h4;simp only[lits,length_map,length_take,length_drop]at h4;have:=reachBytes_lt;omega
theorem gW{H:Type}{enc:TypeId×Value->H}{W:World}{m:Nat}{cs:List Value}{fs:Array Field}{xs:List (DataW H×List MemPlace)}{P:Program}(hf:∀(i:Nat) (f:Field),fs[i]?=some f->DataW.trod enc P W 0 (fun _=>true) true m f.type ((cs.drop f.offset).take (P.cellsOf f.type))=xs[i]?){i:Nat}{f:Field}(hi:fs[i]?=some f){t:TypeId}{off n:Nat}(ht:f.type=t)(ho:f.offset=off)(hc:P.cellsOf t=n):DataW.trod enc P W 0 (fun _=>true) true m t ((cs.drop off).take n)=xs[i]?:=by
 subst ht ho hc;exact hf i f hi
theorem Ks{H:Type}{enc:TypeId×Value->H}{W:World}{n:Nat}{cs:List Value}{x:DataW H×List MemPlace}(h:DataW.trod enc Tryz.prog W 0 (fun _=>true) true n 41 cs=some x)(hz:∀k∈x.1.weights Tryz.prog 41,k<=reachBytes):
  ∃o:OpL,cs=opV o/\OpOk W o:=by
 obtain⟨xs,m,rfl,rfl,hl,hlen,hf⟩:=DataW.trod_struct Tryz.underlying41 h;rw[show Tryz.prog.cellsOf 41=7 from by kernel_rfl]at hl;have ci:Tryz.prog.cellsOf 3=1:=by kernel_rfl
 have ct:Tryz.prog.cellsOf 9=1:=by kernel_rfl
 have cb:Tryz.prog.cellsOf 35=1:=by kernel_rfl
 obtain⟨y0,y1,y2,y3,y4,y5,y6,rfl⟩:=uf xs hlen;obtain⟨c0,c1,c2,c3,c4,c5,c6,rfl⟩:=uf cs hl
 have hzz:∀(j:Nat) (t:TypeId) (d:DataW H),[3,3,3,3,9,9,35][j]?=some t->[y0.1,y1.1,y2.1,y3.1,y4.1,y5.1,y6.1][j]?=some d->∀k∈d.weights Tryz.prog t,k<=reachBytes:=fun j t d ht hd k hk=>hz k (by
  simp only[DataW.weights,Tryz.underlying41];exact DataW.weights_mem_each (j:=j) (t:=t) (d:=d) ht hd k hk)
 clear hz h;have f0:DataW.trod enc Tryz.prog W 0 (fun _=>true) true m 3 [c0]=some y0:=gW hf (i:=0) (f:={ name := "Kind",type:=3,offset:=0,embedded:=false,tag := "",pkgPath := "",byteOffset:=0 }) rfl rfl rfl ci;have f1:DataW.trod enc Tryz.prog W 0 (fun _=>true) true m 3 [c1]=some y1:=gW hf (i:=1) (f:={ name := "A",type:=3,offset:=1,embedded:=false,tag := "",pkgPath := "",byteOffset:=8 }) rfl rfl rfl ci;have f2:DataW.trod enc Tryz.prog W 0 (fun _=>true) true m 3 [c2]=some y2:=gW hf (i:=2) (f:={ name := "B",type:=3,offset:=2,embedded:=false,tag := "",pkgPath := "",byteOffset:=16 }) rfl rfl rfl ci;have f3:DataW.trod enc Tryz.prog W 0 (fun _=>true) true m 3 [c3]=some y3:=gW hf (i:=3) (f:={ name := "C",type:=3,offset:=3,embedded:=false,tag := "",pkgPath := "",byteOffset:=24 }) rfl rfl rfl ci;have f4:DataW.trod enc Tryz.prog W 0 (fun _=>true) true m 9 [c4]=some y4:=gW hf (i:=4) (f:={ name := "S",type:=9,offset:=4,embedded:=false,tag := "",pkgPath := "",byteOffset:=32 }) rfl rfl rfl ct;have f5:DataW.trod enc Tryz.prog W 0 (fun _=>true) true m 9 [c5]=some y5:=gW hf (i:=5) (f:={ name := "T",type:=9,offset:=5,embedded:=false,tag := "",pkgPath := "",byteOffset:=48 }) rfl rfl rfl ct;have f6:DataW.trod enc Tryz.prog W 0 (fun _=>true) true m 35 [c6]=some y6:=gW hf (i:=6) (f:={ name := "D",type:=35,offset:=6,embedded:=false,tag := "",pkgPath := "",byteOffset:=64 }) rfl rfl rfl cb;obtain⟨n0,e0,-,w0⟩:=DataW.trod_int Tryz.underlying3 f0;obtain⟨n1,e1,-,w1⟩:=DataW.trod_int Tryz.underlying3 f1;obtain⟨n2,e2,-,w2⟩:=DataW.trod_int Tryz.underlying3 f2;obtain⟨n3,e3,-,w3⟩:=DataW.trod_int Tryz.underlying3 f3;obtain⟨s4,e4,rfl,w4⟩:=DataW.trod_string Tryz.underlying9 f4;obtain⟨s5,e5,rfl,w5⟩:=DataW.trod_string Tryz.underlying9 f5;obtain⟨l,sl,cap,e6,h1,h2,h3,h4⟩:=CW f6 (hzz 6 _ _ rfl rfl);simp only[List.cons.injEq,and_true]at e0 e1 e2 e3 e4 e5 e6;subst e0 e1 e2 e3 e4 e5 e6;have hr:=reachBytes_lt;have z4:=hzz 4 _ _ rfl rfl s4.data.toList.length (by simp only[DataW.weights];exact mem_singleton.2 rfl);have z5:=hzz 5 _ _ rfl rfl s5.data.toList.length (by simp only[DataW.weights];exact mem_singleton.2 rfl);refine⟨⟨n0,n1,n2,n3,s4.data.toList,s5.data.toList,.slice sl l.length cap,l⟩,by unfold opV;rw[BT,BT],⟨Go.bounds_i64 w1,Go.bounds_i64 w2,Go.bounds_i64 w3,Nat.le_trans z4 (by omega),Nat.le_trans z5 (by omega),h4,⟨sl,cap,rfl,h2,h3,h1⟩⟩⟩
theorem LF{H:Type}{enc:TypeId×Value->H}{W:World}{a:Option Addr}{len cap:Nat}{d:DataW H}{p:List MemPlace}(h:DataW.Trod enc Tryz.prog W 0 (fun _=>true) true 22 (.slice a len cap) d p)(hz:∀k∈d.weights Tryz.prog 22,k<=reachBytes):
  ∃l:List OpL,l.length=len/\ak W a (vG l)/\(∀o∈l,OpOk W o)/\l.length<=1125899906842624:=by
 obtain⟨fuel,hf⟩:=h;rcases DataW.trod_slice Tryz.underlying22 hf with⟨hcs,_⟩|⟨x,len',cap',elems,rest,n,_,hcs,hx,hb,hl,hm,hlen,hel,_,_⟩
 ·simp[Value.cells]at hcs;obtain⟨rfl,rfl,rfl⟩:=hcs;exact⟨[],rfl,fun hp=>by simp[vG]at hp,fun o ho=>by simp at ho,by simp⟩
 ·simp[Value.cells]at hcs;obtain⟨rfl,rfl,rfl⟩:=hcs;simp only[Prod.mk.injEq]at hx;obtain⟨rfl,-⟩:=hx;have c7:Tryz.prog.cellsOf 41=7:=by kernel_rfl
  rw[c7]at hel
  have each:∀i,i<elems.length->∃o:OpL,W.cells? 0 (x.add (i*7)) 7=some (opV o)/\OpOk W o:=by
   intro i hi;have h1:=hel i (by omega);rw[getElem?_eq_getElem hi,Option.bind_eq_some_iff]at h1;obtain⟨cs,hcs,hy⟩:=h1
   obtain⟨o,rfl,ho⟩:=Ks hy (fun k hk=>hz k (by
    simp only[DataW.weights,Tryz.underlying22];exact mem_cons_of_mem _ (mem_append_left _ (mW (mem_map_of_mem (getElem_mem hi)) hk))))
   exact⟨o,hcs,ho⟩
  obtain⟨l,hll,hl2⟩:=EH _ _ each;have h80:=hz (((elems.map (·.1)).length+(rest.map (·.1)).length)*Tryz.prog.bytesOf 41) (by simp only[DataW.weights,Tryz.underlying22];exact mem_cons_self);rw[show Tryz.prog.bytesOf 41=88 from by kernel_rfl]at h80;simp only[length_map]at h80;have hr:=reachBytes_lt;refine⟨l,by omega,fun hp=>?_,fun o ho=>?_,by omega⟩
  ·rw[ju]at hp;obtain⟨b,off,spot⟩:=x;have h0:=(hl2 0 _ (getElem?_eq_getElem (by omega:0<l.length))).1;have hc0:=(World.cells?_some h0).2.2 0 (by omega);have hspot:spot=none:=by simpa[Addr.add]using World.cell?_spot (hc0.trans rfl)
   subst hspot;refine⟨b,off,rfl,fun j hj=>?_⟩;have hj2:=hj;rw[ju]at hj2;have hi:j / 7<l.length:=by omega
   have h1:=(hl2 (j / 7) _ (getElem?_eq_getElem hi)).1;have h2:=(World.cells?_some h1).2.2 (j%7) (by omega);rw[Addr.add_lit,Addr.add_lit,show off+j / 7*7+j%7=off+j by omega,<- yK l (j / 7) hi (j%7) (by omega),show j / 7*7+j%7=j by omega,getElem?_eq_getElem hj]at h2;exact h2
  ·obtain⟨i,hi⟩:=getElem?_of_mem ho;exact(hl2 i o hi).2
end
end Go.Proofs.YtdhobpbngkainabGreatDoor
namespace Go.Proofs.YtdhobpbngkainabGreatDoor.freesDone
open List
open Go.ChangeShapes Go.WideShapes Go.ChangeAt Go.RowKit
theorem laidOut:laidOutB Tryz.prog=true:=by kernel_rfl
theorem contract(H:Type)(enc:TypeId×Value->H)(W:World)(base:Nat)(args:Array Value)(ds gs:List (DataW H))(before:List MemPlace)(hval:∀(j:Nat) t v,Tryz.f3.params[j]?=some t->args[j]?=some v->Value.okWide Tryz.prog W .any base t v)(hW:DataW.Whole enc Tryz.prog Tryz.f3.params.toList Rows.freesSpec.vars false W args.toList ds gs before)(hsz:(DataW.weightsEach Tryz.prog (Tryz.f3.params.toList++(OpenSpec.ofChange Rows.freesSpec).bare.plain.varTypes Tryz.prog) (ds++gs)).all (·<=reachBytes)=true)(hL:laidMetH Tryz.prog Rows.freesRow.laid W):
  Calls Tryz.prog 3 args W fun e W'=>∃v,e=.returned v/\Rows.freesSpec.post enc Tryz.prog Tryz.f3 false true false false W args v W':=by
 have hW':=hW;obtain⟨p,q,hA0,hV,rfl,hfz,hnd⟩:=hW;have hA:DataW.TrodAll enc Tryz.prog W 0 (fun _=>true) true Tryz.f3.params.toList args.toList ds p:=hA0;rw[Tryz.params3]at hA hval;obtain⟨v0,vs0,d0,ds0,p0,q0,hargs,rfl,rfl,h0,r0⟩:=trodAll_cons hA;obtain⟨v1,vs1,d1,ds1,p1,q1,rfl,rfl,rfl,h1,r1⟩:=trodAll_cons r0;obtain⟨rfl,rfl,rfl⟩:=trodAll_nil r1;obtain rfl:args=#[v0,v1]:=by cases args;simp_all
 obtain⟨rfl,rfl⟩:=trodVars_none hV;obtain⟨a0,len0,cap0,rfl⟩:=okWide_slice Tryz.underlying22 (hval 0 22 v0 rfl rfl);have k0:=h0;have k1:=h1;have lt0:∀x∈p0,x.block<W.heap.size:=by obtain⟨m,hm⟩:=k0;exact DataW.trod_lt m _ _ _ hm
 have lt1:∀x∈p1,x.block<W.heap.size:=by obtain⟨m,hm⟩:=k1;exact DataW.trod_lt m _ _ _ hm
 obtain⟨n1,rfl,rfl,rfl,hw1⟩:=open_int Tryz.underlying3 (hval 1 3 v1 rfl rfl) h1;obtain⟨l,rfl,hl,hok,hcap⟩:=LF h0 (fun k hk=>of_decide_eq_true (all_eq_true.1 hsz k (DataW.weights_mem_each (j:=0) (t:=22) rfl rfl k hk)));clear hA0;refine(zv l a0 cap0 n1 W hl hok hcap (C8 hL) (LB hw1).2).mono fun e W' ⟨he,hs⟩=>?_
 subst he;have bel:=hs.below;exact⟨_,rfl,_,_,_,[],_,[],hW',trodAll_mk1 (shut_bool Tryz.underlying4 _),(trodAll_cons_mk (Below.trod laidOut (by kernel_rfl) (of_decide_eq_true (by kernel_rfl)) k0 bel lt0) (trodAll_cons_mk (Below.trod laidOut (by kernel_rfl) (of_decide_eq_true (by kernel_rfl)) k1 bel lt1) trodAll_mk0)),rfl,bel.frame _,fun h=>by cases h⟩
theorem reads(os:Os){H:Type}(enc:TypeId×Value->H):∃places,DataW.whole enc Tryz.prog ((qU os).forCall (fun _ _=>0) ⟨#[],#[.slice none 0 0,.int .i64 0],[]⟩).memory Tryz.f3.params.toList Rows.freesSpec.vars false #[Value.slice none 0 0,Value.int .i64 0].toList 8=some ([.nil,.lit (.int .i64 0)],[],places) :=
 ⟨[],by kernel_rfl⟩
theorem lifted(os:Os)(started:os.Started)(H:Type)(enc:TypeId×Value->H)(F:Stop.Interp):
  ReturnsInHanded {} Tryz.checked os 3 .any ((OpenSpec.ofChange Rows.freesSpec).preRow enc Tryz.prog Tryz.f3 Rows.freesRow.domain false Rows.freesRow.laid) (((OpenSpec.ofChange Rows.freesSpec).at F).post enc Tryz.prog Tryz.f3 false true false false):=by
 obtain⟨places,hx⟩:=reads os enc
 refine returnsInHanded_of_row (C:=Tryz.checked) (s:=OpenSpec.ofChange Rows.freesSpec) LD started (by kernel_rfl) Tryz.func3
  (witness_row_at (enc:=enc) (C:=Tryz.checked) false (qU os) #[.slice none 0 0,.int .i64 0] rfl (by kernel_rfl) (by kernel_rfl) (by kernel_rfl)
   (OpenSpec.preRow_of_cond 8 hx (by kernel_rfl) (fun k hk=>by cases hk) (by kernel_rfl) (vE os _))) ?_
 intro W base args ds gs before hval hW _ _ hsz hL _ _;exact contract H enc W base args ds gs before hval hW hsz hL
theorem said:Rows.FreesSaid :=
 OpenClaim.holds_of_cond 3 Tryz.f3 rfl rfl rfl rfl rfl rfl rfl ⟨rfl,rfl,rfl,rfl,rfl⟩ rfl rfl rfl rfl rfl (by kernel_rfl) Tryz.func3 (by kernel_rfl)
  (of_decide_eq_true (by kernel_rfl)) (by unfold Func.isWrapper;first|(rw[if_pos (by decide +kernel)];kernel_rfl)|(rw[if_neg (by decide +kernel)];exact⟨rfl,rfl⟩))
  (fun os started H enc _ F=>by rw[OpenClaim.pre_eq_preRow];exact lifted os started H enc F)
theorem plain(f:FuncId)(fn:Func)(hf:Tryz.pinned.checked.prog.funcNamed "versions/versionslaw.Frees" = some f)(hfn:Tryz.pinned.checked.prog.funcs[f]?=some fn):
  true=Tryz.pinned.checked.prog.looks []/\∀(j:Nat) t,fn.params[j]?=some t->Tryz.pinned.checked.prog.wantsStandIn t=false:=by
 obtain rfl:f=3:=Option.some.inj ((show Tryz.prog.funcNamed "versions/versionslaw.Frees" = some 3 by kernel_rfl).symm.trans hf) |>.symm
 obtain rfl:fn=Tryz.f3:=(Option.some.inj (Tryz.func3.symm.trans hfn)).symm;refine⟨by kernel_rfl,fun j t ht=>?_⟩;rw[Tryz.params3]at ht;have hm:=Array.mem_of_getElem? ht;rcases(by simpa using hm:t=22\/t=3)with rfl|rfl
 ·exact(show Tryz.prog.wantsStandIn 22=false by kernel_rfl)
 ·exact(show Tryz.prog.wantsStandIn 3=false by kernel_rfl)
theorem proved:Rows.FreesCardSaid :=
 Claim7.holds_tied_plain_at .later [] _ _ _ _ said (fun _ h=>by cases h) (by kernel_rfl) (fun _ h=>by cases h) frees_row_tie rfl ⟨rfl,rfl⟩ (by kernel_rfl) rfl plain (by kernel_rfl)
end Go.Proofs.YtdhobpbngkainabGreatDoor.freesDone
