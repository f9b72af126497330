/- Ours. A part of the proof, made small by a program. -/
import Derived.Test.YtdhobpbngkainaaGreatDoorGb06
set_option maxRecDepth 100000
set_option maxHeartbeats 16000000
namespace Go.Proofs.YtdhobpbngkainaaGreatDoor
open List Go.Proofs.Tryz
section
open Go.RowKit Go.Maps
theorem Reach.grow{D r:Bs}{at_:Nat}{s:Rh}(h:Reach D at_ s):at_<=D.length->Reach (D++r) at_ s:=by
 induction h with
 | zero=>exact fun _=>.zero
 | @next at_ s s' k body n h ho hs ih =>
  intro hl;refine .next (ih Nb) ?_ hs;refine kK ho ?_;rw[drop_append_of_le_length Nb,take_append_of_le_length Nz]
theorem sf{D b c:Bs}{a:Nat}(h1:dC D a b)(h2:dC D a c):b=c:=by
 have e1:b5 (D.drop a)=some (1,b,b.length+9):=kK h1.2 (by rw[take_take,Nat.min_self]);have e2:b5 (D.drop a)=some (1,c,c.length+9):=kK h2.2 (by rw[take_take,Nat.min_self]);rw[e1]at e2;simp only[NY,Prod.mk.injEq,true_and]at e2;exact e2.1
theorem JQ{K:KL}{D:Bs}(hk:∀e∈K,e.2.2=e.1.length/\dC D e.2.1 e.1){c:Bs}{q:Nat×Nat}(he:(c,q)∈K):jP K (q.1:Int)=some q.2:=by
 unfold jP
 cases hf:K.find? (fun e=>decide ((e.2.1:Int)=q.1))with
 | none=>exact absurd (find?_eq_none.1 hf _ he) Nh
 | some x =>
  have hx:=mem_of_find?_eq_some hf;have hx2:=find?_some hf;simp only[decide_eq_true_eq]at hx2;have h1:=hk x hx;have h2:=hk _ he;have hpos:x.2.1=q.1:=Nb
  rw[hpos]at h1;have:=sf h1.2 h2.2;simp only[Option.map_some,NY];rw[h1.1,h2.1,this]
theorem qY{K:KL}{D:Bs}(hk:∀e∈K,e.2.2=e.1.length/\dC D e.2.1 e.1):∀{N8:List (Nat×Nat)},(∀q∈N8,∃e∈K,e.2=q)->du (jP K) (bB N8)=some N8
 | [],_=>rfl
 | q::r,h=>by
  obtain⟨e,he,rfl⟩:=h q Nh
  have h1:=JQ hk (c:=e.1) (q:=e.2) he
  have h2:=qY hk (N8:=r) (fun x hx=>h x (by simp[hx]))
  unfold bB at h2 ⊢
  simp only[map_cons,du,h1,h2,Int.toNat_natCast]
variable {D:Bs} {X:Om} {ps:List bf} {pc:Nat} {cs:List kx} {cc:Nat} {ts:List fJ} {tc:Nat} {sz:List (OT Int)} {OJ at_:Nat} {s:Rh} {E:Prop}
theorem OE.more(h:OE D X ps pc cs cc ts tc sz OJ at_ s E)(r:Bs):OE (D++r) X ps pc cs cc ts tc sz OJ at_ s E :=
 { h with
  reach:=fun hE=>(h.reach hE).grow h.le
  le:=by have:=h.le;rw[NM];omega
  Pm:=fun e he=>by rw[take_append_of_le_length h.le];exact h.Pm e he }
theorem rr(D:Bs){k:UInt8}{body:Bs}(hk:k≠0)(hb:body.length<65536):b5 ((D++frame k body).drop D.length)=some (k,body,body.length+9):=by
 rw[drop_left];have:=jz k body [] hk hb;rwa [append_nil]at this
theorem OE.Qo{body:Bs}(h:OE D X ps pc cs cc ts tc sz OJ D.length s E)(hb:body.length<65536)(hD:D.length<=4294967296){v:Value}(hv:bQ v (bd cs (ed body)++[(D.length,body.length)])):
  OE (D++frame 1 body) { X with sc:=X.sc+1,sb:=X.sb+body.length } ps pc (eS cs cc (ed body) v (bd cs (ed body)++[(D.length,body.length)])) (cy (cs.map aR) cc (ed body)) ts tc (gJ sz OJ (D.length:Int) (.int .i64 body.length)) (cy sz OJ (D.length:Int)) (D++frame 1 body).length { s with K:=s.K++[(body,D.length,body.length)] } E:=by
 have:=(h.more (frame 1 body)).chunk (rr D Nk hb) hD hv;rw[NM,bi];exact this
theorem OE.XL{p:Bs}{num m b:Nat}{N8:List (Nat×Nat)}{cv v':Value}(h:OE D X ps pc cs cc ts tc sz OJ D.length s E)(hp:p.length<=255)(hnum:E->num<4294967296)(hm:m<65536)(hD:D.length<=4294967296)(hvl:(eC p num m (bB N8)).length<65536)(hc:∀q∈N8,∃e∈s.K,e.2=q)(hsum:(N8.map (·.2)).sum=m)(hcv:bQ cv N8)(hv:eP v' (ah ps p++[⟨b,num,m,cv,N8,0⟩])):
  OE (D++frame 2 (eC p num m (bB N8))) { X with used:=X.used+m } (j7 ps pc p v' ⟨b,num,m,cv,N8,0⟩) (cy (ps.map aR) pc p) cs cc ts tc sz OJ (D++frame 2 (eC p num m (bB N8))).length { s with H:=s.H++[⟨p,num,m,N8,0⟩] } E:=by
 have hkd:∀e∈s.K,e.2.2=e.1.length/\dC D e.2.1 e.1:=fun e he=>by
  obtain⟨h1,-,h3⟩:=h.Pm e he;rw[take_length]at h3;exact⟨h1,h3⟩
 have hr:=fun hE:E=>xy (p:=p) (num:=num) (size:=m) (ats:=bB N8) Nb (hnum hE) hm (fun n hn=>by
  obtain⟨q,hq,rfl⟩:=mem_map.1 hn;obtain⟨e,he,rfl⟩:=hc q hq;have:=(hkd e he).2.1;omega)
 have:=(h.more (frame 2 (eC p num m (bB N8)))).qaD Nk (rr D Nk hvl) hr hp (qY hkd hc) hsum hcv hv;rw[NM,bi];exact this
theorem OE.XJ{p m:Bs}{n:Nat}(h:OE D X ps pc cs cc ts tc sz OJ D.length s E)(hp:p.length<=255)(hm:m.length<=255)(hok:Py m)(hn:E->n<4294967296)(hbl:(eG p m n).length<65536):
  OE (D++frame 4 (eG p m n)) X (dk ps p n 1) pc cs cc (eS ts tc m (mn m (p,(n:Int))) (p,(n:Int))) (cy (ts.map aR) tc m) sz OJ (D++frame 4 (eG p m n)).length { s with H:=eZ s.H p n 1,T:=mZ s.T (m,p,(n:Int)) } E:=by
 have hs:E->gE D.length s 4 (eG p m n)=some { s with H:=eZ s.H p n 1,T:=mZ s.T (m,p,(n:Int)) }:=fun hE=>by
  unfold gE;rw[NQ Nk,Gv (.inl rfl) Nb Nb (hn hE)];dsimp only;rw[NR rfl]
 have:=(h.more (frame 4 (eG p m n))).qaB (rr D Nk hbl) Nb (vo h.tags hok (p,(n:Int))) (by rw[Cg,h.Qy]) (Br _ _) (fun hE t ht=>by
  rcases Bt ht with rfl|ht
  ·exact⟨by show m.length<=255;omega,by show p.length<=255;omega,by show(0:Int)<=n;omega,by show(n:Int)<4294967296;have:=hn hE;omega⟩
  ·exact(h.cnt hE).tag t ht) hs
 rw[NM,bi];exact this
theorem lA{κ:Type}{Ok:κ->Prop}{c:Nat}:OO Ok ([]:List (OT κ)) c:=⟨nodup_nil,nodup_nil,(fun e he=>by cases he),(fun e he=>by cases he)⟩
theorem OE.empty{X:Om}(hX:X.used=0/\X.sc=0/\X.sb=0):OE [] X [] 0 [] 0 [] 0 [] 0 ([]:Bs).length ⟨[],[],[]⟩ E where
 reach:=fun _=>.zero
 le:=Nat.le_refl _
 cnt:=fun _=>⟨Nh,(fun h hh=>by cases hh),(fun h hh=>by cases hh),(fun h hh=>by cases hh)⟩
 paths:=⟨lA,fun p hp=>by cases hp⟩
 chunks:=⟨lA,fun p hp=>by cases hp⟩
 tags:=⟨lA,fun p hp=>by cases hp⟩
 kin:=fun k=>by simp[bd,Qr]
 Pm:=fun e he=>by cases he
 hist:=fun l=>by simp[ah,Qr]
 VF:=fun p hp=>by cases hp
 SB:=fun h hh=>by cases hh
 used:=by rw[hX.1];rfl
 sc:=by rw[hX.2.1];rfl
 sb:=by rw[hX.2.2];rfl
 map:=lA
 get:=fun k=>by simp[dH,jP]
 Qy:=rfl
end
section
open Go.RowKit Go.Maps
def WT(now:Bs)(e n:Nat):Prop:=∃(us:Nat->Option (Nat×Nat)) (wh:Nat) (rest:List (Nat×Nat)),(∀k,k<2->oe now us k)/\fy (iL us 2)=(e,wh)::rest/\cD now 2=false/\wh<=n/\wh<4294967296
theorem WT.to{now now':Bs}{e n n':Nat}(h:WT now e n)(h0:∀k,k<2->aN now' k=aN now k)(hn:n<=n'):WT now' e n':=by
 obtain⟨us,wh,rest,h1,h2,h3,h4,h5⟩:=h;refine⟨us,wh,rest,fun k hk=>by unfold oe;rw[h0 k hk];exact h1 k hk,h2,?_,Nb,h5⟩;rw[<- h3];unfold cD;exact decide_eq_decide.2 ⟨fun h j hj=>by rw[<- h0 j hj];exact h j hj,fun h j hj=>by rw[h0 j hj];exact h j hj⟩
structure Told (S:AS) (rs:mG) (H:List HV) (E:Prop:=True):Prop where
 ok:tC rs
 data:S.data=cG rs
 run:kz 0 ⟨[],[],[]⟩ rs=some ⟨S.K,H,S.ts.map eV⟩
 hist:∀l,(ah S.ps l).map bu=(H.filter (fun h=>decide (h.p=l))).map bV
 sec:E->WT S.L.now S.X.ep S.data.length
 used:S.X.used=((H.map (·.size)).sum:Nat)
theorem lG(l:Bs)(k:Nat):aN l k=aB l k 1:=by unfold aN aB;rfl
theorem Told.flush{S:AS}{rs:mG}{H:List HV}{E:Prop}(h:Told S rs H E){L':Ol}(hf:L'.now=S.L.now):Told (gI S L') rs H E :=
 ⟨h.ok,h.data,h.run,h.hist,fun e=>(h.sec e).to (fun k _=>by show aN L'.now k=_;rw[hf]) (Nat.le_refl _),h.used⟩
def Lu(S S':AS):Prop:=(∀l,(ah S'.ps l).map bu=(ah S.ps l).map bu)/\S'.K=S.K/\S'.ts.map eV=S.ts.map eV
theorem Po.eX{d:Nat}{L:Ol}{q:Int}{e:Nat}{D:Bs}{S:AS}(h:Po d L q e D S):S.X.d=d/\S.X.ep=e/\S.X.quota=fO q/\S.X.closed=false/\S.X.broken=.nilIface:=by
 obtain⟨us,sc,sb,hX⟩:=h.X;refine⟨?_,?_,?_,?_,?_⟩<;>(rw[hX];rfl)
theorem Told.open{S:AS}{rs:mG}{H:List HV}(h:Told S rs H)(hok:Oo S){d':Nat}{L':Ol}{q:Int}{S':AS}(hn:L'.n=S.L.n)(OY:L'.now=S.L.now)(ho:Po d' L' q S.X.ep (aB L'.now (2+S.X.ep%2*au L'.n) (au L'.n)) S'):
  ∃sz OJ,OE (S.data++an (128*S.A.count-S.data.length)) S'.X S'.ps S'.pc S'.cs S'.cc S'.ts S'.tc sz OJ S.data.length ⟨S.K,H,S.ts.map eV⟩/\S'.K=S.K/\S'.data=S.data:=by
 have hD:aB L'.now (2+S.X.ep%2*au L'.n) (au L'.n)=cG rs++an (128*S.A.count-S.data.length):=by
  have h1:=hok.dat.1;have h2:S.A.first=2+S.X.ep%2*au L'.n:=by rw[hok.first,hn]
  have h3:S.A.count=au L'.n:=by rw[hok.count,hn]
  rw[OY,<- h2,<- h3,h1,h.data]
 obtain⟨at_,s,sz,OJ,hct,href,hdat,hK⟩:=ho.ct;rw[hD]at hct href hdat;obtain⟨rfl,rfl⟩:=xL h.ok (hct.reach trivial) href h.run;refine⟨sz,OJ,by rw[h.data]at hct ⊢;exact hct,hK.symm,?_⟩;rw[hdat,take_left,h.data]
theorem Gw{S S':AS}(hok:Oo S){d':Nat}{L':Ol}{q:Int}{D0 D:Bs}(hn:L'.n=S.L.n)(ho:Po d' L' q S.X.ep D0 S'){sz:List (OT Int)}{OJ:Nat}{H:List HV}{rest:Bs}(hD:D=S.data++rest)(hct:OE D S'.X S'.ps S'.pc S'.cs S'.cc S'.ts S'.tc sz OJ S.data.length ⟨S.K,H,S.ts.map eV⟩)(hK:S'.K=S.K)(hdat:S'.data=S.data):Oo S':=by
 obtain⟨-,e2,-,-,e5⟩:=ho.eX
 have Yx:∀p∈S'.ps,∀V∈p.g,∃h∈H,bV h=bu V:=fun p hp V hV=>by
  have h1:=hct.hist p.key;rw[ia hct.paths hp]at h1;have h2:bu V∈p.g.map bu:=mem_map.2 ⟨V,hV,rfl⟩;rw[h1]at h2;obtain⟨h,hh,e⟩:=mem_map.1 h2;exact⟨h,(mem_filter.1 hh).1,e⟩
 refine⟨ho.dev.1,by rw[ho.dev.2.1,hn];exact hok.n16,by rw[ho.dev.2.1,hn];exact hok.Px,⟨by rw[ho.A.2.2.2.1];exact mo _,by rw[ho.A.2.2.2.2];simp,by rw[ho.A.2.2.2.2];intro s hs;cases hs⟩,by rw[ho.A.1,e2,ho.dev.2.1],by rw[ho.A.2.1,ho.dev.2.1],ho.A.2.2.1,ho.A.2.2.2.1,ho.dat,hct.paths,hct.tags,hct.chunks,?_,?_,?_,hct.VF,e5,by rw[e2];exact hok.ep⟩
 ·intro k;rw[hK];exact hct.kin k
 ·intro e he;rw[hK]at he;obtain⟨h1,-,h3⟩:=hct.Pm e he;refine⟨h1,?_⟩;rw[hD,take_left]at h3;rw[hdat];exact h3
 ·intro p hp V hV;obtain⟨h,hh,e⟩:=Yx p hp V hV;obtain⟨h1,h2⟩:=hct.SB h hh;unfold bV bu at e;simp only[Prod.mk.injEq]at e;rw[hK,<- e.2.1,<- e.2.2.1];exact⟨h1,h2⟩
theorem uZ:∀(l:List Bs) (a:Nat) (s:Rh),kz a s (l.map (fun c=>(1,c)))=some { s with K:=s.K++bW a l }
 | [],a,s=>by simp[kz,bW]
 | c::l,a,s=>by
  simp only[map_cons,kz,gE,if_true,Option.bind_some,bW]
  rw[uZ l]
  simp only[NY,Rh.mk.injEq,and_true,NV,cons_append,nil_append]
  rw[Nat.add_assoc]
theorem Ap(l:List Bs):cG (l.map (fun c=>((1:UInt8),c)))=dc l:=by
 unfold cG dc;rw[map_map];rfl
theorem IE{S:AS}(hok:Oo S){N8:List (Nat×Nat)}(h:∀q∈N8,∃e∈S.K,e.2=q):du (jP S.K) (bB N8)=some N8:=qY hok.Pm h
theorem uH:∀{l:List Nat} {n:Nat},n∈l->n<=l.sum
 | a::r,n,h=>by
  rw[sum_cons]
  rcases mem_cons.1 h with rfl|h
  ·omega
  ·have:=uH h;omega
theorem Told.put{S S':AS}{rs:mG}{H:List HV}{E:Prop}(h:Told S rs H E)(hok:Oo S)(hok':Oo S'){l D:Bs}{V:Oe}(hp:PW S S' l D V)(hl:l.length<=20)(hD:D.length<=4000)(hnum:V.num<4294967296)(hdl:S'.data.length<4294967296):
  Told S' (rs++(bJ S D).map (fun c=>(1,c))++[(2,eC l V.num V.size (bB V.N8))]) (H++[⟨l,V.num,V.size,V.N8,0⟩]) E:=by
 have hfl:∀c∈bJ S D,c.length<65536:=fun c hc=>by
  have h1:=i8 S D;have h2:c.length<=((bJ S D).map length).sum:=uH (mem_map.2 ⟨c,hc,rfl⟩);omega
 have X6:V∈ah S'.ps l:=by rw[hp.vers,NR rfl];simp
 obtain⟨p,hpm,-,hpg⟩:=ft (ne_nil_of_mem X6);have hV:=hok'.vers p hpm V (hpg ▸ X6)
 have hdat:S'.data=cG (rs++(bJ S D).map (fun c=>(1,c))++[(2,eC l V.num V.size (bB V.N8))]):=by
  rw[hp.data,eE,eE,Ap,h.data];simp[cG]
 have hvl:(eC l V.num V.size (bB V.N8)).length<65536:=by
  have h1:=fg l V.num V.size V.N8;rw[bi]at h1;have h2:=uC D;have h3:=hp.YE;have h4:(aD D).length=(aI D).length:=by unfold aD;rw[cI]
  omega
 refine⟨fun r hr=>?_,hdat,?_,fun m=>?_,?_,?_⟩
 ·rcases mem_append.1 hr with hr|hr
  ·rcases mem_append.1 hr with hr|hr
   ·exact h.ok r hr
   ·obtain⟨c,hc,rfl⟩:=mem_map.1 hr;exact⟨show(1:UInt8)≠0 by decide,hfl c hc⟩
  ·obtain rfl:=mem_singleton.1 hr;exact⟨show(2:UInt8)≠0 by decide,hvl⟩
 ·have hr:=xy (p:=l) (num:=V.num) (size:=V.size) (ats:=bB V.N8) Nb hnum (by rw[hp.size];omega) (fun n hn=>by
   obtain⟨q,hq,rfl⟩:=mem_map.1 hn;obtain⟨e,he,rfl⟩:=hV.1 q hq;have:=(hok'.Pm e he).2.1;omega)
  rw[im,im,h.run,Option.bind_some,uZ,Option.bind_some];have hKe:S.K++bW (0+(cG rs).length) (bJ S D)=S'.K:=by rw[hp.K,Nat.zero_add,<- h.data]
  simp only[kz,gE];rw[NQ Nk,hr];dsimp only;rw[hKe,IE hok' hV.1];dsimp only;rw[NR hV.2.symm,hp.ts];rfl
 ·rw[hp.vers,filter_append,NW];by_cases hm:m=l
  ·subst hm;rw[NR rfl,NW,h.hist];congr 1;simp[bu,bV,hp.held]
  ·rw[NQ hm,h.hist];have:¬l=m:=fun e=>hm e.symm
   simp[this]
 ·intro hE;rw[hp.ep];exact(h.sec hE).to (fun k hk=>by rw[lG,hp.other k 1 (.inl (by rw[hok.first];omega)),<- lG]) (by rw[hp.data];simp)
 ·rw[hp.used,h.used,NW,sum_append];simp[hp.size]
def MI(k:Nat):Option (Nat×Nat):=if k=1 then some (1,0)else none
theorem Ld{now:Bs}(h1:aN now 1=bO 1 0)(h0:aN now 0=an 128)(n:Nat):WT now 1 n:=by
 refine⟨MI,0,[],fun k hk=>?_,rfl,?_,Nb,Nb⟩
 ·rcases(show k=0\/k=1 by omega)with rfl|rfl
  ·exact .inl ⟨rfl,fun e wh _ _ _ h=>Ec e wh (by rw[<- h,h0])⟩
  ·exact .inr ⟨1,0,rfl,h1,rfl,Nb,Nb⟩
 ·unfold cD;refine decide_eq_false (fun hz=>Ec 1 0 ?_);rw[<- h1];exact hz 1 Nb
theorem Ea{n:Nat}{q:Int}{d:Nat}{S:AS}(h:sU n q d S):Told S [] []:=by
 obtain⟨-,-,-,-,h5,-,-,h8,h9,h10,h11,-,-,h14,-,h16,h17⟩:=h;exact⟨(fun r hr=>by cases hr),by rw[h11];rfl,by rw[h10,h9];rfl,fun l=>by rw[h8];rfl,fun _=>by rw[h14];exact Ld h16 h17 _,by rw[h5];rfl⟩
def m8(S:AS)(L':Ol)(r:Bs):AS:={ S with A:={ S.A with end_:=(S.data++r).length,tail:=bK (S.data++r) },L:=L',data:=S.data++r }
structure PS (S:AS) (L':Ol) (r:Bs):Prop where
 dev:Ou L'
 n:L'.n=S.L.n
 dat:eD L'.now S.A.first S.A.count (S.data++r)
 oth:∀f2 c2,(f2+c2<=S.A.first\/S.A.first+S.A.count<=f2)->aB L'.now f2 c2=aB S.L.now f2 c2
 N8:L'.N8.length<=S.L.N8.length+r.length
theorem yZ{S:AS}{L':Ol}{r:Bs}(hok:Oo S)(h:PS S L' r):Oo (m8 S L' r) where
 dev:=h.dev
 n16:=by show 16<=L'.n;rw[h.n];exact hok.n16
 Px:=by show L'.n<=_;rw[h.n];exact hok.Px
 area:=⟨mo _,hok.area.few,hok.area.caps⟩
 first:=by show S.A.first=2+S.X.ep%2*au L'.n;rw[h.n];exact hok.first
 count:=by show S.A.count=au L'.n;rw[h.n];exact hok.count
 end_:=rfl
 tail:=rfl
 dat:=h.dat
 paths:=hok.paths
 tags:=hok.tags
 chunks:=hok.chunks
 kin:=hok.kin
 Pm:=fun e he=>⟨(hok.Pm e he).1,(hok.Pm e he).2.more⟩
 vers:=hok.vers
 some:=hok.some
 sound:=hok.sound
 ep:=hok.ep
def mH(sb:Nat)(rv:Value)(r:Bs):HF:=(sb,Is (.cells #[rv] 38 (0,0)))::aJ rv r
def zq(S:AS)(J:HF)(r:Bs)(w:World)(e:Ending)(w':World):Prop :=
 (128*S.A.count<S.data.length+r.length/\e=.returned (cr 8)/\aV w w') \/
 (S.data.length+r.length<=128*S.A.count/\e=.returned .nilIface/\∃L',PS S L' r/\Turns (N9 S++J) (N9 (m8 S L' r)++J) w w')
theorem kX(S:AS)(hok:Oo S)(b:Nat)(hB:QU S b)(hb:b<=90000)(rv:Value)(r:Bs)(sb:Nat)(w:World)(h:Sat w (N9 S++mH sb rv r))(hr:PE rv r)(hrl:r.length<=70000):
  Calls prog 82 #[.pointer (some ⟨S.a,0,none⟩),.slice (some ⟨sb,0,none⟩) 1 1] w (zq S (mH sb rv r) r w):=by
 have hsbo:=h.Q7 (b:=sb) (o:=.cells #[rv] 38 (0,0)) (by simp[mH]);have hT0:=(Turns.refl h).to (H:=((S.a,Is (aL S.X))::(aq S.X.ab S.X.d S.A++aA S.X.d S.L))++((aG S.X.pm S.ps S.pc++(bX S.X.tm S.ts S.tc++aQ S.X.cm S.cs S.cc))++mH sb rv r)) Ns;have hsum:fM [r]=r.length:=by simp[fM]
 have hout:∀x,x∈dom (mH sb rv r)->x∉dom (aq S.X.ab S.X.d S.A++aA S.X.d S.L):=fun x hx hd =>
  hT0.sat.Qh (b:=x) (by rw[gL];exact mem_cons_of_mem _ hd) (by rw[cM];exact mem_append_right _ hx)
 have hsub:Sat w (aJ rv r):=h.sub (fun x=>by unfold mH;simp only[af,ao];omega)
 refine(pY S.a S.X S.X.ab S.X.d rfl S.A S.L S.data [r] [rv] (some ⟨sb,0,none⟩) 1 w hT0.sat.left hok.sound hok.dev hok.fits hok.Px hok.end_ hok.tail hok.dat rfl Nh (by rw[hsum];omega) (by have:=hB.N8;rw[hsum];omega)
  (fun _=>⟨sb,0,rfl,fun j hj=>by
   obtain rfl:j=0:=by simp at hj;omega
   exact aa hsbo 0 rfl⟩) (fun x hx=>?_) (fun k h1 h2=>?_)).mono ?_
 ·simp only[NY]at hx;subst hx;exact hout sb (by simp[mH])
 ·obtain rfl:k=0:=by simp at h1;omega
  obtain⟨ka,kc,ke,-,YB,Uf,YC⟩:=aP (dh hsub hr);refine⟨ka,kc,ke,YB,EU (dh hsub hr) ke,Uf,fun x hx=>?_⟩;have hin:x.block∈dom (aJ rv r):=(eL _ _ _ _ _ _).2 (YC x hx);exact⟨hout x.block (by unfold mH;rw[gL];exact mem_cons_of_mem _ hin),hsub.lt hin⟩
 ·rintro e w' (⟨h1,rfl,hs⟩|⟨h1,rfl,L',hT,g1,g2,g3,g4,g5⟩)
  ·rw[hsum]at h1;exact .inl ⟨h1,rfl,hs⟩
  ·rw[hsum]at h1;have hf:[r].flatten=r:=Nh
   rw[hf]at hT g3 g5;refine .inr ⟨h1,rfl,L',⟨g1,g2,g3,g4,g5⟩,?_⟩;have h5:=hT0.step (F:=aq S.X.ab S.X.d S.A++aA S.X.d S.L) (R:=(S.a,Is (aL S.X))::((aG S.X.pm S.ps S.pc++(bX S.X.tm S.ts S.tc++aQ S.X.cm S.cs S.cc))++mH sb rv r)) ac hT;refine h5.to ?_;unfold N9 m8;exact ac
def r9(S:AS)(p:Bs)(ns:List Int)(v':Value)(L':Ol):AS :=
 { m8 S L' (frame 3 (fP p ns))with X:=jd S.X (S.X.used-(cw ns (ah S.ps p):Nat)),ps:=kd S.ps S.pc p v' ns }
theorem I3{S:AS}{p:Bs}{ns:List Int}{v':Value}{L':Ol}(hok:Oo S)(h:PS S L' (frame 3 (fP p ns)))(hl:Py p)(hv:eP v' (dW ns (ah S.ps p)))(hne:ah S.ps p≠[]):Oo (r9 S p ns v' L'):=by
 have hr:=yZ hok h;obtain⟨q,hq,hqk,hqg⟩:=mt hne;refine { hr with paths:=Az hok.paths hl hv hne,some:=wZ hok.some,vers:=fun x hx V hV=>?_ };have hx2:x∈kd S.ps S.pc p v' ns:=hx;unfold kd at hx2;split at hx2
 ·exact hok.vers x (mem_filter.1 hx2).1 V hV
 ·rcases iJ hx2 with⟨h1,_⟩|⟨_,_,h3⟩
  ·exact hok.vers x h1 V hV
  ·rw[h3]at hV;exact hok.vers q hq V (hqg ▸ (mem_filter.1 hV).1)
def j6(S:AS)(p:Bs)(ns:List Int)(J:HF)(w:World)(e:Ending)(w':World):Prop :=
 (128*S.A.count<S.data.length+(frame 3 (fP p ns)).length/\e=.returned (cr 8)/\Turns (N9 S++J) (N9 S++J) w w') \/
 (S.data.length+(frame 3 (fP p ns)).length<=128*S.A.count/\e=.returned .nilIface/\∃v' L',PS S L' (frame 3 (fP p ns))/\eP v' (dW ns (ah S.ps p))/\Turns (N9 S++J) (N9 (r9 S p ns v' L')++J) w w')
theorem JS{S:AS}{b:Nat}(_:Oo S)(hB:QU S b)(hb:b<=90000)(p:Bs):rP S.X.used (ah S.ps p):=by
 have hu:=hB.used;by_cases hne:ah S.ps p=[]
 ·rw[hne];exact⟨Nb,Nb,Nh,Nh⟩
 ·obtain⟨q,hq,hqk,hqg⟩:=mt hne;have h1:=hB.vers q hq
  have h2:((ah S.ps p).map (·.size)).sum<=65536*b*(ah S.ps p).length:=by
   rw[hqg]
   have:∀l:List Oe,(∀V∈l,V.size<=65536*b)->(l.map (·.size)).sum<=65536*b*l.length:=fun l=>by
    induction l with
    | nil=>intro _;simp
    | cons V r ih =>
     intro h;have h1:=h V Nh;have h2:=ih (fun x hx=>h x (by simp[hx]));simp only[map_cons,sum_cons,length_cons,Nat.mul_add,Nat.mul_one];omega
   exact this _ (fun V hV=>(h1.2.2 V hV).2.2.1)
  have h3:(ah S.ps p).length<=b:=by rw[hqg];exact h1.2.1
  have h4:65536*b*(ah S.ps p).length<=65536*90000*90000:=Nat.mul_le_mul (Nat.mul_le_mul (Nat.le_refl _) hb) Nb;exact⟨Nb,Nb,Nb,Nb⟩
theorem qC(S:AS)(hok:Oo S)(b:Nat)(hB:QU S b)(hb:b<=90000)(p:Bs)(v:Value)(ns:List Int)(w:World)(h:Sat w (N9 S++ck v ns))(Ph:RJ v ns)(hp:p.length<=255)(hn:∀n∈ns,I64 n)(hnl:ns.length<=15000)(hne:ah S.ps p≠[]):
  Calls prog 110 #[.pointer (some ⟨S.a,0,none⟩),str p,v] w (j6 S p ns (ck v ns) w):=by
 obtain⟨sl,cap,hv,-,-,hcs,-⟩:=aP (aW h.right Ph);have hrl:(frame 3 (fP p ns)).length<=70000:=by simp only[bi,fP,NM,bS,dL];omega
 have HW:=NZ (fun W (hW:aV w W)=>sR 3 p sl cap ns W (hcs.keep hW (fun _ _ _=>id)) hp hn Nb);obtain⟨rec,hrec⟩:=Na (frame 3 (fP p ns));rw[<- hrec]at HW hrl;have hal:S.a<w.heap.size:=ae (h.Q7 (b:=S.a) (o:=aL S.X) Nv);have HH:=Uh h Ph hok hB hne hrec hp hrl;clear h Ph hok hB hne hrec hcs hp hn hrl;subst hv;go_enter func110,ntmps110;go_wp2_with fail;refine(HW.o _ (N7.refl _ _)).mono ?_;rintro e w1 ⟨rv,rfl,OB,hT1⟩;obtain⟨ra,rc,RX,-⟩:=aP (dh hT1.sat OB);subst RX;have hT2:=((Turns.refl HH.a).Qb hT1).Q9 (.cells #[.slice ra rec.length rc] 38);have Oa:=hT2.to (H:=(N9 S++mH w1.heap.size (.slice ra rec.length rc) rec)++ck (.slice sl ns.length cap) ns) (by unfold mH;exact ac);have HC:=NZ (kX S HH.c b HH.d hb (.slice ra rec.length rc) rec w1.heap.size _ Oa.sat.left OB HH.t);have hal2:=ae (Oa.sat.Q7 (b:=S.a) (o:=aL S.X) Nv);have H3:=NZ Oa;clear hT1 hT2 Oa OB;go_wp2_with fail;refine HC.o.mono ?_;rintro e w2 (⟨Tf,rfl,hs⟩|⟨hfit,rfl,L',hR,Oj⟩)
 ·have H4:=Ob Tf (H3.o.Q8 hs);clear Tf hs;go_wp2_with fail;go_ret;refine (.inl ⟨by rw[<- HH.f];exact H4.a,rfl,?_⟩);exact H4.z.drop (fun x=>by simp only[af];omega)
 ·have Og:=H3.o.step (Perm.refl _) Oj;have Ox:=Og.to (H:=((S.a,Is (aL S.X))::(aG S.X.pm S.ps S.pc++ck (.slice sl ns.length cap) ns))++((aq S.X.ab S.X.d (m8 S L' rec).A++(aA S.X.d L'++(bX S.X.tm S.ts S.tc++aQ S.X.cm S.cs S.cc)))++mH w1.heap.size (.slice ra rec.length rc) rec)) (by unfold N9 m8;exact ac);have HD:=NZ (uh S.a S.X S.ps S.pc p (.slice sl ns.length cap) ns w2 Ox.sat.left HH.b HH.c.paths (by unfold Py;have:=HH.g;omega) HH.e (JS HH.c HH.d hb p) Nb);have hal3:S.a<w2.heap.size:=ae Ox.sat.Q5;have H6:=Oz Ox hfit hR;clear Oj Og Ox hfit hR;go_wp2_with fail;refine HD.o.mono ?_;rintro e w3 ⟨v',rfl,hv',OH⟩;have H7:=Ob hv' (H6.a.step (Perm.refl _) OH);clear hv' OH;go_wp2_with fail;go_ret;refine (.inr ⟨by rw[<- HH.f];exact H6.b,rfl,v',L',by rw[<- HH.f];exact H6.y,H7.a,?_⟩);refine H7.z.drop (fun x=>?_);unfold r9 N9 m8 jd;rw[<- HH.f];simp only[ao,af];omega
theorem l5(k:UInt8)(m p:Bs)(n:Int)(w:World):Calls prog 113 #[.int .u8 k.toNat,ry m p n] w (fun e w'=>e=.returned (.agg #[.int .u8 k.toNat,str p,str m,.int .i64 n])/\aV w w'):=by
 unfold ry;go_enter func113,ntmps113;go_upto_region 1 with(fail);generalize hW:(w.alloc _).alloc _=W;have hs:aV w W:=by rw[<- hW];exact((N7.refl _ w).alloc _).alloc _
 have OB:W.heap[w.heap.size]?=some (.cells #[str m,str p,.int .i64 n] 230 (0,0)):=by rw[<- hW];exact((N7.refl (fun _=>False) _).alloc _).at (aM w _) id
 have hro:W.heap[w.heap.size+1]?=some (.cells #[.int .u8 0,.string ⟨#[]⟩,.string ⟨#[]⟩,.int .i64 0] 233 (0,0)):=by
  rw[<- hW];have:=aM (w.alloc (.cells #[str m,str p,.int .i64 n] 230)) (.cells #[.int .u8 0,.string ⟨#[]⟩,.string ⟨#[]⟩,.int .i64 0] 233);rwa [World.size_alloc]at this
 have b0:W.cell? ⟨w.heap.size,0,none⟩=some (str m):=aa OB 0 rfl;have b1:W.cell? ⟨w.heap.size,1,none⟩=some (str p):=aa OB 1 rfl;have b2:W.cell? ⟨w.heap.size,2,none⟩=some (.int .i64 n):=aa OB 2 rfl;obtain⟨q1,q2⟩:=dQ hro [.int .u8 k.toNat,str p,str m,.int .i64 n] Nh;have HX:=Oz (dA (C:=#[.int .u8 0,.string ⟨#[]⟩,.string ⟨#[]⟩,.int .i64 0]) hro 0 4 Nh) q1 (hs.trans' q2 (fun i hi=>.inr Nb));clear hW hs OB hro q1 q2;go_wp2_with ((refine wpList_store_mid rfl 233 (.tmp 4) (.tmp 13) rfl (w.heap.size+1) 0 #[.int .u8 k.toNat,str p,str m,.int .i64 n] rfl rfl HX.a Nc (by simp[Value.oneCell']) ?_));refine bodyPost_ret (results_cell_row rfl _ _ (w.heap.size+1) 233 _ (0,0) _ rfl HX.b underlying233 rfl Nc) rfl ?_;exact⟨rfl,HX.y⟩
def Lo:Value:=.agg #[.string ⟨#[]⟩,.string ⟨#[]⟩,.int .i64 0]
theorem kw(w:World):(zeroValue 230).run prog w=.ok Lo w:=Nc
def Lg(S:AS)(m p:Bs)(n:Nat)(L':Ol):AS:={ m8 S L' (frame 4 (eG p m n))with ps:=dk S.ps p n 1,ts:=eS S.ts S.tc m (mn m (p,(n:Int))) (p,(n:Int)),tc:=cy (S.ts.map aR) S.tc m }
def zg(S:AS)(m p:Bs)(n:Int)(L':Ol):AS:={ m8 S L' (frame 5 (eG p m n))with ps:=dk S.ps p n (-1),ts:=bM S.ts m }
theorem EL{S S':AS}(h:Oo S'){p:Bs}{n d:Int}{ts:List fJ}{tc:Nat}(ht:O6 ts tc)(hS:S={ S' with ps:=dk S'.ps p n d,ts:=ts,tc:=tc }):Oo S:=by
 subst hS;refine { h with paths:=AN h.paths p n d,tags:=ht,some:=xg h.some,vers:=fun q hq V hV=>?_ };obtain⟨q0,hq0,rfl⟩:=mem_map.1 (show q∈dk S'.ps p n d from hq);split at hV
 ·obtain⟨V0,hV0,rfl⟩:=mem_map.1 hV;have:=h.vers q0 hq0 V0 hV0;obtain⟨-,-,e3,-,e5⟩:=i9 n d V0;rw[e3,e5];exact this
 ·exact h.vers q0 hq0 V hV
theorem Ce{ts:List fJ}{tc:Nat}(h:O6 ts tc){m:Bs}(hm:Py m)(g:Bs×Int):O6 (eS ts tc m (mn m g) g) (cy (ts.map aR) tc m):=by
 refine⟨by rw[iI];exact h.map.put hm _,fun q hq=>?_⟩;rcases iJ hq with⟨h1,_⟩|⟨h1,h2,h3⟩
 ·exact h.val q h1
 ·rw[h1,h2,h3]
theorem Cd{ts:List fJ}{tc:Nat}(h:O6 ts tc)(m:Bs):O6 (bM ts m) tc :=
 ⟨by rw[mP];exact h.map.del m,fun q hq=>h.val q (mem_filter.1 hq).1⟩
theorem Lh{S:AS}{m p:Bs}{n:Nat}{L':Ol}(hok:Oo S)(h:PS S L' (frame 4 (eG p m n)))(hm:Py m):Oo (Lg S m p n L') :=
 EL (S':=m8 S L' (frame 4 (eG p m n))) (yZ hok h) (Ce hok.tags hm (p,(n:Int))) rfl
theorem GY{S:AS}{m p:Bs}{n:Int}{L':Ol}(hok:Oo S)(h:PS S L' (frame 5 (eG p m n))):Oo (zg S m p n L') :=
 EL (S':=m8 S L' (frame 5 (eG p m n))) (yZ hok h) (Cd hok.tags m) rfl
def LP(S:AS)(m p:Bs)(n k:Int):Prop :=
 (S.X.closed=true/\k=9)\/(S.X.closed=false/\(az m&&az p)=false/\k=1)\/(az m=true/\az p=true/\S.X.closed=false/\kB S p n k)\/(∃V,az m=true/\iU S p n V/\((kh S.ts m=true/\k=6)\/(kh S.ts m=false/\128*S.A.count<S.data.length+(frame 4 (eG p m V.num)).length/\k=8)))
def Kc(S:AS)(m p:Bs)(n:Int)(w:World)(e:Ending)(w':World):Prop :=
 (∃k,LP S m p n k/\e=.returned (cr k)/\Turns (N9 S) (N9 S) w w') \/
 (∃V L',az m=true/\iU S p n V/\kh S.ts m=false/\S.data.length+(frame 4 (eG p m V.num)).length<=128*S.A.count/\e=.returned .nilIface/\PS S L' (frame 4 (eG p m V.num))/\Turns (N9 S) (N9 (Lg S m p V.num L')) w w')
theorem EK{S:AS}{b:Nat}(hB:QU S b)(hb:b<=90000)(p:Bs):∀V∈ah S.ps p,V.held.natAbs<=1099511627776:=fun V hV=>by
 obtain⟨q,hq,-,hqg⟩:=mt (ne_nil_of_mem hV)
 have:=((hB.vers q hq).2.2 V (hqg ▸ hV)).2.2.2
 omega
theorem Fu(S:AS)(m l:Bs)(n:Int)(b:Nat)(w:World)(h:Sat w (N9 S))(hok:Oo S)(hB:QU S b)(hb:b<=90000):
  Calls prog 66 #[.pointer (some ⟨S.a,0,none⟩),str m,str l,.int .i64 n] w (Kc S m l n w):=by
 have HBg:=NZ (fun W (hW:aV w W) (h0:W.cell? ⟨w.heap.size,0,none⟩=some (str m)) (h1:W.cell? ⟨w.heap.size,1,none⟩=some (str l))=>kD S.a S.X (some ⟨w.heap.size,0,none⟩) 2 [m,l] W (hW.at h.Q5 id) (fun _=>⟨_,_,rfl,fun j hj=>by
  rcases(show j=0\/j=1 by simp at hj;omega)with rfl|rfl
  ·exact h0
  ·exact h1⟩) Nh)
 have HF:=NZ (fun W (hW:aV w W)=>i6 S.a S.X S.ps S.pc l n W (h.same hW).Q5 ((h.same hW).tail.right.right.left) hok.paths);have hal:=ae h.Q5;have HH:=OW h hok hB hb;clear h hok hB hb;go_enter func66,ntmps66;go_wp2_with fail;have Uz:=aM w (.cells #[str m,str l] 9);refine(HBg.o _ ((N7.refl _ w).alloc _) (aa Uz 0 rfl) (aa Uz 1 rfl)).mono ?_;rintro e w1 ⟨rfl,hs1⟩;have hs2:aV w w1:=((N7.refl _ w).alloc _).trans hs1;obtain⟨cl,hcl⟩:=Na S.X.closed;obtain⟨pb,hpb⟩:=Na ((az m&&az l));have e1:([m,l].all az)=pb:=by simp[hpb]
 rw[e1,<- hcl];have HD:=Oz hcl hpb hs2;clear hcl hpb hs2 hs1 e1 Uz
 cases cl with
 | true =>
  simp only[if_true];unfold cr;go_wp2_with fail;go_ret;refine (.inl ⟨9,.inl ⟨HD.a.symm,rfl⟩,rfl,Turns.same HH.a HD.y⟩)
 | false =>
  cases pb with
  | false =>
   simp only[Bool.false_eq_true,if_false];unfold cr;go_wp2_with fail;go_ret;refine (.inl ⟨1,.inr (.inl ⟨HD.a.symm,HD.b.symm,rfl⟩),rfl,Turns.same HH.a HD.y⟩)
  | true =>
   simp only[Bool.false_eq_true,if_false,if_true];have Vt:az m=true/\az l=true:=by have:=HD.b.symm;simpa using this
   have HP:=NZ Vt;clear Vt;go_wp2_with fail;refine(HF.o _ HD.y).mono ?_;intro e w2 hp;obtain⟨hs,⟨k,hk,rfl⟩|⟨V,hV,rfl⟩⟩:=i7 hp
   ·have HK:=Ob hk (HD.y.trans hs);clear hp hs hk;unfold cr;go_wp2_with fail;go_ret;refine (.inl ⟨k,.inr (.inr (.inl ⟨HP.a,HP.z,HD.a.symm,HK.a⟩)),rfl,(Turns.same HH.a HK.z)⟩)
   ·have hT1:Turns (N9 S) (N9 S) w w2:=Turns.same HH.a (HD.y.trans hs);obtain⟨p,hpm,hpk,Sv⟩:=nT hV.2.2;have hps:Sat w2 (ee p.val p.g):=Sat.flat (f:=fun p:bf=>ee p.val p.g) (hT1.sat.tail.right.right.left).tail hpm;have Rt:=(Sat.flat (f:=bN) hps.right Sv:Sat w2 (bN V)).Q5;have v0:w2.cell? ⟨V.blk,0,none⟩=some (.int .i64 V.num):=aa Rt 0 rfl;have hvl:=ae Rt;have hnum:=(((HH.c.vers p hpm).2.2 V Sv).1);have hne:ah S.ps l≠[]:=fun e=>by have:=hV.2.2;rw[e]at this;cases this
    have a1:w2.cell? ⟨S.a,1,none⟩=some (.map (some S.X.tm)):=aa hT1.sat.Q5 1 rfl;have hal2:=ae hT1.sat.Q5;have RG:=hT1.sat.Q7 (b:=S.X.tm) (o:=aU str (S.ts.map aR) S.tc) (by simp[N9,bX]);have Zn:Py m:=by have:=dy HP.a;unfold Py;omega
    obtain⟨hb,hhb⟩:=Na (iB (S.ts.map aR) m)
    obtain⟨x0,x1,x2,hz⟩:∃x0 x1:Bs,∃x2:Int,(dH (S.ts.map aR) m).getD Lo=.agg #[str x0,str x1,.int .i64 x2]:=by
     cases hg:dH (S.ts.map aR) m with
     | none=>exact⟨[],[],0,rfl⟩
     | some u =>
      obtain⟨e,he,hek,hev⟩:=lu hg;obtain⟨q,hq,rfl⟩:=mem_map.1 he;have h3:=HH.b.tags.val q hq;refine⟨q.key,q.g.1,q.g.2,?_⟩;have:u=q.val:=hev.symm;rw[this,h3];rfl
    have HV:=Ry hV hT1 RG Zn hhb hz hne;clear hp hs hV hT1 hps Rt hpm hpk Sv hne RG Zn hhb hz;unfold dN;have hhg:kh S.ts m=hb:=by rw[HV.e,qp]
    have HG:=NZ hhg;clear hhg
    cases hb with
    | true =>
     go_wp2_with (at_lookup;refine ai rfl (iO dR (.tmp 39) (.tmp 40) rfl underlying120 HV.c HH.b.tags.map (kw _) m rfl rfl HV.d ?_);rw[HV.f,<- HV.e]);go_ret;refine (.inl ⟨6,.inr (.inr (.inr ⟨V,HP.a,HV.a,.inl ⟨HG.o,rfl⟩⟩)),rfl,HV.b.alloc _⟩)
    | false =>
     go_upto_region 11 with(at_lookup;refine ai rfl (iO dR (.tmp 39) (.tmp 40) rfl underlying120 HV.c HH.b.tags.map (kw _) m rfl rfl HV.d ?_);rw[HV.f,<- HV.e]);generalize hW:(w2.alloc _).alloc _=W
     have hT2:Turns (N9 S) ((w2.heap.size+1,Is (.cells #[str m,str l,.int .i64 V.num] 230 (0,0)))::N9 S) w W:=by
      rw[<- hW];have:=(HV.b.alloc (.cells #[str x0,str x1,.int .i64 x2] 230)).Q9 (.cells #[str m,str l,.int .i64 V.num] 230);rwa [World.size_alloc]at this
     have OB:=hT2.sat.Q5;have d0:W.cell? ⟨w2.heap.size+1,0,none⟩=some (str m):=aa OB 0 rfl;have d1:W.cell? ⟨w2.heap.size+1,1,none⟩=some (str l):=aa OB 1 rfl;have d2:W.cell? ⟨w2.heap.size+1,2,none⟩=some (.int .i64 V.num):=aa OB 2 rfl;obtain⟨pb,hpb⟩:=Na (w2.heap.size+1);rw[<- hpb]at hT2 d0 d1 d2 ⊢;have H2:=NZ hT2;clear hW hT2 OB hpb;go_wp2_with fail;refine(l5 4 m l V.num _).mono ?_;rintro e w3 ⟨rfl,hs3⟩;obtain⟨rec,hrec⟩:=Na (frame 4 (eG l m V.num))
     have hrl:rec.length<=70000:=by
      have:=dy HP.a;have:=dy HP.z;rw[hrec];simp only[bi,eG,NM,bS,bU];omega
     have X8:=ku 4 l m V.num w3 (by have:=dy HP.z;omega) (by have:=dy HP.a;omega) (by unfold I64;have:=HH.x;omega);rw[<- hrec]at X8;have HW:=NZ X8;have H3:=Oz (H2.o.Q8 hs3) hrec hrl;clear hs3 hrec hrl X8 d0 d1 d2;go_wp2_with fail;refine HW.o.mono ?_;rintro e w4 ⟨rv,rfl,OB,Oj⟩;obtain⟨ra,rc,RX,-⟩:=aP (dh Oj.sat OB);subst RX;have Og:=((H3.a.Qb Oj).Q9 (.cells #[.slice ra rec.length rc] 38)).to (H:=(N9 S++mH w4.heap.size (.slice ra rec.length rc) rec)++[(pb,Is (.cells #[str m,str l,.int .i64 V.num] 230 (0,0)))]) (by unfold mH;exact ac);have HC:=NZ (kX S HH.b b HH.c HH.x (.slice ra rec.length rc) rec w4.heap.size _ Og.sat.left OB H3.y);have X9:=ae (Og.sat.Q7 (b:=S.a) (o:=aL S.X) Nv);have H5:=NZ Og;clear Oj Og OB;go_wp2_with fail;refine HC.o.mono ?_;rintro e w5 (⟨Tf,rfl,hs⟩|⟨hfit,rfl,L',hR,Ox⟩)
     ·have H6:=Ob Tf (H5.o.Q8 hs);clear Tf hs;unfold cr;go_wp2_with fail;go_ret;refine (.inl ⟨8,.inr (.inr (.inr ⟨V,HP.a,HV.a,.inr ⟨HG.o,by rw[<- H3.b];exact H6.a,rfl⟩⟩)),rfl,?_⟩);exact H6.z.drop (fun x=>by simp only[af];omega)
     ·have OH:=H5.o.step (Perm.refl _) Ox;have OX:=OH.to (H:=jL S.a S.X S.ps S.pc S.ts S.tc++((aq S.X.ab S.X.d (m8 S L' rec).A++(aA S.X.d L'++aQ S.X.cm S.cs S.cc))++(mH w4.heap.size (.slice ra rec.length rc) rec++[(pb,Is (.cells #[str m,str l,.int .i64 V.num] 230 (0,0)))]))) (by unfold N9 m8 jL;exact ac);have SC:=OX.sat.Q7 (b:=pb) (o:=.cells #[str m,str l,.int .i64 V.num] 230 (0,0)) Nh;have d0:w5.cell? ⟨pb,0,none⟩=some (str m):=aa SC 0 rfl;have d1:w5.cell? ⟨pb,1,none⟩=some (str l):=aa SC 1 rfl;have d2:w5.cell? ⟨pb,2,none⟩=some (.int .i64 V.num):=aa SC 2 rfl;have ZA:S.a<w5.heap.size:=ae (OX.sat.Q7 (b:=S.a) (o:=aL S.X) (by simp[jL]));have H8:=Oz OX hfit hR;clear Ox OH OX SC hfit hR;go_wp2_with fail;refine wp_region_still_tail 4 HM.o Nc ?_;simp only[QE,take_zero,QD,drop_zero];repeat still_step
      refine wpStill_nil ?_;change wpList _ _ _ _ _ w5.drew;have O4:=H8.a.drew;have HPn:=NZ (xu S.a S.X S.ps S.pc S.ts S.tc m l V.num w5.drew ⟨O4.sat.left,HH.b.paths,HH.b.tags,HV.d,by unfold Py;have:=dy HP.z;omega,by have:=zh HH.c l;have:=HH.x;omega,EK HH.c HH.x l⟩);have H9:=NZ O4;clear O4 d0 d1 d2;go_wp2_with fail;refine HPn.o.mono ?_;rintro e w6 ⟨rfl,OM⟩;have QW:=NZ (H9.o.step (Perm.refl _) OM);clear OM;go_wp2_with fail;go_ret;refine (.inr ⟨V,L',HP.a,HV.a,HG.o,by rw[<- H3.b];exact H8.b,rfl,by rw[<- H3.b];exact H8.y,?_⟩);refine QW.o.drop (fun x=>?_);unfold Lg N9 m8 jL;rw[<- H3.b];simp only[ao,af];omega
theorem Gd(ns:List Int)(vs:List Oe):(dW ns vs).map bu=(vs.map bu).filter (fun t => !ns.contains (t.1:Int)):=by
 rw[filter_map];rfl
theorem I4(ns:List Int)(vs:List Oe):cw ns vs=(((vs.map bu).filter (fun t=>ns.contains (t.1:Int))).map (·.2.1)).sum:=by
 unfold cw;rw[filter_map,map_map];rfl
theorem FQ(H:List HV)(p:Bs)(ns:List Int):(H.map (·.size)).sum=((iV H p ns).map (·.size)).sum+(((((H.filter (fun h=>decide (h.p=p))).map bV).filter (fun t=>ns.contains (t.1:Int))).map (·.2.1)).sum):=by
 have h1:(H.map (·.size)).sum=(((H.filter (fun h=>decide (h.p=p)&&ns.contains (h.num:Int)))++(H.filter (fun h => !(decide (h.p=p)&&ns.contains (h.num:Int))))).map (·.size)).sum:=((filter_append_perm _ H).symm.map _).sum_nat;rw[NW,sum_append]at h1
 have h2:(((H.filter (fun h=>decide (h.p=p))).map bV).filter (fun t=>ns.contains (t.1:Int))).map (·.2.1)=(H.filter (fun h=>decide (h.p=p)&&ns.contains (h.num:Int))).map (·.size):=by
  rw[filter_map,map_map,filter_filter]
  have:H.filter (fun h=>((fun t:Nat×Nat×List (Nat×Nat)×Int=>ns.contains (t.1:Int)) ∘ bV) h&&decide (h.p=p))=H.filter (fun h=>decide (h.p=p)&&ns.contains (h.num:Int)):=filter_congr fun h _=>by
   show(ns.contains (h.num:Int)&&_)=_;rw[Bool.and_comm]
  rw[this];rfl
 rw[h2];unfold iV;omega
theorem F9(H:List HV)(p:Bs)(n d:Int):((eZ H p n d).map (·.size)).sum=(H.map (·.size)).sum:=by
 unfold eZ;rw[map_map];congr 1;refine map_congr_left fun x _=>?_
 simp only[Function.comp_apply];split<;>rfl
def tb2(n d:Int)(t:Nat×Nat×List (Nat×Nat)×Int):Nat×Nat×List (Nat×Nat)×Int:=if(t.1:Int)=n then(t.1,t.2.1,t.2.2.1,t.2.2.2+d)else t
theorem Dq{S:AS}{H:List HV}(h:∀l,(ah S.ps l).map bu=(H.filter (fun h=>decide (h.p=l))).map bV)(p:Bs)(n d:Int)(l:Bs):(ah (dk S.ps p n d) l).map bu=((eZ H p n d).filter (fun h=>decide (h.p=l))).map bV:=by
 have e0:(eZ H p n d).filter (fun h=>decide (h.p=l))=(H.filter (fun h=>decide (h.p=l))).map (fun h=>if h.p=p/\(h.num:Int)=n then { h with held:=h.held+d } else h):=by
  unfold eZ;rw[filter_map];congr 1;refine filter_congr fun x _=>?_
  simp only[Function.comp_apply];split<;>rfl
 rw[kj,e0,map_map];by_cases hl:l=p
 ·subst hl;rw[NR rfl,map_map];have h1:=congrArg (List.map (tb2 n d)) (h l);rw[map_map,map_map]at h1;refine Eq.trans (map_congr_left fun V _=>?_) (h1.trans (map_congr_left fun x hx=>?_))
  ·show bu (dV n d V)=tb2 n d (bu V);unfold tb2 dV;by_cases hV:(V.num:Int)=n
   ·rw[NR hV,NR (show((bu V).1:Int)=n from hV)];rfl
   ·rw[NQ hV,NQ (show ¬((bu V).1:Int)=n from hV)]
  ·have hx2:x.p=l:=by simpa using(mem_filter.1 hx).2
   show tb2 n d (bV x)=bV (if x.p=l/\(x.num:Int)=n then { x with held:=x.held+d } else x);unfold tb2;by_cases hV:(x.num:Int)=n
   ·rw[NR (show((bV x).1:Int)=n from hV),NR ⟨hx2,hV⟩];rfl
   ·rw[NQ (show ¬((bV x).1:Int)=n from hV),NQ (fun e=>hV e.2)]
 ·rw[NQ hl,h l];refine map_congr_left fun x hx=>?_
  have hx2:x.p=l:=by simpa using(mem_filter.1 hx).2
  simp only[Function.comp_apply];rw[NQ (fun e=>hl (hx2.symm.trans e.1))]
def pf(vs:List Oi)(k:Nat):List Oi:=vs.take k++vs.drop (k+1)
def DS(R:Oh)(k:Nat)(v':Value):Oh:={ R with vv:=v',vs:=pf R.vs k }
theorem BJ{R:Oh}{P:cU}{w W:World}(h:OD R P w){G:HF}(hT:Turns (aC R) (G++aC R) w W){sl:Option Addr}{cap:Nat}(e1:R.vv=.slice sl R.vs.length cap):
  W.cell? ⟨R.blk,0,none⟩=some (.slice sl R.vs.length cap)/\R.blk<W.heap.size/\(∀k,ak W sl (bG (R.vs.take k)))/\(∀k,k<=R.vs.length->ak W (if cap=k then sl else sl.map (·.add (k*4))) (bG (R.vs.drop k))):=by
 have hs:=hT.sat.right;obtain⟨sl',cap',e1',-,-,e4',e5'⟩:=xE (Sat.left (Sat.tail hs)) h.ok.vs;rw[e1]at e1';simp only[Value.slice.injEq,true_and]at e1';obtain⟨rfl,rfl⟩:=e1';exact⟨by rw[<- e1];exact aa hs.Q5 0 rfl,ae hs.Q5,e4',e5'⟩
def Hz(R:Oh)(k:Nat)(w:World)(e:Ending)(w':World):Prop :=
 ∃v',e=.returned (.tuple #[])/\mf v' (pf R.vs k)/\Turns (aC R) (aC (DS R k v')) w w'
theorem wj(R:Oh)(P:cU)(k:Nat)(w:World)(h:OD R P w)(hk:k<R.vs.length):
  Calls prog 112 #[.pointer (some ⟨R.blk,0,none⟩),.int .i64 k] w (Hz R k w):=by
 obtain⟨sl,cap,e1,e2,e3,hb,-⟩:=h.row;have c0:w.cell? ⟨R.blk,0,none⟩=some (.slice sl R.vs.length cap):=by rw[<- e1];exact aa hb 0 rfl
 have hbl:=ae hb;have hlen:=h.len;have hone:=h.one;have hT0:Turns (aC R) ([]++aC R) w w:=Turns.refl h.ref;obtain⟨-,-,d2,-⟩:=BJ h hT0 e1;obtain⟨k1,hk1⟩:=Na (k+1);have hk1z:(k:Int)+1=(k1:Int):=Nb
 have hk1l:k1<=R.vs.length:=Nb
 have hkl:k<=R.vs.length:=Nb
 have hk1c:k1<=cap:=Nb
 have TB:=NZ (fun(W:World) (G:HF) (hT:Turns (aC R) (G++aC R) w W)=>BJ h hT e1);have HH:=PD h hT0 d2 hone hk1;clear h hT0 d2 hone hk1 e1 hb;go_enter func112,ntmps112
 go_wp2_with (first
  | (at_builtin;refine ai rfl ?_;refine ip (.tmp 5) (.tmp 11) rfl (.slice none 0 0) [] rfl (G:=aC R) (show Turns (aC R) (eh (.slice none 0 0) []++aC R) w w from HH.b) ⟨rfl,fun _=>⟨rfl,rfl⟩⟩ _ _ _ rfl (R.vs.take k) (by rw[NS,Nat.min_eq_left hkl]) (HH.c k) (fun v hv=>HH.d v (mem_of_mem_take hv)) (by rw[NS,Nat.min_eq_left hkl];simp;omega) ?_;intro v7 w7 PN OH;simp only[nil_append]at PN OH;obtain⟨d0,d1,-,d3⟩:=TB.o _ _ OH;have H7:=Oz PN OH d3;clear PN OH d3)
  | (at_builtin;refine ai rfl ?_;refine ip (.tmp 13) (.tmp 20) rfl v7 (R.vs.take k) rfl H7.b H7.a _ _ _ rfl (R.vs.drop k1) NJ (H7.y k1 hk1l) (fun v hv=>HH.d v (mem_of_mem_drop hv)) Nj ?_;intro v9 w9 QS O4;obtain⟨d0,d1,-,-⟩:=TB.o _ _ O4;have Xv:=cT O4.sat.left QS;have H9:=Oz QS O4 Xv;clear QS O4 Xv)
  | (refine ai rfl (aX 57 (.tmp 25) (.tmp 23) rfl R.blk 0 (da R) 60 v9 (H9.b.to (H:=(R.blk,Is (fL R))::(eh v9 (R.vs.take k++R.vs.drop k1)++(eh R.vv R.vs++eH R.tv R.ts))) (by unfold aC;exact ac)) rfl rfl (by simp[da]) Nc H9.c H9.d ?_);intro w10 OM;have QW:=NZ OM;clear OM;simp only[Act.put]))
 all_goals
  refine bodyPost_end (results_none rfl _ _ _) rfl ?_;have hk1:=HH.w;refine⟨v9,rfl,?_,?_⟩
  ·unfold pf;rw[<- hk1];exact H9.a
  ·refine QW.o.drop (fun x=>?_);unfold aC DS pf;rw[<- hk1,show fL { R with vv:=v9,vs:=R.vs.take k++R.vs.drop k1 }=.cells ((da R).setIfInBounds 0 v9) 60 (0,0)from rfl];simp only[ao,af];omega
theorem me{R:Oh}{p:Bs}{n:Int}{v:Oi}(h:qy R p n=some v):∃k:Nat,bZ R.vs p n R.vs.length=k/\∃hk:k<R.vs.length,R.vs[k]=v:=by
 unfold qy at h;split at h
 ·rename_i h0;obtain⟨k,hk⟩:∃k:Nat,bZ R.vs p n R.vs.length=k:=⟨_,(Int.toNat_of_nonneg h0).symm⟩;rw[hk,Int.toNat_natCast]at h;obtain⟨hlt,he⟩:=List.getElem?_eq_some_iff.1 h;exact⟨k,hk,hlt,he⟩
 ·cases h
theorem gj{R:Oh}{p:Bs}{n:Int}{v:Oi}(h:cJ R p n=.ok v):R.closed=false/\az p=true/\qy R p n=some v:=by
 unfold cJ at h;split at h
 ·cases h
 ·rename_i hc;split at h
  ·rename_i hp;split at h
   ·rename_i v' hv;simp only[Except.ok.injEq]at h;subst h;exact⟨by simpa using hc,hp,hv⟩
   ·cases h
  ·cases h
def Ia(R:Oh)(p:Bs)(n:Int)(w:World)(e:Ending)(w':World):Prop :=
 (∃k,cJ R p n=.error k/\e=.returned (.int .i64 k)/\Turns (aC R) (aC R) w w') \/
 (∃v,cJ R p n=.ok v/\0<v.held/\e=.returned (.int .i64 5)/\Turns (aC R) (aC R) w w') \/
 (∃k v',∃hk:k<R.vs.length,cJ R p n=.ok R.vs[k]/\bZ R.vs p n R.vs.length=k/\R.vs[k].held<=0/\e=.returned (.int .i64 0)/\mf v' (pf R.vs k)/\Turns (aC R) (aC (DS R k v')) w w')
theorem oH(R:Oh)(P:cU)(p:Bs)(n:Int)(w:World)(h:OD R P w):
  Calls prog 63 #[.pointer (some ⟨R.blk,0,none⟩),str p,.int .i64 n] w (Ia R p n w):=by
 have HG:=NZ (kp R P p n w h);have HH:=NZ h;clear h;go_enter func63,ntmps63;go_wp2_with fail;refine HG.o.mono ?_;rintro e w1 ⟨hs,hm⟩
 cases hr:cJ R p n with
 | error k =>
  rw[hr]at hm;subst hm;have hk0:=jU hr;have HR:=Ob hr hs;clear hr hs;go_wp2_with fail;go_ret;refine (.inl ⟨k,HR.a,rfl,Turns.same HH.o.ref HR.z⟩)
 | ok v =>
  rw[hr]at hm;obtain⟨rfl,-⟩:=hm;obtain⟨-,-,hf⟩:=gj hr;obtain⟨k,hb,hk,hv⟩:=me hf;have hA1:=HH.o.same hs;have hcv:=hA1.one v (hv ▸ getElem_mem hk);have Y3:=NZ (kP R P p n w1 hA1);have HR:=OW hr hs hb hv;clear hr hs hf hb hA1 hcv;go_wp2_with fail;refine Y3.o.mono ?_;rintro e w2 ⟨rfl,hs2⟩;rw[HR.c];have hA2:=HH.o.same (HR.b.trans hs2);obtain⟨sl,cap,e1,e2,e3,OB,hcell⟩:=hA2.row;obtain⟨g,off,hg,hcc⟩:=hcell Nb;subst hg;obtain⟨-,-,-,h3⟩:=hcc k hk;rw[HR.x]at h3;have c0:w2.cell? ⟨R.blk,0,none⟩=some (.slice (some ⟨g,off,none⟩) R.vs.length cap):=by rw[<- e1];exact aa OB 0 rfl
  have hbl:=ae OB;have hgl:=World.block_lt_of_cell? w2 _ h3;have HS:=Ob (HR.b.trans hs2) hA2;have HRm:=NZ (wj R P k w2 hA2 hk);clear hs2 hA2 e1 OB hcell hcc;by_cases c1:0<v.held
  ·go_wp2_with fail;go_ret;refine (.inr (.inl ⟨v,HR.a,c1,rfl,Turns.same HH.o.ref HS.a⟩))
  ·go_wp2_with fail;refine HRm.o.mono ?_;rintro e w3 ⟨v',rfl,hv',hT⟩;have HT:=Ob hv' hT;clear hv' hT;go_wp2_with fail;go_ret;refine (.inr (.inr ⟨k,v',hk,by rw[HR.x];exact HR.a,HR.c,by rw[HR.x];omega,rfl,HT.a,Turns.Qg HH.o.ref HS.a HT.z⟩))
def mF(vs:List Oi)(p:Bs)(n:Int):Option Oi:=if 0<=bZ vs p n vs.length then vs[(bZ vs p n vs.length).toNat]? else none
def gw(p:Bs)(s:List Oi×Nat)(n:Int):List Oi×Nat :=
 match mF s.1 p n with
 | some v=>if v.held<=0 then(pf s.1 (bZ s.1 p n s.1.length).toNat,s.2+1)else s
 | none=>s
def ma(L:Nat)(keep:Int):Nat:=if keep<0 then L else((L:Int)-keep).toNat
def gS(R:Oh)(v':Value)(vs':List Oi):Oh:={ R with vv:=v',vs:=vs' }
def tA(R:Oh)(P:cU)(p:Bs)(keep:Int)(w:World)(e:Ending)(w':World):Prop :=
 (∃k,cJ R p 0=.error k/\e=.returned (.tuple #[.int .i64 0,.int .i64 k])/\Turns (aC R++ay P) (aC R++ay P) w w') \/
 (∃v,cJ R p 0=.ok v/\∃vs' c v',((gC R.vs p).take (ma (gC R.vs p).length keep)).foldl (gw p) (R.vs,0)=(vs',c)/\e=.returned (.tuple #[.int .i64 (c:Nat),.int .i64 0])/\mf v' vs'/\Turns (aC R++ay P) (aC (gS R v' vs')++ay P) w w')
def Cx(R:Oh)(P:cU)(p:Bs)(ns:List Int)(m:Nat)(nv:Value)(w:World)(cv i _f:Value)(W:World):Prop :=
 ∃(j c:Nat) (vs':List Oi) (v':Value),j<=m/\i=.int .i64 j/\cv=.int .i64 c/\(ns.take j).foldl (gw p) (R.vs,0)=(vs',c)/\mf v' vs'/\(∀v∈vs',v∈R.vs)/\vs'.length<=R.vs.length/\c<=j/\Turns (aC R++ay P) ((aC (gS R v' vs')++ay P)++ck nv ns) w W
theorem Am{vs:List Oi}{k:Nat}:∀v∈pf vs k,v∈vs:=fun v hv=>by
 rcases mem_append.1 hv with h|h
 ·exact mem_of_mem_take h
 ·exact mem_of_mem_drop h
theorem Al{vs:List Oi}{k:Nat}:(pf vs k).length<=vs.length:=by
 unfold pf;rw[NM,NS,NT];omega
theorem Dg{α β:Type}{f:β->α->β}{b:β}{l:List α}{k:Nat}(h:k<l.length):(l.take (k+1)).foldl f b=f ((l.take k).foldl f b) l[k]:=by
 rw[QH h,foldl_append];rfl
theorem yW(R:Oh)(P:cU)(p:Bs)(keep:Int)(w:World)(h:OD R P w)(hJ:Sat w (aC R++ay P))(hkr : -9223372036854775808<=keep/\keep<=9223372036854775807):
  Calls prog 65 #[.pointer (some ⟨R.blk,0,none⟩),str p,.int .i64 keep] w (tA R P p keep w):=by
 have HN:=NZ (m0 R P p w h);have hlenR:=h.len;have HH:=Ob h hJ;clear h hJ;go_enter func65,ntmps65;go_wp2_with fail;refine HN.o.mono ?_;intro e w1 hp;unfold it at hp
 cases hr:cJ R p 0 with
 | error k =>
  rw[hr]at hp;obtain⟨hs,rfl⟩:=hp;have hk0:=jU hr;have HR:=Ob hr hs;clear hr hs;go_wp2_with fail;go_ret2;refine (.inl ⟨k,HR.a,rfl,Turns.same HH.z HR.z⟩)
 | ok v0 =>
  rw[hr]at hp;obtain⟨nv,rfl,Ph,hT⟩:=hp;obtain⟨ns,hns⟩:=Na (gC R.vs p);rw[<- hns]at Ph hT;have hnl:ns.length<=100000:=by rw[hns];have:=rp R.vs p;omega
  have hT1:Turns (aC R++ay P) ((aC R++ay P)++ck nv ns) w w1:=((Turns.refl HH.z).Qb hT).to perm_append_comm;obtain⟨na,nc,hnv,-⟩:=aP (aW hT1.sat.right Ph);obtain⟨m,hm⟩:=Na (ma ns.length keep);have hml:m<=ns.length:=by rw[hm];unfold ma;split<;>omega
  obtain⟨-,Xq,-⟩:=gj hr;have HR:=RV hr hns hT1 Ph hm Xq;have hst:Cx R P p ns m (.slice na ns.length nc) w (.int .i64 0) (.int .i64 0) undef w1:=⟨0,0,R.vs,R.vv,Nat.zero_le _,rfl,rfl,rfl,HH.a.ok.vs,fun v h=>h,Nat.le_refl _,Nat.le_refl _,by rw[<- hnv];exact hT1⟩;have HST:=NZ hst;subst hnv;clear hr hns hT hT1 Ph hst Xq;go_wp2_with fail;go_loopw [10,11,12] (fun cv i f wr=>Cx R P p ns m (.slice na ns.length nc) w cv i f wr) (fun _ i _ _=>m-(intOf i).toNat)
  case atStart=>exact HST.o
  case round =>
   obtain⟨j,c,vs',v',hj,rfl,rfl,hf,hv',hsub,hle,hcj,hT⟩:=hrel;have hA:OD (gS R v' vs') P wr:=⟨hT.sat.left.left,⟨hv',HH.a.ok.ts⟩,hT.sat.left.right,HH.a.Ru,fun v hv=>HH.a.inp v (hsub v hv),by show vs'.length<=_;omega,fun v hv=>HH.a.TL v (hsub v hv)⟩;have HS:=PD hf hv' hsub hT hA;clear hf hv' hsub hT hA;by_cases hlt:j<m
   ·have hjn:j<ns.length:=Nb
    obtain⟨a',c',e1,-,-,hcells,-⟩:=aP (aW HS.d.sat.right HR.d);simp only[Value.slice.injEq]at e1;obtain⟨rfl,-,-⟩:=e1;obtain⟨g,off,hg,hcell⟩:=hcells Np;subst hg;obtain⟨n,hn⟩:=Na (ns[j]);have hck:wr.cell? ⟨g,off+j,none⟩=some (.int .i64 n):=by rw[hcell j (by simpa using hjn)];simp[hn,dw]
    have hgl:=World.block_lt_of_cell? wr _ hck;have HD:=NZ (oH (gS R v' vs') P p n wr HS.w);have hfn:=Dg (f:=gw p) (b:=(R.vs,0)) hjn;rw[HS.a,<- hn]at hfn;have HFN:=NZ hfn;clear hcells hcell hn hfn
    have hgo:∀(W':World) (f:Int) (s':List Oi×Nat) (v2:Value),gw p (vs',c) n=s'->(s'.2:Int)=(if f=0 then(c:Int)+1 else(c:Int))->mf v2 s'.1->(∀v∈s'.1,v∈R.vs)->s'.1.length<=R.vs.length->Turns (aC R++ay P) ((aC (gS R v2 s'.1)++ay P)++ck (.slice (some ⟨g,off,none⟩) ns.length nc) ns) w W'->∀fv,Cx R P p ns m (.slice (some ⟨g,off,none⟩) ns.length nc) w (.int .i64 (if f=0 then(c:Int)+1 else(c:Int))) (.int .i64 ((j:Int)+1)) fv W':=fun W' f s' v2 h1 h2 h3 h4 h5 h6 fv=>by
     refine⟨j+1,s'.2,s'.1,v2,Nb,by go_num,by rw[h2],by rw[HFN.o,h1],h3,h4,h5,?_,h6⟩;split at h2<;>omega
    have YO:=NZ hgo;clear hgo;have hc1:(j:Int)<(ns.length:Int):=Nb
    by_cases hkn:keep<0
    ·go_wp2_with fail;refine HD.o.mono ?_;rintro e w2 (⟨k,hk,rfl,hT⟩|⟨v,hv,hpos,rfl,hT⟩|⟨k,v2,hk,hg2,hb,hh,rfl,hv2,hT⟩)
     ·have hk0:=jU hk
      have hnf:mF vs' p n=none:=by
       have:=hk;unfold cJ at this;rw[show(gS R v' vs').closed=false from(gj HR.a).1,NQ Nh,NR HR.v]at this
       cases hf:mF vs' p n with
       | none=>rfl
       | some v=>rw[show qy (gS R v' vs') p n=some v from hf]at this;cases this
      have HX:=NZ (YO.o w2 k (vs',c) v' (by unfold gw;simp only[hnf]) (by rw[NQ hk0]) HS.b HS.c hle ((HS.d.step (F:=aC (gS R v' vs')) (R:=ay P++ck (.slice (some ⟨g,off,none⟩) ns.length nc) ns) ac hT).to ac));rw[NQ hk0]at HX;clear hT hnf hk;go_wp2_with fail;go_roundw
      case rel=>exact HX.o _
      case measure=>simp[intOf];omega
     ·obtain⟨k,hb,hk,hvk⟩:=me (gj hv).2.2;have hnf:mF vs' p n=some v:=(gj hv).2.2;have HX:=NZ (YO.o w2 5 (vs',c) v' (by unfold gw;simp only[hnf];rw[NQ Nb]) (by rw[NQ Nb]) HS.b HS.c hle ((HS.d.step (F:=aC (gS R v' vs')) (R:=ay P++ck (.slice (some ⟨g,off,none⟩) ns.length nc) ns) ac hT).to ac));rw[NQ Nb]at HX;clear hT hnf hv hb hk hvk;go_wp2_with fail;go_roundw
      case rel=>exact HX.o _
      case measure=>simp[intOf];omega
     ·have hnf:mF vs' p n=some (gS R v' vs').vs[k]:=(gj hg2).2.2;have hb2:bZ vs' p n vs'.length=k:=hb;have HX:=NZ (YO.o w2 0 (pf vs' k,c+1) v2 (by unfold gw;simp only[hnf];rw[NR hh,hb2,Int.toNat_natCast]) (by rw[NR rfl];rfl) hv2 (fun v hv=>HS.c v (Am v hv)) (Nat.le_trans Al hle) ((HS.d.step (F:=aC (gS R v' vs')) (R:=ay P++ck (.slice (some ⟨g,off,none⟩) ns.length nc) ns) ac hT).to (by unfold DS gS;exact ac)));rw[NR rfl]at HX;clear hT hnf hb2 hb hg2 hh hv2;go_wp2_with fail;go_roundw
      case rel=>exact HX.o _
      case measure=>simp[intOf];omega
    ·have hc2:(j:Int)<(ns.length:Int)-keep:=by rw[show m=_ from HR.e]at hlt;unfold ma at hlt;rw[NQ hkn]at hlt;omega
     go_wp2_with fail;refine HD.o.mono ?_;rintro e w2 (⟨k,hk,rfl,hT⟩|⟨v,hv,hpos,rfl,hT⟩|⟨k,v2,hk,hg2,hb,hh,rfl,hv2,hT⟩)
     ·have hk0:=jU hk
      have hnf:mF vs' p n=none:=by
       have:=hk;unfold cJ at this;rw[show(gS R v' vs').closed=false from(gj HR.a).1,NQ Nh,NR HR.v]at this
       cases hf:mF vs' p n with
       | none=>rfl
       | some v=>rw[show qy (gS R v' vs') p n=some v from hf]at this;cases this
      have HX:=NZ (YO.o w2 k (vs',c) v' (by unfold gw;simp only[hnf]) (by rw[NQ hk0]) HS.b HS.c hle ((HS.d.step (F:=aC (gS R v' vs')) (R:=ay P++ck (.slice (some ⟨g,off,none⟩) ns.length nc) ns) ac hT).to ac));rw[NQ hk0]at HX;clear hT hnf hk;go_wp2_with fail;go_roundw
      case rel=>exact HX.o _
      case measure=>simp[intOf];omega
     ·obtain⟨k,hb,hk,hvk⟩:=me (gj hv).2.2;have hnf:mF vs' p n=some v:=(gj hv).2.2;have HX:=NZ (YO.o w2 5 (vs',c) v' (by unfold gw;simp only[hnf];rw[NQ Nb]) (by rw[NQ Nb]) HS.b HS.c hle ((HS.d.step (F:=aC (gS R v' vs')) (R:=ay P++ck (.slice (some ⟨g,off,none⟩) ns.length nc) ns) ac hT).to ac));rw[NQ Nb]at HX;clear hT hnf hv hb hk hvk;go_wp2_with fail;go_roundw
      case rel=>exact HX.o _
      case measure=>simp[intOf];omega
     ·have hnf:mF vs' p n=some (gS R v' vs').vs[k]:=(gj hg2).2.2;have hb2:bZ vs' p n vs'.length=k:=hb;have HX:=NZ (YO.o w2 0 (pf vs' k,c+1) v2 (by unfold gw;simp only[hnf];rw[NR hh,hb2,Int.toNat_natCast]) (by rw[NR rfl];rfl) hv2 (fun v hv=>HS.c v (Am v hv)) (Nat.le_trans Al hle) ((HS.d.step (F:=aC (gS R v' vs')) (R:=ay P++ck (.slice (some ⟨g,off,none⟩) ns.length nc) ns) ac hT).to (by unfold DS gS;exact ac)));rw[NR rfl]at HX;clear hT hnf hb2 hb hg2 hh hv2;go_wp2_with fail;go_roundw
      case rel=>exact HX.o _
      case measure=>simp[intOf];omega
   ·obtain rfl:j=m:=Nb
    have hfin:tA R P p keep w (.returned (.tuple #[.int .i64 (c:Nat),.int .i64 0])) wr:=.inr ⟨v0,HR.a,vs',c,v',by rw[<- HR.b,<- HR.e];exact HS.a,rfl,HS.b,HS.d.left⟩;have HF:=NZ hfin;clear hfin;have hmv:j=ma ns.length keep:=HR.e;unfold ma at hmv;by_cases hc1:(j:Int)<(ns.length:Int)
    ·have hkn:¬keep<0:=fun h=>by rw[NR h]at hmv;omega
     have hc2:¬(j:Int)<(ns.length:Int)-keep:=by rw[NQ hkn]at hmv;omega
     clear hmv;go_wp2_with fail;go_ret2;exact HF.o
    ·clear hmv;go_wp2_with fail;go_ret2;exact HF.o
def Cq(S:AS)(p:Bs)(n:Int)(w:World)(e:Ending)(w':World):Prop :=
 (∃k,kB S p n k/\e=.returned (cr k)/\Turns (N9 S) (N9 S) w w') \/
 (∃V,iU S p n V/\((0<V.held/\e=.returned (cr 5)/\Turns (N9 S) (N9 S) w w')\/(V.held<=0/\j6 S p [(V.num:Int)] [] w e w')))
theorem I9(w:World)(x:Int):Turns [] (ck (.slice (some ⟨w.heap.size,0,none⟩) 1 1) [x]) w (w.alloc (.cells #[.int .i64 x] 3))/\RJ (.slice (some ⟨w.heap.size,0,none⟩) 1 1) [x]:=by
 refine⟨?_,rfl,fun h=>by simp[Value.ownBlock]at h⟩;exact(Turns.refl (Sat.nil w)).Qe (φ:=fun o=>∃cap cur,(Value.slice (some ⟨w.heap.size,0,none⟩) 1 1)=.slice (some ⟨w.heap.size,0,none⟩) 1 cap/\o=.cells cur 3 (0,0)/\1<=cap/\cap<=maxLen/\cur.size=cap*1/\cur.toList.take (1*1)=[dw x]) ⟨1,#[.int .i64 x],rfl,rfl,Nb,by unfold maxLen;omega,rfl,rfl⟩
theorem j6.less{S:AS}{p:Bs}{ns:List Int}{J F:HF}{a w:World}{e:Ending}{w':World}(h0:Turns F (N9 S++J) a w)(h:j6 S p ns J w e w'):
  (128*S.A.count<S.data.length+(frame 3 (fP p ns)).length/\e=.returned (cr 8)/\Turns F (N9 S++J) a w') \/
  (S.data.length+(frame 3 (fP p ns)).length<=128*S.A.count/\e=.returned .nilIface/\∃v' L',PS S L' (frame 3 (fP p ns))/\eP v' (dW ns (ah S.ps p))/\Turns F (N9 (r9 S p ns v' L')++J) a w'):=by
 rcases h with⟨h1,h2,h3⟩|⟨h1,h2,v',L',h3,h4,h5⟩
 ·exact .inl ⟨h1,h2,h0.trans h3⟩
 ·exact .inr ⟨h1,h2,v',L',h3,h4,h0.trans h5⟩
theorem xY(S:AS)(l:Bs)(n:Int)(b:Nat)(w:World)(h:Sat w (N9 S))(hok:Oo S)(hB:QU S b)(hb:b<=90000):
  Calls prog 62 #[.pointer (some ⟨S.a,0,none⟩),str l,.int .i64 n] w (Cq S l n w):=by
 have HF:=NZ (i6 S.a S.X S.ps S.pc l n w h.Q5 (h.tail.right.right.left) hok.paths);have HH:=OW h hok hB hb;clear h hok hB hb;go_enter func62,ntmps62;go_wp2_with fail;refine HF.o.mono ?_;intro e w1 hp;obtain⟨hs,⟨k,hk,rfl⟩|⟨V,hV,rfl⟩⟩:=i7 hp
 ·have HK:=Ob hk hs;clear hp hs hk;unfold cr;go_wp2_with fail;exact bodyPost_ret (results_tmp rfl _ _ _) rfl (.inl ⟨k,HK.a,rfl,(Turns.same HH.a HK.z)⟩)
 ·obtain⟨p,hpm,hpk,Sv⟩:=nT hV.2.2;have hT1:Turns (N9 S) (N9 S) w w1:=Turns.same HH.a hs;have hps:Sat w1 (ee p.val p.g):=Sat.flat (f:=fun p:bf=>ee p.val p.g) (hT1.sat.tail.right.right.left).tail hpm;have Rt:=(Sat.flat (f:=bN) hps.right Sv:Sat w1 (bN V)).Q5;have v0:w1.cell? ⟨V.blk,0,none⟩=some (.int .i64 V.num):=aa Rt 0 rfl;have v3:w1.cell? ⟨V.blk,3,none⟩=some (.int .i64 V.held):=aa Rt 3 rfl;have hvl:=ae Rt;have hnum:=(((HH.c.vers p hpm).2.2 V Sv).1);have hne:ah S.ps l≠[]:=fun e=>by have:=hV.2.2;rw[e]at this;cases this
  have HV:=Oz hV hT1 hne;have HB:=NZ HH.x;clear hp hs hV hT1 hps Rt hpm hpk Sv hne;unfold dN;by_cases c1:0<V.held
  ·go_wp2_with fail;go_ret;refine (.inr ⟨V,HV.a,.inl ⟨c1,rfl,HV.b⟩⟩)
  ·have hrow:=I9 w1 V.num;have hT2:Turns (N9 S) (N9 S++ck (.slice (some ⟨w1.heap.size,0,none⟩) 1 1) [(V.num:Int)]) w (w1.alloc (.cells #[.int .i64 V.num] 3)):=(HV.b.Qb hrow.1).to perm_append_comm;have HR:=NZ (qC S HH.b b HH.c HH.x l (.slice (some ⟨w1.heap.size,0,none⟩) 1 1) [(V.num:Int)] _ hT2.sat hrow.2 (by have:=dy HV.a.2.1;omega) (fun x hx=>by rw[mem_singleton.1 hx];unfold I64;have:=HB.o;omega) Nh HV.y);have H2:=NZ hT2;clear hrow hT2;go_wp2_with fail;refine HR.o.mono ?_;intro e w2 hp;rcases hp.less H2.o with⟨h1,rfl,h3⟩|⟨h1,rfl,v',L',h3,h4,h5⟩
   ·have H3:=Ob h1 h3;clear hp h1 h3;unfold cr;go_wp2_with fail;go_ret;refine (.inr ⟨V,HV.a,.inr ⟨Nb,.inl ⟨H3.a,rfl,?_⟩⟩⟩);rw[append_nil];exact H3.z.left
   ·have H3:=OW h1 h3 h4 h5;clear hp h1 h3 h4 h5;go_wp2_with fail;go_ret;refine (.inr ⟨V,HV.a,.inr ⟨Nb,.inr ⟨H3.a,rfl,v',L',H3.b,H3.c,?_⟩⟩⟩);rw[append_nil,append_nil];exact H3.x.left
def lr(V:Oe):Bool:=decide (V.held=0)
def jM(vs:List Oe)(keep:Int):List Int:=fj ((vs.take (vs.length-(min (max keep 0) (vs.length:Int)).toNat)).filter lr)
def Fj(S:AS)(p:Bs)(keep:Int)(w:World)(e:Ending)(w':World):Prop :=
 (∃k,kB S p 0 k/\e=.returned (.tuple #[.int .i64 0,cr k])/\Turns (N9 S) (N9 S) w w') \/
 (∃V,iU S p 0 V/\((128*S.A.count<S.data.length+(frame 3 (fP p (jM (ah S.ps p) keep))).length/\e=.returned (.tuple #[.int .i64 0,cr 8])/\Turns (N9 S) (N9 S) w w') \/
  (S.data.length+(frame 3 (fP p (jM (ah S.ps p) keep))).length<=128*S.A.count/\e=.returned (.tuple #[.int .i64 (jM (ah S.ps p) keep).length,.nilIface]) /\
   ∃v' L',PS S L' (frame 3 (fP p (jM (ah S.ps p) keep)))/\eP v' (dW (jM (ah S.ps p) keep) (ah S.ps p))/\Turns (N9 S) (N9 (r9 S p (jM (ah S.ps p) keep) v' L')) w w')))
def Hv(S:AS)(vs:List Oe)(m:Nat)(w:World)(out i _v:Value)(W:World):Prop :=
 ∃(j:Nat) (J:HF),j<=m/\i=.int .i64 j/\RJ out (fj ((vs.take j).filter lr))/\Turns (N9 S) (ck out (fj ((vs.take j).filter lr))++(N9 S++J)) w W
theorem zC(S:AS)(l:Bs)(keep:Int)(b:Nat)(w:World)(h:Sat w (N9 S))(hok:Oo S)(hB:QU S b)(hb:b<=90000)(qax:(ah S.ps l).length<=15000):
  Calls prog 64 #[.pointer (some ⟨S.a,0,none⟩),str l,.int .i64 keep] w (Fj S l keep w):=by
 have HF:=NZ (i6 S.a S.X S.ps S.pc l 0 w h.Q5 (h.tail.right.right.left) hok.paths);have HH:=PD h hok hB hb qax;clear h hok hB hb qax;go_enter func64,ntmps64;go_wp2_with fail;refine HF.o.mono ?_;intro e w1 hp;obtain⟨hs,⟨k,hk,rfl⟩|⟨V,hV,rfl⟩⟩:=i7 hp
 ·have HK:=Ob hk hs;clear hp hs hk;unfold cr;go_wp2_with fail;exact bodyPost_ret (results_tmp2 rfl _ _ _) rfl (.inl ⟨k,HK.a,rfl,(Turns.same HH.a HK.z)⟩)
 ·have hT1:Turns (N9 S) (N9 S) w w1:=Turns.same HH.a hs;have ha1:=hT1.sat.Q5;have c0:w1.cell? ⟨S.a,0,none⟩=some (.map (some S.X.pm)):=aa ha1 0 rfl;have hpm:=hT1.sat.Q7 (b:=S.X.pm) (o:=aU str (S.ps.map aR) S.pc) NC;have hal:=ae ha1;obtain⟨sl,cap,e1,e2,e3,e4,-,-⟩:=fk (hT1.sat.tail.right.right.left) HH.b.paths l;obtain⟨vs,hvs⟩:=Na (ah S.ps l);rw[<- hvs]at e1 e2 e4;have hvl:vs.length<=15000:=by rw[hvs];exact HH.w
  have WZ:Py l:=by have:=dy hV.2.1;unfold Py;omega
  have hne:ah S.ps l≠[]:=fun e=>by have:=hV.2.2;rw[e]at this;cases this
  obtain⟨k0,hk0⟩:∃k0:Nat,min (max keep 0) (vs.length:Int)=k0:=⟨(min (max keep 0) (vs.length:Int)).toNat,Nb⟩;have hk0l:k0<=vs.length:=Nb
  obtain⟨m,hm⟩:∃m:Nat,(vs.length:Int)-(k0:Int)=(m:Int):=⟨vs.length-k0,Nb⟩;have hmv:m=vs.length-(min (max keep 0) (vs.length:Int)).toNat:=Nb
  have hml:m<=vs.length:=Nb
  have hmc:m<=cap:=Nb
  have HV:=WQ hV hT1 hpm e1 e4 hvs WZ hne hmv;clear hp hs hV hT1 ha1 hpm e1 e4 hvs WZ hne hmv;unfold dN;go_wp2_with ((refine dY dR rfl _ _ rfl underlying119 HV.c HH.b.paths.map (fI _) l rfl rfl HV.g ?_;rw[cX,HV.d]));clear hk0 hm;go_loopw [11,42,13] (fun out i v wr=>Hv S vs m w out i v wr) (fun _ i _ _=>m-(intOf i).toNat)
  case atStart=>exact⟨0,[],Nat.zero_le _,rfl,lW,by rw[append_nil];exact HV.b⟩
  case round =>
   obtain⟨j,J,hj,rfl,Ph,hT⟩:=hrel;obtain⟨ns,hns⟩:=Na (fj ((vs.take j).filter lr));rw[<- hns]at Ph hT;have HR:=Oz Ph hT hns;clear Ph hT hns;by_cases hlt:j<m
   ·have hltv:j<vs.length:=Nb
    obtain⟨sl2,cap2,e1',-,-,e4',e5',-⟩:=fk (w:=wr) (HR.b.sat.sub (G:=aG S.X.pm S.ps S.pc) (fun x=>by simp only[N9,ao,af]<;>omega)) HH.b.paths l;rw[HV.d]at e1';simp only[Value.slice.injEq]at e1';obtain⟨rfl,-,rfl⟩:=e1';rw[<- HV.f]at e4' e5';obtain⟨g,off,hg,hcell⟩:=e4' Np;subst hg;have hc1:=hcell j (by rw[NP];exact hltv);rw[getElem_map]at hc1;obtain⟨U,hU⟩:=Na (vs[j]);rw[<- hU]at hc1;unfold dN at hc1;have hub:=e5' U (by rw[hU];exact getElem_mem hltv);have hc2:wr.cell? ⟨U.blk,0,none⟩=some (.int .i64 U.num):=aa hub 0 rfl;have hc3:wr.cell? ⟨U.blk,3,none⟩=some (.int .i64 U.held):=aa hub 3 rfl
    have htk:fj ((vs.take (j+1)).filter lr)=ns++(if lr U then[(U.num:Int)]else[]):=by
     rw[QH hltv,<- hU,filter_append,HR.y];unfold fj
     cases h:lr U<;>simp[h]
    have hlen:ns.length<=90000:=by rw[HR.y];unfold fj;rw[NP];have:=length_filter_le lr (vs.take j);rw[NS]at this;omega
    have HU:=Ob htk hlen;clear e4' e5' hcell hU hub htk hlen;by_cases c1:U.held=0
    ·have hfb:lr U=true:=by unfold lr;exact decide_eq_true c1
     have HC:=NZ hfb;clear hfb;go_wp2_with ((at_builtin;refine ai rfl ?_;refine kt (.tmp 51) (.tmp 56) rfl _ ns rfl (HR.b.alloc _) HR.a _ 1 1 rfl [(U.num:Int)] rfl (fun _=>⟨_,rfl,fun j u hu=>ik _ _ _ j u hu⟩) (by have:=HU.z;simp;omega) ?_;intro av cv w5 Pe Og;have H5:=Ob Pe Og;clear Pe Og));go_roundw
     case rel =>
      refine⟨j+1,J,Nb,by go_num,?_,?_⟩
      ·rw[HU.a,NR HC.o];have:=H5.a;rw[NM]at this;exact this
      ·rw[HU.a,NR HC.o];have:=H5.z;rw[NM]at this;exact this
     case measure=>simp[intOf];omega
    ·have hfb:¬lr U=true:=by unfold lr;simp[c1]
     have HC:=NZ hfb;clear hfb;go_wp2_with fail;go_roundw
     case rel =>
      refine⟨j+1,J,Nb,by go_num,?_,?_⟩
      ·rw[HU.a,NQ HC.o,append_nil];exact HR.a
      ·rw[HU.a,NQ HC.o,append_nil];exact HR.b
     case measure=>simp[intOf];omega
   ·obtain rfl:j=m:=Nb
    obtain⟨oa,oc,ho,-⟩:=aP (aW HR.b.sat.left HR.a);have hpn:ns=jM vs keep:=by unfold jM;rw[HR.y,<- HV.q.o]
    have hT2:=HR.b.to (H:=(N9 S++ck (.slice oa ns.length oc) ns)++J) (by rw[ho];exact ac);have hnl:ns.length<=15000:=by rw[HR.y];unfold fj;rw[NP];have:=length_filter_le lr (vs.take j);rw[NS]at this;omega
    have hI:∀n∈ns,I64 n:=fun n hn=>by
     rw[HR.y]at hn;obtain⟨U,hU,rfl⟩:=mem_map.1 hn;have hU2:=mem_of_mem_take (mem_filter.1 hU).1;rw[HV.f]at hU2;obtain⟨q,hq,-,hqg⟩:=mt HV.h;have:=((HH.c.vers q hq).2.2 U (hqg ▸ hU2)).1;have:=HH.d;unfold I64;omega
    have HRm:=NZ (qC S HH.b b HH.c HH.d l (.slice oa ns.length oc) ns _ hT2.sat.left (ho ▸ HR.a) (by have:=dy HV.a.2.1;omega) hI hnl HV.h);have H2:=Ob hT2 hpn;subst ho;clear hT2 hpn hI;go_wp2_with fail;refine HRm.o.mono ?_;intro e w2 hp;have hvs:=HV.f;have Ws:ns=jM (ah S.ps l) keep:=by rw[<- hvs];exact H2.z
    rcases hp with⟨h1,rfl,h3⟩|⟨h1,rfl,v',L',h3,h4,h5⟩
    ·have H3:=Oz h1 (H2.a.step (Perm.refl _) h3) Ws;clear h1 h3 hvs Ws;unfold cr;go_wp2_with fail;go_ret2;refine (.inr ⟨V,HV.a,.inl ⟨by rw[<- H3.y];exact H3.a,rfl,H3.b.left.left⟩⟩)
    ·have H3:=PD h1 (H2.a.step (Perm.refl _) h5) Ws h3 h4;clear h1 h3 h4 h5 hvs Ws;go_wp2_with fail;go_ret2;refine (.inr ⟨V,HV.a,.inr ?_⟩);rw[<- H3.c];exact⟨H3.a,rfl,v',L',H3.d,H3.w,H3.b.left.left⟩
def WE(p:Bs)(ns:List Int)(v:Oi):Bool:=decide (v.path=p)&&ns.contains v.num
def kI(vs:List Oi)(p:Bs)(ns:List Int):List Oi:=vs.filter (fun v => !WE p ns v)
def qT(vs:List Oi):Prop:=vs.Pairwise (fun a b=>a.path=b.path->a.num<b.num)
theorem Lj{vs:List Oi}(h:∀p,((bF vs p).map (·.num)).Pairwise (·<·)):qT vs:=by
 unfold qT;rw[pairwise_iff_getElem];intro i j hi hj hij e;have h1:=h vs[j].path;rw[pairwise_map,bF,pairwise_filter]at h1;exact(pairwise_iff_getElem.1 h1) i j hi hj hij (by simp[e]) Nh
theorem qT.one{vs:List Oi}(h:qT vs){i j:Nat}(hi:i<vs.length)(hj:j<vs.length)(hp:vs[i].path=vs[j].path)(hn:vs[i].num=vs[j].num):i=j:=by
 have h1:=pairwise_iff_getElem.1 h;rcases Nat.lt_trichotomy i j with hl|hl|hl
 ·have:=h1 i j hi hj hl hp;omega
 ·exact hl
 ·have:=h1 j i hj hi hl hp.symm;omega
theorem qT.gone{vs:List Oi}(h:qT vs)(p:Bs)(ns:List Int):qT (kI vs p ns):=Pairwise.filter _ h
theorem Df{vs:List Oi}{k:Nat}(hk:k<vs.length){f:Oi->Bool}(hf:f vs[k]=false)(ho:∀i (hi:i<vs.length),i≠k->f vs[i]=true):vs.filter f=pf vs k:=by
 have e:vs=vs.take k++vs[k]::vs.drop (k+1):=by rw[<- drop_eq_getElem_cons hk,take_append_drop]
 have h1:(vs.take k).filter f=vs.take k:=filter_eq_self.2 fun v hv=>by
  obtain⟨i,hi,rfl⟩:=getElem_of_mem hv;rw[NS]at hi;rw[getElem_take];exact ho i Nb Nb
 have h2:(vs.drop (k+1)).filter f=vs.drop (k+1):=filter_eq_self.2 fun v hv=>by
  obtain⟨i,hi,rfl⟩:=getElem_of_mem hv;rw[NT]at hi;rw[getElem_drop];exact ho _ Nb Nb
 calc vs.filter f=(vs.take k++vs[k]::vs.drop (k+1)).filter f:=by rw[<- e]
  _=pf vs k:=by rw[filter_append,filter_cons_of_neg (by simp[hf]),h1,h2];rfl
theorem An{vs:List Oi}(h:qT vs){k:Nat}(hk:k<vs.length){p:Bs}{n:Int}(hp:vs[k].path=p)(hn:vs[k].num=n):pf vs k=kI vs p [n]:=by
 refine(Df hk (by simp[WE,hp,hn]) (fun i hi hne=>?_)).symm
 cases hb:WE p [n] vs[i]with
 | false=>rfl
 | true =>
  unfold WE at hb;simp only[Bool.and_eq_true,decide_eq_true_eq,contains_iff_mem,NU]at hb;exact absurd (h.one hi hk (by rw[hb.1,hp]) (by rw[hb.2,hn])) hne
theorem FZ(vs:List Oi)(p:Bs)(ns ms:List Int):kI (kI vs p ns) p ms=kI vs p (ns++ms):=by
 unfold kI WE;rw[filter_filter];refine filter_congr fun v _=>?_
 simp only[contains_eq_mem,mem_append];by_cases h1:v.path=p<;>by_cases h2:v.num∈ns<;>by_cases h3:v.num∈ms<;>simp[h1,h2,h3]
theorem F3(vs:List Oi)(p:Bs)(ns:List Int)(q:Bs):bF (kI vs p ns) q=if q=p then(bF vs p).filter (fun v => !ns.contains v.num)else bF vs q:=by
 unfold bF kI WE;rw[filter_filter];by_cases h:q=p
 ·subst h;rw[NR rfl,filter_filter];refine filter_congr fun v _=>?_
  by_cases h1:v.path=q<;>simp[h1]
 ·rw[NQ h];refine filter_congr fun v _=>?_
  by_cases h1:v.path=q
  ·simp[h1,h]
  ·simp[h1]
theorem F5{ts:List OV}{t:OV}(h:t∈ts):1<=iX ts t.path t.num:=by
 unfold iX;have:0<ts.countP (fun x=>decide (x.path=t.path/\x.num=t.num)):=countP_pos_iff.2 ⟨t,h,Nh⟩;omega
theorem FC{vs:List Oi}(h:qT vs)(h1:∀v∈vs,1<=v.num){k:Nat}(hk:k<vs.length):bZ vs vs[k].path vs[k].num vs.length=k/\mF vs vs[k].path vs[k].num=some vs[k]:=by
 have hf:vs.filter (lz vs[k].path vs[k].num)≠[]:=fun e=>by
  have:vs[k]∈vs.filter (lz vs[k].path vs[k].num):=mem_filter.2 ⟨getElem_mem hk,by simp[lz]⟩;rw[e]at this;cases this
 have h2:=mL vs vs[k].path vs[k].num _ (Nat.le_refl _);rw[take_length]at h2;have h3:mF vs vs[k].path vs[k].num=(vs.filter (lz vs[k].path vs[k].num)).getLast?:=h2
 cases hg:(vs.filter (lz vs[k].path vs[k].num)).getLast? with
 | none=>exact absurd (getLast?_eq_none_iff.1 hg) hf
 | some v =>
  have hm:=mem_filter.1 (mem_of_getLast? hg)
  have hv:v.path=vs[k].path/\v.num=vs[k].num:=by
   have h5:=hm.2;unfold lz at h5;have h6:=h1 vs[k] (getElem_mem hk);simp only[Bool.and_eq_true,decide_eq_true_eq,Bool.or_eq_true]at h5;exact⟨h5.1,h5.2.resolve_right Nb⟩
  rw[hg]at h2;by_cases hb:0<=bZ vs vs[k].path vs[k].num vs.length
  ·rw[NR hb]at h2;obtain⟨hj,e⟩:=List.getElem?_eq_some_iff.1 h2;have hjk:=h.one hj hk (by rw[e];exact hv.1) (by rw[e];exact hv.2);refine⟨Nb,?_⟩;rw[h3,hg,<- e];simp only[hjk]
  ·rw[NQ hb]at h2;cases h2
theorem oW{vs:List Oi}(h:qT vs)(h1:∀v∈vs,1<=v.num){v:Oi}(hv:v∈vs):∃k:Nat,∃hk:k<vs.length,vs[k]=v/\bZ vs v.path v.num vs.length=k/\mF vs v.path v.num=some v:=by
 obtain⟨k,hk,rfl⟩:=getElem_of_mem hv;exact⟨k,hk,rfl,FC h h1 hk⟩
def xc(v:Oi):Bool:=decide (v.held<=0)
theorem uL{vs:List Oi}(h:qT vs)(h1:∀v∈vs,1<=v.num)(p:Bs):∀j,j<=(bF vs p).length ->
  (((bF vs p).take j).map (·.num)).foldl (gw p) (vs,0)=(kI vs p ((((bF vs p).take j).filter xc).map (·.num)),(((bF vs p).take j).filter xc).length)
 | 0,_=>by
  simp only[take_zero,map_nil,foldl_nil,filter_nil,length_nil,Prod.mk.injEq,and_true]
  unfold kI WE
  exact(filter_eq_self.2 (fun v _=>by simp)).symm
 | j+1,hj=>by
  obtain⟨v,hv⟩:=Na ((bF vs p)[j])
  have hvm:v∈vs/\v.path=p:=by
   have:=mem_filter.1 (hv ▸ getElem_mem hj:v∈bF vs p);exact⟨this.1,by simpa using this.2⟩
  rw[QH Nb,<- hv,NW,foldl_append,uL h h1 p j Nb,filter_append];simp only[map_cons,map_nil,foldl_cons,foldl_nil];obtain⟨ns,hns⟩:=Na ((((bF vs p).take j).filter xc).map (·.num));rw[<- hns]
  have hnot:v.num∉ns:=fun hm=>by
   rw[hns]at hm;obtain⟨u,hu,e⟩:=mem_map.1 hm;have hu2:=(mem_filter.1 hu).1;obtain⟨i,hi,rfl⟩:=getElem_of_mem hu2;rw[NS]at hi
   have hp2:(bF vs p).Pairwise (fun a b=>a.num<b.num):=by
    have:=Pairwise.filter (fun v=>decide (v.path=p)) h;refine this.imp_of_mem (fun {a b} ha hb hab=>hab ?_);have h3:=(mem_filter.1 ha).2;have h4:=(mem_filter.1 hb).2;simp only[decide_eq_true_eq]at h3 h4;rw[h3,h4]
   have:=pairwise_iff_getElem.1 hp2 i j Nb hj Nb;rw[getElem_take]at e;rw[<- hv]at this;omega
  have hm:v∈kI vs p ns:=mem_filter.2 ⟨hvm.1,by simp[WE,hvm.2,hnot]⟩;obtain⟨k,hk,hk2,hb,hf⟩:=oW (h.gone p ns) (fun x hx=>h1 x (mem_filter.1 hx).1) hm;rw[hvm.2]at hb hf;have hc:=An (p:=p) (n:=v.num) (h.gone p ns) hk (by rw[hk2];exact hvm.2) (by rw[hk2]);unfold gw;simp only[hf,hb,Int.toNat_natCast];by_cases hh:v.held<=0
  ·rw[NR hh,hc,FZ,filter_cons_of_pos (by simp[xc,hh])];simp[hns]
  ·rw[NQ hh,filter_cons_of_neg (by simp[xc,hh])];simp[hns]
end
section
open Go.Shelf
def si:Go.Shelf.Ren:=⟨fun|7=>118|10=>149|n=>n,fun|23=>120|26=>9|3=>230|28=>241|0=>0|27=>240|33=>226|4=>4|n=>n,fun|n=>n⟩
theorem EN:Go.Proofs.SlLaysZ.n7 prog si:={
 mixed:=Nc,
 f7:=⟨f118.name,Nk,func118.trans (congrArg some Nc)⟩,
 f10:=⟨f149.name,Nk,func149.trans (congrArg some Nc)⟩,
 t0:=underlying0,
 a0:=isAgg0,
 z0:=sizeOf0,
 v0:=zeroValue0,
 t4:=underlying4,
 a4:=isAgg4,
 z4:=sizeOf4,
 v4:=zeroValue4,
 t23:=underlying120,
 a23:=isAgg120,
 z23:=sizeOf120,
 v23:=zeroValue120,
 t26:=underlying9,
 a26:=isAgg9,
 z26:=sizeOf9,
 v26:=zeroValue9,
 t27:=underlying240,
 a27:=isAgg240,
 z27:=sizeOf240,
 v27:=zeroValue240,
 t28:=underlying241,
 a28:=isAgg241,
 z28:=sizeOf241,
 v28:=zeroValue241,
 t33:=underlying226,
 a33:=isAgg226,
 z33:=sizeOf226,
 v33:=zeroValue226 }
def oK:Go.Shelf.Ren:=⟨fun|6=>116|8=>146|9=>147|11=>162|13=>156|12=>163|23=>172|24=>173|14=>177|15=>178|16=>179|17=>180|18=>181|19=>182|20=>183|21=>184|22=>185|25=>191|26=>187|27=>188|28=>192|29=>193|30=>194|31=>196|n=>n,fun|26=>9|28=>241|24=>68|0=>0|3=>3|37=>37|48=>116|50=>82|4=>4|40=>309|39=>308|45=>284|5=>5|9=>9|51=>323|55=>327|57=>331|58=>133|33=>226|n=>n,fun|n=>n⟩
theorem xO:Go.Proofs.SlLaysZ.n6 prog oK:={
 mixed:=Nc,
 f6:=⟨f116.name,Nk,func116.trans (congrArg some Nc)⟩,
 f8:=⟨f146.name,Nk,func146.trans (congrArg some Nc)⟩,
 f11:=⟨f162.name,Nk,func162.trans (congrArg some Nc)⟩,
 t0:=underlying0,
 a0:=isAgg0,
 z0:=sizeOf0,
 v0:=zeroValue0,
 t24:=underlying68,
 a24:=isAgg68,
 z24:=sizeOf68,
 v24:=zeroValue68,
 t26:=underlying9,
 a26:=isAgg9,
 z26:=sizeOf9,
 v26:=zeroValue9,
 t28:=underlying241,
 a28:=isAgg241,
 z28:=sizeOf241,
 v28:=zeroValue241,
 i26:=by kernel_rfl }
def BT:Go.Shelf.Ren:=⟨fun|6=>147|8=>156|9=>163|19=>172|20=>173|21=>177|22=>178|23=>179|24=>180|25=>181|26=>182|27=>183|28=>184|29=>185|36=>191|31=>187|32=>188|37=>192|38=>193|39=>194|41=>196|n=>n,fun|27=>68|29=>9|3=>3|32=>37|26=>68|0=>0|44=>116|46=>82|4=>4|36=>309|35=>308|41=>284|5=>5|9=>9|53=>323|57=>327|63=>331|64=>133|n=>n,fun|n=>n⟩
theorem E6:Go.Proofs.SlLaysM.n6 prog BT:={
 mixed:=Nc,
 f6:=⟨f147.name,Nk,func147.trans (congrArg some Nc)⟩,
 f8:=func156.trans (congrArg some Nc),
 f9:=⟨f163.name,Nk,func163.trans (congrArg some Nc)⟩,
 f19:=func172.trans (congrArg some Nc),
 f20:=func173.trans (congrArg some Nc),
 f21:=⟨f177.name,Nk,func177.trans (congrArg some Nc)⟩,
 f22:=⟨f178.name,Nk,func178.trans (congrArg some Nc)⟩,
 f23:=⟨f179.name,Nk,func179.trans (congrArg some Nc)⟩,
 f24:=⟨f180.name,Nk,func180.trans (congrArg some Nc)⟩,
 f25:=⟨f181.name,Nk,func181.trans (congrArg some Nc)⟩,
 f26:=⟨f182.name,Nk,func182.trans (congrArg some Nc)⟩,
 f27:=⟨f183.name,Nk,func183.trans (congrArg some Nc)⟩,
 f28:=⟨f184.name,Nk,func184.trans (congrArg some Nc)⟩,
 f29:=⟨f185.name,Nk,func185.trans (congrArg some Nc)⟩,
 f31:=func187.trans (congrArg some Nc),
 f32:=func188.trans (congrArg some Nc),
 f36:=⟨f191.name,Nk,func191.trans (congrArg some Nc)⟩,
 f37:=⟨f192.name,Nk,func192.trans (congrArg some Nc)⟩,
 f38:=⟨f193.name,Nk,func193.trans (congrArg some Nc)⟩,
 f39:=⟨f194.name,Nk,func194.trans (congrArg some Nc)⟩,
 f41:=⟨f196.name,Nk,func196.trans (congrArg some Nc)⟩,
 t0:=underlying0,
 a0:=isAgg0,
 z0:=sizeOf0,
 v0:=zeroValue0,
 t3:=underlying3,
 a3:=isAgg3,
 z3:=sizeOf3,
 v3:=zeroValue3,
 t4:=underlying4,
 a4:=isAgg4,
 z4:=sizeOf4,
 v4:=zeroValue4,
 t5:=underlying5,
 a5:=isAgg5,
 z5:=sizeOf5,
 v5:=zeroValue5,
 t9:=underlying9,
 a9:=isAgg9,
 z9:=sizeOf9,
 v9:=zeroValue9,
 t26:=underlying68,
 a26:=isAgg68,
 z26:=sizeOf68,
 v26:=zeroValue68,
 t27:=underlying68,
 a27:=isAgg68,
 z27:=sizeOf68,
 v27:=zeroValue68,
 t29:=underlying9,
 a29:=isAgg9,
 z29:=sizeOf9,
 v29:=zeroValue9,
 t32:=underlying37,
 a32:=isAgg37,
 z32:=sizeOf37,
 v32:=zeroValue37,
 t35:=underlying308,
 a35:=isAgg308,
 z35:=sizeOf308,
 v35:=zeroValue308,
 t36:=underlying309,
 a36:=isAgg309,
 z36:=sizeOf309,
 v36:=zeroValue309,
 t41:=underlying284,
 a41:=isAgg284,
 z41:=sizeOf284,
 v41:=zeroValue284,
 t44:=underlying116,
 a44:=isAgg116,
 z44:=sizeOf116,
 v44:=zeroValue116,
 t46:=underlying82,
 a46:=isAgg82,
 z46:=sizeOf82,
 v46:=zeroValue82,
 t53:=underlying323,
 a53:=isAgg323,
 z53:=sizeOf323,
 v53:=zeroValue323,
 t57:=underlying327,
 a57:=isAgg327,
 z57:=sizeOf327,
 v57:=zeroValue327,
 t63:=underlying331,
 a63:=isAgg331,
 z63:=sizeOf331,
 v63:=zeroValue331,
 t64:=underlying133,
 a64:=isAgg133,
 z64:=sizeOf133,
 v64:=zeroValue133 }
end
section
open Go.RowKit Go.Maps Go.Sort Go.Shelf
theorem AX(m:Nat):AnyZ.SortsIn prog oK Fence.wide m :=
 ⟨fun blk off cap ss W hH hblk hsz=>callsIn_wide.2 (AnyM.slices_Sort_string E6 blk off cap ss W hH hblk hsz),
  fun p cap W=>callsIn_wide.2 (AnyM.slices_Sort_string_none E6 p cap W)⟩
theorem uG(mb:Option Nat)(W:World):CallsIn Fence.wide 5 prog 118 #[.map mb] W fun e w'=>e=.returned (.func (.func 149) #[] #[.pointer (some ⟨W.heap.size,0,none⟩)])/\w'=W.alloc (.cells #[.map mb] 120) :=
 AnyZ.keys_in EN Fence.wide 5 trivial rfl mb W
theorem oL{H:Type}(b nn:Nat)(D0:DataW H)(R:Value->Option (DataW H×List MemPlace))(w:World)(hown:w.ownsMap prog 9 R b nn D0)(hmax:Maps.size D0<=maxLen)(hbytes:Maps.size D0*16<=140737488355328):
  CallsIn Fence.wide 5 prog 116 #[.func (.func 149) #[] #[.pointer (some ⟨w.heap.size,0,none⟩)]] (w.alloc (.cells #[.map (some b)] 120)) fun e w'=>∃(v:Value) (ss:List (List UInt8)),e=.returned v/\ss.Perm (strKeys D0) /\
   w'.ownsRow (w.alloc (.cells #[.map (some b)] 120)).heap.size 9 1 v ss.length ((ss.mergeSort (fun x y=>decide (x<=y))).map encStr)/\(v=.slice none 0 0↔ss=[])/\Below (w.alloc (.cells #[.map (some b)] 120)).heap.size (w.alloc (.cells #[.map (some b)] 120)) w':=by
 have hbl:=hown.lt
 have hseq:SeqGives Fence.wide 2 prog 149 #[.pointer (some ⟨w.heap.size,0,none⟩)] encStr (fun ss=>ss.Perm (strKeys D0)) (Maps.size D0) (w.alloc (.cells #[.map (some b)] 120)) :=
  AnyZ.keys_gives (ρ:=si) { EN with } Fence.wide _ trivial rfl Nb w.heap.size b nn D0 _ Nh Nh (by
   obtain⟨es,clock,hb,Ft,hs,hD⟩:=hown;exact⟨es,clock,(Below.heap_alloc _ _ b hbl).trans hb,Ft,hs,hD⟩)
 exact AnyZ.sorted_in xO Fence.wide 5 trivial trivial trivial trivial rfl Nb (AX _) (enters_of func147 Nc rfl) 149 #[.pointer (some ⟨w.heap.size,0,none⟩)] trivial (enters_of func149 Nc rfl) _ _ hmax hbytes _ hseq
def Fw:Value->Option (DataW Unit×List MemPlace):=fun _=>some (.lit (.bool true),[])
theorem AQ(x:Lit×DataW Unit):∀l:List (Lit×DataW Unit),(DataW.insert x l).Perm (x::l)
 | []=>Perm.refl _
 | y::r=>by
  unfold DataW.insert
  split
  ·exact Perm.refl _
  ·exact((AQ x r).cons y).trans (Perm.swap x y r)
theorem xa:∀l:List (Lit×DataW Unit),(l.foldr DataW.insert []).Perm l
 | []=>Perm.refl _
 | x::r=>(AQ x _).trans ((xa r).cons x)
theorem Ml(l:Bs)(h:Py l):Go.keyOf prog 9 (str l)=some (.string l):=by
 have h1:(ByteArray.mk l.toArray).size=l.length:=by simp[ByteArray.size]
 have h2:(ByteArray.mk l.toArray).size<=maxLen:=by rw[h1];unfold Py at h;unfold maxLen;omega
 exact Go.WideMaps.keyOf_string_mk (k:=9) underlying9 (s:=⟨l.toArray⟩) h2
theorem px{w:World}{b c:Nat}{l:List (OT Bs)}(hb:w.heap[b]?=some (aU str l c))(hm:OO Py l c)(hl:l.length<=1000000):∃D:DataW Unit,w.ownsMap prog 9 Fw b l.length D/\(strKeys D).Perm (l.map (·.key))/\Maps.size D=l.length:=by
 have hrd:∀e∈l,Go.WideElems.rd prog 9 Fw (dK str e)=some (.string e.key,.lit (.bool true)):=fun e he=>by
  unfold Go.WideElems.rd;rw[show(dK str e).key=str e.key from rfl,Ml e.key (hm.ok e he)];rfl
 have hrg:(l.map (dK str)).map (Go.WideElems.rg prog 9 Fw)=l.map (fun e=>(Lit.string e.key,DataW.lit (.bool true))):=by
  rw[map_map];refine map_congr_left fun e he=>?_
  simp only[Function.comp_apply,Go.WideElems.rg,hrd e he,Option.getD_some]
 have hp:=xa (l.map (fun e=>(Lit.string e.key,(DataW.lit (.bool true):DataW Unit))));refine⟨.map ((l.map (fun e=>(Lit.string e.key,DataW.lit (.bool true)))).foldr DataW.insert []),⟨(l.map (dK str)).toArray,c,hb,⟨?_,⟨?_,?_,?_⟩,?_⟩,Nh,?_⟩,?_,?_⟩
 ·simp[maxLen];omega
 ·intro x hx;obtain⟨e,he,rfl⟩:=mem_map.1 (by simpa using hx);exact hm.lt e he
 ·have:=hm.Ri;simp only[map_map];exact this
 ·have:((l.map (·.key)).map str).Nodup:=by
   rw[nodup_iff_pairwise_ne,pairwise_map];exact(nodup_iff_pairwise_ne.1 hm.nodup).imp (fun h e=>h (E7 _ _ e))
  rw[map_map]at this;simp only[map_map];exact this
 ·intro x hx;obtain⟨e,he,rfl⟩:=mem_map.1 (by simpa using hx);exact⟨_,hrd e he⟩
 ·simp only[];rw[hrg]
 ·unfold strKeys;refine(hp.map _).trans ?_;rw[map_map];exact Perm.refl _
 ·show(foldr DataW.insert [] _).length=_;rw[hp.length_eq,NP]
def yT(t:Bs×Bs×Int):List Value:=[str t.1,str t.2.1,.int .i64 t.2.2]
def gR(l:List (Bs×Bs×Int)):List Value:=l.flatMap yT
def py(v:Value)(l:List (Bs×Bs×Int)):HF:=bH 230 3 v l.length (gR l)
def xt(v:Value)(l:List (Bs×Bs×Int)):Prop:=ei 3 v l.length (gR l)
theorem qw(l m:List (Bs×Bs×Int)):gR (l++m)=gR l++gR m:=by simp[gR]
theorem l6(l:List (Bs×Bs×Int)):(gR l).length=l.length*3:=by
 induction l with
 | nil=>rfl
 | cons a r ih=>simp only[gR,flatMap_cons,NM,length_cons]at ih ⊢;rw[ih];simp[yT];omega
theorem KI:(prog.info? 230).map (fun i=>(i.zero,i.size,i.bytes))=some (some (.agg #[str [],str [],.int .i64 0]),3,40):=Nc
theorem Ju(l:List (Bs×Bs×Int)):∀u∈gR l,u.oneCell'=true:=fun u hu=>by
 obtain⟨v,hv,hx⟩:=mem_flatMap.1 hu
 simp only[yT,mem_cons,not_mem_nil,or_false]at hx
 rcases hx with rfl|rfl|rfl<;>rfl
theorem zk{o:Oper}{a:Act}{w a0:World}{K:Act->World->Prop}{Q:Exit->Act->World->Prop}{F G:HF}(s x:Operand)(hop:o.op=.call { callee:=.builtin .append,args:=#[s,x],argTypes:=#[187,187] })(v:Value)(l:List (Bs×Bs×Int))(hs:a.eval s=v)(hT:Turns F (py v l++G) a0 w)(hok:xt v l)(sa:Option Addr)(m c:Nat)(hx:a.eval x=.slice sa m c)(r:List (Bs×Bs×Int))(hm:m=r.length)(hc:ak w sa (gR r))(hb:l.length+r.length<=1000000)(hk:∀v' w',xt v' (l++r)->Turns F (py v' (l++r)++G) a0 w'->K (a.put o.dst v') w'):o.wp prog a w K Q:=by
 obtain⟨i0,hi0,hz1,hz2,hz3⟩:=info_parts KI;refine cL s x 187 230 i0 (.agg #[str [],str [],.int .i64 0]) 3 40 hop underlying187 hi0 hz1 hz2 hz3 rfl Nk v l.length (gR l) hs hT hok sa m c hx (gR r) (by rw[l6,hm]) (fun hp=>?_) (Ju r) (by unfold maxLen;omega) Nb (fun v' w' k1 k2 _=>hk v' w' (by unfold xt;rw[NM,qw,<- hm];exact k1) (by unfold py;rw[NM,qw,<- hm];exact k2));obtain⟨g,off,e,hcc⟩:=hc (by rw[l6];omega);refine⟨_,e,fun j u hu=>?_⟩;obtain⟨hj,rfl⟩:=List.getElem?_eq_some_iff.1 hu;rw[Addr.add_lit];exact hcc j hj
def e8(ts:List fJ):List Bs:=(ts.map (·.key)).mergeSort (fun x y=>decide (x<=y))
def dg(ts:List fJ)(ks:List Bs):List (Bs×Bs×Int):=ks.map (fun k=>(k,Qr ([],0) ts k))
def Ik(S:AS)(w:World)(e:Ending)(w':World):Prop :=
 (S.X.closed=true/\e=.returned (.tuple #[.slice none 0 0,cr 9])/\Turns (N9 S) (N9 S) w w') \/
 (S.X.closed=false/\∃v,e=.returned (.tuple #[v,.nilIface])/\xt v (dg S.ts (e8 S.ts))/\Turns (N9 S) (py v (dg S.ts (e8 S.ts))++N9 S) w w')
def Kd(S:AS)(ks:List Bs)(kv:Value)(w:World)(out i:Value)(W:World):Prop :=
 ∃j:Nat,j<=ks.length/\i=.int .i64 j/\xt out (dg S.ts (ks.take j))/\Turns (N9 S) (py out (dg S.ts (ks.take j))++(N9 S++bH 9 1 kv ks.length (ks.map str))) w W
theorem xN{a b:List Bs}(h:a.Perm b):a.mergeSort (fun x y=>decide (x<=y))=b.mergeSort (fun x y=>decide (x<=y)):=by
 have ht:∀x y z:Bs,decide (x<=y)=true->decide (y<=z)=true->decide (x<=z)=true:=fun x y z h1 h2=>by
  simp only[decide_eq_true_eq]at h1 h2 ⊢;exact List.le_trans h1 h2
 have htot:∀x y:Bs,(decide (x<=y) || decide (y<=x))=true:=fun x y=>by
  simp only[Bool.or_eq_true,decide_eq_true_eq];exact List.le_total x y
 refine Perm.eq_of_pairwise (le:=fun x y=>decide (x<=y)=true) (fun x y _ _ h1 h2=>?_) (pairwise_mergeSort ht htot a) (pairwise_mergeSort ht htot b) (((mergeSort_perm a _).trans h).trans (mergeSort_perm b _).symm);simp only[decide_eq_true_eq]at h1 h2;exact List.le_antisymm h1 h2
theorem KV{S:AS}{w wa w':World}{B:Nat}{v:Value}{xs:List Value}(hT:Turns (N9 S) (N9 S) w wa)(hB:B=wa.heap.size)(ho:w'.ownsRow B 9 1 v xs.length xs)(hb:Below B wa w'):ei 1 v xs.length xs/\Turns (N9 S) (bH 9 1 v xs.length xs++N9 S) w w':=by
 subst hB;obtain⟨h1,h2⟩:=fe ho;refine⟨h2,hT.Qb ⟨(aV.of_below hb).mods _,h1,fun g hg=>.inr ?_⟩⟩;have hg:=(eL _ _ _ _ _ _).1 hg;rcases ho.2 with⟨rfl,-⟩|⟨g',cap,cur,rfl,hb',-⟩
 ·cases hg
 ·simp only[Value.ownBlock,NY]at hg;subst hg;exact hb'
theorem BU{S:AS}{ss:List Bs}{D:DataW Unit}(h1:ss.Perm (strKeys D))(h2:(strKeys D).Perm ((S.ts.map aR).map (·.key))):(ss.mergeSort (fun x y=>decide (x<=y))).map encStr=(e8 S.ts).map str/\ss.length=(e8 S.ts).length:=by
 have h3:ss.Perm (S.ts.map (·.key)):=by rw[<- cQ];exact h1.trans h2
 refine⟨?_,?_⟩
 ·unfold e8;rw[xN h3];try rfl
 ·unfold e8;rw[length_mergeSort];exact h3.length_eq
theorem Cc{S:AS}(ht:O6 S.ts S.tc){k:Bs}(hk:k∈e8 S.ts):(dH (S.ts.map aR) k).getD Lo=.agg #[str k,str (Qr ([],0) S.ts k).1,.int .i64 (Qr ([],0) S.ts k).2]/\Py k:=by
 have hk2:k∈S.ts.map (·.key):=(mergeSort_perm _ _).mem_iff.1 hk;obtain⟨q,hq,hqk⟩:=mem_map.1 hk2;rw[cX];unfold eI Qr
 cases hf:S.ts.find? (fun p=>decide (p.key=k))with
 | none=>exact absurd hqk (by simpa using find?_eq_none.1 hf q hq)
 | some p =>
  have h1:p.key=k:=by simpa using find?_some hf
  have h2:=mem_of_find?_eq_some hf;refine⟨by have:=ht.val p h2;simp only[];rw[this,h1];rfl,?_⟩;have:=ht.map.ok (aR p) (mem_map.2 ⟨p,h2,rfl⟩);rw[<- h1];exact this
theorem Af(w:World)(xs:List Value)(t:TypeId):ak (w.alloc (.cells xs.toArray t)) (some ⟨w.heap.size,0,none⟩) xs:=fun _ =>
 ⟨_,_,rfl,fun j hj=>by rw[Nat.zero_add];exact aa (aM w _) j Nh⟩
theorem tG(S:AS)(b:Nat)(w:World)(h:Sat w (N9 S))(hok:Oo S)(hB:QU S b)(hb:b<=90000):
  Calls prog 90 #[.pointer (some ⟨S.a,0,none⟩)] w (Ik S w):=by
 have ha:=h.Q5;have hal:=ae ha
 cases hc:S.X.closed with
 | true =>
  have a10:w.cell? ⟨S.a,10,none⟩=some (.bool true):=by rw[<- hc];exact aa ha 10 rfl
  have HC:=Ob hc h;clear h hok hB hb ha hc;go_enter func90,ntmps90;go_wp2_with fail;exact bodyPost_ret (results_tmp2 rfl _ _ _) rfl (.inl ⟨HC.a,rfl,Turns.refl HC.z⟩)
 | false =>
  have a10:w.cell? ⟨S.a,10,none⟩=some (.bool false):=by rw[<- hc];exact aa ha 10 rfl
  have a1:w.cell? ⟨S.a,1,none⟩=some (.map (some S.X.tm)):=aa ha 1 rfl;have RG:=h.Q7 (b:=S.X.tm) (o:=aU str (S.ts.map aR) S.tc) (by simp[N9,bX]);obtain⟨D,hD,Zh,hDs⟩:=px RG hok.tags.map (by rw[NP];have:=hB.nt;omega);have hlen:(S.ts.map aR).length<=90000:=by rw[NP];have:=hB.nt;omega
  have hKs:=oL S.X.tm _ D Fw w hD (by rw[hDs];unfold maxLen;omega) (by rw[hDs];omega);have HK:=NZ (callsIn_wide.1 hKs);have HM:=NZ (callsIn_wide.1 (uG (some S.X.tm) w));have HH:=Ry h hok hB hb hc Zh hlen;clear h hok hB hb ha hc RG hD Zh hDs hlen hKs;go_enter func90,ntmps90;go_wp2_with fail;refine HM.o.mono ?_;rintro e w1 ⟨rfl,rfl⟩;go_wp2_with fail;refine HK.o.mono ?_;rintro e w2 ⟨v,ss,rfl,hss,hown,-,hbel⟩;obtain⟨hs1,hs2⟩:=BU hss HH.f;rw[hs1,hs2]at hown;obtain⟨ks,hks⟩:=Na (e8 S.ts);rw[<- hks]at hown;obtain⟨hro,hT0⟩:=KV (S:=S) ((Turns.refl HH.a).alloc _) rfl (by rw[NP];exact hown) hbel;rw[NP]at hro hT0;obtain⟨sl,cap,rfl,-,hcap,-,-⟩:=bb hT0.sat.left hro Nk
  have hkl:ks.length<=90000:=by
   have:=HH.u;rw[hks];unfold e8;rw[length_mergeSort,NP];rw[NP]at this;exact this
  have hal2:=ae (hT0.sat.right.Q5);have HV:=OW hT0 hro hks hkl;clear hss hown hbel hs1 hs2 hks hro hT0;go_wp2_with fail;go_loopw [4,20] (fun out i wr=>Kd S ks (.slice sl ks.length cap) w out i wr) (fun _ i _=>ks.length-(intOf i).toNat)
  case atStart=>exact⟨0,Nat.zero_le _,rfl,by unfold xt;exact⟨rfl,fun _=>⟨rfl,rfl⟩⟩,by exact HV.a.drop (fun x=>by show cnt x ([]++(N9 S++_))<=_;simp only[af,cW];omega)⟩
  case round =>
   obtain⟨j,hj,rfl,Ph,hT⟩:=hrel;have HR:=Ob Ph hT;clear Ph hT;by_cases hlt:j<ks.length
   ·obtain⟨sl2,cap2,e1',-,-,hcell,-⟩:=bb (w:=wr) (HR.z.sat.right.right) HV.b Nk;simp only[Value.slice.injEq]at e1';obtain⟨rfl,-,rfl⟩:=e1';obtain⟨g,off,hg,hcc⟩:=hcell Np;subst hg;have hc1:=hcc j (by rw[NP];exact hlt);rw[getElem_map]at hc1;obtain⟨k,hk⟩:=Na (ks[j]);rw[<- hk]at hc1;have hkm:k∈e8 S.ts:=by rw[<- HV.c,hk];exact getElem_mem hlt
    obtain⟨hlk,VT⟩:=Cc HH.b.tags hkm;have hA:=(HR.z.sat.right.left).Q5;have a1':wr.cell? ⟨S.a,1,none⟩=some (.map (some S.X.tm)):=aa hA 1 rfl;have RG:=HR.z.sat.Q7 (b:=S.X.tm) (o:=aU str (S.ts.map aR) S.tc) (by simp[N9,bX]);obtain⟨p1,n1,hpn⟩:∃p1 n1,Qr ([],0) S.ts k=(p1,n1):=⟨_,_,rfl⟩;rw[hpn]at hlk
    have htk:dg S.ts (ks.take (j+1))=dg S.ts (ks.take j)++[(k,p1,n1)]:=by
     unfold dg;rw[QH hlt,<- hk,NW];simp[hpn]
    have hlen:(dg S.ts (ks.take j)).length<=90000:=by have:=HV.x;simp[dg];omega
    have HU:=PD htk hlen hlk VT RG;obtain⟨ns,hns⟩:=Na (dg S.ts (ks.take j));rw[<- hns]at HR HU;clear hcell hcc htk hlen hlk VT RG hA hpn hk hkm hns;go_wp2_with ((first|(refine dY dR rfl _ _ rfl underlying120 HU.w HH.b.tags.map (kw _) k rfl rfl HU.d ?_;rw[HU.c])|(at_builtin;refine ai rfl ?_;refine zk (.tmp 24) (.tmp 32) rfl _ ns rfl (HR.z.alloc _) HR.a _ 1 1 rfl [(k,p1,n1)] rfl (Af wr (gR [(k,p1,n1)]) _) (by have:=HU.b;show ns.length+1<=1000000;omega) ?_;intro av w5 Pe Og;have H5:=Ob Pe Og;clear Pe Og)));go_roundw
    case rel =>
     refine⟨j+1,Nb,by go_num,?_,?_⟩
     ·rw[HU.a];exact H5.a
     ·rw[HU.a];exact H5.z
    case measure=>simp[intOf];omega
   ·obtain rfl:j=ks.length:=Nb
    rw[take_length]at HR;go_wp2_with fail;go_ret2;refine (.inr ⟨HH.e,u4,rfl,?_,?_⟩)
    ·rw[<- HV.c];exact HR.a
    ·rw[<- HV.c];exact HR.z.drop (fun x=>by simp only[af];omega)
end
section
open Go.RowKit Go.Maps
theorem xF:∀(l:List OV) (i:Nat) (h:i<l.length) (j:Nat) (_:j<3),(cN l)[i*3+j]?=(oI l[i])[j]?
 | [],i,h,_,_=>by simp at h
 | a::r,0,_,j,hj=>by
  simp only[cN,flatMap_cons,Nat.zero_mul,Nat.zero_add,getElem_cons_zero]
  rw[getElem?_append_left (by simpa[oI]using hj)]
 | a::r,i+1,h,j,hj=>by
  simp only[cN,flatMap_cons,getElem_cons_succ]
  rw[getElem?_append_right (by simp[oI];omega),show(i+1)*3+j-(oI a).length=i*3+j by simp[oI];omega]
  exact xF r i (by simpa using h) j hj
theorem La{w:World}{g off:Nat}{l:List OV}(h:∀j (h:j<(cN l).length),w.cell? ⟨g,off+j,none⟩=some ((cN l)[j]'h)){i:Nat}(hi:i<l.length):
  w.cell? ⟨g,off+i*3,none⟩=some (str l[i].name)/\w.cell? ⟨g,off+i*3+1,none⟩=some (str l[i].path)/\w.cell? ⟨g,off+i*3+2,none⟩=some (.int .i64 l[i].num):=by
 have key:∀j (hj:j<3) (v:Value),(oI l[i])[j]?=some v->w.cell? ⟨g,off+i*3+j,none⟩=some v:=fun j hj v hv=>by
  have h1:=xF l i hi j hj;rw[hv]at h1;obtain⟨p,e⟩:=List.getElem?_eq_some_iff.1 h1;have h2:=h (i*3+j) p;rw[<- Nat.add_assoc]at h2;rw[h2,e]
 exact⟨key 0 Nb _ rfl,key 1 Nb _ rfl,key 2 Nb _ rfl⟩
theorem xQ{w:World}{v:Value}{l:List OV}(hs:Sat w (eH v l))(h:DZ v l):∃sl cap,v=.slice sl l.length cap/\l.length<=cap/\cap<=9223372036854775807/\(∀k,ak w sl (cN (l.take k)))/\(∀k,k<=l.length->ak w (if cap=k then sl else sl.map (·.add (k*3))) (cN (l.drop k))):=by
 obtain⟨sl,cap,e,h1,h2,h3,-⟩:=bb hs h Nk;refine⟨sl,cap,e,h1,h2,fun k hp=>?_,fun k hk hp=>?_⟩
 ·rw[cn,NS]at hp;obtain⟨g,off,he,hc⟩:=h3 NG;refine⟨g,off,he,fun j hj=>?_⟩;rw[cn,NS]at hj;rw[hc j NG];have:cN l=cN (l.take k)++cN (l.drop k):=by rw[<- jp,take_append_drop]
  congr 1;rw[getElem_of_eq this,getElem_append_left]
 ·rw[cn,NT]at hp;obtain⟨g,off,he,hc⟩:=h3 NG;rw[NQ Nb,he];refine⟨g,off+k*3,by simp[Addr.add],fun j hj=>?_⟩;rw[cn,NT]at hj;rw[Nat.add_assoc,hc (k*3+j) NG];have:cN l=cN (l.take k)++cN (l.drop k):=by rw[<- jp,take_append_drop]
  congr 1;rw[getElem_of_eq this,getElem_append_right (by rw[cn,NS];omega)];congr 1;rw[cn,NS];omega
theorem OD.tags{R:Oh}{P:cU}{w:World}(h:OD R P w):∃sl cap,R.tv=.slice sl R.ts.length cap/\R.ts.length<=cap/\cap<=9223372036854775807/\w.heap[R.blk]?=some (fL R)/\(0<R.ts.length->∃g off,sl=some ⟨g,off,none⟩/\∀i (hi:i<R.ts.length),w.cell? ⟨g,off+i*3,none⟩=some (str R.ts[i].name)/\w.cell? ⟨g,off+i*3+1,none⟩=some (str R.ts[i].path)/\w.cell? ⟨g,off+i*3+2,none⟩=some (.int .i64 R.ts[i].num)):=by
 obtain⟨sl,cap,e1,e2,e3,hc,-⟩:=bb h.ref.tail.right h.ok.ts Nk;refine⟨sl,cap,e1,e2,e3,h.ref.Q5,fun hp=>?_⟩;obtain⟨g,off,hg,hcc⟩:=hc NG;exact⟨g,off,hg,fun i hi=>La hcc hi⟩
def Sz(ts:List OV)(m:Bs):Nat->Nat
 | 0=>0
 | k+1=>if(ts[k]?).elim false (fun t=>cE t.name m)then k+1 else Sz ts m k
theorem B4{ts:List OV}{m:Bs}{k:Nat}(h:k<ts.length):Sz ts m (k+1)=if cE ts[k].name m then k+1 else Sz ts m k:=by
 rw[Sz,getElem?_eq_getElem h];rfl
theorem JR(ts:List OV)(m:Bs):∀k,Sz ts m k<=k
 | 0=>Nat.le_refl _
 | k+1=>by
  have:=JR ts m k
  unfold Sz
  split<;>omega
def rI(ts:List OV)(m:Bs)(x:OV):List OV:=ts.take (Sz ts m ts.length)++[x]++ts.drop (Sz ts m ts.length)
def gY(vs:List Oi)(k:Nat)(d:Int):List Oi:=match vs[k]? with|some v=>vs.set k { v with held:=v.held+d }|none=>vs
def fQ(R:Oh)(vs':List Oi)(tv':Value)(ts':List OV):Oh:={ R with vs:=vs',tv:=tv',ts:=ts' }
theorem ly(vs:List Oi)(k:Nat)(d:Int):(gY vs k d).length=vs.length:=by
 unfold gY;split<;>simp
theorem xf{vs:List Oi}{k:Nat}(hk:k<vs.length)(d:Int):(bG vs).set (k*4+3) (.int .i64 (vs[k].held+d))=bG (gY vs k d):=by
 unfold gY;rw[getElem?_eq_getElem hk];dsimp only
 have key:∀(l:List Oi) (k:Nat) (hk:k<l.length),(bG l).set (k*4+3) (.int .i64 (l[k].held+d))=bG (l.set k { l[k]with held:=l[k].held+d }):=by
  intro l;induction l with
  | nil=>intro k hk;cases hk
  | cons a r ih =>
   intro k hk
   cases k with
   | zero=>simp[bG,lF]
   | succ k =>
    simp only[bG,flatMap_cons,getElem_cons_succ,QC];rw[set_append_right _ _ (by simp[lF];omega)];have:=ih k (by simpa using hk);unfold bG at this;rw[<- this];congr 2;simp[lF];omega
 exact key vs k hk
theorem KE{vs:List Oi}{k:Nat}{d:Int}:∀v∈gY vs k d,∃v0∈vs,v.cv=v0.cv/\v.cont=v0.cont/\v.path=v0.path/\v.num=v0.num:=fun v hv=>by
 unfold gY at hv
 split at hv
 ·rename_i v0 h0
  rcases mem_or_eq_of_mem_set hv with h|rfl
  ·exact⟨v,h,rfl,rfl,rfl,rfl⟩
  ·exact⟨v0,mem_of_getElem? h0,rfl,rfl,rfl,rfl⟩
 ·exact⟨v,hv,rfl,rfl,rfl,rfl⟩
theorem BI{R:Oh}{P:cU}{w:World}(h:OD R P w){k:Nat}(hk:k<R.vs.length):∃g cap,R.vv=.slice (some ⟨g,0,none⟩) R.vs.length cap/\R.vs.length<=cap/\cap<=9223372036854775807/\w.cell? ⟨R.blk,0,none⟩=some (.slice (some ⟨g,0,none⟩) R.vs.length cap)/\R.blk<w.heap.size/\g<w.heap.size /\
  w.cell? ⟨g,k*4+3,none⟩=some (.int .i64 R.vs[k].held)/\w.cell? ⟨g,k*4+1,none⟩=some (.int .i64 R.vs[k].num):=by
 obtain⟨sl,cap,e1,e2,e3,hb,hc⟩:=h.row;rcases(aW h.ref.tail.left h.ok.vs).2 with⟨h0,h1⟩|⟨g,cap',cur,hv,-⟩
 ·omega
 ·rw[e1]at hv;simp only[Value.slice.injEq]at hv;obtain⟨rfl,-,rfl⟩:=hv;obtain⟨g',off,he,hcc⟩:=hc Nb;simp only[NY,Addr.mk.injEq,and_true]at he;obtain⟨rfl,rfl⟩:=he;obtain⟨-,h1,-,h3⟩:=hcc k hk;rw[Nat.zero_add]at h1 h3;exact⟨g,cap,e1,e2,e3,by rw[<- e1];exact aa hb 0 rfl,ae hb,World.block_lt_of_cell? w _ h3,h3,h1⟩
def Id(R:Oh)(P:cU)(m p:Bs)(n:Int)(w:World)(e:Ending)(w':World):Prop :=
 (∃k:Int,e=.returned (.int .i64 k)/\Turns (aC R) (aC R) w w'/\((R.closed=true/\k=9)\/(R.closed=false/\az m=false/\k=1)\/(R.closed=false/\az m=true/\cJ R p n=.error k) \/
  (R.closed=false/\az m=true/\(∃v,cJ R p n=.ok v)/\(∃t∈R.ts,t.name=m)/\k=6))) \/
 (R.closed=false/\az m=true/\(∀t∈R.ts,t.name≠m)/\∃k tv',∃hk:k<R.vs.length,cJ R p n=.ok R.vs[k]/\bZ R.vs p n R.vs.length=k/\e=.returned (.int .i64 0)/\PI (fQ R (gY R.vs k 1) tv' (rI R.ts m ⟨m,p,R.vs[k].num⟩)) /\
  Turns (aC R++ay P) (aC (fQ R (gY R.vs k 1) tv' (rI R.ts m ⟨m,p,R.vs[k].num⟩))++ay P) w w')
theorem DV(R:Oh)(P:cU)(m p:Bs)(n:Int)(w:World)(h:OD R P w)(hJ:Sat w (aC R++ay P))(htl:R.ts.length<=100000)(Yh:∀v∈R.vs,v.held.natAbs<=1099511627776):
  Calls prog 67 #[.pointer (some ⟨R.blk,0,none⟩),str m,str p,.int .i64 n] w (Id R P m p n w):=by
 have HI:=NZ (jn m w);have hbl:=ae h.ref.Q5;have HH:=Oz h hJ Yh;clear h hJ Yh;go_enter func67,ntmps67;go_wp2_with fail;refine HI.o.mono ?_;rintro e w1 ⟨rfl,hs1⟩;have hA1:=HH.a.same hs1;have hb1:=hA1.ref.Q5;have c3:w1.cell? ⟨R.blk,3,none⟩=some (.bool R.closed):=aa hb1 3 rfl;have Yc:=ae hb1;have HG:=NZ (kp R P p n w1 hA1);have H1:=Ob hs1 hA1;clear hs1 hA1 hb1
 cases hc:R.closed with
 | true =>
  rw[hc]at c3;have HC:=NZ hc;clear hc;go_wp2_with fail;go_ret;refine (.inl ⟨9,rfl,Turns.same HH.a.ref H1.a,.inl ⟨HC.o,rfl⟩⟩)
 | false =>
  rw[hc]at c3;have HC:=NZ hc;clear hc
  cases hp:az m with
  | false =>
   have HP:=NZ hp;go_wp2_with fail;go_ret;refine (.inl ⟨1,rfl,Turns.same HH.a.ref H1.a,.inr (.inl ⟨HC.o,HP.o,rfl⟩)⟩)
  | true =>
   have HP:=NZ hp;clear hp;go_wp2_with fail;refine HG.o.mono ?_;rintro e w2 ⟨hs,hm⟩
   cases hr:cJ R p n with
   | error k =>
    rw[hr]at hm;subst hm;have hk0:=jU hr;have HR:=Ob hr (H1.a.trans hs);clear hr hs;go_wp2_with fail;go_ret;refine (.inl ⟨k,rfl,Turns.same HH.a.ref HR.z,.inr (.inr (.inl ⟨HC.o,HP.o,HR.a⟩))⟩)
   | ok v =>
    rw[hr]at hm;obtain⟨rfl,-⟩:=hm;obtain⟨-,-,hf⟩:=gj hr;obtain⟨k,hb,hk,hv⟩:=me hf;have hs2:aV w w2:=H1.a.trans hs;have hA2:=HH.a.same hs2;have hcv:=hA2.one v (hv ▸ getElem_mem hk);have HR:=PD hr hs2 hb hv hA2;clear hr hs hf hb hA2 hcv hs2;go_wp2_with fail;go_loopw [12,13] (fun a i wr=>∃j:Nat,j<=R.ts.length/\i=.int .i64 j/\a=.int .i64 (Sz R.ts m j)/\aV w wr/\∀t∈R.ts.take j,t.name≠m) (fun _ i _=>R.ts.length-(intOf i).toNat)
    case atStart=>exact⟨0,Nat.zero_le _,rfl,rfl,HR.b,Nh⟩
    case round =>
     obtain⟨j,hj,rfl,rfl,hs,hnn⟩:=hrel;have hA:=HH.a.same hs;obtain⟨sl,cap,e1,e2,e3,OB,hcell⟩:=hA.tags;have c1:wr.cell? ⟨R.blk,1,none⟩=some (.slice sl R.ts.length cap):=by rw[<- e1];exact aa OB 1 rfl
     have UC:=ae OB;have HS:=OW hs hA hnn e1;clear hs OB hnn e1;by_cases hlt:j<R.ts.length
     ·obtain⟨g,off,hg,hcc⟩:=hcell Nb;subst hg;obtain⟨h0,-,-⟩:=hcc j hlt;have hnx:=B4 (m:=m) hlt;obtain⟨tn,htn⟩:=Na (R.ts[j].name);rw[<- htn]at h0 hnx;have hgl:=World.block_lt_of_cell? wr _ h0;have HX:=Ob hnx htn;clear hcc hcell hA hnx htn;by_cases hp:tn=m
      ·have hp':=hp.symm;clear hp;subst hp';go_wp2_with fail;go_ret;refine (.inl ⟨6,rfl,Turns.same HH.a.ref HS.a,.inr (.inr (.inr ⟨HC.o,HP.o,⟨v,HR.a⟩,⟨R.ts[j],getElem_mem hlt,HX.z.symm⟩,rfl⟩))⟩)
      ·have hpq:(tn==m)=false:=by simp[hp]
       have hstep:∀t∈R.ts.take (j+1),t.name≠m:=fun t ht=>by
        rw[QH hlt]at ht;rcases mem_append.1 ht with ht|ht
        ·exact HS.c t ht
        ·rw[mem_singleton.1 ht,<- HX.z];exact hp
       have HT:=NZ hstep;clear hstep
       cases hbl:cE tn m with
       | true =>
        have hbs:Op.bytesLess tn m=true:=by rw[i4,hbl]
        have hf1:Sz R.ts m (j+1)=j+1:=by rw[HX.a,NR hbl]
        have HF:=NZ hf1;clear hf1;go_wp2_with fail;go_roundw
        case rel=>exact⟨j+1,Nb,by go_num,by rw[HF.o];go_num,HS.a,HT.o⟩
        case measure=>simp[intOf];omega
       | false =>
        have hbs:Op.bytesLess tn m=false:=by rw[i4,hbl]
        have hf1:Sz R.ts m (j+1)=Sz R.ts m j:=by rw[HX.a,NQ (by rw[hbl];simp)]
        have HF:=NZ hf1;clear hf1;go_wp2_with fail;go_roundw
        case rel=>exact⟨j+1,Nb,by go_num,by rw[HF.o],HS.a,HT.o⟩
        case measure=>simp[intOf];omega
     ·obtain rfl:j=R.ts.length:=Nb
      clear hcell hA;have Y3:=NZ (kP R P p n wr HS.b);obtain⟨at_,hat⟩:=Na (Sz R.ts m R.ts.length);have UA:at_<=R.ts.length:=by rw[hat];exact JR _ _ _
      rw[<- hat];have HA:=NZ hat;clear hat;go_wp2_with fail;refine Y3.o.mono ?_;rintro e w3 ⟨rfl,hs3⟩;rw[HR.c];have hs4:aV w w3:=HS.a.trans hs3;have XP:=HH.a.same hs4;obtain⟨g,QJ,ev,ev2,ev3,c0,hblk3,hg3,hh3,hn3⟩:=BI XP hk;obtain⟨hd,hhd⟩:=Na (R.vs[k].held);obtain⟨nk,hnk⟩:=Na (R.vs[k].num);rw[<- hhd]at hh3;rw[<- hnk]at hn3;have hhb:=HH.y _ (getElem_mem hk);rw[<- hhd]at hhb;have hw:IntKind.i64.wrap (hd+1)=hd+1:=IntWalk.i64_in _ Nb;have Oj:Turns (aC R++ay P) (eh (.slice (some ⟨g,0,none⟩) R.vs.length QJ) R.vs++((R.blk,Is (fL R))::(eH R.tv R.ts++ay P))) w w3:=(Turns.same HH.b hs4).to (by unfold aC;rw[ev];exact ac);have VA:mf (.slice (some ⟨g,0,none⟩) R.vs.length QJ) R.vs:=by rw[<- ev];exact HH.a.ok.vs
      have HV:=PD Oj VA ev hhd hnk;have hkl:(k:Int)<(R.vs.length:Int):=Nb
      clear hs3 hs4 XP Oj VA ev hhd hnk;obtain⟨F2,hF2⟩:=Na (aC R++ay P);obtain⟨vs1,RS⟩:=Na (gY R.vs k 1);have Uc:vs1.length=R.vs.length:=by rw[RS,ly]
      have hrow1:(bG R.vs).set (k*4+3) (.int .i64 (hd+1))=bG vs1:=by rw[HV.d,RS];exact xf hk 1
      have hn1:∀(h:k<vs1.length),vs1[k].num=nk:=fun h=>by
       have:vs1[k]?=some { R.vs[k]with held:=R.vs[k].held+1 }:=by rw[RS];unfold gY;rw[getElem?_eq_getElem hk];simp[hk]
       rw[getElem?_eq_getElem h]at this;rw[Option.some.inj this,HV.w]
      obtain⟨BF,XT⟩:=Na (bH 193 4 (.slice (some ⟨g,0,none⟩) R.vs.length QJ) R.vs.length (bG vs1)++((R.blk,Is (fL R))::(eH R.tv R.ts++ay P)))
      have W9:∀(W:World) (G:HF),Turns F2 (G++BF) w W->W.cell? ⟨R.blk,0,none⟩=some (.slice (some ⟨g,0,none⟩) R.vs.length QJ)/\W.cell? ⟨R.blk,1,none⟩=some (.slice sl R.ts.length cap)/\R.blk<W.heap.size/\W.cell? ⟨g,k*4+1,none⟩=some (.int .i64 nk)/\g<W.heap.size /\
        (∀k,ak W sl (cN (R.ts.take k)))/\(∀k,k<=R.ts.length->ak W (if cap=k then sl else sl.map (·.add (k*3))) (cN (R.ts.drop k))):=fun W G hT=>by
       have hs:=hT.sat.right;rw[XT]at hs;obtain⟨sl',cap',e1',-,-,e4',e5'⟩:=xQ (hs.right.tail.left) HH.a.ok.ts;rw[HS.x]at e1';simp only[Value.slice.injEq,true_and]at e1';obtain⟨rfl,rfl⟩:=e1';have OB:=hs.right.Q5;have hrk:ei 4 (.slice (some ⟨g,0,none⟩) R.vs.length QJ) R.vs.length (bG vs1):=⟨by rw[bA,Uc],fun h=>by cases h⟩;obtain⟨a',c',ea,-,-,hcc,-⟩:=bb hs.left hrk Nk;simp only[Value.slice.injEq,true_and]at ea;obtain⟨rfl,-⟩:=ea;obtain⟨g',off',eg,hcc⟩:=hcc Nu;simp only[NY,Addr.mk.injEq,and_true]at eg;obtain⟨rfl,rfl⟩:=eg;obtain⟨-,h1,-,-⟩:=zc hcc (show k<vs1.length by omega);rw[hn1,Nat.zero_add]at h1;exact⟨by rw[<- HV.c];exact aa OB 0 rfl,by rw[<- HS.x];exact aa OB 1 rfl,ae OB,h1,World.block_lt_of_cell? W _ h1,e4',e5'⟩
      have TB:=NZ W9;have HX:=PD hrow1 hF2 RS Uc XT;have HV1:=NZ (show Turns F2 _ w w3 by rw[hF2];exact HV.a);clear W9 hrow1 hn1 hF2 RS Uc XT
      go_wp2_with (first
       | (refine ai rfl (pD 3 (.tmp 79) (.tmp 77) rfl 193 4 R.vs.length g QJ (bG R.vs) HV1.o HV.b (k*4+3) Nb (.int .i64 (hd+1)) rfl rfl Nc (by simp[Value.oneCell']) rfl ?_);intro w5 Pe Og;rw[HX.a,<- HX.w]at Og;obtain⟨d0,d1,d2,d3,d4,d5,d6⟩:=TB.o _ [] Og;have H5:=Oz Og d5 d6;clear Pe Og d5 d6 c0 hh3 hn3;simp only[Act.put])
       | (at_builtin;refine ai rfl ?_;refine io (.tmp 80) (.tmp 86) rfl (.slice none 0 0) [] rfl (G:=BF) (show Turns F2 (eH (.slice none 0 0) []++BF) w w5 from H5.a) ⟨rfl,fun _=>⟨rfl,rfl⟩⟩ _ _ _ rfl (R.ts.take at_) (by rw[NS,Nat.min_eq_left UA]) (H5.b at_) (by rw[NS,Nat.min_eq_left UA];simp;omega) ?_;intro v7 w7 PN OH;simp only[nil_append]at PN OH;obtain⟨d0,d1,d2,d3,d4,-,-⟩:=TB.o _ _ OH;have H7:=Ob PN OH;clear PN OH)
       | (at_builtin;refine ai rfl ?_;refine io (.tmp 88) (.tmp 100) rfl v7 (R.ts.take at_) rfl (H7.z.alloc _) H7.a _ 1 1 rfl [⟨m,p,nk⟩] rfl (xj (xs:=oI ⟨m,p,nk⟩)) (by rw[NS,Nat.min_eq_left UA];simp;omega) ?_;intro v8 w8 Vr OX;obtain⟨d0,d1,d2,d3,d4,-,d6⟩:=TB.o _ _ OX;have H8:=Oz Vr OX d6;clear Vr OX d6)
       | (at_builtin;refine ai rfl ?_;refine io (.tmp 102) (.tmp 108) rfl v8 (R.ts.take at_++[⟨m,p,nk⟩]) rfl H8.b H8.a _ _ _ rfl (R.ts.drop at_) NJ (H8.y at_ UA) Nj ?_;intro v9 w9 QS O4;obtain⟨d0,d1,d2,d3,d4,-,-⟩:=TB.o _ _ O4;have Xv:=cT O4.sat.left QS;have H9:=Oz QS O4 Xv;clear QS O4 Xv)
       | (refine ai rfl (aX 58 (.tmp 113) (.tmp 111) rfl R.blk 1 (da R) 60 v9 (H9.b.to (H:=(R.blk,Is (fL R))::(eH v9 (R.ts.take at_++[⟨m,p,nk⟩]++R.ts.drop at_)++(bH 193 4 (.slice (some ⟨g,0,none⟩) R.vs.length QJ) R.vs.length (bG vs1)++(eH R.tv R.ts++ay P)))) (by rw[HX.w];exact ac)) rfl rfl (by simp[da]) Nc H9.c H9.d ?_);intro w10 OM;have QW:=NZ OM;clear OM;simp only[Act.put]))
      all_goals
       go_ret;refine (.inr ⟨HC.o,HP.o,fun t ht=>HS.c t (by rw[take_length];exact ht),k,v9,hk,by rw[HR.d];exact HR.a,HR.c,rfl,⟨?_,?_⟩,?_⟩)
       ·show mf R.vv (gY R.vs k 1);rw[<- HX.c,HV.c];exact⟨by rw[bA],fun h=>by cases h⟩
       ·show DZ v9 (rI R.ts m ⟨m,p,R.vs[k].num⟩);unfold rI;rw[<- HA.o,<- HV.w];exact H9.a
       ·rw[<- HX.b];refine QW.o.drop (fun x=>?_)
        have e1:aC (fQ R (gY R.vs k 1) v9 (rI R.ts m ⟨m,p,R.vs[k].num⟩))=(R.blk,Is (.cells ((da R).setIfInBounds 1 v9) 60 (0,0)))::(bH 193 4 (.slice (some ⟨g,0,none⟩) R.vs.length QJ) R.vs.length (bG vs1)++eH v9 (R.ts.take at_++[⟨m,p,nk⟩]++R.ts.drop at_)):=by
         unfold aC fQ eh rI;dsimp only;rw[ly,<- HA.o,<- HV.w,<- HX.c,<- HV.c];rfl
        rw[e1];simp only[ao,af];omega
def Qy(t:OV):Bs×Bs×Int:=(t.name,t.path,t.num)
theorem sr(rs:List OV):cN rs=gR (rs.map Qy):=by
 induction rs with
 | nil=>rfl
 | cons a r ih=>simp only[cN,gR,map_cons,flatMap_cons]at ih ⊢;rw[ih];rfl
theorem Bk:∀(l:List (Bs×Bs×Int)) (i:Nat) (h:i<l.length) (j:Nat) (_:j<3),(gR l)[i*3+j]?=(yT l[i])[j]?
 | [],i,h,_,_=>by simp at h
 | a::r,0,_,j,hj=>by
  simp only[gR,flatMap_cons,Nat.zero_mul,Nat.zero_add,getElem_cons_zero]
  rw[getElem?_append_left (by simpa[yT]using hj)]
 | a::r,i+1,h,j,hj=>by
  simp only[gR,flatMap_cons,getElem_cons_succ]
  rw[getElem?_append_right (by simp[yT];omega),show(i+1)*3+j-(yT a).length=i*3+j by simp[yT];omega]
  exact Bk r i (by simpa using h) j hj
theorem Jv{w:World}{sl:Option Addr}{l:List (Bs×Bs×Int)}(h:ak w sl (gR l)){i:Nat}(hi:i<l.length):∃g off,sl=some ⟨g,off,none⟩ /\
  w.cell? ⟨g,off+i*3,none⟩=some (str l[i].1)/\w.cell? ⟨g,off+i*3+1,none⟩=some (str l[i].2.1)/\w.cell? ⟨g,off+i*3+2,none⟩=some (.int .i64 l[i].2.2):=by
 obtain⟨g,off,e,hc⟩:=h (by rw[l6];omega)
 have key:∀j (hj:j<3) (v:Value),(yT l[i])[j]?=some v->w.cell? ⟨g,off+i*3+j,none⟩=some v:=fun j hj v hv=>by
  have h1:=Bk l i hi j hj;rw[hv]at h1;obtain⟨p,e⟩:=List.getElem?_eq_some_iff.1 h1;have h2:=hc (i*3+j) p;rw[<- Nat.add_assoc]at h2;rw[h2,e]
 exact⟨g,off,e,key 0 Nb _ rfl,key 1 Nb _ rfl,key 2 Nb _ rfl⟩
def rO(es rs:List (Bs×Bs×Int))(w:World)(e:Ending)(w':World):Prop:=∃b,e=.returned (.bool b)/\(es=rs->b=true)/\aV w w'
theorem ng(es rs:List (Bs×Bs×Int))(a1 a2:Option Addr)(c1 c2:Nat)(w:World)(h1:ak w a1 (gR es))(h2:ak w a2 (gR rs))(hx:es.length<=1000000)(hy:rs.length<=1000000):
  Calls prog 92 #[.slice a1 es.length c1,.slice a2 rs.length c2] w (rO es rs w):=by
 have HH:=Ob h1 h2;clear h1 h2;go_enter func92,ntmps92;by_cases hl:es.length=rs.length
 ·have hlI:((es.length:Int) != (rs.length:Int))=false:=by simp[hl]
  have HL:=NZ hl;clear hl;go_wp2_with fail;go_loopw [5] (fun i wr=>∃k:Nat,k<=es.length/\i=.int .i64 k/\aV w wr) (fun i _=>es.length-(intOf i).toNat)
  case atStart=>exact⟨0,Nat.zero_le _,rfl,N7.refl _ _⟩
  case round =>
   obtain⟨k,hk,rfl,hs⟩:=hrel;by_cases hlt:k<es.length
   ·obtain⟨g,off,hg,p0,p1,p2⟩:=Jv (HH.a.keep hs (fun _ _ _=>id)) hlt;obtain⟨g',off',hg',q0,q1,q2⟩:=Jv (HH.z.keep hs (fun _ _ _=>id)) (i:=k) (by rw[<- HL.o];exact hlt);have hkr:k<rs.length:=by rw[<- HL.o];exact hlt
    subst hg;subst hg';obtain⟨x,hxd⟩:=Na (es[k]);obtain⟨y,YA⟩:=Na (rs[k]);rw[<- hxd]at p0 p1 p2;rw[<- YA]at q0 q1 q2;obtain⟨xp,xl,xs⟩:=x;obtain⟨yp,yl,ys⟩:=y;simp only at p0 p1 p2 q0 q1 q2;have HX:=Oz hxd YA hs;clear hxd YA hs
    have hno:∀(h:¬(xp,xl,xs)=(yp,yl,ys)) (W:World),aV w W->rO es rs w (.returned (.bool false)) W:=fun h W hW=>⟨false,rfl,fun he=>by
     exfalso;apply h;have e1:=HX.a;have e2:=HX.b;subst he;rw[e1,e2],hW⟩
    have U4:=NZ hno;clear hno;by_cases c1:xp=yp
    ·have c1':=c1.symm;clear c1;subst c1';by_cases c2:xl=yl
     ·have c2':=c2.symm;clear c2;subst c2';by_cases c3:xs=ys
      ·subst c3;go_upto_region 6 with(fail);go_quiet (fail);go_wp2_with fail;go_roundw
       case rel=>exact⟨k+1,Nb,by go_num,HX.y.drewN _⟩
       case measure=>simp[intOf];omega
      ·have d3:(xs != ys)=true:=by simp[c3]
       go_upto_region 6 with(fail);go_quiet (fail);go_wp2_with fail;go_ret;exact U4.o (by simp[c3]) _ (HX.y.drewN _)
     ·have d2:(xl==yl)=false:=by simp[c2]
      go_upto_region 6 with(fail);go_quiet (fail);go_wp2_with fail;go_ret;exact U4.o (by simp[c2]) _ (HX.y.drewN _)
    ·have d1:(xp==yp)=false:=by simp[c1]
     go_upto_region 6 with(fail);go_quiet (fail);go_wp2_with fail;go_ret;exact U4.o (by simp[c1]) _ (HX.y.drewN _)
   ·obtain rfl:k=es.length:=Nb
    go_wp2_with fail;go_ret;exact ⟨true,rfl,fun _=>rfl,hs⟩
 ·have hlI:((es.length:Int) != (rs.length:Int))=true:=Nj
  go_wp2_with fail;go_ret;exact ⟨false,rfl,fun he=>by subst he;exact absurd rfl hl,N7.refl _ _⟩
def qb(ts:List OV)(i:Nat):List OV:=ts.take i++ts.drop (i+1)
def Cy(R:Oh)(P:cU)(m:Bs)(w:World)(e:Ending)(w':World):Prop :=
 (∃k:Int,e=.returned (.int .i64 k)/\Turns (aC R) (aC R) w w'/\((R.closed=true/\k=9)\/(R.closed=false/\az m=false/\k=1)\/(R.closed=false/\az m=true/\(∀t∈R.ts,t.name≠m)/\k=3))) \/
 (R.closed=false/\az m=true/\∃i k tv',∃hi:i<R.ts.length,R.ts[i].name=m/\k<R.vs.length/\bZ R.vs R.ts[i].path R.ts[i].num R.vs.length=k/\e=.returned (.int .i64 0)/\PI (fQ R (gY R.vs k (-1)) tv' (qb R.ts i)) /\
  Turns (aC R++ay P) (aC (fQ R (gY R.vs k (-1)) tv' (qb R.ts i))++ay P) w w')
theorem yX(R:Oh)(P:cU)(m:Bs)(w:World)(h:OD R P w)(hJ:Sat w (aC R++ay P))(htl:R.ts.length<=100000)(Yh:∀v∈R.vs,v.held.natAbs<=1099511627776)(hte:∀t∈R.ts,∃k:Nat,k<R.vs.length/\bZ R.vs t.path t.num R.vs.length=k):
  Calls prog 69 #[.pointer (some ⟨R.blk,0,none⟩),str m] w (Cy R P m w):=by
 have HI:=NZ (jn m w);have hbl:=ae h.ref.Q5;have HH:=OW h hJ Yh hte;clear h hJ Yh hte;go_enter func69,ntmps69;go_wp2_with fail;refine HI.o.mono ?_;rintro e w1 ⟨rfl,hs1⟩;have hA1:=HH.a.same hs1;have hb1:=hA1.ref.Q5;have c3:w1.cell? ⟨R.blk,3,none⟩=some (.bool R.closed):=aa hb1 3 rfl;have Yc:=ae hb1;have H1:=Ob hs1 hA1;clear hs1 hA1 hb1
 cases hc:R.closed with
 | true =>
  rw[hc]at c3;have HC:=NZ hc;clear hc;go_wp2_with fail;go_ret;refine (.inl ⟨9,rfl,Turns.same HH.a.ref H1.a,.inl ⟨HC.o,rfl⟩⟩)
 | false =>
  rw[hc]at c3;have HC:=NZ hc;clear hc
  cases hp:az m with
  | false =>
   have HP:=NZ hp;go_wp2_with fail;go_ret;refine (.inl ⟨1,rfl,Turns.same HH.a.ref H1.a,.inr (.inl ⟨HC.o,HP.o,rfl⟩)⟩)
  | true =>
   have HP:=NZ hp;clear hp;go_wp2_with fail;go_loopw [6] (fun i wr=>∃j:Nat,j<=R.ts.length/\i=.int .i64 j/\aV w wr/\∀t∈R.ts.take j,t.name≠m) (fun i _=>R.ts.length-(intOf i).toNat)
   case atStart=>exact⟨0,Nat.zero_le _,rfl,H1.a,Nh⟩
   case round =>
    obtain⟨j,hj,rfl,hs,hnn⟩:=hrel;have hA:=HH.a.same hs;obtain⟨sl,cap,e1,e2,e3,OB,hcell⟩:=hA.tags;have c1:wr.cell? ⟨R.blk,1,none⟩=some (.slice sl R.ts.length cap):=by rw[<- e1];exact aa OB 1 rfl
    have UC:=ae OB;have HS:=OW hs hA hnn e1;clear hs OB hnn e1;by_cases hlt:j<R.ts.length
    ·obtain⟨g0,off,hg,hcc⟩:=hcell Nb;subst hg;obtain⟨h0,h1,h2⟩:=hcc j hlt;obtain⟨tn,htn⟩:=Na (R.ts[j].name);obtain⟨tp,htp⟩:=Na (R.ts[j].path);obtain⟨tk,htk⟩:=Na (R.ts[j].num);rw[<- htn]at h0;rw[<- htp]at h1;rw[<- htk]at h2;have hgl:=World.block_lt_of_cell? wr _ h0;have HX0:=Oz htn htp htk;clear hcc hcell hA htn htp htk;by_cases hp:tn=m
     ·obtain⟨k,hk,hbt⟩:=HH.x _ (getElem_mem hlt);rw[<- HX0.b,<- HX0.y]at hbt;have HB:=Ob hbt hp;clear hbt;go_upto_region 10 with(fail);refine wp_region_still_tail 17 HM.o Nc ?_;simp only[QE,take_zero,QD,drop_zero];repeat still_step
      refine wpStill_nil ?_;change wpList _ _ _ _ _ wr.drew;have Y3:=NZ (kP R P tp tk wr.drew (HH.a.same HS.a.drew));go_wp2_with fail;refine Y3.o.mono ?_;rintro e w3 ⟨rfl,hs3⟩;rw[HB.a];have hs4:aV w w3:=HS.a.drew.trans hs3;have XP:=HH.a.same hs4;obtain⟨g,QJ,ev,ev2,ev3,c0,hblk3,hg3,hh3,hn3⟩:=BI XP hk;obtain⟨hd,hhd⟩:=Na (R.vs[k].held);obtain⟨nk,hnk⟩:=Na (R.vs[k].num);rw[<- hhd]at hh3;rw[<- hnk]at hn3;have hhb:=HH.c _ (getElem_mem hk);rw[<- hhd]at hhb;have hw:IntKind.i64.wrap (hd-1)=hd-1:=IntWalk.i64_in _ Nb;have Oj:Turns (aC R++ay P) (eh (.slice (some ⟨g,0,none⟩) R.vs.length QJ) R.vs++((R.blk,Is (fL R))::(eH R.tv R.ts++ay P))) w w3:=(Turns.same HH.b hs4).to (by unfold aC;rw[ev];exact ac);have VA:mf (.slice (some ⟨g,0,none⟩) R.vs.length QJ) R.vs:=by rw[<- ev];exact HH.a.ok.vs
      have HV:=PD Oj VA ev hhd hnk;have hkl:(k:Int)<(R.vs.length:Int):=Nb
      clear hs3 hs4 XP Oj VA ev hhd hnk;obtain⟨F2,hF2⟩:=Na (aC R++ay P);obtain⟨vs1,RS⟩:=Na (gY R.vs k (-1));have Uc:vs1.length=R.vs.length:=by rw[RS,ly]
      have hrow1:(bG R.vs).set (k*4+3) (.int .i64 (hd-1))=bG vs1:=by rw[HV.d,RS,Int.sub_eq_add_neg];exact xf hk (-1)
      have hn1:∀(h:k<vs1.length),vs1[k].num=nk:=fun h=>by
       have:vs1[k]?=some { R.vs[k]with held:=R.vs[k].held+-1 }:=by rw[RS];unfold gY;rw[getElem?_eq_getElem hk];simp[hk]
       rw[getElem?_eq_getElem h]at this;rw[Option.some.inj this,HV.w]
      obtain⟨BF,XT⟩:=Na (bH 193 4 (.slice (some ⟨g,0,none⟩) R.vs.length QJ) R.vs.length (bG vs1)++((R.blk,Is (fL R))::(eH R.tv R.ts++ay P)))
      have W9:∀(W:World) (G:HF),Turns F2 (G++BF) w W->W.cell? ⟨R.blk,0,none⟩=some (.slice (some ⟨g,0,none⟩) R.vs.length QJ)/\W.cell? ⟨R.blk,1,none⟩=some (.slice (some ⟨g0,off,none⟩) R.ts.length cap)/\R.blk<W.heap.size/\W.cell? ⟨g,k*4+1,none⟩=some (.int .i64 nk)/\g<W.heap.size /\
        (∀k,ak W (some ⟨g0,off,none⟩) (cN (R.ts.take k)))/\(∀k,k<=R.ts.length->ak W (if cap=k then some ⟨g0,off,none⟩else some ⟨g0,off+k*3,none⟩) (cN (R.ts.drop k))):=fun W G hT=>by
       have hs:=hT.sat.right;rw[XT]at hs;obtain⟨sl',cap',e1',-,-,e4',e5'⟩:=xQ (hs.right.tail.left) HH.a.ok.ts;rw[HS.x]at e1';simp only[Value.slice.injEq,true_and]at e1';obtain⟨rfl,rfl⟩:=e1';have OB:=hs.right.Q5;have hrk:ei 4 (.slice (some ⟨g,0,none⟩) R.vs.length QJ) R.vs.length (bG vs1):=⟨by rw[bA,Uc],fun h=>by cases h⟩;obtain⟨a',c',ea,-,-,hcc,-⟩:=bb hs.left hrk Nk;simp only[Value.slice.injEq,true_and]at ea;obtain⟨rfl,-⟩:=ea;obtain⟨g',off',eg,hcc⟩:=hcc Nu;simp only[NY,Addr.mk.injEq,and_true]at eg;obtain⟨rfl,rfl⟩:=eg;obtain⟨-,h1,-,-⟩:=zc hcc (show k<vs1.length by omega);rw[hn1,Nat.zero_add]at h1
       exact⟨by rw[<- HV.c];exact aa OB 0 rfl,by rw[<- HS.x];exact aa OB 1 rfl,ae OB,h1,World.block_lt_of_cell? W _ h1,e4',fun k hk=>by
        have h:=e5' k hk;have e:(some (⟨g0,off,none⟩:Addr)).map (·.add (k*3))=some ⟨g0,off+k*3,none⟩:=by by_cases h0:k=0<;>simp[Addr.add,h0];omega
        rwa [e]at h⟩
      have TB:=NZ W9;have HX:=PD hrow1 hF2 RS Uc XT;have HV1:=NZ (show Turns F2 _ w w3 by rw[hF2];exact HV.a);clear W9 hrow1 hn1 hF2 RS Uc XT;obtain⟨j1,hj1⟩:=Na (j+1);have hj1z:(j:Int)+1=(j1:Int):=Nb
      have hj1l:j1<=R.ts.length:=Nb
      have hj1c:j1<=cap:=Nb
      have hjl:j<=R.ts.length:=Nb
      have HJ:=NZ hj1;clear hj1
      go_wp2_with (first
       | (refine ai rfl (pD 3 (.tmp 64) (.tmp 62) rfl 193 4 R.vs.length g QJ (bG R.vs) HV1.o HV.b (k*4+3) Nb (.int .i64 (hd-1)) rfl rfl Nc (by simp[Value.oneCell']) rfl ?_);intro w5 Pe Og;rw[HX.a,<- HX.w]at Og;obtain⟨d0,d1,d2,d3,d4,d5,d6⟩:=TB.o _ [] Og;have H5:=Oz Og d5 d6;clear Pe Og d5 d6 c0 hh3 hn3;simp only[Act.put])
       | (at_builtin;refine ai rfl ?_;refine io (.tmp 65) (.tmp 71) rfl (.slice none 0 0) [] rfl (G:=BF) (show Turns F2 (eH (.slice none 0 0) []++BF) w w5 from H5.a) ⟨rfl,fun _=>⟨rfl,rfl⟩⟩ _ _ _ rfl (R.ts.take j) (by rw[NS,Nat.min_eq_left hjl]) (H5.b j) (by rw[NS,Nat.min_eq_left hjl];simp;omega) ?_;intro v7 w7 PN OH;simp only[nil_append]at PN OH;obtain⟨d0,d1,d2,d3,d4,-,d6⟩:=TB.o _ _ OH;have H7:=Oz PN OH d6;clear PN OH d6)
       | (at_builtin;refine ai rfl ?_;refine io (.tmp 73) (.tmp 80) rfl v7 (R.ts.take j) rfl H7.b H7.a _ _ _ rfl (R.ts.drop j1) NJ (H7.y j1 hj1l) Nj ?_;intro v9 w9 QS O4;obtain⟨d0,d1,d2,d3,d4,-,-⟩:=TB.o _ _ O4;have Xv:=cT O4.sat.left QS;have H9:=Oz QS O4 Xv;clear QS O4 Xv)
       | (refine ai rfl (aX 58 (.tmp 85) (.tmp 83) rfl R.blk 1 (da R) 60 v9 (H9.b.to (H:=(R.blk,Is (fL R))::(eH v9 (R.ts.take j++R.ts.drop j1)++(bH 193 4 (.slice (some ⟨g,0,none⟩) R.vs.length QJ) R.vs.length (bG vs1)++(eH R.tv R.ts++ay P)))) (by rw[HX.w];exact ac)) rfl rfl (by simp[da]) Nc H9.c H9.d ?_);intro w10 OM;have QW:=NZ OM;clear OM;simp only[Act.put]))
      all_goals
       go_ret;refine (.inr ⟨HC.o,HP.o,j,k,v9,hlt,by rw[<- HX0.a];exact HB.z,hk,by rw[<- HX0.b,<- HX0.y];exact HB.a,rfl,⟨?_,?_⟩,?_⟩)
       ·show mf R.vv (gY R.vs k (-1));rw[<- HX.c,HV.c];exact⟨by rw[bA],fun h=>by cases h⟩
       ·show DZ v9 (qb R.ts j);unfold qb;rw[<- HJ.o];exact H9.a
       ·rw[<- HX.b];refine QW.o.drop (fun x=>?_)
        have e1:aC (fQ R (gY R.vs k (-1)) v9 (qb R.ts j))=(R.blk,Is (.cells ((da R).setIfInBounds 1 v9) 60 (0,0)))::(bH 193 4 (.slice (some ⟨g,0,none⟩) R.vs.length QJ) R.vs.length (bG vs1)++eH v9 (R.ts.take j++R.ts.drop j1)):=by
         unfold aC fQ eh qb;dsimp only;rw[ly,<- HJ.o,<- HX.c,<- HV.c];rfl
        rw[e1];simp only[ao,af];omega
     ·have hpq:(tn==m)=false:=by simp[hp]
      have hstep:∀t∈R.ts.take (j+1),t.name≠m:=fun t ht=>by
       rw[QH hlt]at ht;rcases mem_append.1 ht with ht|ht
       ·exact HS.c t ht
       ·rw[mem_singleton.1 ht,<- HX0.a];exact hp
      have HT:=NZ hstep;clear hstep;go_wp2_with fail;go_roundw
      case rel=>exact⟨j+1,Nb,by go_num,HS.a,HT.o⟩
      case measure=>simp[intOf];omega
    ·obtain rfl:j=R.ts.length:=Nb
     clear hcell hA;go_wp2_with fail;go_ret;refine (.inl ⟨3,rfl,Turns.same HH.a.ref HS.a,.inr (.inr ⟨HC.o,HP.o,fun t ht=>HS.c t (by rw[take_length];exact ht),rfl⟩)⟩)
def Io(S:AS)(m:Bs)(k:Int):Prop :=
 (S.X.closed=true/\k=9)\/(S.X.closed=false/\az m=false/\k=1)\/(S.X.closed=false/\az m=true/\kh S.ts m=false/\k=3) \/
 (∃q∈S.ts,q.key=m/\S.X.closed=false/\az m=true/\128*S.A.count<S.data.length+(frame 5 (eG q.g.1 m q.g.2)).length/\k=8)
def Fv(S:AS)(m:Bs)(w:World)(e:Ending)(w':World):Prop :=
 (∃k,Io S m k/\e=.returned (cr k)/\Turns (N9 S) (N9 S) w w') \/
 (∃q∈S.ts,∃L',q.key=m/\S.X.closed=false/\az m=true/\S.data.length+(frame 5 (eG q.g.1 m q.g.2)).length<=128*S.A.count/\e=.returned .nilIface/\PS S L' (frame 5 (eG q.g.1 m q.g.2))/\Turns (N9 S) (N9 (zg S m q.g.1 q.g.2 L')) w w')
theorem JT{S:AS}{b:Nat}(hB:QU S b)(hb:b<=90000)(l:Bs):(ah S.ps l).length<=1099511627776:=by have:=zh hB l;omega
theorem zN(S:AS)(m:Bs)(b:Nat)(w:World)(h:Sat w (N9 S))(hok:Oo S)(hB:QU S b)(hb:b<=90000):
  Calls prog 68 #[.pointer (some ⟨S.a,0,none⟩),str m] w (Fv S m w):=by
 have HBg:=NZ (fun W (hW:aV w W) (h0:W.cell? ⟨w.heap.size,0,none⟩=some (str m))=>kD S.a S.X (some ⟨w.heap.size,0,none⟩) 1 [m] W (hW.at h.Q5 id) (fun _=>⟨_,_,rfl,fun j hj=>by
  obtain rfl:j=0:=by simp at hj;omega
  exact h0⟩) Nh)
 have hal:=ae h.Q5;have HH:=OW h hok hB hb;clear h hok hB hb;go_enter func68,ntmps68;go_wp2_with fail;have Uz:=aM w (.cells #[str m] 9);refine(HBg.o _ ((N7.refl _ w).alloc _) (aa Uz 0 rfl)).mono ?_;rintro e w2 ⟨rfl,hs1⟩;have hs2:aV w w2:=((N7.refl _ w).alloc _).trans hs1;obtain⟨cl,hcl⟩:=Na S.X.closed;obtain⟨pb,hpb⟩:=Na (az m);have e1:([m].all az)=pb:=by simp[hpb]
 rw[e1,<- hcl];have hT1:Turns (N9 S) (N9 S) w w2:=Turns.same HH.a hs2;have HD:=Oz hcl.symm hpb.symm hT1;clear hcl hpb hs2 hs1 e1 Uz
 cases cl with
 | true =>
  simp only[if_true];unfold cr;go_wp2_with fail;go_ret;refine (.inl ⟨9,.inl ⟨HD.a,rfl⟩,rfl,HD.y⟩)
 | false =>
  cases pb with
  | false =>
   simp only[Bool.false_eq_true,if_false];unfold cr;go_wp2_with fail;go_ret;refine (.inl ⟨1,.inr (.inl ⟨HD.a,HD.b,rfl⟩),rfl,HD.y⟩)
  | true =>
   simp only[Bool.false_eq_true,if_false,if_true];have a1:w2.cell? ⟨S.a,1,none⟩=some (.map (some S.X.tm)):=aa hT1.sat.Q5 1 rfl;have hal2:=ae hT1.sat.Q5;have RG:=hT1.sat.Q7 (b:=S.X.tm) (o:=aU str (S.ts.map aR) S.tc) (by simp[N9,bX]);have Zn:Py m:=by have:=dy HD.b;unfold Py;omega
   have HV:=Ob RG Zn;clear RG Zn hT1
   cases hg:dH (S.ts.map aR) m with
   | none =>
    have hhb:iB (S.ts.map aR) m=false:=by rw[gO,hg];rfl
    have HG:=Ob hg hhb;clear hg hhb;go_wp2_with (at_lookup;refine ai rfl (iO dR (.tmp 21) (.tmp 22) rfl underlying120 HV.a HH.b.tags.map (kw _) m rfl rfl HV.z ?_);rw[HG.a,HG.z];simp only[Option.getD_none];unfold Lo);go_ret;refine (.inl ⟨3,.inr (.inr (.inl ⟨HD.a,HD.b,by rw[<- qp];exact HG.z,rfl⟩)),rfl,HD.y.alloc _⟩)
   | some u =>
    obtain⟨e,he,hek,hev⟩:=lu hg;obtain⟨q,hq,rfl⟩:=mem_map.1 he;have hqk:q.key=m:=hek;have hqv:=HH.b.tags.val q hq;have hu:u=.agg #[str m,str q.g.1,.int .i64 q.g.2]:=by rw[<- hqk,<- hev];exact hqv
    have hhb:iB (S.ts.map aR) m=true:=by rw[gO,hg];rfl
    rw[hu]at hg;have hqb:=HH.c.tags q hq;have HG:=PD hg hhb hq hqk hqb;clear hg hhb hu hqv hek hev he hq hqb;obtain⟨l,n,hgq⟩:∃l n,q.g=(l,n):=⟨_,_,rfl⟩;rw[hgq]at HG;dsimp only at HG;go_upto_region 7 with(at_lookup;refine ai rfl (iO dR (.tmp 21) (.tmp 22) rfl underlying120 HV.a HH.b.tags.map (kw _) m rfl rfl HV.z ?_);rw[HG.a,HG.b];simp only[Option.getD_some]);generalize hW:World.alloc w2 _=W
    have hT2:Turns (N9 S) ((w2.heap.size,Is (.cells #[str m,str l,.int .i64 n] 230 (0,0)))::N9 S) w W:=by
     rw[<- hW];exact HD.y.Q9 (.cells #[str m,str l,.int .i64 n] 230)
    have OB:=hT2.sat.Q5;have d0:W.cell? ⟨w2.heap.size,0,none⟩=some (str m):=aa OB 0 rfl;have d1:W.cell? ⟨w2.heap.size,1,none⟩=some (str l):=aa OB 1 rfl;have d2:W.cell? ⟨w2.heap.size,2,none⟩=some (.int .i64 n):=aa OB 2 rfl;obtain⟨pb,hpb⟩:=Na w2.heap.size;rw[<- hpb]at hT2 d0 d1 d2 ⊢;have H2:=NZ hT2;clear hW hT2 OB hpb;go_wp2_with fail;refine(l5 5 m l n _).mono ?_;rintro e w3 ⟨rfl,hs3⟩;obtain⟨rec,hrec⟩:=Na (frame 5 (eG l m n))
    have hrl:rec.length<=70000:=by
     have:=dy HD.b;have:=HG.f;rw[hrec];simp only[bi,eG,NM,bS,bU];omega
    have X8:=ku 5 l m n w3 HG.f (by have:=dy HD.b;omega) (by unfold I64;have:=HH.x;have:=HG.u;omega);rw[<- hrec]at X8;have HW:=NZ X8;have H3:=Oz (H2.o.Q8 hs3) hrec hrl;clear hs3 hrec hrl X8 d0 d1 d2;go_wp2_with fail;refine HW.o.mono ?_;rintro e w4 ⟨rv,rfl,OB,Oj⟩;obtain⟨ra,rc,RX,-⟩:=aP (dh Oj.sat OB);subst RX;have Og:=((H3.a.Qb Oj).Q9 (.cells #[.slice ra rec.length rc] 38)).to (H:=(N9 S++mH w4.heap.size (.slice ra rec.length rc) rec)++[(pb,Is (.cells #[str m,str l,.int .i64 n] 230 (0,0)))]) (by unfold mH;exact ac);have HC:=NZ (kX S HH.b b HH.c HH.x (.slice ra rec.length rc) rec w4.heap.size _ Og.sat.left OB H3.y);have X9:=ae (Og.sat.Q7 (b:=S.a) (o:=aL S.X) Nv);have H5:=NZ Og;clear Oj Og OB;go_wp2_with fail;refine HC.o.mono ?_;rintro e w5 (⟨Tf,rfl,hs⟩|⟨hfit,rfl,L',hR,Ox⟩)
    ·have H6:=Ob Tf (H5.o.Q8 hs);clear Tf hs;unfold cr;go_wp2_with fail;go_ret;refine (.inl ⟨8,.inr (.inr (.inr ⟨q,HG.c,HG.d,HD.a,HD.b,by rw[hgq,<- H3.b];exact H6.a,rfl⟩)),rfl,?_⟩);exact H6.z.drop (fun x=>by simp only[af];omega)
    ·have OH:=H5.o.step (Perm.refl _) Ox;have OX:=OH.to (H:=jL S.a S.X S.ps S.pc S.ts S.tc++((aq S.X.ab S.X.d (m8 S L' rec).A++(aA S.X.d L'++aQ S.X.cm S.cs S.cc))++(mH w4.heap.size (.slice ra rec.length rc) rec++[(pb,Is (.cells #[str m,str l,.int .i64 n] 230 (0,0)))]))) (by unfold N9 m8 jL;exact ac);have SC:=OX.sat.Q7 (b:=pb) (o:=.cells #[str m,str l,.int .i64 n] 230 (0,0)) Nh;have d0:w5.cell? ⟨pb,0,none⟩=some (str m):=aa SC 0 rfl;have d1:w5.cell? ⟨pb,1,none⟩=some (str l):=aa SC 1 rfl;have d2:w5.cell? ⟨pb,2,none⟩=some (.int .i64 n):=aa SC 2 rfl;have ZA:S.a<w5.heap.size:=ae (OX.sat.Q7 (b:=S.a) (o:=aL S.X) (by simp[jL]));have H8:=Oz OX hfit hR;clear Ox OH OX SC hfit hR;go_wp2_with fail;refine wp_region_still_tail 4 HM.o Nc ?_;simp only[QE,take_zero,QD,drop_zero];repeat still_step
     refine wpStill_nil ?_;change wpList _ _ _ _ _ w5.drew;have O4:=H8.a.drew;have HPn:=NZ (sx S.a S.X S.ps S.pc S.ts S.tc m l n w5.drew ⟨O4.sat.left,HH.b.paths,HH.b.tags,HV.z,by unfold Py;have:=HG.f;omega,JT HH.c HH.x l,EK HH.c HH.x l⟩);have H9:=NZ O4;clear O4 d0 d1 d2;go_wp2_with fail;refine HPn.o.mono ?_;rintro e w6 ⟨rfl,OM⟩;have QW:=NZ (H9.o.step (Perm.refl _) OM);clear OM;go_wp2_with fail;go_ret;refine (.inr ⟨q,HG.c,L',HG.d,HD.a,HD.b,by rw[hgq,<- H3.b];exact H8.b,rfl,by rw[hgq,<- H3.b];exact H8.y,?_⟩);rw[hgq];refine QW.o.drop (fun x=>?_);unfold zg N9 m8 jL;rw[<- H3.b];simp only[ao,af];omega
def fW(p:Bs)(n d:Int)(v:Oi):Oi:=if v.path=p/\v.num=n then { v with held:=v.held+d } else v
theorem fX(p:Bs)(n d:Int)(v:Oi):(fW p n d v).path=v.path/\(fW p n d v).num=v.num/\(fW p n d v).cont=v.cont/\(fW p n d v).cv=v.cv:=by
 unfold fW;split<;>exact⟨rfl,rfl,rfl,rfl⟩
theorem uv{vs:List Oi}(h:qT vs){k:Nat}(hk:k<vs.length)(d:Int):gY vs k d=vs.map (fW vs[k].path vs[k].num d):=by
 unfold gY;rw[getElem?_eq_getElem hk];dsimp only;refine ext_getElem Nh fun i h1 h2=>?_
 rw[getElem_set,getElem_map];rw[length_set]at h1;by_cases hi:k=i
 ·subst hi;rw[NR rfl];unfold fW;rw[NR ⟨rfl,rfl⟩]
 ·rw[NQ hi];unfold fW;rw[NQ (fun e=>hi (h.one hk h1 e.1.symm e.2.symm))]
theorem CX(vs:List Oi)(p:Bs)(n d:Int)(q:Bs):bF (vs.map (fW p n d)) q=(bF vs q).map (fW p n d):=by
 unfold bF;rw[filter_map];congr 1;refine filter_congr fun v _=>?_
 show decide ((fW p n d v).path=q)=_;rw[(fX p n d v).1]
def tb(n d:Int)(t:Im):Im:=if t.1=n then(t.1,t.2.1,t.2.2+d)else t
theorem tX(vs:List Oi)(p:Bs)(n d:Int):di (vs.map (fW p n d))=di vs:=by
 unfold di;rw[map_map];congr 1;exact map_congr_left fun v _=>by show(fW p n d v).cont.length=_;rw[(fX p n d v).2.2.1]
theorem xP{ts:List OV}(hs:ts.Pairwise (fun a b=>cE a.name b.name=true)){m:Bs}(hm:∀t∈ts,t.name≠m):∀k,k<=ts.length->(∀i (h:i<ts.length),i<Sz ts m k->cE ts[i].name m=true)/\(∀i (h:i<ts.length),Sz ts m k<=i->i<k->cE m ts[i].name=true)
 | 0,_=>⟨fun i _ h=>by simp[Sz]at h,fun i _ _ h=>by omega⟩
 | k+1,hk=>by
  obtain⟨h1,h2⟩:=xP hs hm k Nb
  have h5:=pairwise_iff_getElem.1 hs
  rw[B4 Nb]
  cases hb:cE ts[k].name m with
  | true =>
   rw[NR rfl]
   refine⟨fun i hi h3=>?_,fun i hi h3 h4=>by omega⟩
   by_cases hik:i=k
   ·subst hik;exact hb
   ·exact gX (h5 i k hi Nb Nb) hb
  | false =>
   rw[NQ Nh]
   refine⟨h1,fun i hi h3 h4=>?_⟩
   by_cases hik:i=k
   ·subst hik
    cases hc:cE m ts[i].name with
    | true=>rfl
    | false=>exact absurd (mM _ _ hb hc) (hm _ (getElem_mem hi))
   ·exact h2 i hi h3 Nb
theorem GV(ts:List OV)(m:Bs)(x:OV):(rI ts m x).Perm (x::ts):=by
 unfold rI;refine(Perm.append_right _ perm_append_comm).trans ?_;rw[NV,take_append_drop];exact Perm.refl _
theorem Ca{ts:List OV}(hs:ts.Pairwise (fun a b=>cE a.name b.name=true)){m:Bs}(hm:∀t∈ts,t.name≠m){x:OV}(hx:x.name=m):(rI ts m x).Pairwise (fun a b=>cE a.name b.name=true):=by
 obtain⟨h1,h2⟩:=xP hs hm ts.length (Nat.le_refl _);have h3:(ts.take (Sz ts m ts.length)++ts.drop (Sz ts m ts.length)).Pairwise (fun a b=>cE a.name b.name=true):=by rw[take_append_drop];exact hs
 rw[pairwise_append]at h3
 have ha:∀t∈ts.take (Sz ts m ts.length),cE t.name m=true:=fun t ht=>by
  obtain⟨i,hi,rfl⟩:=getElem_of_mem ht;rw[NS]at hi;rw[getElem_take];exact h1 i Nb Nb
 have hb:∀t∈ts.drop (Sz ts m ts.length),cE m t.name=true:=fun t ht=>by
  obtain⟨i,hi,rfl⟩:=getElem_of_mem ht;rw[NT]at hi;rw[getElem_drop];exact h2 _ Nb Nb Nb
 unfold rI;rw[pairwise_append,pairwise_append];refine⟨⟨h3.1,pairwise_singleton _ _,fun a h b hb'=>?_⟩,h3.2.1,fun a h b h'=>?_⟩
 ·obtain rfl:=mem_singleton.1 hb';rw[hx];exact ha a h
 ·rcases mem_append.1 h with h|h
  ·exact gX (ha a h) (hb b h')
  ·obtain rfl:=mem_singleton.1 h;rw[hx];exact hb b h'
theorem ux{a b:List OV}(h:a.Perm b)(p:Bs)(n:Int):iX a p n=iX b p n:=by unfold iX;rw[h.countP_eq]
theorem uw(t:OV)(ts:List OV)(p:Bs)(n:Int):iX (t::ts) p n=iX ts p n+(if t.path=p/\t.num=n then 1 else 0):=by
 unfold iX;rw[countP_cons];by_cases h:t.path=p/\t.num=n<;>simp[h]
theorem Li{ts:List OV}(hs:ts.Pairwise (fun a b=>cE a.name b.name=true)){i:Nat}(hi:i<ts.length):qb ts i=ts.filter (fun t => !decide (t.name=ts[i].name)):=by
 have h5:=pairwise_iff_getElem.1 hs
 have hne:∀j (hj:j<ts.length),j≠i->ts[j].name≠ts[i].name:=fun j hj h e=>by
  rcases Nat.lt_or_gt_of_ne h with hl|hl
  ·have:=h5 j i hj hi hl;rw[e,eW]at this;cases this
  ·have:=h5 i j hi hj hl;rw[e,eW]at this;cases this
 have e:ts=ts.take i++ts[i]::ts.drop (i+1):=by rw[<- drop_eq_getElem_cons hi,take_append_drop]
 have h1:(ts.take i).filter (fun t => !decide (t.name=ts[i].name))=ts.take i:=filter_eq_self.2 fun v hv=>by
  obtain⟨j,hj,rfl⟩:=getElem_of_mem hv;rw[NS]at hj;rw[getElem_take];have:=hne j Nb Nb;simp[this]
 have h2:(ts.drop (i+1)).filter (fun t => !decide (t.name=ts[i].name))=ts.drop (i+1):=filter_eq_self.2 fun v hv=>by
  obtain⟨j,hj,rfl⟩:=getElem_of_mem hv;rw[NT]at hj;rw[getElem_drop];have:=hne (i+1+j) Nb Nb;simp[this]
 calc qb ts i=ts.take i++ts.drop (i+1):=rfl
  _=(ts.take i++ts[i]::ts.drop (i+1)).filter (fun t => !decide (t.name=ts[i].name)):=by rw[filter_append,filter_cons_of_neg Nh,h1,h2]
  _=_:=by rw[<- e]
def MH(K:KL)(h:HV):Im:=((h.num:Int),h.N8.flatMap (bt K),h.held)
structure WR (st:Rh) (R:Oh):Prop where
 used:(st.H.map (·.size)).sum=di R.vs
 vers:∀p,(st.H.filter (fun h=>decide (h.p=p))).map (MH st.K)=(bF R.vs p).map LG
 sorted:R.vs.Pairwise (fun a b=>cE b.path a.path=false)
 UR:∀p,((bF R.vs p).map (·.num)).Pairwise (·<·)
 each:∀v∈R.vs,1<=v.num/\az v.path=true/\v.cont.length<=4000
 tags:st.T.Perm (R.ts.map MG)
 QT:R.ts.Pairwise (fun a b=>cE a.name b.name=true)
 P9:∀t∈R.ts,az t.name=true/\∃v∈R.vs,v.path=t.path/\v.num=t.num
 held:∀v∈R.vs,v.held=iX R.ts v.path v.num
def MS(rs:mG)(wh:Nat)(Rs:List Oh):Prop:=∀a b,rs=a++b->wh<=(cG a).length->∃R∈Rs,∃st,kz 0 ⟨[],[],[]⟩ a=some st/\WR st R
theorem JE{D:Bs}{at_:Nat}{s:Rh}(h:Reach D at_ s):at_<=D.length:=by
 induction h with
 | zero=>exact Nat.zero_le _
 | next hr ho hs ih =>
  have:=(dD ho).2.2.1;rw[NT]at this;omega
def Mo(now:Bs)(n:Nat)(Rs:List Oh)(e:Nat):Prop:=∃rs z,tC rs/\aB now (2+e%2*au n) (au n)=cG rs++an z/\∃R∈Rs,∃st,kz 0 ⟨[],[],[]⟩ rs=some st/\WR st R
structure U2 (S:AS) (rs:mG) (Rs:List Oh):Prop where
 wh:∃wh,wh<4294967296/\aN S.L.now (S.X.ep%2)=bO S.X.ep wh/\wh<=(cG rs).length/\MS rs wh Rs
 old:aN S.L.now ((S.X.ep+1)%2)=an 128\/∃e wh,S.X.ep=e+1/\wh<4294967296/\aN S.L.now ((S.X.ep+1)%2)=bO e wh/\Mo S.L.now S.L.n Rs e
def lH(l:List Bs):Nat:=(l.map length).sum
def gt(vs:List Oi):List Bs:=vs.foldl (fun l v=>fT l (aD v.cont)) []
theorem yo{vs:List Oi}{k:Nat}(h:k<vs.length):gt (vs.take (k+1))=fT (gt (vs.take k)) (aD vs[k].cont):=by
 unfold gt;rw[QH h,foldl_append];rfl
def nC(R:Oh)(x:RI):Prop:=∃u∈R.vs,∃sl cap,u.cv=.slice sl u.cont.length cap/\u.cont.length<=cap/\cap<=9223372036854775807/\lM sl cap u.cont x
theorem nC.at{R:Oh}{P:cU}{w:World}{x:RI}(hx:nC R x)(h:OD R P w):CD w x:=by
 obtain⟨u,hu,sl,cap,e,h1,h2,h3⟩:=hx;obtain⟨sl',cap',e',h1',hc,-⟩:=h.cont hu;rw[e]at e';simp only[Value.slice.injEq,true_and]at e';obtain⟨rfl,rfl⟩:=e';exact h3.at hc h1 h2
def zD(R:Oh)(w:World)(e:Ending)(w':World):Prop :=
 ∃v M,e=.returned v/\vi v M/\M.map (·.bs)=gt R.vs/\(∀x∈M,nC R x)/\Turns [] (bP v M) w w'
theorem oG(R:Oh)(P:cU)(w:World)(h:OD R P w)(hu:∀j,j<=R.vs.length->(gt (R.vs.take j)).length<=700000):
  Calls prog 72 #[.pointer (some ⟨R.blk,0,none⟩)] w (zD R w):=by
 have HR:=Ob h hu;have hlen:=h.len;clear h hu;go_enter func72,ntmps72;go_wp2_with fail;go_loopw [3,4] (fun l i wr=>∃(k:Nat) (M:List RI) (J:HF),k<=R.vs.length/\i=.int .i64 k/\vi l M/\M.map (·.bs)=gt (R.vs.take k)/\(∀x∈M,nC R x)/\Turns [] (bP l M++J) w wr) (fun _ i _=>R.vs.length-(intOf i).toNat)
 case atStart=>exact⟨0,[],[],Nat.zero_le _,rfl,⟨rfl,fun _=>⟨rfl,rfl⟩⟩,rfl,(fun x hx=>by cases hx),Turns.refl (Sat.nil w)⟩
 case round =>
  obtain⟨k,M,J,hk,rfl,hlo,hM,hin,hT⟩:=hrel;have hra:=HR.a.same hT.news;obtain⟨sl,cap,e1,e2,e3,hb,hcell⟩:=hra.row;have c0:wr.cell? ⟨R.blk,0,none⟩=some (.slice sl R.vs.length cap):=by rw[<- e1];exact aa hb 0 rfl
  have hbl:=ae hb;have HT:=OW hlo hM hin hT;by_cases hlt:k<R.vs.length
  ·obtain⟨g,off,hg,hcc⟩:=hcell Nb;subst hg;obtain⟨-,-,hc,-⟩:=hcc k hlt
   have hrow:∃a c,(R.vs[k]'hlt).cv=.slice a (R.vs[k]'hlt).cont.length c/\(R.vs[k]'hlt).cont.length<=c/\c<=9223372036854775807:=by
    have hm:=HR.a.inp _ (getElem_mem hlt);have h1:Sat w (aJ (R.vs[k]'hlt).cv (R.vs[k]'hlt).cont):=Sat.flat (f:=fun p:Value×Bs=>aJ p.1 p.2) HR.a.pool hm;exact(cT h1 (HR.a.Ru _ hm)).2.2
   obtain⟨P6,OG,hcv,hcl,RF⟩:=hrow;rw[hcv]at hc;have hcm:=HR.a.TL _ (getElem_mem hlt)
   have hml:M.length+(R.vs[k]'hlt).cont.length<=900000:=by
    have h1:M.length=(gt (R.vs.take k)).length:=by rw[<- hM,NP]
    have h2:=HR.z k hk;omega
   have hAdd:=uN P6 OG (R.vs[k]'hlt).cont u3 M wr hT.sat.left hlo (fun W G hG x hx=>(hin x hx).at (HR.a.same (hT.step (Perm.refl _) hG).news)) (fun W G hG=>by
    obtain⟨sl',cap',e',-,hcs,-⟩:=(HR.a.same (hT.step (Perm.refl _) hG).news).cont (getElem_mem hlt);rw[hcv]at e';simp only[Value.slice.injEq,true_and]at e';obtain⟨rfl,rfl⟩:=e';exact hcs) hcl RF Nb hml
   obtain⟨cl,PY⟩:=Na ((R.vs[k]'hlt).cont);rw[<- PY]at hc hAdd hcv hcl;have HA:=PD hAdd PY hcv hcl RF;clear hAdd PY hcv hcl RF hcm hml hcc hcell hb e1 hra hlo hM hin hT;go_wp2_with fail;refine HA.a.mono ?_;rintro e w5 ⟨v,M',rfl,hok',hM',hin',hT'⟩;have H5:=OW hok' hM' hin' (HT.x.step (Perm.refl _) hT');clear hok' hM' hin' hT';go_wp2_with fail;go_roundw
   case rel =>
    refine⟨k+1,M',J,Nb,by go_num,H5.a,by rw[H5.b,yo hlt,HT.b,HA.b],fun x hx=>?_,H5.x⟩;rcases H5.c x hx with h1|h1
    ·exact HT.c x h1
    ·refine⟨_,getElem_mem hlt,P6,OG,?_,?_,HA.w,?_⟩
     ·rw[<- HA.b];exact HA.c
     ·rw[<- HA.b];exact HA.d
     ·rw[<- HA.b];exact h1
   case measure=>simp[intOf];omega
  ·obtain rfl:k=R.vs.length:=Nb
   clear hcell hb e1 hra hlo hM hin hT;go_wp2_with fail;go_ret;exact⟨u3,M,rfl,HT.a,by rw[HT.b,take_length],HT.c,HT.x.drop (fun x=>by simp only[af];omega)⟩
theorem sq(sl:Option Addr)(cap:Nat)(M:List RI)(w:World)(hc:ak w sl (M.map (·.val)))(hM:∀x∈M,∃s c,x.val=.slice s x.bs.length c/\x.bs.length<=1000000)(hl:M.length<=900000):
  Calls prog 121 #[.slice sl M.length cap] w (fun e w'=>e=.returned (.int .i64 (lH (M.map (·.bs)):Nat))/\aV w w'):=by
 have HC:=Ob hc hM
 have hs:∀k,lH ((M.take k).map (·.bs))<=1000000*k:=fun k=>by
  have:∀l:List RI,(∀x∈l,x.bs.length<=1000000)->lH (l.map (·.bs))<=1000000*l.length:=fun l=>by
   induction l with
   | nil=>intro _;simp[lH]
   | cons a r ih =>
    intro h;have h1:=h a Nh;have h2:=ih (fun x hx=>h x (by simp[hx]));unfold lH at h2 ⊢;simp only[map_cons,sum_cons,length_cons];omega
  have h1:=this (M.take k) (fun x hx=>by obtain⟨-,-,-,h⟩:=hM x (mem_of_mem_take hx);exact h);have h2:(M.take k).length<=k:=by rw[NS];omega
  omega
 have HS:=NZ hs;clear hc hM hs;go_enter func121,ntmps121;go_wp2_with fail;go_loopw [3,4] (fun n i wr=>∃k:Nat,k<=M.length/\i=.int .i64 k/\n=.int .i64 (lH ((M.take k).map (·.bs)):Nat)/\wr=w) (fun _ i _=>M.length-(intOf i).toNat)
 case atStart=>exact⟨0,Nat.zero_le _,rfl,rfl,rfl⟩
 case round =>
  obtain⟨k,hk,rfl,rfl,rfl⟩:=hrel;by_cases hlt:k<M.length
  ·obtain⟨g,off,hg,hcc⟩:=HC.a Np;subst hg;have hc:=hcc k (by rw[NP];exact hlt);rw[getElem_map]at hc;obtain⟨s,c,hv,hb⟩:=HC.z _ (getElem_mem hlt);rw[hv]at hc
   have htk:lH ((M.take (k+1)).map (·.bs))=lH ((M.take k).map (·.bs))+(M[k]'hlt).bs.length:=by
    unfold lH;rw[QH hlt,NW,NW,sum_append];simp
   have hub:=HS.o k;obtain⟨q,hq⟩:=Na (lH ((M.take k).map (·.bs)));obtain⟨cl,PY⟩:=Na ((M[k]'hlt).bs.length);rw[<- hq]at htk hub;rw[<- PY]at htk hb hc;rw[<- hq];have HT:=NZ htk;clear htk hcc hv hq PY;go_wp2_with fail;go_roundw
   case rel=>exact⟨k+1,Nb,by go_num,by rw[HT.o];go_num,by first|rfl|trivial⟩
   case measure=>simp[intOf];omega
  ·obtain rfl:k=M.length:=Nb
   go_wp2_with fail;go_ret;refine ⟨?_,N7.refl _ _⟩;rw[take_length];rfl
theorem nC.val{R:Oh}{P:cU}{w:World}{x:RI}(hx:nC R x)(h:OD R P w):∃s c,x.val=.slice s x.bs.length c/\x.bs.length<=1000000:=by
 obtain⟨s,c,e,-⟩:=hx.at h;obtain⟨u,hu,-,-,-,-,-,-,-,k,-,-,-,h3⟩:=hx;have:=h.TL u hu;exact⟨s,c,e,Nb⟩
structure AB (S:AS) (M:List Bs):Prop where
 kM:S.K.map (·.1)=M
 nd:M.Nodup
 cut:∀l,∀V∈ah S.ps l,V.N8.map (bt S.K)=aD (gB S V)
 sc:S.X.sc=M.length
 sb:S.X.sb=(lH M:Nat)
theorem Aj{vs:List Oi}{c:Bs}:c∈gt vs->∃v∈vs,c∈aD v.cont:=by
 have key:∀(vs:List Oi) (l:List Bs),c∈vs.foldl (fun l v=>fT l (aD v.cont)) l->c∈l\/∃v∈vs,c∈aD v.cont:=by
  intro vs;induction vs with
  | nil=>intro l h;exact .inl h
  | cons v r ih =>
   intro l h;rcases ih _ h with h1|⟨u,hu,h1⟩
   ·have hb:∀(cs l:List Bs),c∈fT l cs->c∈l\/c∈cs:=by
     intro cs;induction cs with
     | nil=>intro l h;exact .inl h
     | cons x r ih =>
      intro l h;rcases ih _ h with h2|h2
      ·unfold pN at h2;split at h2
       ·exact .inl h2
       ·rcases mem_append.1 h2 with h3|h3
        ·exact .inl h3
        ·obtain rfl:=mem_singleton.1 h3;exact .inr Nh
      ·exact .inr (by simp[h2])
    rcases hb _ _ h1 with h2|h2
    ·exact .inl h2
    ·exact .inr ⟨v,Nh,h2⟩
   ·exact .inr ⟨u,by simp[hu],h1⟩
 intro h;rcases key vs [] h with h1|h1
 ·cases h1
 ·exact h1
theorem xm{α:Type}{f:α->Nat}:∀{l m:List α},l.Nodup->(∀x∈l,x∈m)->(l.map f).sum<=(m.map f).sum
 | [],_,_,_=>by simp
 | a::r,m,hn,h=>by
  obtain⟨s,t,rfl⟩:=append_of_mem (h a Nh)
  obtain⟨h1,h2⟩:=nodup_cons.1 hn
  have:=xm (f:=f) (l:=r) (m:=s++t) h2 (fun x hx=>by
   have hx2:=h x (by simp[hx])
   simp only[mem_append,mem_cons]at hx2 ⊢
   rcases hx2 with h3|rfl|h3
   ·exact .inl h3
   ·exact absurd hx h1
   ·exact .inr h3)
  simp only[NW,map_cons,sum_append,sum_cons]at this ⊢
  omega
def RY(q:Nat×Nat):Value:=.agg #[.int .i64 q.1,.int .i64 q.2]
def Hs(q:Nat×Nat):Prop:=q.1<4611686018427387904/\q.2<4611686018427387904
theorem AU(d:Nat)(n:Nat)(h:n<4611686018427387904):prog.keyLits (d+1) 3 [.int .i64 n]=some [.int .i64 n]:=by
 have hw:(Lit.int .i64 (n:Int)).wf=true:=by
  simp[Lit.wf,IntKind.signed,IntKind.bits,IntKind.min,IntKind.max];omega
 unfold Program.keyLits;rw[underlying3];simp[hw]
theorem DG(d:Nat)(q:Nat×Nat)(h:Hs q):prog.keyLits (d+2) 161 [.int .i64 q.1,.int .i64 q.2]=some [.int .i64 q.1,.int .i64 q.2]:=by
 have hc:prog.cellsOf 161=2:=Nc
 have hi:prog.cellsOf 3=1:=Nc
 unfold Program.keyLits;rw[underlying161];simp[hc,hi,AU d _ h.1,AU d _ h.2]
theorem Jy:Pz prog 161 RY Hs where
 keyed:=Keyed.of_law (deep_law_laid (m:=2) Nc Nk (of_decide_eq_true Nc) Nc Nc)
 inj:=fun a b h=>by
  obtain⟨a1,a2⟩:=a
  obtain⟨b1,b2⟩:=b
  simp only[RY,Value.agg.injEq,Array.mk.injEq,List.cons.injEq,Value.int.injEq,true_and,and_true]at h
  obtain⟨h1,h2⟩:=h
  simp only[Prod.mk.injEq];omega
 key:=fun a ha=>by
  refine⟨.string (keyBytes [.int .i64 a.1,.int .i64 a.2]),?_⟩
  have hc:prog.cellsOf 161=2:=Nc
  have hk2:prog.keyType 161=true:=Nc
  have hsz:prog.types.size+1=362+1:=Nc
  unfold keyOf RY
  rw[underlying161]
  simp only[hk2,Value.formed,underlying161,hc]
  rw[hsz]
  show(prog.keyLits (362-1+2) 161 [.int .i64 a.1,.int .i64 a.2]).map _=_
  rw[DG _ a ha]
  rfl
theorem xV(w:World):(zeroValue 161).run prog w=.ok (.agg #[.int .i64 0,.int .i64 0]) w:=Nc
end
section
open Go.Shelf
def sh:Go.Shelf.Ren:=⟨fun|7=>117|10=>148|n=>n,fun|23=>119|26=>9|3=>153|28=>241|0=>0|27=>240|33=>226|4=>4|n=>n,fun|n=>n⟩
theorem EM:Go.Proofs.SlLaysZ.n7 prog sh:={
 mixed:=Nc,
 f7:=⟨f117.name,Nk,func117.trans (congrArg some Nc)⟩,
 f10:=⟨f148.name,Nk,func148.trans (congrArg some Nc)⟩,
 t0:=underlying0,
 a0:=isAgg0,
 z0:=sizeOf0,
 v0:=zeroValue0,
 t4:=underlying4,
 a4:=isAgg4,
 z4:=sizeOf4,
 v4:=zeroValue4,
 t23:=underlying119,
 a23:=isAgg119,
 z23:=sizeOf119,
 v23:=zeroValue119,
 t26:=underlying9,
 a26:=isAgg9,
 z26:=sizeOf9,
 v26:=zeroValue9,
 t27:=underlying240,
 a27:=isAgg240,
 z27:=sizeOf240,
 v27:=zeroValue240,
 t28:=underlying241,
 a28:=isAgg241,
 z28:=sizeOf241,
 v28:=zeroValue241,
 t33:=underlying226,
 a33:=isAgg226,
 z33:=sizeOf226,
 v33:=zeroValue226 }
end
section
open Go.RowKit Go.Maps Go.Sort Go.Shelf
theorem Ba(mb:Option Nat)(W:World):CallsIn Fence.wide 5 prog 117 #[.map mb] W fun e w'=>e=.returned (.func (.func 148) #[] #[.pointer (some ⟨W.heap.size,0,none⟩)])/\w'=W.alloc (.cells #[.map mb] 119) :=
 AnyZ.keys_in EM Fence.wide 5 trivial rfl mb W
theorem vk{H:Type}(b nn:Nat)(D0:DataW H)(R:Value->Option (DataW H×List MemPlace))(w:World)(hown:w.ownsMap prog 9 R b nn D0)(hmax:Maps.size D0<=maxLen)(hbytes:Maps.size D0*16<=140737488355328):
  CallsIn Fence.wide 5 prog 116 #[.func (.func 148) #[] #[.pointer (some ⟨w.heap.size,0,none⟩)]] (w.alloc (.cells #[.map (some b)] 119)) fun e w'=>∃(v:Value) (ss:List (List UInt8)),e=.returned v/\ss.Perm (strKeys D0) /\
   w'.ownsRow (w.alloc (.cells #[.map (some b)] 119)).heap.size 9 1 v ss.length ((ss.mergeSort (fun x y=>decide (x<=y))).map encStr)/\(v=.slice none 0 0↔ss=[])/\Below (w.alloc (.cells #[.map (some b)] 119)).heap.size (w.alloc (.cells #[.map (some b)] 119)) w':=by
 have hbl:=hown.lt
 have hseq:SeqGives Fence.wide 2 prog 148 #[.pointer (some ⟨w.heap.size,0,none⟩)] encStr (fun ss=>ss.Perm (strKeys D0)) (Maps.size D0) (w.alloc (.cells #[.map (some b)] 119)) :=
  AnyZ.keys_gives (ρ:=sh) { EM with } Fence.wide _ trivial rfl Nb w.heap.size b nn D0 _ Nh Nh (by
   obtain⟨es,clock,hb,Ft,hs,hD⟩:=hown;exact⟨es,clock,(Below.heap_alloc _ _ b hbl).trans hb,Ft,hs,hD⟩)
 exact AnyZ.sorted_in xO Fence.wide 5 trivial trivial trivial trivial rfl Nb (AX _) (enters_of func147 Nc rfl) 148 #[.pointer (some ⟨w.heap.size,0,none⟩)] trivial (enters_of func148 Nc rfl) _ _ hmax hbytes _ hseq
def nh(l:List Bs):List Bs:=l.mergeSort (fun x y=>decide (x<=y))
def fm(ps:List bf):List Bs:=nh (ps.map (·.key))
theorem tq(S:AS)(w:World)(h:Sat w (N9 S))(hc:S.X.closed=true):
  Calls prog 71 #[.pointer (some ⟨S.a,0,none⟩)] w (fun e w'=>e=.returned (cr 9)/\aV w w'):=by
 have ha:=h.Q5;have hal:=ae ha;have a10:w.cell? ⟨S.a,10,none⟩=some (.bool true):=by rw[<- hc];exact aa ha 10 rfl
 clear h ha hc;go_enter func71,ntmps71;go_wp2_with fail;go_ret;exact ⟨rfl,N7.refl _ _⟩
theorem Bi{F0 F:HF}{w wa w':World}{B:Nat}{v:Value}{xs:List Value}(hT:Turns F0 F w wa)(hB:B=wa.heap.size)(ho:w'.ownsRow B 9 1 v xs.length xs)(hb:Below B wa w'):ei 1 v xs.length xs/\Turns F0 (bH 9 1 v xs.length xs++F) w w':=by
 subst hB;obtain⟨h1,h2⟩:=fe ho;refine⟨h2,hT.Qb ⟨(aV.of_below hb).mods _,h1,fun g hg=>.inr ?_⟩⟩;have hg:=(eL _ _ _ _ _ _).1 hg;rcases ho.2 with⟨rfl,-⟩|⟨g',cap,cur,rfl,hb',-⟩
 ·cases hg
 ·simp only[Value.ownBlock,NY]at hg;subst hg;exact hb'
theorem sw{ks:List Bs}{ss:List Bs}{D:DataW Unit}(h1:ss.Perm (strKeys D))(h2:(strKeys D).Perm ks):(ss.mergeSort (fun x y=>decide (x<=y))).map encStr=(nh ks).map str/\ss.length=(nh ks).length:=by
 have h3:ss.Perm ks:=h1.trans h2;refine⟨?_,?_⟩
 ·unfold nh;rw[xN h3];try rfl
 ·unfold nh;rw[length_mergeSort];exact h3.length_eq
end
section
open Go.RowKit Go.Maps
structure CB where
 pm:Nat
 tm:Nat
 cm:Nat
 X:Om
 ps:List bf
 pc:Nat
 cs:List kx
 cc:Nat
 ts:List fJ
 tc:Nat
 sz:List (OT Int)
 OJ:Nat
 D:Bs
 s:Rh
 mp:List (OT (Nat×Nat))
 mc:Nat
def gG(K:KL)(V:Oe):Nat×Nat×List Bs:=(V.num,V.size,V.N8.map (bt K))
abbrev vE:=List (Bs×Oe)
def Kr(S:AS)(dn:vE):List Bs:=dn.flatMap (fun x=>x.2.N8.map (bt S.K))
def ga(K:KL):Nat:=(K.map (fun e=>e.1.length+9)).sum
def mB(dn:vE):Nat:=(dn.map (fun x=>x.1.length+16+4*x.2.N8.length)).sum
def cF(td:List Tg):Nat:=(td.map (fun t=>t.1.length+t.2.1.length+15)).sum
structure Pn (E:Prop) (S:AS) (dn:vE) (pt:List Bs) (td:List Tg) (B:CB) (vb:Value):Prop where
 ct:OE B.D B.X B.ps B.pc B.cs B.cc B.ts B.tc B.sz B.OJ B.D.length B.s E
 map:OO Hs B.mp B.mc
 moved:∀e∈B.mp,∃c q,(c,e.key)∈S.K/\e.val=RY q/\(c,q)∈B.s.K
 back:∀c q,(c,q)∈B.s.K->∃e∈B.mp,(c,e.key)∈S.K
 row:PE vb B.D
 VO:E->B.s.K.map (·.1)=fT [] (Kr S dn++pt)
 same:B.s.K.map (·.1)=B.mp.map (fun e=>bt S.K e.key)
 hist:∀l,(ah B.ps l).map (gG B.s.K)=(dn.filter (fun x=>decide (x.1=l))).map (fun x=>gG S.K x.2)
 held:∀l,∀V∈ah B.ps l,V.held=((td.countP (fun t=>decide (t.2.1=l/\t.2.2=(V.num:Int))):Nat):Int)
 tT:B.s.T=td
 len:B.D.length=ga B.s.K+mB dn+cF td
theorem xk{p q:Nat×Nat}{c:Bs}:∀{K:KL},(K.map (·.1)).Nodup->(c,p)∈K->(c,q)∈K->p=q
 | e::r,hn,h1,h2=>by
  obtain⟨n1,n2⟩:=nodup_cons.1 hn
  rcases mem_cons.1 h1 with rfl|h1<;>rcases mem_cons.1 h2 with h2|h2
  ·exact(congrArg Prod.snd h2).symm
  ·exact absurd (mem_map.2 ⟨_,h2,rfl⟩) n1
  ·rw[<- h2]at n1;exact absurd (mem_map.2 ⟨_,h1,rfl⟩) n1
  ·exact xk n2 h1 h2
theorem pO(l a b:List Bs):fT l (a++b)=fT (fT l a) b:=foldl_append
theorem wD{c:Bs}:∀{cs l:List Bs},c∈fT l cs↔c∈l\/c∈cs
 | [],l=>by simp[fT]
 | x::r,l=>by
  show c∈fT (pN l x) r↔_
  rw[wD (cs:=r)]
  unfold pN
  split
  ·rename_i hx
   rw[mem_cons]
   exact⟨fun h=>h.imp id .inr,fun h=>by
    rcases h with h|rfl|h
    ·exact .inl h
    ·exact .inl hx
    ·exact .inr h⟩
  ·rw[mem_append,NU,mem_cons,or_assoc]
section
variable {E:Prop} {S:AS} {dn:vE} {pt:List Bs} {td:List Tg} {B:CB} {vb:Value}
theorem OE.body{D:Bs}{X:Om}{ps:List bf}{pc:Nat}{cs:List kx}{cc:Nat}{ts:List fJ}{tc:Nat}{sz:List (OT Int)}{OJ at_:Nat}{s:Rh}(h:OE D X ps pc cs cc ts tc sz OJ at_ s E){c:Bs}{q:Nat×Nat}(hq:(c,q)∈s.K):bt s.K q=c:=by
 unfold bt
 cases hf:s.K.find? (fun e=>decide (e.2=q))with
 | none=>rw[find?_eq_none]at hf;exact absurd Nh (hf _ hq)
 | some e =>
  have h1:=mem_of_find?_eq_some hf;have h2:e.2=q:=by simpa using find?_some hf
  have h3:=(h.Pm e h1).2.2;rw[h2]at h3;simpa using sf h3 (h.Pm _ hq).2.2
theorem OE.vers{D:Bs}{X:Om}{ps:List bf}{pc:Nat}{cs:List kx}{cc:Nat}{ts:List fJ}{tc:Nat}{sz:List (OT Int)}{OJ at_:Nat}{s:Rh}(h:OE D X ps pc cs cc ts tc sz OJ at_ s E){l:Bs}{V:Oe}(hV:V∈ah ps l):(∀q∈V.N8,∃e∈s.K,e.2=q)/\V.size=(V.N8.map (·.2)).sum:=by
 have h1:bu V∈(ah ps l).map bu:=mem_map.2 ⟨V,hV,rfl⟩;rw[h.hist]at h1;obtain⟨x,hx,e⟩:=mem_map.1 h1;obtain⟨h2,h3⟩:=h.SB x (mem_filter.1 hx).1;unfold bV bu at e;simp only[Prod.mk.injEq]at e;rw[<- e.2.1,<- e.2.2.1];exact⟨h2,h3⟩
theorem Pn.hit(h:Pn E S dn pt td B vb)(hok:Oo S){c:Bs}{p:Nat×Nat}(hc:(c,p)∈S.K){e:OT (Nat×Nat)}(he:e∈B.mp)(hk:e.key=p):∃q,e.val=RY q/\(c,q)∈B.s.K/\Pn E S dn (pt++[c]) td B vb:=by
 obtain⟨c',q,h1,h2,h3⟩:=h.moved e he;rw[hk]at h1;obtain rfl:=Lt hok h1 hc;refine⟨q,h2,h3,{ h with VO:=fun hE=>?_ }⟩;rw[<- NV,pO,<- h.VO hE];show _=pN _ c';unfold pN;rw[NR (mem_map.2 ⟨_,h3,rfl⟩)]
theorem Pn.miss(h:Pn E S dn pt td B vb)(hnd:(S.K.map (·.1)).Nodup){c:Bs}{p:Nat×Nat}(hc:(c,p)∈S.K)(hn:∀e∈B.mp,e.key≠p):c∉B.s.K.map (·.1):=fun hm=>by
 obtain⟨⟨c',q⟩,hq,rfl⟩:=mem_map.1 hm
 obtain⟨e,he,h1⟩:=h.back _ _ hq
 exact hn e he (xk hnd h1 hc)
def CB.chunk(B:CB)(c:Bs)(p:Nat×Nat)(v:Value):CB :=
 { B with X:={ B.X with sc:=B.X.sc+1,sb:=B.X.sb+c.length },cs:=eS B.cs B.cc (ed c) v (bd B.cs (ed c)++[(B.D.length,c.length)]),cc:=cy (B.cs.map aR) B.cc (ed c),sz:=gJ B.sz B.OJ (B.D.length:Int) (.int .i64 c.length),OJ:=cy B.sz B.OJ (B.D.length:Int),D:=B.D++frame 1 c,s:={ B.s with K:=B.s.K++[(c,B.D.length,c.length)] },mp:=gJ B.mp B.mc p (RY (B.D.length,c.length)),mc:=cy B.mp B.mc p }
theorem Pn.chunk(h:Pn E S dn pt td B vb)(hok:Oo S){c:Bs}{p:Nat×Nat}(hc:(c,p)∈S.K)(hm:E->c∉B.s.K.map (·.1))(hn:∀e∈B.mp,e.key≠p)(hcl:c.length<65536)(hD:B.D.length<=4294967296)(hp:Hs p){v Xz:Value}(hv:bQ v (bd B.cs (ed c)++[(B.D.length,c.length)]))(hvb:PE Xz (B.D++frame 1 c)):
  Pn E S dn (pt++[c]) td (B.chunk c p v) Xz:=by
 have hh:iB B.mp p=false:=by
  cases hb:iB B.mp p with
  | false=>rfl
  | true=>obtain⟨e,he,hk⟩:=iC.1 hb;exact absurd hk (hn e he)
 have hmp:(B.chunk c p v).mp=B.mp++[⟨p,RY (B.D.length,c.length),B.mc⟩]:=by unfold CB.chunk gJ;simp[hh]
 refine { ct:=h.ct.Qo hcl hD hv,map:=h.map.put hp _,moved:=fun e he=>?_,back:=fun c' q hq=>?_,row:=hvb,VO:=fun hE=>?_,same:=?_,hist:=fun l=>?_,held:=h.held,tT:=h.tT,len:=?_ }
 ·rw[hmp]at he;rcases mem_append.1 he with he|he
  ·obtain⟨c',q,h1,h2,h3⟩:=h.moved e he;exact⟨c',q,h1,h2,mem_append_left _ h3⟩
  ·obtain rfl:=mem_singleton.1 he;exact⟨c,_,hc,rfl,mem_append_right _ Nh⟩
 ·rw[hmp];rcases mem_append.1 hq with hq|hq
  ·obtain⟨e,he,h1⟩:=h.back c' q hq;exact⟨e,mem_append_left _ he,h1⟩
  ·have:=mem_singleton.1 hq;simp only[Prod.mk.injEq]at this;obtain⟨rfl,-⟩:=this;exact⟨_,mem_append_right _ (mem_singleton.2 rfl),hc⟩
 ·show(B.s.K++[_]).map _=_;rw[<- NV,pO,<- h.VO hE,NW];show _=pN _ c;unfold pN;rw[NQ (hm hE)];rfl
 ·show(B.s.K++[_]).map _=_;rw[hmp,NW,NW,h.same];simp only[map_cons,map_nil];rw[nH hok hc]
 ·rw[<- h.hist l];refine map_congr_left (fun V hV=>?_);unfold gG;congr 2;exact map_congr_left (fun q hq=>rV ((h.ct.vers hV).1 q hq))
 ·show(B.D++frame 1 c).length=ga (B.s.K++[_])+mB dn+cF td;have:=h.len;unfold ga at this ⊢;rw[NM,bi,NW,sum_append];simp only[map_cons,map_nil,sum_cons,sum_nil];omega
def iT(S:AS)(K:KL)(N8 Qv:List (Nat×Nat)):Prop:=Qv.map (bt K)=N8.map (bt S.K)/\∀q∈Qv,∃e∈K,e.2=q
theorem iT.nil(S:AS)(K:KL):iT S K [] []:=⟨rfl,fun q h=>by cases h⟩
theorem iT.more{K:KL}{N8 Qv:List (Nat×Nat)}(h:iT S K N8 Qv)(K':KL):iT S (K++K') N8 Qv:=by
 refine⟨?_,fun q hq=>?_⟩
 ·rw[<- h.1];exact map_congr_left (fun q hq=>rV (h.2 q hq))
 ·obtain⟨e,he,e1⟩:=h.2 q hq;exact⟨e,mem_append_left _ he,e1⟩
theorem iT.snoc{K:KL}{N8 Qv:List (Nat×Nat)}(h:iT S K N8 Qv){p q:Nat×Nat}{c:Bs}(hp:bt S.K p=c)(hq:bt K q=c)(he:∃e∈K,e.2=q):iT S K (N8++[p]) (Qv++[q]):=by
 refine⟨by rw[NW,NW,h.1];simp[hp,hq],fun x hx=>?_⟩;rcases mem_append.1 hx with hx|hx
 ·exact h.2 x hx
 ·obtain rfl:=mem_singleton.1 hx;exact he
theorem iT.len{K:KL}{N8 Qv:List (Nat×Nat)}(h:iT S K N8 Qv):Qv.length=N8.length:=by
 have:=congrArg length h.1;simpa using this
theorem vg{K:KL}(hk:∀e∈K,e.2.2=e.1.length)(hb:∀{c:Bs} {q:Nat×Nat},(c,q)∈K->bt K q=c):∀{N8:List (Nat×Nat)},(∀q∈N8,∃e∈K,e.2=q)->N8.map (·.2)=(N8.map (bt K)).map length
 | [],_=>rfl
 | q::r,h=>by
  obtain⟨e,he,rfl⟩:=h q Nh
  have h2:=vg hk hb (N8:=r) (fun x hx=>h x (by simp[hx]))
  simp only[map_cons]
  rw[hb (c:=e.1) (q:=e.2) he,hk e he,h2]
theorem iT.sum(h:Pn E S dn pt td B vb)(hok:Oo S){N8 Qv:List (Nat×Nat)}(hc:iT S B.s.K N8 Qv)(hS:∀q∈N8,∃e∈S.K,e.2=q):(Qv.map (·.2)).sum=(N8.map (·.2)).sum:=by
 rw[vg (fun e he=>(h.ct.Pm e he).1) (fun hq=>h.ct.body hq) hc.2,hc.1,vg (fun e he=>(hok.Pm e he).1) (fun hq=>nH hok hq) hS]
def gQ(b:Nat)(V:Oe)(cv:Value)(N8:List (Nat×Nat)):Oe:=⟨b,V.num,V.size,cv,N8,0⟩
def CB.ver(B:CB)(l:Bs)(V:Oe)(b:Nat)(cv v':Value)(N8:List (Nat×Nat)):CB :=
 { B with X:={ B.X with used:=B.X.used+V.size },ps:=j7 B.ps B.pc l v' (gQ b V cv N8),pc:=cy (B.ps.map aR) B.pc l,D:=B.D++frame 2 (eC l V.num V.size (bB N8)),s:={ B.s with H:=B.s.H++[⟨l,V.num,V.size,N8,0⟩] } }
theorem Pn.ver{V:Oe}(h:Pn E S dn (V.N8.map (bt S.K)) [] B vb)(hok:Oo S){l:Bs}(hl:l.length<=255)(hnum:E->V.num<4294967296)(hsz:V.size<65536)(hD:B.D.length<=4294967296)(hcl:V.N8.length<=16000)(hS:(∀q∈V.N8,∃e∈S.K,e.2=q)/\V.size=(V.N8.map (·.2)).sum){N8:List (Nat×Nat)}(hc:iT S B.s.K V.N8 N8){b:Nat}{cv v' Xz:Value}(hcv:bQ cv N8)(hv:eP v' (ah B.ps l++[gQ b V cv N8]))(hvb:PE Xz (B.D++frame 2 (eC l V.num V.size (bB N8)))):
  Pn E S (dn++[(l,V)]) [] [] (B.ver l V b cv v' N8) Xz:=by
 have hfl:=fg l V.num V.size N8;have hln:=hc.len;have hct:=h.ct.XL (b:=b) (m:=V.size) hl hnum hsz hD (by rw[bi]at hfl;omega) hc.2 (by rw[iT.sum h hok hc hS.1];exact hS.2.symm) hcv hv;refine { ct:=hct,map:=h.map,moved:=h.moved,back:=h.back,row:=hvb,VO:=fun hE=>?_,same:=h.same,hist:=fun m=>?_,held:=fun m U hU=>?_,tT:=h.tT,len:=?_ }
 ·show B.s.K.map _=_;rw[h.VO hE,append_nil];unfold Kr;rw[flatMap_append];simp
 ·show(ah (j7 B.ps B.pc l v' (gQ b V cv N8)) m).map (gG B.s.K)=_;rw[qV,filter_append,NW,<- h.hist m];by_cases hm:m=l
  ·subst hm;rw[NR rfl,NW];simp only[map_cons,map_nil,filter_cons,decide_true,if_true,filter_nil];congr 2;unfold gG gQ;simp only;rw[hc.1]
  ·rw[NQ hm];have:¬l=m:=fun e=>hm e.symm
   simp[this]
 ·have hU:U∈ah (j7 B.ps B.pc l v' (gQ b V cv N8)) m:=hU;rw[qV]at hU;split at hU
  ·rename_i hm;subst hm;rcases mem_append.1 hU with hU|hU
   ·exact h.held _ U hU
   ·obtain rfl:=mem_singleton.1 hU;rfl
  ·exact h.held _ U hU
 ·show(B.D++frame 2 _).length=ga B.s.K+mB (dn++[(l,V)])+cF [];have:=h.len;unfold mB at this ⊢;rw[NM,hfl,NW,sum_append,hln];simp only[map_cons,map_nil,sum_cons,sum_nil];omega
def CB.tag(B:CB)(m p:Bs)(n:Nat):CB :=
 { B with ps:=dk B.ps p n 1,ts:=eS B.ts B.tc m (mn m (p,(n:Int))) (p,(n:Int)),tc:=cy (B.ts.map aR) B.tc m,D:=B.D++frame 4 (eG p m n),s:={ B.s with H:=eZ B.s.H p n 1,T:=mZ B.s.T (m,p,(n:Int)) } }
theorem uk(p m:Bs)(n:Int):(frame 4 (eG p m n)).length=m.length+p.length+15:=by
 simp only[bi,eG,NM,bS,bU];omega
theorem Pn.tag(h:Pn E S dn [] td B vb){m p:Bs}{n:Nat}(hp:p.length<=255)(hm:m.length<=255)(hn:E->n<4294967296)(hnew:∀t∈td,t.1≠m){Xz:Value}(hvb:PE Xz (B.D++frame 4 (eG p m n))):
  Pn E S dn [] (td++[(m,p,(n:Int))]) (B.tag m p n) Xz:=by
 have hfl:=uk p m n
 have hT:mZ B.s.T (m,p,(n:Int))=td++[(m,p,(n:Int))]:=by
  unfold mZ;rw[NQ,h.tT];rw[h.tT,any_eq_true];rintro⟨t,ht,e⟩;exact hnew t ht (by simpa using e)
 refine { ct:=h.ct.XJ hp hm Nr hn (by rw[bi]at hfl;omega),map:=h.map,moved:=h.moved,back:=h.back,row:=hvb,VO:=h.VO,same:=h.same,hist:=fun l=>?_,held:=fun l U hU=>?_,tT:=hT,len:=?_ }
 ·show(ah (dk B.ps p n 1) l).map (gG B.s.K)=_;rw[kj,<- h.hist l];split
  ·rename_i e;subst e;rw[map_map];refine map_congr_left (fun V _=>?_);show gG B.s.K (dV n 1 V)=_;obtain⟨-,-,e1,e2,e3⟩:=i9 n 1 V;unfold gG;rw[e1,e2,e3]
  ·rfl
 ·have hU:U∈ah (dk B.ps p n 1) l:=hU;rw[kj]at hU;rw[countP_append];split at hU
  ·rename_i e;subst e;obtain⟨V,hV,rfl⟩:=mem_map.1 hU;rw[(i9 n 1 V).2.2.2.1];have h0:=h.held _ V hV;unfold dV;by_cases hnn:(V.num:Int)=n
   ·rw[NR hnn];simp only[countP_cons,countP_nil,hnn,and_self,decide_true,if_true];rw[hnn]at h0;show V.held+1=_;omega
   ·rw[NQ hnn];have:¬((n:Int)=V.num):=fun e=>hnn e.symm
    simp only[countP_cons,countP_nil,this,and_false,decide_false,Bool.false_eq_true,if_false,Nat.add_zero];exact h0
  ·rename_i e;have:¬p=l:=fun e2=>e e2.symm
   simp only[countP_cons,countP_nil,this,false_and,decide_false,Bool.false_eq_true,if_false,Nat.add_zero];exact h.held _ U hU
 ·show(B.D++frame 4 _).length=ga B.s.K+mB dn+cF (td++[_]);have:=h.len;unfold cF at this ⊢;rw[NM,hfl,NW,sum_append];simp only[map_cons,map_nil,sum_cons,sum_nil];omega
theorem Pn.costs(h:Pn E S dn pt td B vb)(hok:Oo S):B.D.length<=ga S.K+mB dn+cF td:=by
 have h2:=xm (f:=fun q=>(bt S.K q).length+9) h.map.nodup (m:=S.K.map (·.2)) (fun q hq=>by
  obtain⟨e,he,rfl⟩:=mem_map.1 hq;obtain⟨c,q',h1,-,-⟩:=h.moved e he;exact mem_map.2 ⟨_,h1,rfl⟩)
 have h3:=h.len;have e1:ga B.s.K=((B.s.K.map (·.1)).map (fun c=>c.length+9)).sum:=by rw[map_map];rfl
 have e2:((S.K.map (·.2)).map (fun q=>(bt S.K q).length+9)).sum=ga S.K:=by
  rw[map_map];unfold ga;congr 1
  exact map_congr_left (fun e he=>by
   show(bt S.K e.2).length+9=_;rw[nH hok (c:=e.1) he])
 rw[e2,map_map]at h2;rw[h.same,map_map]at e1;have e3:(B.mp.map ((fun q=>(bt S.K q).length+9) ∘ (·.key))).sum=(B.mp.map ((fun c:Bs=>c.length+9) ∘ (fun e=>bt S.K e.key))).sum:=rfl;omega
end
end
section
open Go.RowKit Go.Maps
theorem rF{l:List Bs}{x:Bs}:x∈nh l↔x∈l:=(mergeSort_perm _ _).mem_iff
def Ad(S:AS)(l:Bs):List Bs:=(ah S.ps l).flatMap (fun V=>V.N8.map (bt S.K))
theorem qz{l:Bs}{n:Nat}(h:fd l false n=false):(eR l false n).length+n=l.length:=by
 unfold fd at h;simp only[Bool.false_or,decide_eq_false_iff_not]at h;unfold eR;rw[NQ (by simpa using h),NT];omega
theorem lq{l:Bs}{b:Bool}{n:Nat}(h:fd l b n=false):b=false:=by
 unfold fd at h
 cases b with
 | false=>rfl
 | true=>simp at h
theorem rJ{l:Bs}{b:Bool}(h:kS l b=false):b=false/\(gm l b).length+1+(lI l b).length=l.length:=by
 unfold kS at h;have h1:=lq h;have h0:=lq h1;subst h0;refine⟨rfl,?_⟩;rw[h1]at h;have h2:=qz h1;have h3:=qz h;unfold fd at h;simp only[Bool.false_or,decide_eq_false_iff_not]at h;unfold gm lI;rw[h1,NQ (by simpa using h),NS];omega
theorem uQ{k:UInt8}{body:Bs}:(∀p n m ats,fx k body=some (.ver p n m ats)->p.length+16+4*ats.length<=body.length+9)/\(∀q p m n,fx k body=some (.pin q p m n)->p.length+m.length+15<=body.length+9):=by
 unfold fx;simp only;refine⟨fun p n m ats h=>?_,fun q p m n h=>?_⟩
 ·split at h
  ·split at h
   ·rename_i hc;simp only[NY,Sj.ver.injEq]at h;obtain⟨rfl,-,-,rfl⟩:=h;obtain⟨h1,-⟩:=hc;have b2:=lq (show fd _ _ 2=false from h1);have b1:=lq (show fd _ _ 4=false from b2);obtain⟨-,h3⟩:=rJ (show kS body false=false from b1);unfold rN rT at h1 b2 ⊢;simp only at h1 b2 b1 ⊢;unfold rT at b1;simp only at b1;rw[b1]at b2 h1 ⊢;rw[b2]at h1 ⊢;have h4:=qz b2;have h5:=qz h1;rw[jb];omega
   ·cases h
  ·split at h
   ·split at h<;>cases h
   ·split at h
    ·split at h<;>cases h
    ·cases h
 ·split at h
  ·split at h<;>cases h
  ·split at h
   ·split at h<;>cases h
   ·split at h
    ·split at h
     ·rename_i hc;simp only[NY,Sj.pin.injEq]at h;obtain⟨-,rfl,rfl,-⟩:=h;obtain⟨h1,-⟩:=hc;have b2:=lq (show fd _ _ 4=false from h1);obtain⟨b1,h4⟩:=rJ (show kS _ _=false from b2);obtain⟨-,h3⟩:=rJ (show kS body false=false from b1);unfold rT at h1 b2 h4 ⊢;unfold rN at h1;simp only at h1 b2 h4 ⊢;rw[b2]at h1;have h5:=qz h1;unfold rT at b1;simp only at b1;rw[b1]at h4 h5 ⊢;omega
     ·cases h
    ·cases h
def il(H:List HV):Nat:=(H.map (fun h=>h.p.length+16+4*h.N8.length)).sum
theorem jc{α:Type}(f:α->Nat)(p:α->Bool):∀l:List α,((l.filter p).map f).sum<=(l.map f).sum
 | []=>by simp
 | a::r=>by
  have:=jc f p r
  rw[filter_cons]
  split
  ·simp only[map_cons,sum_cons];omega
  ·simp only[map_cons,sum_cons];omega
theorem Gt{x:Tg}:∀{T:List Tg},(T.map (·.1)).Nodup->cF (mZ T x)<=cF T+(x.1.length+x.2.1.length+15):=by
 have key:∀{T:List Tg},(T.map (·.1)).Nodup->cF (T.map (fun t=>if t.1=x.1 then x else t))<=cF T+(x.1.length+x.2.1.length+15):=by
  intro T;induction T with
  | nil=>intro _;simp[cF]
  | cons t r ih =>
   intro hn;obtain⟨n1,n2⟩:=nodup_cons.1 hn;by_cases h:t.1=x.1
   ·have e:r.map (fun t=>if t.1=x.1 then x else t)=r:=by
     conv=>rhs;rw[<- map_id r]
     refine map_congr_left (fun u hu=>?_);rw[NQ (fun e=>n1 (mem_map.2 ⟨u,hu,e.trans h.symm⟩))];rfl
    rw[map_cons,e,NR h];unfold cF;simp only[map_cons,sum_cons];omega
   ·have:=ih n2;rw[map_cons,NQ h];unfold cF at this ⊢;simp only[map_cons,sum_cons];omega
 intro T hn;unfold mZ;split
 ·exact key hn
 ·unfold cF;rw[NW,sum_append];simp
theorem DR{x:Tg}{T:List Tg}(h:(T.map (·.1)).Nodup):((mZ T x).map (·.1)).Nodup:=by
 unfold mZ;split
 ·have e:(T.map (fun t=>if t.1=x.1 then x else t)).map (·.1)=T.map (·.1):=by
   rw[map_map];refine map_congr_left (fun t _=>?_);show(if t.1=x.1 then x else t).1=t.1;split
   ·rename_i e;exact e.symm
   ·rfl
  rw[e];exact h
 ·rename_i hx;rw[NW];refine nodup_append.2 ⟨h,Nh,fun a ha b hb e=>?_⟩;simp only[map_cons,map_nil,NU]at hb;obtain⟨t,ht,e2⟩:=mem_map.1 ha;exact hx (any_eq_true.2 ⟨t,ht,by simpa using(e2.trans e).trans hb⟩)
def need(s:Rh):Nat:=ga s.K+il s.H+cF s.T
theorem o9(H:List HV)(p:Bs)(n d:Int):il (eZ H p n d)=il H:=by
 unfold il eZ;rw[map_map];congr 1;refine map_congr_left (fun h _=>?_);show(if _ then _ else h:HV).p.length+16+4*(if _ then _ else h:HV).N8.length=_;split<;>rfl
theorem GQ{at_:Nat}{s s':Rh}{k:UInt8}{body:Bs}(h:gE at_ s k body=some s')(hn:(s.T.map (·.1)).Nodup):need s'<=need s+(body.length+9)/\(s'.T.map (·.1)).Nodup:=by
 unfold gE at h;split at h
 ·simp only[NY]at h;subst h;refine⟨?_,hn⟩;unfold need ga;simp only[NW,sum_append,map_cons,map_nil,sum_cons,sum_nil];omega
 ·split at h
  ·cases h
  ·rename_i p n m ats hr;split at h
   ·cases h
   ·rename_i N8 hc;split at h
    ·simp only[NY]at h;subst h;refine⟨?_,hn⟩;have h1:=uQ.1 _ _ _ _ hr;have h2:=nL hc;unfold need il;simp only[NW,sum_append,map_cons,map_nil,sum_cons,sum_nil];omega
    ·cases h
  ·rename_i p ns hr;split at h
   ·simp only[NY]at h;subst h;refine⟨?_,hn⟩;have:=jc (fun h:HV=>h.p.length+16+4*h.N8.length) (fun h => !(decide (h.p=p)&&ns.contains (h.num:Int))) s.H;unfold need il iV;simp only;omega
   ·cases h
  ·rename_i q p m n hr;have h1:=uQ.2 _ _ _ _ hr;split at h
   ·simp only[NY]at h;subst h;have:=Gt (x:=(m,p,(n:Int))) hn;refine⟨?_,DR hn⟩;unfold need;simp only[o9]at this ⊢;omega
   ·simp only[NY]at h;subst h;have:=jc (fun t:Tg=>t.1.length+t.2.1.length+15) (fun t => !decide (t.1=m)) s.T;refine⟨?_,?_⟩
    ·unfold need;simp only[o9];unfold cF Ar;omega
    ·unfold Ar;exact(filter_sublist.map _).nodup hn
theorem BN:∀{rs:mG} {a:Nat} {s s':Rh},kz a s rs=some s'->(s.T.map (·.1)).Nodup->need s'<=need s+(cG rs).length
 | [],a,s,s',h,_=>by simp only[kz,NY]at h;subst h;omega
 | r::q,a,s,s',h,hn=>by
  simp only[kz]at h
  cases hs:gE a s r.1 r.2 with
  | none=>rw[hs]at h;cases h
  | some t =>
   rw[hs,Option.bind_some]at h
   obtain⟨h1,h2⟩:=GQ hs hn
   have h3:=BN h h2
   rw[kG,NM,bi]
   omega
theorem lZ{α β γ:Type}[DecidableEq γ](φ:α->Bs)(f:α->γ)(ψ:β->Bs)(g:β->γ){A:List α}{B:List β}(h:∀l,(A.filter (fun x=>decide (φ x=l))).map f=(B.filter (fun x=>decide (ψ x=l))).map g):(A.map (fun x=>(φ x,f x))).Perm (B.map (fun x=>(ψ x,g x))):=by
 have key:∀{δ:Type} (θ:δ->Bs) (k:δ->γ) (L:List δ) (a:Bs×γ),(L.map (fun x=>(θ x,k x))).count a=((L.filter (fun x=>decide (θ x=a.1))).map k).count a.2:=by
  intro δ θ k L a;induction L with
  | nil=>rfl
  | cons x r ih =>
   rw[map_cons,count_cons,ih,filter_cons];by_cases h1:θ x=a.1
   ·simp only[h1,decide_true,if_true,map_cons,count_cons];congr 1;by_cases h2:k x=a.2
    ·have:(a.1,k x)=a:=by rw[h2]
     simp[h2]
    ·have:¬(a.1,k x)=a:=fun e=>h2 (congrArg Prod.snd e)
     simp[h2,this]
   ·have:¬(θ x,k x)=a:=fun e=>h1 (congrArg Prod.fst e)
    simp[h1,this]
 rw[perm_iff_count];intro a;rw[key,key,h]
theorem MZ:∀{b:Bs},9<=b.length->∃b0 b1 b2 b3 b4 r,b=b0::b1::b2::b3::b4::r
 | b0::b1::b2::b3::b4::r,_=>⟨b0,b1,b2,b3,b4,r,rfl⟩
 | [],h=>by simp at h
 | [_],h=>by simp at h
 | [_,_],h=>by simp at h
 | [_,_,_],h=>by simp at h
 | [_,_,_,_],h=>by simp at h
theorem DB{b:Bs}{k:UInt8}{body:Bs}{n:Nat}(h:b5 b=some (k,body,n)):b.take n=frame k body:=by
 obtain⟨-,-,h0,-,-⟩:=dD h
 obtain⟨b0,b1,b2,b3,b4,r,rfl⟩:=MZ (b:=b) (by
  unfold b5 at h;split at h
  ·cases h
  ·omega)
 obtain⟨m,hm⟩:=Na (b1.toNat*256+b2.toNat);have hd:(b0::b1::b2::b3::b4::r).drop (5+m)=r.drop m:=by rw[Nat.add_comm];simp
 unfold b5 at h;simp only[QF,QG,length_cons,<- hm,hd]at h;split at h
 ·cases h
 split at h
 ·cases h
 split at h
 ·cases h
 split at h
 ·cases h
 split at h
 ·cases h
 rename_i h1 h2 h3 h4 h5;simp only[QD,drop_zero,NY,Prod.mk.injEq]at h h5;obtain⟨rfl,hb,rfl⟩:=h;have h3:=Decidable.not_not.1 h3;have h5:=Decidable.not_not.1 h5;have hb1:=UInt8.toNat_lt b1;have hb2:=UInt8.toNat_lt b2;have hb3:=UInt8.toNat_lt b3;have hb4:=UInt8.toNat_lt b4;have hl:(r.take m).length=m:=by rw[NS];omega
 unfold frame
 have e4:be (dz b0 (r.take m)) 4=(r.drop m).take 4:=by
  rw[<- h5];have:=pS ((r.drop m).take 4);rwa [show((r.drop m).take 4).length=4 by rw[NS,NT];omega]at this
 rw[<- hb,e4,hl];have e1:be m 2=[b1,b2]:=by rw[hm];exact wN b1 b2
 have e2:be (65535-m%65536) 2=[b3,b4]:=by
  rw[<- wN b3 b4];congr 1;omega
 rw[e1,e2,show m+9=(m+4)+5 by omega];simp only[QE,cons_append,nil_append];rw[take_add]
theorem uP{D:Bs}{a:Nat}{s:Rh}(h:Reach D a s)(hl:a<=D.length):∃rs,tC rs/\cG rs=D.take a/\kz 0 ⟨[],[],[]⟩ rs=some s:=by
 induction h with
 | zero=>exact⟨[],(fun r hr=>by cases hr),by simp[cG],rfl⟩
 | @next at_ s s' k body n _ ho hs ih =>
  obtain⟨rs,h1,h2,h3⟩:=ih Nb;obtain⟨hk,hn,-,-,hb⟩:=dD ho;have hlen:(cG rs).length=at_:=by rw[h2,NS];omega
  refine⟨rs++[(k,body)],fun r hr=>?_,?_,?_⟩
  ·rcases mem_append.1 hr with hr|hr
   ·exact h1 r hr
   ·obtain rfl:=mem_singleton.1 hr;exact⟨hk,hb⟩
  ·rw[eE,h2,take_add,DB ho];simp[cG]
  ·rw[im,h3,Option.bind_some,Nat.zero_add,hlen];simp[kz,hs]
end
end Go.Proofs.YtdhobpbngkainaaGreatDoor
