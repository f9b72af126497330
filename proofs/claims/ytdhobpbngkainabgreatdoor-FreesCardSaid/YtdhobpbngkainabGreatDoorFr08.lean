/- Ours. A part of the proof, made small by a program. -/
import Derived.Test.YtdhobpbngkainabGreatDoorFr07
set_option maxRecDepth 100000
set_option maxHeartbeats 4000000
namespace Go.Proofs.YtdhobpbngkainabGreatDoor
open List
section
open Go.RowKit Go.Maps Go.Sort Go.Shelf
theorem A6(mb:Option Nat)(W:World):CallsIn Fence.wide 5 Tryz.prog 73 #[.map mb] W fun e w'=>e=.returned (.func (.func 107) #[] #[.pointer (some ⟨W.heap.size,0,none⟩)])/\w'=W.alloc (.cells #[.map mb] 51) :=
 AnyZ.keys_in EF Fence.wide 5 trivial rfl mb W
theorem uR{H:Type}(b nn:Nat)(D0:DataW H)(R:Value->Option (DataW H×List MemPlace))(w:World)(hown:w.ownsMap Tryz.prog 9 R b nn D0)(hmax:Maps.size D0<=maxLen)(hbytes:Maps.size D0*16<=140737488355328):
  CallsIn Fence.wide 5 Tryz.prog 72 #[.func (.func 107) #[] #[.pointer (some ⟨w.heap.size,0,none⟩)]] (w.alloc (.cells #[.map (some b)] 51)) fun e w'=>∃(v:Value) (ss:List (List UInt8)),e=.returned v/\ss.Perm (strKeys D0) /\
   w'.ownsRow (w.alloc (.cells #[.map (some b)] 51)).heap.size 9 1 v ss.length ((ss.mergeSort (fun x y=>decide (x<=y))).map encStr)/\(v=.slice none 0 0↔ss=[])/\Below (w.alloc (.cells #[.map (some b)] 51)).heap.size (w.alloc (.cells #[.map (some b)] 51)) w':=by
 have hbl:=hown.lt
 have hseq:SeqGives Fence.wide 2 Tryz.prog 107 #[.pointer (some ⟨w.heap.size,0,none⟩)] encStr (fun ss=>ss.Perm (strKeys D0)) (Maps.size D0) (w.alloc (.cells #[.map (some b)] 51)) :=
  AnyZ.keys_gives (ρ:=rQ) { EF with } Fence.wide _ trivial rfl (by omega) w.heap.size b nn D0 _ (by simp) (by simp) (by
   obtain⟨es,clock,hb,Ft,hs,hD⟩:=hown;exact⟨es,clock,(Below.heap_alloc _ _ b hbl).trans hb,Ft,hs,hD⟩)
 exact AnyZ.sorted_in xE Fence.wide 5 trivial trivial trivial trivial rfl (by omega) (AU _) (enters_of Tryz.func106 (by kernel_rfl) rfl) 107 #[.pointer (some ⟨w.heap.size,0,none⟩)] trivial (enters_of Tryz.func107 (by kernel_rfl) rfl) _ _ hmax hbytes _ hseq
def kO(l:List Bs):List Bs:=l.mergeSort (fun x y=>decide (x<=y))
def fP(ps:List ba):List Bs:=kO (ps.map (·.key))
theorem sO(S:AS)(w:World)(h:Sat w (arF S))(hc:S.X.closed=true):
  Calls Tryz.prog 29 #[.pointer (some ⟨S.a,0,none⟩)] w (fun e w'=>e=.returned (ck 9)/\aQ w w'):=by
 have ha:=h.Q5;have hal:=ae ha;have a10:w.cell? ⟨S.a,10,none⟩=some (.bool true):=by rw[<- hc];exact aa ha 10 rfl
 clear h ha hc;go_enter Tryz.func29,Tryz.ntmps29;go_wp2_with fail;go_ret;exact ⟨rfl,Mods.refl _ _⟩
theorem Bd{F0 F:HF}{w wa w':World}{B:Nat}{v:Value}{xs:List Value}(hT:Turns F0 F w wa)(hB:B=wa.heap.size)(ho:w'.ownsRow B 9 1 v xs.length xs)(hb:Below B wa w'):et 1 v xs.length xs/\Turns F0 (bK 9 1 v xs.length xs++F) w w':=by
 subst hB;obtain⟨h1,h2⟩:=fg ho;refine⟨h2,hT.Qb ⟨(aQ.of_below hb).mods _,h1,fun g hg=>.inr ?_⟩⟩;have hg:=(eK _ _ _ _ _ _).1 hg;rcases ho.2 with⟨rfl,-⟩|⟨g',cap,cur,rfl,hb',-⟩
 ·cases hg
 ·simp only[Value.ownBlock,Option.some.injEq]at hg;subst hg;exact hb'
theorem sd{ks:List Bs}{ss:List Bs}{D:DataW Unit}(h1:ss.Perm (strKeys D))(h2:(strKeys D).Perm ks):(ss.mergeSort (fun x y=>decide (x<=y))).map encStr=(kO ks).map str/\ss.length=(kO ks).length:=by
 have h3:ss.Perm ks:=h1.trans h2;refine⟨?_,?_⟩
 ·unfold kO;rw[xD h3];try rfl
 ·unfold kO;rw[length_mergeSort];exact h3.length_eq
end
section
open Go.RowKit Go.Maps
structure CB where
 pm:Nat
 tm:Nat
 cm:Nat
 X:ArchL
 ps:List ba
 pc:Nat
 cs:List kT
 cc:Nat
 ts:List fO
 tc:Nat
 sz:List (Ent Int)
 szc:Nat
 D:Bs
 s:PSt
 mp:List (Ent (Nat×Nat))
 mc:Nat
def fF(K:KL)(V:VerL):Nat×Nat×List Bs:=(V.num,V.size,V.chs.map (bq K))
abbrev zo:=List (Bs×VerL)
def J3(S:AS)(dn:zo):List Bs:=dn.flatMap (fun x=>x.2.chs.map (bq S.K))
def mL(K:KL):Nat:=(K.map (fun e=>e.1.length+9)).sum
def pU(dn:zo):Nat:=(dn.map (fun x=>x.1.length+16+4*x.2.chs.length)).sum
def dV(td:List Tg):Nat:=(td.map (fun t=>t.1.length+t.2.1.length+15)).sum
structure CbOk (S:AS) (dn:zo) (pt:List Bs) (td:List Tg) (B:CB) (vb:Value):Prop where
 ct:CtOk B.D B.X B.ps B.pc B.cs B.cc B.ts B.tc B.sz B.szc B.D.length B.s
 map:MapOk Hd B.mp B.mc
 moved:∀e∈B.mp,∃c q,(c,e.key)∈S.K/\e.val=plV q/\(c,q)∈B.s.K
 back:∀c q,(c,q)∈B.s.K->∃e∈B.mp,(c,e.key)∈S.K
 row:bOk vb B.D
 bod:B.s.K.map (·.1)=dU [] (J3 S dn++pt)
 hist:∀l,(af B.ps l).map (fF B.s.K)=(dn.filter (fun x=>decide (x.1=l))).map (fun x=>fF S.K x.2)
 held:∀l,∀V∈af B.ps l,V.held=((td.countP (fun t=>decide (t.2.1=l/\t.2.2=(V.num:Int))):Nat):Int)
 tT:B.s.T=td
 len:B.D.length=mL B.s.K+pU dn+dV td
theorem xe{p q:Nat×Nat}{c:Bs}:∀{K:KL},(K.map (·.1)).Nodup->(c,p)∈K->(c,q)∈K->p=q
 | e::r,hn,h1,h2=>by
  obtain⟨n1,n2⟩:=nodup_cons.1 hn
  rcases mem_cons.1 h1 with rfl|h1<;>rcases mem_cons.1 h2 with h2|h2
  ·exact(congrArg Prod.snd h2).symm
  ·exact absurd (mem_map.2 ⟨_,h2,rfl⟩) n1
  ·rw[<- h2]at n1;exact absurd (mem_map.2 ⟨_,h1,rfl⟩) n1
  ·exact xe n2 h1 h2
theorem pG(l a b:List Bs):dU l (a++b)=dU (dU l a) b:=foldl_append
theorem wq{c:Bs}:∀{cs l:List Bs},c∈dU l cs↔c∈l\/c∈cs
 | [],l=>by simp[dU]
 | x::r,l=>by
  show c∈dU (mC l x) r↔_
  rw[wq (cs:=r)]
  unfold mC
  split
  ·rename_i hx
   rw[mem_cons]
   exact⟨fun h=>h.imp id .inr,fun h=>by
    rcases h with h|rfl|h
    ·exact .inl h
    ·exact .inl hx
    ·exact .inr h⟩
  ·rw[mem_append,mem_singleton,mem_cons,or_assoc]
section
variable {S:AS} {dn:zo} {pt:List Bs} {td:List Tg} {B:CB} {vb:Value}
theorem CtOk.body{D:Bs}{X:ArchL}{ps:List ba}{pc:Nat}{cs:List kT}{cc:Nat}{ts:List fO}{tc:Nat}{sz:List (Ent Int)}{szc at_:Nat}{s:PSt}(h:CtOk D X ps pc cs cc ts tc sz szc at_ s){c:Bs}{q:Nat×Nat}(hq:(c,q)∈s.K):bq s.K q=c:=by
 unfold bq
 cases hf:s.K.find? (fun e=>decide (e.2=q))with
 | none=>rw[find?_eq_none]at hf;exact absurd (by simp) (hf _ hq)
 | some e =>
  have h1:=mem_of_find?_eq_some hf;have h2:e.2=q:=by simpa using find?_some hf
  have h3:=(h.kat e h1).2.2;rw[h2]at h3;simpa using rO h3 (h.kat _ hq).2.2
theorem CtOk.vers{D:Bs}{X:ArchL}{ps:List ba}{pc:Nat}{cs:List kT}{cc:Nat}{ts:List fO}{tc:Nat}{sz:List (Ent Int)}{szc at_:Nat}{s:PSt}(h:CtOk D X ps pc cs cc ts tc sz szc at_ s){l:Bs}{V:VerL}(hV:V∈af ps l):(∀q∈V.chs,∃e∈s.K,e.2=q)/\V.size=(V.chs.map (·.2)).sum:=by
 have h1:bI V∈(af ps l).map bI:=mem_map.2 ⟨V,hV,rfl⟩;rw[h.hist]at h1;obtain⟨x,hx,e⟩:=mem_map.1 h1;obtain⟨h2,h3⟩:=h.chsK x (mem_filter.1 hx).1;unfold cY bI at e;simp only[Prod.mk.injEq]at e;rw[<- e.2.1,<- e.2.2.1];exact⟨h2,h3⟩
theorem CbOk.hit(h:CbOk S dn pt td B vb)(hok:ArOk S){c:Bs}{p:Nat×Nat}(hc:(c,p)∈S.K){e:Ent (Nat×Nat)}(he:e∈B.mp)(hk:e.key=p):∃q,e.val=plV q/\(c,q)∈B.s.K/\CbOk S dn (pt++[c]) td B vb:=by
 obtain⟨c',q,h1,h2,h3⟩:=h.moved e he;rw[hk]at h1;obtain rfl:=KX hok h1 hc;refine⟨q,h2,h3,{ h with bod:=?_ }⟩;rw[<- append_assoc,pG,<- h.bod];show _=mC _ c';unfold mC;rw[if_pos (mem_map.2 ⟨_,h3,rfl⟩)]
theorem CbOk.miss(h:CbOk S dn pt td B vb)(hnd:(S.K.map (·.1)).Nodup){c:Bs}{p:Nat×Nat}(hc:(c,p)∈S.K)(hn:∀e∈B.mp,e.key≠p):c∉B.s.K.map (·.1):=fun hm=>by
 obtain⟨⟨c',q⟩,hq,rfl⟩:=mem_map.1 hm
 obtain⟨e,he,h1⟩:=h.back _ _ hq
 exact hn e he (xe hnd h1 hc)
def CB.chunk(B:CB)(c:Bs)(p:Nat×Nat)(v:Value):CB :=
 { B with X:={ B.X with sc:=B.X.sc+1,sb:=B.X.sb+c.length },cs:=eh B.cs B.cc (ef c) v (bd B.cs (ef c)++[(B.D.length,c.length)]),cc:=cf (B.cs.map aN) B.cc (ef c),sz:=gF B.sz B.szc (B.D.length:Int) (.int .i64 c.length),szc:=cf B.sz B.szc (B.D.length:Int),D:=B.D++frame 1 c,s:={ B.s with K:=B.s.K++[(c,B.D.length,c.length)] },mp:=gF B.mp B.mc p (plV (B.D.length,c.length)),mc:=cf B.mp B.mc p }
theorem CbOk.chunk(h:CbOk S dn pt td B vb){c:Bs}{p:Nat×Nat}(hc:(c,p)∈S.K)(hm:c∉B.s.K.map (·.1))(hn:∀e∈B.mp,e.key≠p)(hcl:c.length<65536)(hD:B.D.length<=4294967296)(hp:Hd p){v vb':Value}(hv:bP v (bd B.cs (ef c)++[(B.D.length,c.length)]))(hvb:bOk vb' (B.D++frame 1 c)):
  CbOk S dn (pt++[c]) td (B.chunk c p v) vb':=by
 have hh:iv B.mp p=false:=by
  cases hb:iv B.mp p with
  | false=>rfl
  | true=>obtain⟨e,he,hk⟩:=iw.1 hb;exact absurd hk (hn e he)
 have hmp:(B.chunk c p v).mp=B.mp++[⟨p,plV (B.D.length,c.length),B.mc⟩]:=by unfold CB.chunk gF;simp[hh]
 refine { ct:=h.ct.Qp hcl hD hv,map:=h.map.put hp _,moved:=fun e he=>?_,back:=fun c' q hq=>?_,row:=hvb,bod:=?_,hist:=fun l=>?_,held:=h.held,tT:=h.tT,len:=?_ }
 ·rw[hmp]at he;rcases mem_append.1 he with he|he
  ·obtain⟨c',q,h1,h2,h3⟩:=h.moved e he;exact⟨c',q,h1,h2,mem_append_left _ h3⟩
  ·obtain rfl:=mem_singleton.1 he;exact⟨c,_,hc,rfl,mem_append_right _ (by simp)⟩
 ·rw[hmp];rcases mem_append.1 hq with hq|hq
  ·obtain⟨e,he,h1⟩:=h.back c' q hq;exact⟨e,mem_append_left _ he,h1⟩
  ·have:=mem_singleton.1 hq;simp only[Prod.mk.injEq]at this;obtain⟨rfl,-⟩:=this;exact⟨_,mem_append_right _ (mem_singleton.2 rfl),hc⟩
 ·show(B.s.K++[_]).map _=_;rw[<- append_assoc,pG,<- h.bod,map_append];show _=mC _ c;unfold mC;rw[if_neg hm];rfl
 ·rw[<- h.hist l];refine map_congr_left (fun V hV=>?_);unfold fF;congr 2;exact map_congr_left (fun q hq=>kC ((h.ct.vers hV).1 q hq))
 ·show(B.D++frame 1 c).length=mL (B.s.K++[_])+pU dn+dV td;have:=h.len;unfold mL at this ⊢;rw[length_append,aX,map_append,sum_append];simp only[map_cons,map_nil,sum_cons,sum_nil];omega
def iO(S:AS)(K:KL)(chs chs':List (Nat×Nat)):Prop:=chs'.map (bq K)=chs.map (bq S.K)/\∀q∈chs',∃e∈K,e.2=q
theorem iO.nil(S:AS)(K:KL):iO S K [] []:=⟨rfl,fun q h=>by cases h⟩
theorem iO.more{K:KL}{chs chs':List (Nat×Nat)}(h:iO S K chs chs')(K':KL):iO S (K++K') chs chs':=by
 refine⟨?_,fun q hq=>?_⟩
 ·rw[<- h.1];exact map_congr_left (fun q hq=>kC (h.2 q hq))
 ·obtain⟨e,he,e1⟩:=h.2 q hq;exact⟨e,mem_append_left _ he,e1⟩
theorem iO.snoc{K:KL}{chs chs':List (Nat×Nat)}(h:iO S K chs chs'){p q:Nat×Nat}{c:Bs}(hp:bq S.K p=c)(hq:bq K q=c)(he:∃e∈K,e.2=q):iO S K (chs++[p]) (chs'++[q]):=by
 refine⟨by rw[map_append,map_append,h.1];simp[hp,hq],fun x hx=>?_⟩;rcases mem_append.1 hx with hx|hx
 ·exact h.2 x hx
 ·obtain rfl:=mem_singleton.1 hx;exact he
theorem iO.len{K:KL}{chs chs':List (Nat×Nat)}(h:iO S K chs chs'):chs'.length=chs.length:=by
 have:=congrArg length h.1;simpa using this
theorem uN{K:KL}(hk:∀e∈K,e.2.2=e.1.length)(hb:∀{c:Bs} {q:Nat×Nat},(c,q)∈K->bq K q=c):∀{chs:List (Nat×Nat)},(∀q∈chs,∃e∈K,e.2=q)->chs.map (·.2)=(chs.map (bq K)).map length
 | [],_=>rfl
 | q::r,h=>by
  obtain⟨e,he,rfl⟩:=h q (by simp)
  have h2:=uN hk hb (chs:=r) (fun x hx=>h x (by simp[hx]))
  simp only[map_cons]
  rw[hb (c:=e.1) (q:=e.2) he,hk e he,h2]
theorem iO.sum(h:CbOk S dn pt td B vb)(hok:ArOk S){chs chs':List (Nat×Nat)}(hc:iO S B.s.K chs chs')(hS:∀q∈chs,∃e∈S.K,e.2=q):(chs'.map (·.2)).sum=(chs.map (·.2)).sum:=by
 rw[uN (fun e he=>(h.ct.kat e he).1) (fun hq=>h.ct.body hq) hc.2,hc.1,uN (fun e he=>(hok.kat e he).1) (fun hq=>pM hok hq) hS]
def gP(b:Nat)(V:VerL)(cv:Value)(chs:List (Nat×Nat)):VerL:=⟨b,V.num,V.size,cv,chs,0⟩
def CB.ver(B:CB)(l:Bs)(V:VerL)(b:Nat)(cv v':Value)(chs:List (Nat×Nat)):CB :=
 { B with X:={ B.X with used:=B.X.used+V.size },ps:=kw B.ps B.pc l v' (gP b V cv chs),pc:=cf (B.ps.map aN) B.pc l,D:=B.D++frame 2 (eF l V.num V.size (br chs)),s:={ B.s with H:=B.s.H++[⟨l,V.num,V.size,chs,0⟩] } }
theorem CbOk.ver{V:VerL}(h:CbOk S dn (V.chs.map (bq S.K)) [] B vb)(hok:ArOk S){l:Bs}(hl:l.length<=20)(hnum:V.num<4294967296)(hsz:V.size<65536)(hD:B.D.length<=4294967296)(hcl:V.chs.length<=16000)(hS:(∀q∈V.chs,∃e∈S.K,e.2=q)/\V.size=(V.chs.map (·.2)).sum){chs:List (Nat×Nat)}(hc:iO S B.s.K V.chs chs){b:Nat}{cv v' vb':Value}(hcv:bP cv chs)(hv:eT v' (af B.ps l++[gP b V cv chs]))(hvb:bOk vb' (B.D++frame 2 (eF l V.num V.size (br chs)))):
  CbOk S (dn++[(l,V)]) [] [] (B.ver l V b cv v' chs) vb':=by
 have hfl:=ga l V.num V.size chs;have hln:=hc.len;have hct:=h.ct.addVer (b:=b) (m:=V.size) hl hnum hsz hD (by rw[aX]at hfl;omega) hc.2 (by rw[iO.sum h hok hc hS.1];exact hS.2.symm) hcv hv;refine { ct:=hct,map:=h.map,moved:=h.moved,back:=h.back,row:=hvb,bod:=?_,hist:=fun m=>?_,held:=fun m U hU=>?_,tT:=h.tT,len:=?_ }
 ·show B.s.K.map _=_;rw[h.bod,append_nil];unfold J3;rw[flatMap_append];simp
 ·show(af (kw B.ps B.pc l v' (gP b V cv chs)) m).map (fF B.s.K)=_;rw[qJ,filter_append,map_append,<- h.hist m];by_cases hm:m=l
  ·subst hm;rw[if_pos rfl,map_append];simp only[map_cons,map_nil,filter_cons,decide_true,if_true,filter_nil];congr 2;unfold fF gP;simp only;rw[hc.1]
  ·rw[if_neg hm];have:¬l=m:=fun e=>hm e.symm
   simp[this]
 ·have hU:U∈af (kw B.ps B.pc l v' (gP b V cv chs)) m:=hU;rw[qJ]at hU;split at hU
  ·rename_i hm;subst hm;rcases mem_append.1 hU with hU|hU
   ·exact h.held _ U hU
   ·obtain rfl:=mem_singleton.1 hU;rfl
  ·exact h.held _ U hU
 ·show(B.D++frame 2 _).length=mL B.s.K+pU (dn++[(l,V)])+dV [];have:=h.len;unfold pU at this ⊢;rw[length_append,hfl,map_append,sum_append,hln];simp only[map_cons,map_nil,sum_cons,sum_nil];omega
def CB.tag(B:CB)(m p:Bs)(n:Nat):CB :=
 { B with ps:=cM B.ps p n 1,ts:=eh B.ts B.tc m (mE m (p,(n:Int))) (p,(n:Int)),tc:=cf (B.ts.map aN) B.tc m,D:=B.D++frame 4 (dG p m n),s:={ B.s with H:=fy B.s.H p n 1,T:=ma B.s.T (m,p,(n:Int)) } }
theorem tS(p m:Bs)(n:Int):(frame 4 (dG p m n)).length=m.length+p.length+15:=by
 simp only[aX,dG,length_append,bw,bM];omega
theorem CbOk.tag(h:CbOk S dn [] td B vb){m p:Bs}{n:Nat}(hp:p.length<=20)(hm:m.length<=20)(hn:n<4294967296)(hnew:∀t∈td,t.1≠m){vb':Value}(hvb:bOk vb' (B.D++frame 4 (dG p m n))):
  CbOk S dn [] (td++[(m,p,(n:Int))]) (B.tag m p n) vb':=by
 have hfl:=tS p m n
 have hT:ma B.s.T (m,p,(n:Int))=td++[(m,p,(n:Int))]:=by
  unfold ma;rw[if_neg,h.tT];rw[h.tT,any_eq_true];rintro⟨t,ht,e⟩;exact hnew t ht (by simpa using e)
 refine { ct:=h.ct.addTag hp hm (by unfold OkS;omega) hn (by rw[aX]at hfl;omega),map:=h.map,moved:=h.moved,back:=h.back,row:=hvb,bod:=h.bod,hist:=fun l=>?_,held:=fun l U hU=>?_,tT:=hT,len:=?_ }
 ·show(af (cM B.ps p n 1) l).map (fF B.s.K)=_;rw[gX,<- h.hist l];split
  ·rename_i e;subst e;rw[map_map];refine map_congr_left (fun V _=>?_);show fF B.s.K (dj n 1 V)=_;obtain⟨-,-,e1,e2,e3⟩:=gA n 1 V;unfold fF;rw[e1,e2,e3]
  ·rfl
 ·have hU:U∈af (cM B.ps p n 1) l:=hU;rw[gX]at hU;rw[countP_append];split at hU
  ·rename_i e;subst e;obtain⟨V,hV,rfl⟩:=mem_map.1 hU;rw[(gA n 1 V).2.2.2.1];have h0:=h.held _ V hV;unfold dj;by_cases hnn:(V.num:Int)=n
   ·rw[if_pos hnn];simp only[countP_cons,countP_nil,hnn,and_self,decide_true,if_true];rw[hnn]at h0;show V.held+1=_;omega
   ·rw[if_neg hnn];have:¬((n:Int)=V.num):=fun e=>hnn e.symm
    simp only[countP_cons,countP_nil,this,and_false,decide_false,Bool.false_eq_true,if_false,Nat.add_zero];exact h0
  ·rename_i e;have:¬p=l:=fun e2=>e e2.symm
   simp only[countP_cons,countP_nil,this,false_and,decide_false,Bool.false_eq_true,if_false,Nat.add_zero];exact h.held _ U hU
 ·show(B.D++frame 4 _).length=mL B.s.K+pU dn+dV (td++[_]);have:=h.len;unfold dV at this ⊢;rw[length_append,hfl,map_append,sum_append];simp only[map_cons,map_nil,sum_cons,sum_nil];omega
theorem CbOk.costs(h:CbOk S dn pt td B vb)(hin:∀x∈dn,∀q∈x.2.chs,∃e∈S.K,e.2=q)(hpt:∀c∈pt,c∈S.K.map (·.1)):B.D.length<=mL S.K+pU dn+dV td:=by
 have h1:(B.s.K.map (·.1)).Nodup:=by rw[h.bod];exact kA _ _ nodup_nil
 have h2:=ly (f:=fun c=>c.length+9) h1 (m:=S.K.map (·.1)) (fun c hc=>by
  rw[h.bod,wq]at hc;rcases hc with hc|hc
  ·cases hc
  rcases mem_append.1 hc with hc|hc
  ·obtain⟨x,hx,hc⟩:=mem_flatMap.1 hc;obtain⟨q,hq,rfl⟩:=mem_map.1 hc;exact nK (hin x hx q hq)
  ·exact hpt c hc)
 have h3:=h.len;rw[map_map,map_map]at h2;unfold mL at h3 ⊢;have e:∀K:KL,(K.map ((fun c:Bs=>c.length+9) ∘ (·.1))).sum=(K.map (fun e=>e.1.length+9)).sum:=fun K=>rfl
 rw[e,e]at h2;omega
end
end
section
open Go.RowKit Go.Maps
def oZ(vs:List RVer)(k:Nat):List RVer:=vs.take k++vs.drop (k+1)
def Gp(R:RefL)(k:Nat)(v':Value):RefL:={ R with vv:=v',vs:=oZ R.vs k }
theorem BD{R:RefL}{P:eO}{w W:World}(h:RefAt R P w){G:HF}(hT:Turns (aI R) (G++aI R) w W){sl:Option Addr}{cap:Nat}(e1:R.vv=.slice sl R.vs.length cap):
  W.cell? ⟨R.blk,0,none⟩=some (.slice sl R.vs.length cap)/\R.blk<W.heap.size/\(∀k,ak W sl (bu (R.vs.take k)))/\(∀k,k<=R.vs.length->ak W (if cap=k then sl else sl.map (·.add (k*4))) (bu (R.vs.drop k))):=by
 have hs:=hT.sat.right;obtain⟨sl',cap',e1',-,-,e4',e5'⟩:=xx (Sat.left (Sat.tail hs)) h.ok.vs;rw[e1]at e1';simp only[Value.slice.injEq,true_and]at e1';obtain⟨rfl,rfl⟩:=e1';exact⟨by rw[<- e1];exact aa hs.Q5 0 rfl,ae hs.Q5,e4',e5'⟩
def Hj(R:RefL)(k:Nat)(w:World)(e:Ending)(w':World):Prop :=
 ∃v',e=.returned (.tuple #[])/\nh v' (oZ R.vs k)/\Turns (aI R) (aI (Gp R k v')) w w'
theorem vL(R:RefL)(P:eO)(k:Nat)(w:World)(h:RefAt R P w)(hk:k<R.vs.length):
  Calls Tryz.prog 66 #[.pointer (some ⟨R.blk,0,none⟩),.int .i64 k] w (Hj R k w):=by
 obtain⟨sl,cap,e1,e2,e3,hb,-⟩:=h.row;have c0:w.cell? ⟨R.blk,0,none⟩=some (.slice sl R.vs.length cap):=by rw[<- e1];exact aa hb 0 rfl
 have hbl:=ae hb;have hlen:=h.len;have hone:=h.one;have hT0:Turns (aI R) ([]++aI R) w w:=Turns.refl h.ref;obtain⟨-,-,d2,-⟩:=BD h hT0 e1;obtain⟨k1,hk1⟩:∃k1,k1=k+1:=⟨_,rfl⟩;have hk1z:(k:Int)+1=(k1:Int):=by omega
 have hk1l:k1<=R.vs.length:=by omega
 have hkl:k<=R.vs.length:=by omega
 have hk1c:k1<=cap:=by omega
 have HRF:=qqH (fun(W:World) (G:HF) (hT:Turns (aI R) (G++aI R) w W)=>BD h hT e1);have HH:=Hq5 h hT0 d2 hone hk1;clear h hT0 d2 hone hk1 e1 hb;go_enter Tryz.func66,Tryz.ntmps66
 go_wp2_with (first
  | (at_builtin;refine ah rfl ?_;refine ig (.tmp 5) (.tmp 11) rfl (.slice none 0 0) [] rfl (G:=aI R) (show Turns (aI R) (dm (.slice none 0 0) []++aI R) w w from HH.b) ⟨rfl,fun _=>⟨rfl,rfl⟩⟩ _ _ _ rfl (R.vs.take k) (by rw[length_take,Nat.min_eq_left hkl]) (HH.c k) (fun v hv=>HH.d v (mem_of_mem_take hv)) (by rw[length_take,Nat.min_eq_left hkl];simp;omega) ?_;intro v7 w7 hok7 hT7;simp only[nil_append]at hok7 hT7;obtain⟨d0,d1,-,d3⟩:=HRF.out _ _ hT7;have H7:=Hq3 hok7 hT7 d3;clear hok7 hT7 d3)
  | (at_builtin;refine ah rfl ?_;refine ig (.tmp 13) (.tmp 20) rfl v7 (R.vs.take k) rfl H7.b H7.a _ _ _ rfl (R.vs.drop k1) (by rw[length_drop]) (H7.y k1 hk1l) (fun v hv=>HH.d v (mem_of_mem_drop hv)) (by simp;omega) ?_;intro v9 w9 hok9 hT9;obtain⟨d0,d1,-,-⟩:=HRF.out _ _ hT9;have hv9:=dl hT9.sat.left hok9;have H9:=Hq3 hok9 hT9 hv9;clear hok9 hT9 hv9)
  | (refine ah rfl (bb 43 (.tmp 25) (.tmp 23) rfl R.blk 0 (bJ R) 46 v9 (H9.b.to (H:=(R.blk,Is (fQ R))::(dm v9 (R.vs.take k++R.vs.drop k1)++(dm R.vv R.vs++dP R.tv R.ts))) (by unfold aI;exact ac)) rfl rfl (by simp[bJ]) (by kernel_rfl) H9.c H9.d ?_);intro w10 hT10;have H10:=qqH hT10;clear hT10;simp only[Act.put]))
 all_goals
  refine bodyPost_end (results_none rfl _ _ _) rfl ?_;have hk1:=HH.w;refine⟨v9,rfl,?_,?_⟩
  ·unfold oZ;rw[<- hk1];exact H9.a
  ·refine H10.out.drop (fun x=>?_);unfold aI Gp oZ;rw[<- hk1,show fQ { R with vv:=v9,vs:=R.vs.take k++R.vs.drop k1 }=.cells ((bJ R).setIfInBounds 0 v9) 46 (0,0)from rfl];simp only[ao,ai];omega
theorem me{R:RefL}{p:Bs}{n:Int}{v:RVer}(h:oE R p n=some v):∃k:Nat,bQ R.vs p n R.vs.length=k/\∃hk:k<R.vs.length,R.vs[k]=v:=by
 unfold oE at h;split at h
 ·rename_i h0;obtain⟨k,hk⟩:∃k:Nat,bQ R.vs p n R.vs.length=k:=⟨_,(Int.toNat_of_nonneg h0).symm⟩;rw[hk,Int.toNat_natCast]at h;obtain⟨hlt,he⟩:=List.getElem?_eq_some_iff.1 h;exact⟨k,hk,hlt,he⟩
 ·cases h
theorem gf{R:RefL}{p:Bs}{n:Int}{v:RVer}(h:cL R p n=.ok v):R.closed=false/\aq p=true/\oE R p n=some v:=by
 unfold cL at h;split at h
 ·cases h
 ·rename_i hc;split at h
  ·rename_i hp;split at h
   ·rename_i v' hv;simp only[Except.ok.injEq]at h;subst h;exact⟨by simpa using hc,hp,hv⟩
   ·cases h
  ·cases h
def Hk(R:RefL)(p:Bs)(n:Int)(w:World)(e:Ending)(w':World):Prop :=
 (∃k,cL R p n=.error k/\e=.returned (.int .i64 k)/\Turns (aI R) (aI R) w w') \/
 (∃v,cL R p n=.ok v/\0<v.held/\e=.returned (.int .i64 5)/\Turns (aI R) (aI R) w w') \/
 (∃k v',∃hk:k<R.vs.length,cL R p n=.ok R.vs[k]/\bQ R.vs p n R.vs.length=k/\R.vs[k].held<=0/\e=.returned (.int .i64 0)/\nh v' (oZ R.vs k)/\Turns (aI R) (aI (Gp R k v')) w w')
theorem oD(R:RefL)(P:eO)(p:Bs)(n:Int)(w:World)(h:RefAt R P w):
  Calls Tryz.prog 20 #[.pointer (some ⟨R.blk,0,none⟩),str p,.int .i64 n] w (Hk R p n w):=by
 have HG:=qqH (ko R P p n w h);have HH:=qqH h;clear h;go_enter Tryz.func20,Tryz.ntmps20;go_wp2_with fail;refine HG.out.mono ?_;rintro e w1 ⟨hs,hm⟩
 cases hr:cL R p n with
 | error k =>
  rw[hr]at hm;subst hm;have hk0:=jT hr;have HR:=Hq2 hr hs;clear hr hs;go_wp2_with fail;go_ret;refine (.inl ⟨k,HR.a,rfl,Turns.same HH.out.ref HR.z⟩)
 | ok v =>
  rw[hr]at hm;obtain⟨rfl,-⟩:=hm;obtain⟨-,-,hf⟩:=gf hr;obtain⟨k,hb,hk,hv⟩:=me hf;have hA1:=HH.out.same hs;have hcv:=hA1.one v (hv ▸ getElem_mem hk);have HFi:=qqH (kN R P p n w1 hA1);have HR:=Hq4 hr hs hb hv;clear hr hs hf hb hA1 hcv;go_wp2_with fail;refine HFi.out.mono ?_;rintro e w2 ⟨rfl,hs2⟩;rw[HR.c];have hA2:=HH.out.same (HR.b.trans hs2);obtain⟨sl,cap,e1,e2,e3,hbo,hcell⟩:=hA2.row;obtain⟨g,off,hg,hcc⟩:=hcell (by omega);subst hg;obtain⟨-,-,-,h3⟩:=hcc k hk;rw[HR.x]at h3;have c0:w2.cell? ⟨R.blk,0,none⟩=some (.slice (some ⟨g,off,none⟩) R.vs.length cap):=by rw[<- e1];exact aa hbo 0 rfl
  have hbl:=ae hbo;have hgl:=World.block_lt_of_cell? w2 _ h3;have HS:=Hq2 (HR.b.trans hs2) hA2;have HRm:=qqH (vL R P k w2 hA2 hk);clear hs2 hA2 e1 hbo hcell hcc;by_cases c1:0<v.held
  ·go_wp2_with fail;go_ret;refine (.inr (.inl ⟨v,HR.a,c1,rfl,Turns.same HH.out.ref HS.a⟩))
  ·go_wp2_with fail;refine HRm.out.mono ?_;rintro e w3 ⟨v',rfl,hv',hT⟩;have HT:=Hq2 hv' hT;clear hv' hT;go_wp2_with fail;go_ret;refine (.inr (.inr ⟨k,v',hk,by rw[HR.x];exact HR.a,HR.c,by rw[HR.x];omega,rfl,HT.a,Turns.Qg HH.out.ref HS.a HT.z⟩))
def mB(vs:List RVer)(p:Bs)(n:Int):Option RVer:=if 0<=bQ vs p n vs.length then vs[(bQ vs p n vs.length).toNat]? else none
def gw(p:Bs)(s:List RVer×Nat)(n:Int):List RVer×Nat :=
 match mB s.1 p n with
 | some v=>if v.held<=0 then(oZ s.1 (bQ s.1 p n s.1.length).toNat,s.2+1)else s
 | none=>s
def l6(L:Nat)(keep:Int):Nat:=if keep<0 then L else((L:Int)-keep).toNat
def iB(R:RefL)(v':Value)(vs':List RVer):RefL:={ R with vv:=v',vs:=vs' }
def sV(R:RefL)(P:eO)(p:Bs)(keep:Int)(w:World)(e:Ending)(w':World):Prop :=
 (∃k,cL R p 0=.error k/\e=.returned (.tuple #[.int .i64 0,.int .i64 k])/\Turns (aI R++bi P) (aI R++bi P) w w') \/
 (∃v,cL R p 0=.ok v/\∃vs' c v',((gd R.vs p).take (l6 (gd R.vs p).length keep)).foldl (gw p) (R.vs,0)=(vs',c)/\e=.returned (.tuple #[.int .i64 (c:Nat),.int .i64 0])/\nh v' vs'/\Turns (aI R++bi P) (aI (iB R v' vs')++bi P) w w')
def Ct(R:RefL)(P:eO)(p:Bs)(ns:List Int)(m:Nat)(nv:Value)(w:World)(cv i _f:Value)(W:World):Prop :=
 ∃(j c:Nat) (vs':List RVer) (v':Value),j<=m/\i=.int .i64 j/\cv=.int .i64 c/\(ns.take j).foldl (gw p) (R.vs,0)=(vs',c)/\nh v' vs'/\(∀v∈vs',v∈R.vs)/\vs'.length<=R.vs.length/\c<=j/\Turns (aI R++bi P) ((aI (iB R v' vs')++bi P)++bZ nv ns) w W
theorem Ak{vs:List RVer}{k:Nat}:∀v∈oZ vs k,v∈vs:=fun v hv=>by
 rcases mem_append.1 hv with h|h
 ·exact mem_of_mem_take h
 ·exact mem_of_mem_drop h
theorem Aj{vs:List RVer}{k:Nat}:(oZ vs k).length<=vs.length:=by
 unfold oZ;rw[length_append,length_take,length_drop];omega
theorem Da{α β:Type}{f:β->α->β}{b:β}{l:List α}{k:Nat}(h:k<l.length):(l.take (k+1)).foldl f b=f ((l.take k).foldl f b) l[k]:=by
 rw[QH h,foldl_append];rfl
theorem yP(R:RefL)(P:eO)(p:Bs)(keep:Int)(w:World)(h:RefAt R P w)(hJ:Sat w (aI R++bi P))(hkr : -9223372036854775808<=keep/\keep<=9223372036854775807):
  Calls Tryz.prog 22 #[.pointer (some ⟨R.blk,0,none⟩),str p,.int .i64 keep] w (sV R P p keep w):=by
 have HN:=qqH (mZ R P p w h);have hlenR:=h.len;have HH:=Hq2 h hJ;clear h hJ;go_enter Tryz.func22,Tryz.ntmps22;go_wp2_with fail;refine HN.out.mono ?_;intro e w1 hp;unfold fh at hp
 cases hr:cL R p 0 with
 | error k =>
  rw[hr]at hp;obtain⟨hs,rfl⟩:=hp;have hk0:=jT hr;have HR:=Hq2 hr hs;clear hr hs;go_wp2_with fail;go_ret2;refine (.inl ⟨k,HR.a,rfl,Turns.same HH.z HR.z⟩)
 | ok v0 =>
  rw[hr]at hp;obtain⟨nv,rfl,hio,hT⟩:=hp;obtain⟨ns,hns⟩:∃ns,ns=gd R.vs p:=⟨_,rfl⟩;rw[<- hns]at hio hT;have hnl:ns.length<=100000:=by rw[hns];have:=qW R.vs p;omega
  have hT1:Turns (aI R++bi P) ((aI R++bi P)++bZ nv ns) w w1:=((Turns.refl HH.z).Qb hT).to perm_append_comm;obtain⟨na,nc,hnv,-⟩:=aL (aR hT1.sat.right hio);obtain⟨m,hm⟩:∃m,m=l6 ns.length keep:=⟨_,rfl⟩;have hml:m<=ns.length:=by rw[hm];unfold l6;split<;>omega
  obtain⟨-,hpath,-⟩:=gf hr;have HR:=Hq6 hr hns hT1 hio hm hpath;have hst:Ct R P p ns m (.slice na ns.length nc) w (.int .i64 0) (.int .i64 0) undef w1:=⟨0,0,R.vs,R.vv,Nat.zero_le _,rfl,rfl,rfl,HH.a.ok.vs,fun v h=>h,Nat.le_refl _,Nat.le_refl _,by rw[<- hnv];exact hT1⟩;have HST:=qqH hst;subst hnv;clear hr hns hT hT1 hio hst hpath;go_wp2_with fail;go_loopw [10,11,12] (fun cv i f wr=>Ct R P p ns m (.slice na ns.length nc) w cv i f wr) (fun _ i _ _=>m-(intOf i).toNat)
  case atStart=>exact HST.out
  case round =>
   obtain⟨j,c,vs',v',hj,rfl,rfl,hf,hv',hsub,hle,hcj,hT⟩:=hrel;have hA:RefAt (iB R v' vs') P wr:=⟨hT.sat.left.left,⟨hv',HH.a.ok.ts⟩,hT.sat.left.right,HH.a.pok,fun v hv=>HH.a.inp v (hsub v hv),by show vs'.length<=_;omega,fun v hv=>HH.a.clen v (hsub v hv)⟩;have HS:=Hq5 hf hv' hsub hT hA;clear hf hv' hsub hT hA;by_cases hlt:j<m
   ·have hjn:j<ns.length:=by omega
    obtain⟨a',c',e1,-,-,hcells,-⟩:=aL (aR HS.d.sat.right HR.d);simp only[Value.slice.injEq]at e1;obtain⟨rfl,-,-⟩:=e1;obtain⟨g,off,hg,hcell⟩:=hcells (by rw[length_map];omega);subst hg;obtain⟨n,hn⟩:∃n,n=ns[j]:=⟨_,rfl⟩;have hck:wr.cell? ⟨g,off+j,none⟩=some (.int .i64 n):=by rw[hcell j (by simpa using hjn)];simp[hn,di]
    have hgl:=World.block_lt_of_cell? wr _ hck;have HD:=qqH (oD (iB R v' vs') P p n wr HS.w);have hfn:=Da (f:=gw p) (b:=(R.vs,0)) hjn;rw[HS.a,<- hn]at hfn;have HFN:=qqH hfn;clear hcells hcell hn hfn
    have hgo:∀(W':World) (f:Int) (s':List RVer×Nat) (v2:Value),gw p (vs',c) n=s'->(s'.2:Int)=(if f=0 then(c:Int)+1 else(c:Int))->nh v2 s'.1->(∀v∈s'.1,v∈R.vs)->s'.1.length<=R.vs.length->Turns (aI R++bi P) ((aI (iB R v2 s'.1)++bi P)++bZ (.slice (some ⟨g,off,none⟩) ns.length nc) ns) w W'->∀fv,Ct R P p ns m (.slice (some ⟨g,off,none⟩) ns.length nc) w (.int .i64 (if f=0 then(c:Int)+1 else(c:Int))) (.int .i64 ((j:Int)+1)) fv W':=fun W' f s' v2 h1 h2 h3 h4 h5 h6 fv=>by
     refine⟨j+1,s'.2,s'.1,v2,by omega,by go_num,by rw[h2],by rw[HFN.out,h1],h3,h4,h5,?_,h6⟩;split at h2<;>omega
    have HGO:=qqH hgo;clear hgo;have hc1:(j:Int)<(ns.length:Int):=by omega
    by_cases hkn:keep<0
    ·go_wp2_with fail;refine HD.out.mono ?_;rintro e w2 (⟨k,hk,rfl,hT⟩|⟨v,hv,hpos,rfl,hT⟩|⟨k,v2,hk,hg2,hb,hh,rfl,hv2,hT⟩)
     ·have hk0:=jT hk
      have hnf:mB vs' p n=none:=by
       have:=hk;unfold cL at this;rw[show(iB R v' vs').closed=false from(gf HR.a).1,if_neg (by simp),if_pos HR.v]at this
       cases hf:mB vs' p n with
       | none=>rfl
       | some v=>rw[show oE (iB R v' vs') p n=some v from hf]at this;cases this
      have HX:=qqH (HGO.out w2 k (vs',c) v' (by unfold gw;simp only[hnf]) (by rw[if_neg hk0]) HS.b HS.c hle ((HS.d.step (F:=aI (iB R v' vs')) (R:=bi P++bZ (.slice (some ⟨g,off,none⟩) ns.length nc) ns) ac hT).to ac));rw[if_neg hk0]at HX;clear hT hnf hk;go_wp2_with fail;go_roundw
      case rel=>exact HX.out _
      case measure=>simp[intOf];omega
     ·obtain⟨k,hb,hk,hvk⟩:=me (gf hv).2.2;have hnf:mB vs' p n=some v:=(gf hv).2.2;have HX:=qqH (HGO.out w2 5 (vs',c) v' (by unfold gw;simp only[hnf];rw[if_neg (by omega)]) (by rw[if_neg (by omega)]) HS.b HS.c hle ((HS.d.step (F:=aI (iB R v' vs')) (R:=bi P++bZ (.slice (some ⟨g,off,none⟩) ns.length nc) ns) ac hT).to ac));rw[if_neg (by omega)]at HX;clear hT hnf hv hb hk hvk;go_wp2_with fail;go_roundw
      case rel=>exact HX.out _
      case measure=>simp[intOf];omega
     ·have hnf:mB vs' p n=some (iB R v' vs').vs[k]:=(gf hg2).2.2;have hb2:bQ vs' p n vs'.length=k:=hb;have HX:=qqH (HGO.out w2 0 (oZ vs' k,c+1) v2 (by unfold gw;simp only[hnf];rw[if_pos hh,hb2,Int.toNat_natCast]) (by rw[if_pos rfl];rfl) hv2 (fun v hv=>HS.c v (Ak v hv)) (Nat.le_trans Aj hle) ((HS.d.step (F:=aI (iB R v' vs')) (R:=bi P++bZ (.slice (some ⟨g,off,none⟩) ns.length nc) ns) ac hT).to (by unfold Gp iB;exact ac)));rw[if_pos rfl]at HX;clear hT hnf hb2 hb hg2 hh hv2;go_wp2_with fail;go_roundw
      case rel=>exact HX.out _
      case measure=>simp[intOf];omega
    ·have hc2:(j:Int)<(ns.length:Int)-keep:=by rw[show m=_ from HR.e]at hlt;unfold l6 at hlt;rw[if_neg hkn]at hlt;omega
     go_wp2_with fail;refine HD.out.mono ?_;rintro e w2 (⟨k,hk,rfl,hT⟩|⟨v,hv,hpos,rfl,hT⟩|⟨k,v2,hk,hg2,hb,hh,rfl,hv2,hT⟩)
     ·have hk0:=jT hk
      have hnf:mB vs' p n=none:=by
       have:=hk;unfold cL at this;rw[show(iB R v' vs').closed=false from(gf HR.a).1,if_neg (by simp),if_pos HR.v]at this
       cases hf:mB vs' p n with
       | none=>rfl
       | some v=>rw[show oE (iB R v' vs') p n=some v from hf]at this;cases this
      have HX:=qqH (HGO.out w2 k (vs',c) v' (by unfold gw;simp only[hnf]) (by rw[if_neg hk0]) HS.b HS.c hle ((HS.d.step (F:=aI (iB R v' vs')) (R:=bi P++bZ (.slice (some ⟨g,off,none⟩) ns.length nc) ns) ac hT).to ac));rw[if_neg hk0]at HX;clear hT hnf hk;go_wp2_with fail;go_roundw
      case rel=>exact HX.out _
      case measure=>simp[intOf];omega
     ·obtain⟨k,hb,hk,hvk⟩:=me (gf hv).2.2;have hnf:mB vs' p n=some v:=(gf hv).2.2;have HX:=qqH (HGO.out w2 5 (vs',c) v' (by unfold gw;simp only[hnf];rw[if_neg (by omega)]) (by rw[if_neg (by omega)]) HS.b HS.c hle ((HS.d.step (F:=aI (iB R v' vs')) (R:=bi P++bZ (.slice (some ⟨g,off,none⟩) ns.length nc) ns) ac hT).to ac));rw[if_neg (by omega)]at HX;clear hT hnf hv hb hk hvk;go_wp2_with fail;go_roundw
      case rel=>exact HX.out _
      case measure=>simp[intOf];omega
     ·have hnf:mB vs' p n=some (iB R v' vs').vs[k]:=(gf hg2).2.2;have hb2:bQ vs' p n vs'.length=k:=hb;have HX:=qqH (HGO.out w2 0 (oZ vs' k,c+1) v2 (by unfold gw;simp only[hnf];rw[if_pos hh,hb2,Int.toNat_natCast]) (by rw[if_pos rfl];rfl) hv2 (fun v hv=>HS.c v (Ak v hv)) (Nat.le_trans Aj hle) ((HS.d.step (F:=aI (iB R v' vs')) (R:=bi P++bZ (.slice (some ⟨g,off,none⟩) ns.length nc) ns) ac hT).to (by unfold Gp iB;exact ac)));rw[if_pos rfl]at HX;clear hT hnf hb2 hb hg2 hh hv2;go_wp2_with fail;go_roundw
      case rel=>exact HX.out _
      case measure=>simp[intOf];omega
   ·obtain rfl:j=m:=by omega
    have hfin:sV R P p keep w (.returned (.tuple #[.int .i64 (c:Nat),.int .i64 0])) wr:=.inr ⟨v0,HR.a,vs',c,v',by rw[<- HR.b,<- HR.e];exact HS.a,rfl,HS.b,HS.d.left⟩;have HF:=qqH hfin;clear hfin;have hmv:j=l6 ns.length keep:=HR.e;unfold l6 at hmv;by_cases hc1:(j:Int)<(ns.length:Int)
    ·have hkn:¬keep<0:=fun h=>by rw[if_pos h]at hmv;omega
     have hc2:¬(j:Int)<(ns.length:Int)-keep:=by rw[if_neg hkn]at hmv;omega
     clear hmv;go_wp2_with fail;go_ret2;exact HF.out
    ·clear hmv;go_wp2_with fail;go_ret2;exact HF.out
def Cm(S:AS)(p:Bs)(n:Int)(w:World)(e:Ending)(w':World):Prop :=
 (∃k,jb S p n k/\e=.returned (ck k)/\Turns (arF S) (arF S) w w') \/
 (∃V,iP S p n V/\((0<V.held/\e=.returned (ck 5)/\Turns (arF S) (arF S) w w')\/(V.held<=0/\j5 S p [(V.num:Int)] [] w e w')))
theorem IJ(w:World)(x:Int):Turns [] (bZ (.slice (some ⟨w.heap.size,0,none⟩) 1 1) [x]) w (w.alloc (.cells #[.int .i64 x] 3))/\iOk (.slice (some ⟨w.heap.size,0,none⟩) 1 1) [x]:=by
 refine⟨?_,rfl,fun h=>by simp[Value.ownBlock]at h⟩;exact(Turns.refl (Sat.nil w)).Qe (φ:=fun o=>∃cap cur,(Value.slice (some ⟨w.heap.size,0,none⟩) 1 1)=.slice (some ⟨w.heap.size,0,none⟩) 1 cap/\o=.cells cur 3 (0,0)/\1<=cap/\cap<=maxLen/\cur.size=cap*1/\cur.toList.take (1*1)=[di x]) ⟨1,#[.int .i64 x],rfl,rfl,by omega,by unfold maxLen;omega,rfl,rfl⟩
theorem j5.less{S:AS}{p:Bs}{ns:List Int}{J F:HF}{a w:World}{e:Ending}{w':World}(h0:Turns F (arF S++J) a w)(h:j5 S p ns J w e w'):
  (128*S.A.count<S.data.length+(frame 3 (dA p ns)).length/\e=.returned (ck 8)/\Turns F (arF S++J) a w') \/
  (S.data.length+(frame 3 (dA p ns)).length<=128*S.A.count/\e=.returned .nilIface/\∃v' L',RecIs S L' (frame 3 (dA p ns))/\eT v' (dC ns (af S.ps p))/\Turns F (arF (iu S p ns v' L')++J) a w'):=by
 rcases h with⟨h1,h2,h3⟩|⟨h1,h2,v',L',h3,h4,h5⟩
 ·exact .inl ⟨h1,h2,h0.trans h3⟩
 ·exact .inr ⟨h1,h2,v',L',h3,h4,h0.trans h5⟩
theorem xR(S:AS)(l:Bs)(n:Int)(b:Nat)(w:World)(h:Sat w (arF S))(hok:ArOk S)(hB:ArB S b)(hb:b<=90000):
  Calls Tryz.prog 19 #[.pointer (some ⟨S.a,0,none⟩),str l,.int .i64 n] w (Cm S l n w):=by
 have HF:=qqH (iV S.a S.X S.ps S.pc l n w h.Q5 (h.tail.right.right.left) hok.paths);have HH:=Hq4 h hok hB hb;clear h hok hB hb;go_enter Tryz.func19,Tryz.ntmps19;go_wp2_with fail;refine HF.out.mono ?_;intro e w1 hp;obtain⟨hs,⟨k,hk,rfl⟩|⟨V,hV,rfl⟩⟩:=iW hp
 ·have HK:=Hq2 hk hs;clear hp hs hk;unfold ck;go_wp2_with fail;exact bodyPost_ret (results_tmp rfl _ _ _) rfl (.inl ⟨k,HK.a,rfl,(Turns.same HH.a HK.z)⟩)
 ·obtain⟨p,hpm,hpk,hVp⟩:=qy hV.2.2;have hT1:Turns (arF S) (arF S) w w1:=Turns.same HH.a hs;have hps:Sat w1 (d9 p.val p.g):=Sat.flat (f:=fun p:ba=>d9 p.val p.g) (hT1.sat.tail.right.right.left).tail hpm;have hvo:=(Sat.flat (f:=bL) hps.right hVp:Sat w1 (bL V)).Q5;have v0:w1.cell? ⟨V.blk,0,none⟩=some (.int .i64 V.num):=aa hvo 0 rfl;have v3:w1.cell? ⟨V.blk,3,none⟩=some (.int .i64 V.held):=aa hvo 3 rfl;have hvl:=ae hvo;have hnum:=(((HH.c.vers p hpm).2.2 V hVp).1);have hne:af S.ps l≠[]:=fun e=>by have:=hV.2.2;rw[e]at this;cases this
  have HV:=Hq3 hV hT1 hne;have HB:=qqH HH.x;clear hp hs hV hT1 hps hvo hpm hpk hVp hne;unfold dH;by_cases c1:0<V.held
  ·go_wp2_with fail;go_ret;refine (.inr ⟨V,HV.a,.inl ⟨c1,rfl,HV.b⟩⟩)
  ·have hrow:=IJ w1 V.num;have hT2:Turns (arF S) (arF S++bZ (.slice (some ⟨w1.heap.size,0,none⟩) 1 1) [(V.num:Int)]) w (w1.alloc (.cells #[.int .i64 V.num] 3)):=(HV.b.Qb hrow.1).to perm_append_comm;have HR:=qqH (qp S HH.b b HH.c HH.x l (.slice (some ⟨w1.heap.size,0,none⟩) 1 1) [(V.num:Int)] _ hT2.sat hrow.2 (by have:=bA HV.a.2.1;omega) (fun x hx=>by rw[mem_singleton.1 hx];unfold I64;have:=HB.out;omega) (by simp) HV.y);have H2:=qqH hT2;clear hrow hT2;go_wp2_with fail;refine HR.out.mono ?_;intro e w2 hp;rcases hp.less H2.out with⟨h1,rfl,h3⟩|⟨h1,rfl,v',L',h3,h4,h5⟩
   ·have H3:=Hq2 h1 h3;clear hp h1 h3;unfold ck;go_wp2_with fail;go_ret;refine (.inr ⟨V,HV.a,.inr ⟨by omega,.inl ⟨H3.a,rfl,?_⟩⟩⟩);rw[append_nil];exact H3.z.left
   ·have H3:=Hq4 h1 h3 h4 h5;clear hp h1 h3 h4 h5;go_wp2_with fail;go_ret;refine (.inr ⟨V,HV.a,.inr ⟨by omega,.inr ⟨H3.a,rfl,v',L',H3.b,H3.c,?_⟩⟩⟩);rw[append_nil,append_nil];exact H3.x.left
def kH(V:VerL):Bool:=decide (V.held=0)
def cS(vs:List VerL)(keep:Int):List Int:=eB ((vs.take (vs.length-(min (max keep 0) (vs.length:Int)).toNat)).filter kH)
def Fe(S:AS)(p:Bs)(keep:Int)(w:World)(e:Ending)(w':World):Prop :=
 (∃k,jb S p 0 k/\e=.returned (.tuple #[.int .i64 0,ck k])/\Turns (arF S) (arF S) w w') \/
 (∃V,iP S p 0 V/\((128*S.A.count<S.data.length+(frame 3 (dA p (cS (af S.ps p) keep))).length/\e=.returned (.tuple #[.int .i64 0,ck 8])/\Turns (arF S) (arF S) w w') \/
  (S.data.length+(frame 3 (dA p (cS (af S.ps p) keep))).length<=128*S.A.count/\e=.returned (.tuple #[.int .i64 (cS (af S.ps p) keep).length,.nilIface]) /\
   ∃v' L',RecIs S L' (frame 3 (dA p (cS (af S.ps p) keep)))/\eT v' (dC (cS (af S.ps p) keep) (af S.ps p))/\Turns (arF S) (arF (iu S p (cS (af S.ps p) keep) v' L')) w w')))
def Hg(S:AS)(vs:List VerL)(m:Nat)(w:World)(out i _v:Value)(W:World):Prop :=
 ∃(j:Nat) (J:HF),j<=m/\i=.int .i64 j/\iOk out (eB ((vs.take j).filter kH))/\Turns (arF S) (bZ out (eB ((vs.take j).filter kH))++(arF S++J)) w W
theorem zz(S:AS)(l:Bs)(keep:Int)(b:Nat)(w:World)(h:Sat w (arF S))(hok:ArOk S)(hB:ArB S b)(hb:b<=90000)(hvl5:(af S.ps l).length<=15000):
  Calls Tryz.prog 21 #[.pointer (some ⟨S.a,0,none⟩),str l,.int .i64 keep] w (Fe S l keep w):=by
 have HF:=qqH (iV S.a S.X S.ps S.pc l 0 w h.Q5 (h.tail.right.right.left) hok.paths);have HH:=Hq5 h hok hB hb hvl5;clear h hok hB hb hvl5;go_enter Tryz.func21,Tryz.ntmps21;go_wp2_with fail;refine HF.out.mono ?_;intro e w1 hp;obtain⟨hs,⟨k,hk,rfl⟩|⟨V,hV,rfl⟩⟩:=iW hp
 ·have HK:=Hq2 hk hs;clear hp hs hk;unfold ck;go_wp2_with fail;exact bodyPost_ret (results_tmp2 rfl _ _ _) rfl (.inl ⟨k,HK.a,rfl,(Turns.same HH.a HK.z)⟩)
 ·have hT1:Turns (arF S) (arF S) w w1:=Turns.same HH.a hs;have ha1:=hT1.sat.Q5;have c0:w1.cell? ⟨S.a,0,none⟩=some (.map (some S.X.pm)):=aa ha1 0 rfl;have hpm:=hT1.sat.Q7 (b:=S.X.pm) (o:=aO str (S.ps.map aN) S.pc) (by simp[arF,aF]);have hal:=ae ha1;obtain⟨sl,cap,e1,e2,e3,e4,-,-⟩:=fo (hT1.sat.tail.right.right.left) HH.b.paths l;obtain⟨vs,hvs⟩:∃vs,vs=af S.ps l:=⟨_,rfl⟩;rw[<- hvs]at e1 e2 e4;have hvl:vs.length<=15000:=by rw[hvs];exact HH.w
  have hOl:OkS l:=by have:=bA hV.2.1;unfold OkS;omega
  have hne:af S.ps l≠[]:=fun e=>by have:=hV.2.2;rw[e]at this;cases this
  obtain⟨k0,hk0⟩:∃k0:Nat,min (max keep 0) (vs.length:Int)=k0:=⟨(min (max keep 0) (vs.length:Int)).toNat,by omega⟩;have hk0l:k0<=vs.length:=by omega
  obtain⟨m,hm⟩:∃m:Nat,(vs.length:Int)-(k0:Int)=(m:Int):=⟨vs.length-k0,by omega⟩;have hmv:m=vs.length-(min (max keep 0) (vs.length:Int)).toNat:=by omega
  have hml:m<=vs.length:=by omega
  have hmc:m<=cap:=by omega
  have HV:=Hq9 hV hT1 hpm e1 e4 hvs hOl hne hmv;clear hp hs hV hT1 ha1 hpm e1 e4 hvs hOl hne hmv;unfold dH;go_wp2_with ((refine dQ dK rfl _ _ rfl Tryz.underlying51 HV.c HH.b.paths.map (fN _) l rfl rfl HV.g ?_;rw[cP,HV.d]));clear hk0 hm;go_loopw [11,42,13] (fun out i v wr=>Hg S vs m w out i v wr) (fun _ i _ _=>m-(intOf i).toNat)
  case atStart=>exact⟨0,[],Nat.zero_le _,rfl,lV,by rw[append_nil];exact HV.b⟩
  case round =>
   obtain⟨j,J,hj,rfl,hio,hT⟩:=hrel;obtain⟨ns,hns⟩:∃ns,ns=eB ((vs.take j).filter kH):=⟨_,rfl⟩;rw[<- hns]at hio hT;have HR:=Hq3 hio hT hns;clear hio hT hns;by_cases hlt:j<m
   ·have hltv:j<vs.length:=by omega
    obtain⟨sl2,cap2,e1',-,-,e4',e5',-⟩:=fo (w:=wr) (HR.b.sat.sub (G:=aF S.X.pm S.ps S.pc) (fun x=>by simp only[arF,ao,ai]<;>omega)) HH.b.paths l;rw[HV.d]at e1';simp only[Value.slice.injEq]at e1';obtain⟨rfl,-,rfl⟩:=e1';rw[<- HV.f]at e4' e5';obtain⟨g,off,hg,hcell⟩:=e4' (by rw[length_map];omega);subst hg;have hc1:=hcell j (by rw[length_map];exact hltv);rw[getElem_map]at hc1;obtain⟨U,hU⟩:∃U,U=vs[j]:=⟨_,rfl⟩;rw[<- hU]at hc1;unfold dH at hc1;have hub:=e5' U (by rw[hU];exact getElem_mem hltv);have hc2:wr.cell? ⟨U.blk,0,none⟩=some (.int .i64 U.num):=aa hub 0 rfl;have hc3:wr.cell? ⟨U.blk,3,none⟩=some (.int .i64 U.held):=aa hub 3 rfl
    have htk:eB ((vs.take (j+1)).filter kH)=ns++(if kH U then[(U.num:Int)]else[]):=by
     rw[QH hltv,<- hU,filter_append,HR.y];unfold eB
     cases h:kH U<;>simp[h]
    have hlen:ns.length<=90000:=by rw[HR.y];unfold eB;rw[length_map];have:=length_filter_le kH (vs.take j);rw[length_take]at this;omega
    have HU:=Hq2 htk hlen;clear e4' e5' hcell hU hub htk hlen;by_cases c1:U.held=0
    ·have hfb:kH U=true:=by unfold kH;exact decide_eq_true c1
     have HC:=qqH hfb;clear hfb;go_wp2_with ((at_builtin;refine ah rfl ?_;refine kq (.tmp 51) (.tmp 56) rfl _ ns rfl (HR.b.alloc _) HR.a _ 1 1 rfl [(U.num:Int)] rfl (fun _=>⟨_,rfl,fun j u hu=>ic _ _ _ j u hu⟩) (by have:=HU.z;simp;omega) ?_;intro av cv w5 hok5 hT5;have H5:=Hq2 hok5 hT5;clear hok5 hT5));go_roundw
     case rel =>
      refine⟨j+1,J,by omega,by go_num,?_,?_⟩
      ·rw[HU.a,if_pos HC.out];have:=H5.a;rw[length_append]at this;exact this
      ·rw[HU.a,if_pos HC.out];have:=H5.z;rw[length_append]at this;exact this
     case measure=>simp[intOf];omega
    ·have hfb:¬kH U=true:=by unfold kH;simp[c1]
     have HC:=qqH hfb;clear hfb;go_wp2_with fail;go_roundw
     case rel =>
      refine⟨j+1,J,by omega,by go_num,?_,?_⟩
      ·rw[HU.a,if_neg HC.out,append_nil];exact HR.a
      ·rw[HU.a,if_neg HC.out,append_nil];exact HR.b
     case measure=>simp[intOf];omega
   ·obtain rfl:j=m:=by omega
    obtain⟨oa,oc,ho,-⟩:=aL (aR HR.b.sat.left HR.a);have hpn:ns=cS vs keep:=by unfold cS;rw[HR.y,<- HV.out.2.2.2.2.2.2.2.2]
    have hT2:=HR.b.to (H:=(arF S++bZ (.slice oa ns.length oc) ns)++J) (by rw[ho];exact ac);have hnl:ns.length<=15000:=by rw[HR.y];unfold eB;rw[length_map];have:=length_filter_le kH (vs.take j);rw[length_take]at this;omega
    have hI:∀n∈ns,I64 n:=fun n hn=>by
     rw[HR.y]at hn;obtain⟨U,hU,rfl⟩:=mem_map.1 hn;have hU2:=mem_of_mem_take (mem_filter.1 hU).1;rw[HV.f]at hU2;obtain⟨q,hq,-,hqg⟩:=jM HV.h;have:=((HH.c.vers q hq).2.2 U (hqg ▸ hU2)).1;have:=HH.d;unfold I64;omega
    have HRm:=qqH (qp S HH.b b HH.c HH.d l (.slice oa ns.length oc) ns _ hT2.sat.left (ho ▸ HR.a) (by have:=bA HV.a.2.1;omega) hI hnl HV.h);have H2:=Hq2 hT2 hpn;subst ho;clear hT2 hpn hI;go_wp2_with fail;refine HRm.out.mono ?_;intro e w2 hp;have hvs:=HV.f;have hpn2:ns=cS (af S.ps l) keep:=by rw[<- hvs];exact H2.z
    rcases hp with⟨h1,rfl,h3⟩|⟨h1,rfl,v',L',h3,h4,h5⟩
    ·have H3:=Hq3 h1 (H2.a.step (Perm.refl _) h3) hpn2;clear h1 h3 hvs hpn2;unfold ck;go_wp2_with fail;go_ret2;refine (.inr ⟨V,HV.a,.inl ⟨by rw[<- H3.y];exact H3.a,rfl,H3.b.left.left⟩⟩)
    ·have H3:=Hq5 h1 (H2.a.step (Perm.refl _) h5) hpn2 h3 h4;clear h1 h3 h4 h5 hvs hpn2;go_wp2_with fail;go_ret2;refine (.inr ⟨V,HV.a,.inr ?_⟩);rw[<- H3.c];exact⟨H3.a,rfl,v',L',H3.d,H3.w,H3.b.left.left⟩
def inR(p:Bs)(ns:List Int)(v:RVer):Bool:=decide (v.path=p)&&ns.contains v.num
def fx(vs:List RVer)(p:Bs)(ns:List Int):List RVer:=vs.filter (fun v => !inR p ns v)
def pF(vs:List RVer):Prop:=vs.Pairwise (fun a b=>a.path=b.path->a.num<b.num)
theorem KP{vs:List RVer}(h:∀p,((aH vs p).map (·.num)).Pairwise (·<·)):pF vs:=by
 unfold pF;rw[pairwise_iff_getElem];intro i j hi hj hij e;have h1:=h vs[j].path;rw[pairwise_map,aH,pairwise_filter]at h1;exact(pairwise_iff_getElem.1 h1) i j hi hj hij (by simp[e]) (by simp)
theorem pF.one{vs:List RVer}(h:pF vs){i j:Nat}(hi:i<vs.length)(hj:j<vs.length)(hp:vs[i].path=vs[j].path)(hn:vs[i].num=vs[j].num):i=j:=by
 have h1:=pairwise_iff_getElem.1 h;rcases Nat.lt_trichotomy i j with hl|hl|hl
 ·have:=h1 i j hi hj hl hp;omega
 ·exact hl
 ·have:=h1 j i hj hi hl hp.symm;omega
theorem pF.gone{vs:List RVer}(h:pF vs)(p:Bs)(ns:List Int):pF (fx vs p ns):=Pairwise.filter _ h
theorem C9{vs:List RVer}{k:Nat}(hk:k<vs.length){f:RVer->Bool}(hf:f vs[k]=false)(ho:∀i (hi:i<vs.length),i≠k->f vs[i]=true):vs.filter f=oZ vs k:=by
 have e:vs=vs.take k++vs[k]::vs.drop (k+1):=by rw[<- drop_eq_getElem_cons hk,take_append_drop]
 have h1:(vs.take k).filter f=vs.take k:=filter_eq_self.2 fun v hv=>by
  obtain⟨i,hi,rfl⟩:=getElem_of_mem hv;rw[length_take]at hi;rw[getElem_take];exact ho i (by omega) (by omega)
 have h2:(vs.drop (k+1)).filter f=vs.drop (k+1):=filter_eq_self.2 fun v hv=>by
  obtain⟨i,hi,rfl⟩:=getElem_of_mem hv;rw[length_drop]at hi;rw[getElem_drop];exact ho _ (by omega) (by omega)
 calc vs.filter f=(vs.take k++vs[k]::vs.drop (k+1)).filter f:=by rw[<- e]
  _=oZ vs k:=by rw[filter_append,filter_cons_of_neg (by simp[hf]),h1,h2];rfl
theorem Al{vs:List RVer}(h:pF vs){k:Nat}(hk:k<vs.length){p:Bs}{n:Int}(hp:vs[k].path=p)(hn:vs[k].num=n):oZ vs k=fx vs p [n]:=by
 refine(C9 hk (by simp[inR,hp,hn]) (fun i hi hne=>?_)).symm
 cases hb:inR p [n] vs[i]with
 | false=>rfl
 | true =>
  unfold inR at hb;simp only[Bool.and_eq_true,decide_eq_true_eq,contains_iff_mem,mem_singleton]at hb;exact absurd (h.one hi hk (by rw[hb.1,hp]) (by rw[hb.2,hn])) hne
theorem FU(vs:List RVer)(p:Bs)(ns ms:List Int):fx (fx vs p ns) p ms=fx vs p (ns++ms):=by
 unfold fx inR;rw[filter_filter];refine filter_congr fun v _=>?_
 simp only[contains_eq_mem,mem_append];by_cases h1:v.path=p<;>by_cases h2:v.num∈ns<;>by_cases h3:v.num∈ms<;>simp[h1,h2,h3]
theorem wW(vs:List RVer)(p:Bs)(ns:List Int)(q:Bs):aH (fx vs p ns) q=if q=p then(aH vs p).filter (fun v => !ns.contains v.num)else aH vs q:=by
 unfold aH fx inR;rw[filter_filter];by_cases h:q=p
 ·subst h;rw[if_pos rfl,filter_filter];refine filter_congr fun v _=>?_
  by_cases h1:v.path=q<;>simp[h1]
 ·rw[if_neg h];refine filter_congr fun v _=>?_
  by_cases h1:v.path=q
  ·simp[h1,h]
  ·simp[h1]
theorem FX{ts:List RTag}{t:RTag}(h:t∈ts):1<=iQ ts t.path t.num:=by
 unfold iQ;have:0<ts.countP (fun x=>decide (x.path=t.path/\x.num=t.num)):=countP_pos_iff.2 ⟨t,h,by simp⟩;omega
def qw(ns:List Int)(l:List ku):Nat:=((l.filter (fun t=>ns.contains t.1)).map (·.2.1.length)).sum
theorem ve(vs:List RVer)(p:Bs)(ns:List Int):fS vs=fS (fx vs p ns)+qw ns ((aH vs p).map gn):=by
 have h1:(vs.map (·.cont.length)).sum=(((vs.filter (inR p ns))++(vs.filter (fun v => !inR p ns v))).map (·.cont.length)).sum:=((filter_append_perm (inR p ns) vs).symm.map _).sum_nat;rw[map_append,sum_append]at h1
 have h2:qw ns ((aH vs p).map gn)=((vs.filter (inR p ns)).map (·.cont.length)).sum:=by
  unfold qw aH;rw[filter_map,map_map,filter_filter];congr 2;refine filter_congr fun v _=>?_
  unfold inR;show(ns.contains v.num&&_)=_;rw[Bool.and_comm]
 unfold fS fx;omega
theorem yA{S:AS}(hok:ArOk S)(ns:List Int)(p:Bs):bO ns (af S.ps p)=qw ns ((af S.ps p).map (cX S)):=by
 unfold bO qw;rw[filter_map,map_map];congr 1;refine map_congr_left fun V hV=>?_
 have hV2:V∈af S.ps p:=(mem_filter.1 hV).1;obtain⟨q,hq,-,hg⟩:=bD (ne_nil_of_mem hV2);exact(jR hok hq (hg ▸ hV2)).symm
theorem Link.gone{S:AS}{R:RefL}(L:Link S R)(hok:ArOk S){p:Bs}{ns:List Int}{v' vv:Value}{L':DevL}(hg:∀v∈R.vs,v.path=p->v.num∈ns->v.held<=0):
  Link (iu S p ns v' L') { R with vv:=vv,vs:=fx R.vs p ns } where
 closed:=L.closed
 quota:=L.quota
 used:=by
  show S.X.used-(bO ns (af S.ps p):Nat)=_
  have h1:=ve R.vs p ns
  rw[L.used,yA hok,L.vers]
  simp only
  omega
 vers:=fun q=>by
  show(af (fZ S.ps S.pc p v' ns) q).map (cX S)=_
  simp only
  rw[lP,wW]
  by_cases h:q=p
  ·rw[if_pos h,if_pos h]
   have h1:=congrArg (filter (fun t:ku => !ns.contains t.1)) (L.vers p)
   rw[filter_map,filter_map]at h1
   exact h1
  ·rw[if_neg h,if_neg h];exact L.vers q
 sorted:=L.sorted.filter _
 asc:=fun q=>by
  have h1:=L.asc q
  simp only
  rw[wW]
  split
  ·rename_i h;subst h;exact h1.sublist (filter_sublist.map _)
  ·exact h1
 each:=fun v hv=>L.each v (mem_filter.1 hv).1
 tags:=L.tags
 tsort:=L.tsort
 teach:=fun t ht=>by
  obtain⟨h1,v,hv,h2,h3⟩:=L.teach t ht
  refine⟨h1,v,mem_filter.2 ⟨hv,?_⟩,h2,h3⟩
  cases hb:inR p ns v with
  | false=>rfl
  | true =>
   unfold inR at hb
   simp only[Bool.and_eq_true,decide_eq_true_eq,contains_iff_mem]at hb
   have h4:=hg v hv hb.1 hb.2
   have h5:1<=iQ R.ts t.path t.num:=FX ht
   rw[L.held v hv,h2,h3]at h4
   omega
 held:=fun v hv=>L.held v (mem_filter.1 hv).1
theorem Link.at{S:AS}{R:RefL}(L:Link S R){p:Bs}{n:Int}{V:VerL}(h:iP S p n V){k:Nat}(hk:k<R.vs.length)(hg:cL R p n=.ok R.vs[k]):R.vs[k].path=p/\R.vs[k].num=V.num/\R.vs[k].held=V.held:=by
 obtain⟨v,h1,h2,-,h3⟩:=L.found h;rw[hg]at h1;simp only[Except.ok.injEq]at h1;rw[h1];unfold gn cX at h2;simp only[Prod.mk.injEq]at h2;exact⟨h3,h2.1,h2.2.2⟩
theorem Link.uniq{S:AS}{R:RefL}(L:Link S R):pF R.vs:=KP L.asc
theorem Link.delete{S:AS}{R:RefL}(L:Link S R)(hok:ArOk S){p:Bs}{n:Int}{V:VerL}(h:iP S p n V)(hV:V.held<=0){k:Nat}(hk:k<R.vs.length)(hg:cL R p n=.ok R.vs[k]){v' vv:Value}{L':DevL}:
  oZ R.vs k=fx R.vs p [(V.num:Int)]/\Link (iu S p [(V.num:Int)] v' L') { R with vv:=vv,vs:=fx R.vs p [(V.num:Int)] }:=by
 obtain⟨h1,h2,h3⟩:=L.at h hk hg;refine⟨Al L.uniq hk h1 h2,L.gone hok (fun v hv hp hn=>?_)⟩;obtain⟨i,hi,rfl⟩:=getElem_of_mem hv;rw[mem_singleton]at hn;obtain rfl:=L.uniq.one hi hk (by rw[hp,h1]) (by rw[hn,h2]);rw[h3];exact hV
theorem wF{vs:List RVer}(h:pF vs)(h1:∀v∈vs,1<=v.num){k:Nat}(hk:k<vs.length):bQ vs vs[k].path vs[k].num vs.length=k/\mB vs vs[k].path vs[k].num=some vs[k]:=by
 have hf:vs.filter (kj vs[k].path vs[k].num)≠[]:=fun e=>by
  have:vs[k]∈vs.filter (kj vs[k].path vs[k].num):=mem_filter.2 ⟨getElem_mem hk,by simp[kj]⟩;rw[e]at this;cases this
 have h2:=mI vs vs[k].path vs[k].num _ (Nat.le_refl _);rw[take_length]at h2;have h3:mB vs vs[k].path vs[k].num=(vs.filter (kj vs[k].path vs[k].num)).getLast?:=h2
 cases hg:(vs.filter (kj vs[k].path vs[k].num)).getLast? with
 | none=>exact absurd (getLast?_eq_none_iff.1 hg) hf
 | some v =>
  have hm:=mem_filter.1 (mem_of_getLast? hg)
  have hv:v.path=vs[k].path/\v.num=vs[k].num:=by
   have h5:=hm.2;unfold kj at h5;have h6:=h1 vs[k] (getElem_mem hk);simp only[Bool.and_eq_true,decide_eq_true_eq,Bool.or_eq_true]at h5;exact⟨h5.1,h5.2.resolve_right (by omega)⟩
  rw[hg]at h2;by_cases hb:0<=bQ vs vs[k].path vs[k].num vs.length
  ·rw[if_pos hb]at h2;obtain⟨hj,e⟩:=List.getElem?_eq_some_iff.1 h2;have hjk:=h.one hj hk (by rw[e];exact hv.1) (by rw[e];exact hv.2);refine⟨by omega,?_⟩;rw[h3,hg,<- e];simp only[hjk]
  ·rw[if_neg hb]at h2;cases h2
theorem lM{vs:List RVer}(h:pF vs)(h1:∀v∈vs,1<=v.num){v:RVer}(hv:v∈vs):∃k:Nat,∃hk:k<vs.length,vs[k]=v/\bQ vs v.path v.num vs.length=k/\mB vs v.path v.num=some v:=by
 obtain⟨k,hk,rfl⟩:=getElem_of_mem hv;exact⟨k,hk,rfl,wF h h1 hk⟩
def mT(v:RVer):Bool:=decide (v.held<=0)
theorem ur{vs:List RVer}(h:pF vs)(h1:∀v∈vs,1<=v.num)(p:Bs):∀j,j<=(aH vs p).length ->
  (((aH vs p).take j).map (·.num)).foldl (gw p) (vs,0)=(fx vs p ((((aH vs p).take j).filter mT).map (·.num)),(((aH vs p).take j).filter mT).length)
 | 0,_=>by
  simp only[take_zero,map_nil,foldl_nil,filter_nil,length_nil,Prod.mk.injEq,and_true]
  unfold fx inR
  exact(filter_eq_self.2 (fun v _=>by simp)).symm
 | j+1,hj=>by
  obtain⟨v,hv⟩:∃v,v=(aH vs p)[j]:=⟨_,rfl⟩
  have hvm:v∈vs/\v.path=p:=by
   have:=mem_filter.1 (hv ▸ getElem_mem hj:v∈aH vs p);exact⟨this.1,by simpa using this.2⟩
  rw[QH (by omega),<- hv,map_append,foldl_append,ur h h1 p j (by omega),filter_append];simp only[map_cons,map_nil,foldl_cons,foldl_nil];obtain⟨ns,hns⟩:∃ns,ns=(((aH vs p).take j).filter mT).map (·.num):=⟨_,rfl⟩;rw[<- hns]
  have hnot:v.num∉ns:=fun hm=>by
   rw[hns]at hm;obtain⟨u,hu,e⟩:=mem_map.1 hm;have hu2:=(mem_filter.1 hu).1;obtain⟨i,hi,rfl⟩:=getElem_of_mem hu2;rw[length_take]at hi
   have hp2:(aH vs p).Pairwise (fun a b=>a.num<b.num):=by
    have:=Pairwise.filter (fun v=>decide (v.path=p)) h;refine this.imp_of_mem (fun {a b} ha hb hab=>hab ?_);have h3:=(mem_filter.1 ha).2;have h4:=(mem_filter.1 hb).2;simp only[decide_eq_true_eq]at h3 h4;rw[h3,h4]
   have:=pairwise_iff_getElem.1 hp2 i j (by omega) hj (by omega);rw[getElem_take]at e;rw[<- hv]at this;omega
  have hm:v∈fx vs p ns:=mem_filter.2 ⟨hvm.1,by simp[inR,hvm.2,hnot]⟩;obtain⟨k,hk,hk2,hb,hf⟩:=lM (h.gone p ns) (fun x hx=>h1 x (mem_filter.1 hx).1) hm;rw[hvm.2]at hb hf;have hc:=Al (p:=p) (n:=v.num) (h.gone p ns) hk (by rw[hk2];exact hvm.2) (by rw[hk2]);unfold gw;simp only[hf,hb,Int.toNat_natCast];by_cases hh:v.held<=0
  ·rw[if_pos hh,hc,FU,filter_cons_of_pos (by simp[mT,hh])];simp[hns]
  ·rw[if_neg hh,filter_cons_of_neg (by simp[mT,hh])];simp[hns]
theorem Link.Qr{S:AS}{R:RefL}(L:Link S R)(p:Bs)(j:Nat):eB (((af S.ps p).take j).filter kH)=(((aH R.vs p).take j).filter mT).map (·.num):=by
 have h0:∀v∈aH R.vs p,0<=v.held:=fun v hv=>by
  rw[L.held v (mem_filter.1 hv).1];unfold iQ;omega
 have h1:=congrArg (take j) (L.vers p);rw[<- map_take,<- map_take]at h1;have h2:=congrArg (fun l:List ku=>(l.filter (fun t=>decide (t.2.2=0))).map (·.1)) h1;simp only[filter_map,map_map]at h2;unfold eB;refine h2.trans ?_;congr 1;refine filter_congr fun v hv=>?_
 have:=h0 v (mem_of_mem_take hv);unfold mT;show decide (v.held=0)=_;by_cases hv:v.held=0
 ·simp[hv]
 ·rw[decide_eq_false hv,decide_eq_false (by omega)]
theorem Link.prune{S:AS}{R:RefL}(L:Link S R)(_:ArOk S)(p:Bs)(keep:Int){vs':List RVer}{c:Nat}(hf:((gd R.vs p).take (l6 (gd R.vs p).length keep)).foldl (gw p) (R.vs,0)=(vs',c)):
  vs'=fx R.vs p (cS (af S.ps p) keep)/\c=(cS (af S.ps p) keep).length/\∀v∈R.vs,v.path=p->v.num∈cS (af S.ps p) keep->v.held<=0:=by
 have hlen:(af S.ps p).length=(aH R.vs p).length:=by have:=congrArg length (L.vers p);simpa using this
 have hnl:(gd R.vs p).length=(aH R.vs p).length:=by unfold gd;rw[length_map];rfl
 obtain⟨j,hj⟩:∃j,j=(af S.ps p).length-(min (max keep 0) ((af S.ps p).length:Int)).toNat:=⟨_,rfl⟩;have hjj:l6 (gd R.vs p).length keep=j:=by unfold l6;rw[hnl,hj,hlen];split<;>omega
 have hjl:j<=(aH R.vs p).length:=by omega
 have hns:cS (af S.ps p) keep=(((aH R.vs p).take j).filter mT).map (·.num):=by unfold cS;rw[<- hj];exact L.Qr p j
 have h3:=ur L.uniq (fun v hv=>(L.each v hv).1) p j hjl;rw[hjj]at hf;have h4:(gd R.vs p).take j=((aH R.vs p).take j).map (·.num):=by unfold gd;rw[map_take];rfl
 rw[h4,h3]at hf;simp only[Prod.mk.injEq]at hf;rw[hns];refine⟨hf.1.symm,by rw[<- hf.2,length_map],fun v hv hp hn=>?_⟩;obtain⟨u,hu,e⟩:=mem_map.1 hn;obtain⟨hu1,hu2⟩:=mem_filter.1 hu;have hu3:=mem_filter.1 (mem_of_mem_take hu1);obtain⟨i,hi,rfl⟩:=getElem_of_mem hv;obtain⟨i',hi',rfl⟩:=getElem_of_mem hu3.1;obtain rfl:=L.uniq.one hi' hi (by rw[hp];simpa using hu3.2) e;simpa[mT]using hu2
theorem xy:∀(l:List RTag) (i:Nat) (h:i<l.length) (j:Nat) (_:j<3),(cG l)[i*3+j]?=(oG l[i])[j]?
 | [],i,h,_,_=>by simp at h
 | a::r,0,_,j,hj=>by
  simp only[cG,flatMap_cons,Nat.zero_mul,Nat.zero_add,getElem_cons_zero]
  rw[getElem?_append_left (by simpa[oG]using hj)]
 | a::r,i+1,h,j,hj=>by
  simp only[cG,flatMap_cons,getElem_cons_succ]
  rw[getElem?_append_right (by simp[oG];omega),show(i+1)*3+j-(oG a).length=i*3+j by simp[oG];omega]
  exact xy r i (by simpa using h) j hj
theorem KF{w:World}{g off:Nat}{l:List RTag}(h:∀j (h:j<(cG l).length),w.cell? ⟨g,off+j,none⟩=some ((cG l)[j]'h)){i:Nat}(hi:i<l.length):
  w.cell? ⟨g,off+i*3,none⟩=some (str l[i].name)/\w.cell? ⟨g,off+i*3+1,none⟩=some (str l[i].path)/\w.cell? ⟨g,off+i*3+2,none⟩=some (.int .i64 l[i].num):=by
 have key:∀j (hj:j<3) (v:Value),(oG l[i])[j]?=some v->w.cell? ⟨g,off+i*3+j,none⟩=some v:=fun j hj v hv=>by
  have h1:=xy l i hi j hj;rw[hv]at h1;obtain⟨p,e⟩:=List.getElem?_eq_some_iff.1 h1;have h2:=h (i*3+j) p;rw[<- Nat.add_assoc]at h2;rw[h2,e]
 exact⟨key 0 (by omega) _ rfl,key 1 (by omega) _ rfl,key 2 (by omega) _ rfl⟩
theorem xH{w:World}{v:Value}{l:List RTag}(hs:Sat w (dP v l))(h:DV v l):∃sl cap,v=.slice sl l.length cap/\l.length<=cap/\cap<=9223372036854775807/\(∀k,ak w sl (cG (l.take k)))/\(∀k,k<=l.length->ak w (if cap=k then sl else sl.map (·.add (k*3))) (cG (l.drop k))):=by
 obtain⟨sl,cap,e,h1,h2,h3,-⟩:=bv hs h (by decide);refine⟨sl,cap,e,h1,h2,fun k hp=>?_,fun k hk hp=>?_⟩
 ·rw[b5,length_take]at hp;obtain⟨g,off,he,hc⟩:=h3 (by rw[b5];omega);refine⟨g,off,he,fun j hj=>?_⟩;rw[b5,length_take]at hj;rw[hc j (by rw[b5];omega)];have:cG l=cG (l.take k)++cG (l.drop k):=by rw[<- jj,take_append_drop]
  congr 1;rw[getElem_of_eq this,getElem_append_left]
 ·rw[b5,length_drop]at hp;obtain⟨g,off,he,hc⟩:=h3 (by rw[b5];omega);rw[if_neg (by omega),he];refine⟨g,off+k*3,by simp[Addr.add],fun j hj=>?_⟩;rw[b5,length_drop]at hj;rw[Nat.add_assoc,hc (k*3+j) (by rw[b5];omega)];have:cG l=cG (l.take k)++cG (l.drop k):=by rw[<- jj,take_append_drop]
  congr 1;rw[getElem_of_eq this,getElem_append_right (by rw[b5,length_take];omega)];congr 1;rw[b5,length_take];omega
theorem RefAt.tags{R:RefL}{P:eO}{w:World}(h:RefAt R P w):∃sl cap,R.tv=.slice sl R.ts.length cap/\R.ts.length<=cap/\cap<=9223372036854775807/\w.heap[R.blk]?=some (fQ R)/\(0<R.ts.length->∃g off,sl=some ⟨g,off,none⟩/\∀i (hi:i<R.ts.length),w.cell? ⟨g,off+i*3,none⟩=some (str R.ts[i].name)/\w.cell? ⟨g,off+i*3+1,none⟩=some (str R.ts[i].path)/\w.cell? ⟨g,off+i*3+2,none⟩=some (.int .i64 R.ts[i].num)):=by
 obtain⟨sl,cap,e1,e2,e3,hc,-⟩:=bv h.ref.tail.right h.ok.ts (by decide);refine⟨sl,cap,e1,e2,e3,h.ref.Q5,fun hp=>?_⟩;obtain⟨g,off,hg,hcc⟩:=hc (by rw[b5];omega);exact⟨g,off,hg,fun i hi=>KF hcc hi⟩
def tAt(ts:List RTag)(m:Bs):Nat->Nat
 | 0=>0
 | k+1=>if(ts[k]?).elim false (fun t=>bH t.name m)then k+1 else tAt ts m k
theorem BX{ts:List RTag}{m:Bs}{k:Nat}(h:k<ts.length):tAt ts m (k+1)=if bH ts[k].name m then k+1 else tAt ts m k:=by
 rw[tAt,getElem?_eq_getElem h];rfl
theorem Jo(ts:List RTag)(m:Bs):∀k,tAt ts m k<=k
 | 0=>Nat.le_refl _
 | k+1=>by
  have:=Jo ts m k
  unfold tAt
  split<;>omega
def sA(ts:List RTag)(m:Bs)(x:RTag):List RTag:=ts.take (tAt ts m ts.length)++[x]++ts.drop (tAt ts m ts.length)
def kg(vs:List RVer)(k:Nat)(d:Int):List RVer:=match vs[k]? with|some v=>vs.set k { v with held:=v.held+d }|none=>vs
def gT(R:RefL)(vs':List RVer)(tv':Value)(ts':List RTag):RefL:={ R with vs:=vs',tv:=tv',ts:=ts' }
theorem qg(vs:List RVer)(k:Nat)(d:Int):(kg vs k d).length=vs.length:=by
 unfold kg;split<;>simp
theorem wX{vs:List RVer}{k:Nat}(hk:k<vs.length)(d:Int):(bu vs).set (k*4+3) (.int .i64 (vs[k].held+d))=bu (kg vs k d):=by
 unfold kg;rw[getElem?_eq_getElem hk];dsimp only
 have key:∀(l:List RVer) (k:Nat) (hk:k<l.length),(bu l).set (k*4+3) (.int .i64 (l[k].held+d))=bu (l.set k { l[k]with held:=l[k].held+d }):=by
  intro l;induction l with
  | nil=>intro k hk;cases hk
  | cons a r ih =>
   intro k hk
   cases k with
   | zero=>simp[bu,lC]
   | succ k =>
    simp only[bu,flatMap_cons,getElem_cons_succ,QC];rw[set_append_right _ _ (by simp[lC];omega)];have:=ih k (by simpa using hk);unfold bu at this;rw[<- this];congr 2;simp[lC];omega
 exact key vs k hk
theorem Kg{vs:List RVer}{k:Nat}{d:Int}:∀v∈kg vs k d,∃v0∈vs,v.cv=v0.cv/\v.cont=v0.cont/\v.path=v0.path/\v.num=v0.num:=fun v hv=>by
 unfold kg at hv
 split at hv
 ·rename_i v0 h0
  rcases mem_or_eq_of_mem_set hv with h|rfl
  ·exact⟨v,h,rfl,rfl,rfl,rfl⟩
  ·exact⟨v0,mem_of_getElem? h0,rfl,rfl,rfl,rfl⟩
 ·exact⟨v,hv,rfl,rfl,rfl,rfl⟩
theorem BC{R:RefL}{P:eO}{w:World}(h:RefAt R P w){k:Nat}(hk:k<R.vs.length):∃g cap,R.vv=.slice (some ⟨g,0,none⟩) R.vs.length cap/\R.vs.length<=cap/\cap<=9223372036854775807/\w.cell? ⟨R.blk,0,none⟩=some (.slice (some ⟨g,0,none⟩) R.vs.length cap)/\R.blk<w.heap.size/\g<w.heap.size /\
  w.cell? ⟨g,k*4+3,none⟩=some (.int .i64 R.vs[k].held)/\w.cell? ⟨g,k*4+1,none⟩=some (.int .i64 R.vs[k].num):=by
 obtain⟨sl,cap,e1,e2,e3,hb,hc⟩:=h.row;rcases(aR h.ref.tail.left h.ok.vs).2 with⟨h0,h1⟩|⟨g,cap',cur,hv,-⟩
 ·omega
 ·rw[e1]at hv;simp only[Value.slice.injEq]at hv;obtain⟨rfl,-,rfl⟩:=hv;obtain⟨g',off,he,hcc⟩:=hc (by omega);simp only[Option.some.injEq,Addr.mk.injEq,and_true]at he;obtain⟨rfl,rfl⟩:=he;obtain⟨-,h1,-,h3⟩:=hcc k hk;rw[Nat.zero_add]at h1 h3;exact⟨g,cap,e1,e2,e3,by rw[<- e1];exact aa hb 0 rfl,ae hb,World.block_lt_of_cell? w _ h3,h3,h1⟩
def Hn(R:RefL)(P:eO)(m p:Bs)(n:Int)(w:World)(e:Ending)(w':World):Prop :=
 (∃k:Int,e=.returned (.int .i64 k)/\Turns (aI R) (aI R) w w'/\((R.closed=true/\k=9)\/(R.closed=false/\aq m=false/\k=1)\/(R.closed=false/\aq m=true/\cL R p n=.error k) \/
  (R.closed=false/\aq m=true/\(∃v,cL R p n=.ok v)/\(∃t∈R.ts,t.name=m)/\k=6))) \/
 (R.closed=false/\aq m=true/\(∀t∈R.ts,t.name≠m)/\∃k tv',∃hk:k<R.vs.length,cL R p n=.ok R.vs[k]/\bQ R.vs p n R.vs.length=k/\e=.returned (.int .i64 0)/\RefOk (gT R (kg R.vs k 1) tv' (sA R.ts m ⟨m,p,R.vs[k].num⟩)) /\
  Turns (aI R++bi P) (aI (gT R (kg R.vs k 1) tv' (sA R.ts m ⟨m,p,R.vs[k].num⟩))++bi P) w w')
theorem DP(R:RefL)(P:eO)(m p:Bs)(n:Int)(w:World)(h:RefAt R P w)(hJ:Sat w (aI R++bi P))(htl:R.ts.length<=100000)(hhl:∀v∈R.vs,v.held.natAbs<=1099511627776):
  Calls Tryz.prog 24 #[.pointer (some ⟨R.blk,0,none⟩),str m,str p,.int .i64 n] w (Hn R P m p n w):=by
 have HI:=qqH (jh m w);have hbl:=ae h.ref.Q5;have HH:=Hq3 h hJ hhl;clear h hJ hhl;go_enter Tryz.func24,Tryz.ntmps24;go_wp2_with fail;refine HI.out.mono ?_;rintro e w1 ⟨rfl,hs1⟩;have hA1:=HH.a.same hs1;have hb1:=hA1.ref.Q5;have c3:w1.cell? ⟨R.blk,3,none⟩=some (.bool R.closed):=aa hb1 3 rfl;have hbl1:=ae hb1;have HG:=qqH (ko R P p n w1 hA1);have H1:=Hq2 hs1 hA1;clear hs1 hA1 hb1
 cases hc:R.closed with
 | true =>
  rw[hc]at c3;have HC:=qqH hc;clear hc;go_wp2_with fail;go_ret;refine (.inl ⟨9,rfl,Turns.same HH.a.ref H1.a,.inl ⟨HC.out,rfl⟩⟩)
 | false =>
  rw[hc]at c3;have HC:=qqH hc;clear hc
  cases hp:aq m with
  | false =>
   have HP:=qqH hp;go_wp2_with fail;go_ret;refine (.inl ⟨1,rfl,Turns.same HH.a.ref H1.a,.inr (.inl ⟨HC.out,HP.out,rfl⟩)⟩)
  | true =>
   have HP:=qqH hp;clear hp;go_wp2_with fail;refine HG.out.mono ?_;rintro e w2 ⟨hs,hm⟩
   cases hr:cL R p n with
   | error k =>
    rw[hr]at hm;subst hm;have hk0:=jT hr;have HR:=Hq2 hr (H1.a.trans hs);clear hr hs;go_wp2_with fail;go_ret;refine (.inl ⟨k,rfl,Turns.same HH.a.ref HR.z,.inr (.inr (.inl ⟨HC.out,HP.out,HR.a⟩))⟩)
   | ok v =>
    rw[hr]at hm;obtain⟨rfl,-⟩:=hm;obtain⟨-,-,hf⟩:=gf hr;obtain⟨k,hb,hk,hv⟩:=me hf;have hs2:aQ w w2:=H1.a.trans hs;have hA2:=HH.a.same hs2;have hcv:=hA2.one v (hv ▸ getElem_mem hk);have HR:=Hq5 hr hs2 hb hv hA2;clear hr hs hf hb hA2 hcv hs2;go_wp2_with fail;go_loopw [12,13] (fun a i wr=>∃j:Nat,j<=R.ts.length/\i=.int .i64 j/\a=.int .i64 (tAt R.ts m j)/\aQ w wr/\∀t∈R.ts.take j,t.name≠m) (fun _ i _=>R.ts.length-(intOf i).toNat)
    case atStart=>exact⟨0,Nat.zero_le _,rfl,rfl,HR.b,by simp⟩
    case round =>
     obtain⟨j,hj,rfl,rfl,hs,hnn⟩:=hrel;have hA:=HH.a.same hs;obtain⟨sl,cap,e1,e2,e3,hbo,hcell⟩:=hA.tags;have c1:wr.cell? ⟨R.blk,1,none⟩=some (.slice sl R.ts.length cap):=by rw[<- e1];exact aa hbo 1 rfl
     have hbl':=ae hbo;have HS:=Hq4 hs hA hnn e1;clear hs hbo hnn e1;by_cases hlt:j<R.ts.length
     ·obtain⟨g,off,hg,hcc⟩:=hcell (by omega);subst hg;obtain⟨h0,-,-⟩:=hcc j hlt;have hnx:=BX (m:=m) hlt;obtain⟨tn,htn⟩:∃tn,tn=R.ts[j].name:=⟨_,rfl⟩;rw[<- htn]at h0 hnx;have hgl:=World.block_lt_of_cell? wr _ h0;have HX:=Hq2 hnx htn;clear hcc hcell hA hnx htn;by_cases hp:tn=m
      ·have hp':=hp.symm;clear hp;subst hp';go_wp2_with fail;go_ret;refine (.inl ⟨6,rfl,Turns.same HH.a.ref HS.a,.inr (.inr (.inr ⟨HC.out,HP.out,⟨v,HR.a⟩,⟨R.ts[j],getElem_mem hlt,HX.z.symm⟩,rfl⟩))⟩)
      ·have hpq:(tn==m)=false:=by simp[hp]
       have hstep:∀t∈R.ts.take (j+1),t.name≠m:=fun t ht=>by
        rw[QH hlt]at ht;rcases mem_append.1 ht with ht|ht
        ·exact HS.c t ht
        ·rw[mem_singleton.1 ht,<- HX.z];exact hp
       have HT:=qqH hstep;clear hstep
       cases hbl:bH tn m with
       | true =>
        have hbs:Op.bytesLess tn m=true:=by rw[iU,hbl]
        have hf1:tAt R.ts m (j+1)=j+1:=by rw[HX.a,if_pos hbl]
        have HF:=qqH hf1;clear hf1;go_wp2_with fail;go_roundw
        case rel=>exact⟨j+1,by omega,by go_num,by rw[HF.out];go_num,HS.a,HT.out⟩
        case measure=>simp[intOf];omega
       | false =>
        have hbs:Op.bytesLess tn m=false:=by rw[iU,hbl]
        have hf1:tAt R.ts m (j+1)=tAt R.ts m j:=by rw[HX.a,if_neg (by rw[hbl];simp)]
        have HF:=qqH hf1;clear hf1;go_wp2_with fail;go_roundw
        case rel=>exact⟨j+1,by omega,by go_num,by rw[HF.out],HS.a,HT.out⟩
        case measure=>simp[intOf];omega
     ·obtain rfl:j=R.ts.length:=by omega
      clear hcell hA;have HFi:=qqH (kN R P p n wr HS.b);obtain⟨at_,hat⟩:∃at_,at_=tAt R.ts m R.ts.length:=⟨_,rfl⟩;have hatl:at_<=R.ts.length:=by rw[hat];exact Jo _ _ _
      rw[<- hat];have HA:=qqH hat;clear hat;go_wp2_with fail;refine HFi.out.mono ?_;rintro e w3 ⟨rfl,hs3⟩;rw[HR.c];have hs4:aQ w w3:=HS.a.trans hs3;have hA4:=HH.a.same hs4;obtain⟨g,vcap,ev,ev2,ev3,c0,hblk3,hg3,hh3,hn3⟩:=BC hA4 hk;obtain⟨hd,hhd⟩:∃hd,hd=R.vs[k].held:=⟨_,rfl⟩;obtain⟨nk,hnk⟩:∃nk,nk=R.vs[k].num:=⟨_,rfl⟩;rw[<- hhd]at hh3;rw[<- hnk]at hn3;have hhb:=HH.y _ (getElem_mem hk);rw[<- hhd]at hhb;have hw:IntKind.i64.wrap (hd+1)=hd+1:=IntWalk.i64_in _ (by omega);have hT4:Turns (aI R++bi P) (dm (.slice (some ⟨g,0,none⟩) R.vs.length vcap) R.vs++((R.blk,Is (fQ R))::(dP R.tv R.ts++bi P))) w w3:=(Turns.same HH.b hs4).to (by unfold aI;rw[ev];exact ac);have hrvo:nh (.slice (some ⟨g,0,none⟩) R.vs.length vcap) R.vs:=by rw[<- ev];exact HH.a.ok.vs
      have HV:=Hq5 hT4 hrvo ev hhd hnk;have hkl:(k:Int)<(R.vs.length:Int):=by omega
      clear hs3 hs4 hA4 hT4 hrvo ev hhd hnk;obtain⟨F2,hF2⟩:∃F2,F2=aI R++bi P:=⟨_,rfl⟩;obtain⟨vs1,hvs1⟩:∃vs1,vs1=kg R.vs k 1:=⟨_,rfl⟩;have hv1l:vs1.length=R.vs.length:=by rw[hvs1,qg]
      have hrow1:(bu R.vs).set (k*4+3) (.int .i64 (hd+1))=bu vs1:=by rw[HV.d,hvs1];exact wX hk 1
      have hn1:∀(h:k<vs1.length),vs1[k].num=nk:=fun h=>by
       have:vs1[k]?=some { R.vs[k]with held:=R.vs[k].held+1 }:=by rw[hvs1];unfold kg;rw[getElem?_eq_getElem hk];simp[hk]
       rw[getElem?_eq_getElem h]at this;rw[Option.some.inj this,HV.w]
      obtain⟨BF,hBF⟩:∃BF,BF=bK 147 4 (.slice (some ⟨g,0,none⟩) R.vs.length vcap) R.vs.length (bu vs1)++((R.blk,Is (fQ R))::(dP R.tv R.ts++bi P)):=⟨_,rfl⟩
      have hRF:∀(W:World) (G:HF),Turns F2 (G++BF) w W->W.cell? ⟨R.blk,0,none⟩=some (.slice (some ⟨g,0,none⟩) R.vs.length vcap)/\W.cell? ⟨R.blk,1,none⟩=some (.slice sl R.ts.length cap)/\R.blk<W.heap.size/\W.cell? ⟨g,k*4+1,none⟩=some (.int .i64 nk)/\g<W.heap.size /\
        (∀k,ak W sl (cG (R.ts.take k)))/\(∀k,k<=R.ts.length->ak W (if cap=k then sl else sl.map (·.add (k*3))) (cG (R.ts.drop k))):=fun W G hT=>by
       have hs:=hT.sat.right;rw[hBF]at hs;obtain⟨sl',cap',e1',-,-,e4',e5'⟩:=xH (hs.right.tail.left) HH.a.ok.ts;rw[HS.x]at e1';simp only[Value.slice.injEq,true_and]at e1';obtain⟨rfl,rfl⟩:=e1';have hbo:=hs.right.Q5;have hrk:et 4 (.slice (some ⟨g,0,none⟩) R.vs.length vcap) R.vs.length (bu vs1):=⟨by rw[bp,hv1l],fun h=>by cases h⟩;obtain⟨a',c',ea,-,-,hcc,-⟩:=bv hs.left hrk (by decide);simp only[Value.slice.injEq,true_and]at ea;obtain⟨rfl,-⟩:=ea;obtain⟨g',off',eg,hcc⟩:=hcc (by rw[bp];omega);simp only[Option.some.injEq,Addr.mk.injEq,and_true]at eg;obtain⟨rfl,rfl⟩:=eg;obtain⟨-,h1,-,-⟩:=yY hcc (show k<vs1.length by omega);rw[hn1,Nat.zero_add]at h1;exact⟨by rw[<- HV.c];exact aa hbo 0 rfl,by rw[<- HS.x];exact aa hbo 1 rfl,ae hbo,h1,World.block_lt_of_cell? W _ h1,e4',e5'⟩
      have HRF:=qqH hRF;have HX:=Hq5 hrow1 hF2 hvs1 hv1l hBF;have HV1:=qqH (show Turns F2 _ w w3 by rw[hF2];exact HV.a);clear hRF hrow1 hn1 hF2 hvs1 hv1l hBF
      go_wp2_with (first
       | (refine ah rfl (pw 3 (.tmp 79) (.tmp 77) rfl 147 4 R.vs.length g vcap (bu R.vs) HV1.out HV.b (k*4+3) (by omega) (.int .i64 (hd+1)) rfl rfl (by kernel_rfl) (by simp[Value.oneCell']) rfl ?_);intro w5 hok5 hT5;rw[HX.a,<- HX.w]at hT5;obtain⟨d0,d1,d2,d3,d4,d5,d6⟩:=HRF.out _ [] hT5;have H5:=Hq3 hT5 d5 d6;clear hok5 hT5 d5 d6 c0 hh3 hn3;simp only[Act.put])
       | (at_builtin;refine ah rfl ?_;refine ie (.tmp 80) (.tmp 86) rfl (.slice none 0 0) [] rfl (G:=BF) (show Turns F2 (dP (.slice none 0 0) []++BF) w w5 from H5.a) ⟨rfl,fun _=>⟨rfl,rfl⟩⟩ _ _ _ rfl (R.ts.take at_) (by rw[length_take,Nat.min_eq_left hatl]) (H5.b at_) (by rw[length_take,Nat.min_eq_left hatl];simp;omega) ?_;intro v7 w7 hok7 hT7;simp only[nil_append]at hok7 hT7;obtain⟨d0,d1,d2,d3,d4,-,-⟩:=HRF.out _ _ hT7;have H7:=Hq2 hok7 hT7;clear hok7 hT7)
       | (at_builtin;refine ah rfl ?_;refine ie (.tmp 88) (.tmp 100) rfl v7 (R.ts.take at_) rfl (H7.z.alloc _) H7.a _ 1 1 rfl [⟨m,p,nk⟩] rfl (xd (xs:=oG ⟨m,p,nk⟩)) (by rw[length_take,Nat.min_eq_left hatl];simp;omega) ?_;intro v8 w8 hok8 hT8;obtain⟨d0,d1,d2,d3,d4,-,d6⟩:=HRF.out _ _ hT8;have H8:=Hq3 hok8 hT8 d6;clear hok8 hT8 d6)
       | (at_builtin;refine ah rfl ?_;refine ie (.tmp 102) (.tmp 108) rfl v8 (R.ts.take at_++[⟨m,p,nk⟩]) rfl H8.b H8.a _ _ _ rfl (R.ts.drop at_) (by rw[length_drop]) (H8.y at_ hatl) (by simp;omega) ?_;intro v9 w9 hok9 hT9;obtain⟨d0,d1,d2,d3,d4,-,-⟩:=HRF.out _ _ hT9;have hv9:=dl hT9.sat.left hok9;have H9:=Hq3 hok9 hT9 hv9;clear hok9 hT9 hv9)
       | (refine ah rfl (bb 44 (.tmp 113) (.tmp 111) rfl R.blk 1 (bJ R) 46 v9 (H9.b.to (H:=(R.blk,Is (fQ R))::(dP v9 (R.ts.take at_++[⟨m,p,nk⟩]++R.ts.drop at_)++(bK 147 4 (.slice (some ⟨g,0,none⟩) R.vs.length vcap) R.vs.length (bu vs1)++(dP R.tv R.ts++bi P)))) (by rw[HX.w];exact ac)) rfl rfl (by simp[bJ]) (by kernel_rfl) H9.c H9.d ?_);intro w10 hT10;have H10:=qqH hT10;clear hT10;simp only[Act.put]))
      all_goals
       go_ret;refine (.inr ⟨HC.out,HP.out,fun t ht=>HS.c t (by rw[take_length];exact ht),k,v9,hk,by rw[HR.d];exact HR.a,HR.c,rfl,⟨?_,?_⟩,?_⟩)
       ·show nh R.vv (kg R.vs k 1);rw[<- HX.c,HV.c];exact⟨by rw[bp],fun h=>by cases h⟩
       ·show DV v9 (sA R.ts m ⟨m,p,R.vs[k].num⟩);unfold sA;rw[<- HA.out,<- HV.w];exact H9.a
       ·rw[<- HX.b];refine H10.out.drop (fun x=>?_)
        have e1:aI (gT R (kg R.vs k 1) v9 (sA R.ts m ⟨m,p,R.vs[k].num⟩))=(R.blk,Is (.cells ((bJ R).setIfInBounds 1 v9) 46 (0,0)))::(bK 147 4 (.slice (some ⟨g,0,none⟩) R.vs.length vcap) R.vs.length (bu vs1)++dP v9 (R.ts.take at_++[⟨m,p,nk⟩]++R.ts.drop at_)):=by
         unfold aI gT dm sA;dsimp only;rw[qg,<- HA.out,<- HV.w,<- HX.c,<- HV.c];rfl
        rw[e1];simp only[ao,ai];omega
def tagT(t:RTag):Bs×Bs×Int:=(t.name,t.path,t.num)
theorem BI(rs:List RTag):cG rs=gQ (rs.map tagT):=by
 induction rs with
 | nil=>rfl
 | cons a r ih=>simp only[cG,gQ,map_cons,flatMap_cons]at ih ⊢;rw[ih];rfl
theorem Bf:∀(l:List (Bs×Bs×Int)) (i:Nat) (h:i<l.length) (j:Nat) (_:j<3),(gQ l)[i*3+j]?=(yN l[i])[j]?
 | [],i,h,_,_=>by simp at h
 | a::r,0,_,j,hj=>by
  simp only[gQ,flatMap_cons,Nat.zero_mul,Nat.zero_add,getElem_cons_zero]
  rw[getElem?_append_left (by simpa[yN]using hj)]
 | a::r,i+1,h,j,hj=>by
  simp only[gQ,flatMap_cons,getElem_cons_succ]
  rw[getElem?_append_right (by simp[yN];omega),show(i+1)*3+j-(yN a).length=i*3+j by simp[yN];omega]
  exact Bf r i (by simpa using h) j hj
theorem I3{w:World}{sl:Option Addr}{l:List (Bs×Bs×Int)}(h:ak w sl (gQ l)){i:Nat}(hi:i<l.length):∃g off,sl=some ⟨g,off,none⟩ /\
  w.cell? ⟨g,off+i*3,none⟩=some (str l[i].1)/\w.cell? ⟨g,off+i*3+1,none⟩=some (str l[i].2.1)/\w.cell? ⟨g,off+i*3+2,none⟩=some (.int .i64 l[i].2.2):=by
 obtain⟨g,off,e,hc⟩:=h (by rw[l5];omega)
 have key:∀j (hj:j<3) (v:Value),(yN l[i])[j]?=some v->w.cell? ⟨g,off+i*3+j,none⟩=some v:=fun j hj v hv=>by
  have h1:=Bf l i hi j hj;rw[hv]at h1;obtain⟨p,e⟩:=List.getElem?_eq_some_iff.1 h1;have h2:=hc (i*3+j) p;rw[<- Nat.add_assoc]at h2;rw[h2,e]
 exact⟨g,off,e,key 0 (by omega) _ rfl,key 1 (by omega) _ rfl,key 2 (by omega) _ rfl⟩
def rA(es rs:List (Bs×Bs×Int))(w:World)(e:Ending)(w':World):Prop:=∃b,e=.returned (.bool b)/\(es=rs->b=true)/\aQ w w'
theorem uL(es rs:List (Bs×Bs×Int))(a1 a2:Option Addr)(c1 c2:Nat)(w:World)(h1:ak w a1 (gQ es))(h2:ak w a2 (gQ rs))(hx:es.length<=1000000)(hy:rs.length<=1000000):
  Calls Tryz.prog 48 #[.slice a1 es.length c1,.slice a2 rs.length c2] w (rA es rs w):=by
 have HH:=Hq2 h1 h2;clear h1 h2;go_enter Tryz.func48,Tryz.ntmps48;by_cases hl:es.length=rs.length
 ·have hlI:((es.length:Int) != (rs.length:Int))=false:=by simp[hl]
  have HL:=qqH hl;clear hl;go_wp2_with fail;go_loopw [5] (fun i wr=>∃k:Nat,k<=es.length/\i=.int .i64 k/\aQ w wr) (fun i _=>es.length-(intOf i).toNat)
  case atStart=>exact⟨0,Nat.zero_le _,rfl,Mods.refl _ _⟩
  case round =>
   obtain⟨k,hk,rfl,hs⟩:=hrel;by_cases hlt:k<es.length
   ·obtain⟨g,off,hg,p0,p1,p2⟩:=I3 (HH.a.keep hs (fun _ _ _=>id)) hlt;obtain⟨g',off',hg',q0,q1,q2⟩:=I3 (HH.z.keep hs (fun _ _ _=>id)) (i:=k) (by rw[<- HL.out];exact hlt);have hkr:k<rs.length:=by rw[<- HL.out];exact hlt
    subst hg;subst hg';obtain⟨x,hxd⟩:∃x,x=es[k]:=⟨_,rfl⟩;obtain⟨y,hyd⟩:∃y,y=rs[k]:=⟨_,rfl⟩;rw[<- hxd]at p0 p1 p2;rw[<- hyd]at q0 q1 q2;obtain⟨xp,xl,xs⟩:=x;obtain⟨yp,yl,ys⟩:=y;simp only at p0 p1 p2 q0 q1 q2;have HX:=Hq3 hxd hyd hs;clear hxd hyd hs
    have hno:∀(h:¬(xp,xl,xs)=(yp,yl,ys)) (W:World),aQ w W->rA es rs w (.returned (.bool false)) W:=fun h W hW=>⟨false,rfl,fun he=>by
     exfalso;apply h;have e1:=HX.a;have e2:=HX.b;subst he;rw[e1,e2],hW⟩
    have HNO:=qqH hno;clear hno;by_cases c1:xp=yp
    ·have c1':=c1.symm;clear c1;subst c1';by_cases c2:xl=yl
     ·have c2':=c2.symm;clear c2;subst c2';by_cases c3:xs=ys
      ·subst c3;go_upto_region 6 with(fail);go_quiet (fail);go_wp2_with fail;go_roundw
       case rel=>exact⟨k+1,by omega,by go_num,HX.y.drewN _⟩
       case measure=>simp[intOf];omega
      ·have d3:(xs != ys)=true:=by simp[c3]
       go_upto_region 6 with(fail);go_quiet (fail);go_wp2_with fail;go_ret;exact HNO.out (by simp[c3]) _ (HX.y.drewN _)
     ·have d2:(xl==yl)=false:=by simp[c2]
      go_upto_region 6 with(fail);go_quiet (fail);go_wp2_with fail;go_ret;exact HNO.out (by simp[c2]) _ (HX.y.drewN _)
    ·have d1:(xp==yp)=false:=by simp[c1]
     go_upto_region 6 with(fail);go_quiet (fail);go_wp2_with fail;go_ret;exact HNO.out (by simp[c1]) _ (HX.y.drewN _)
   ·obtain rfl:k=es.length:=by omega
    go_wp2_with fail;go_ret;exact ⟨true,rfl,fun _=>rfl,hs⟩
 ·have hlI:((es.length:Int) != (rs.length:Int))=true:=by simp;omega
  go_wp2_with fail;go_ret;exact ⟨false,rfl,fun he=>by subst he;exact absurd rfl hl,Mods.refl _ _⟩
def qO(ts:List RTag)(i:Nat):List RTag:=ts.take i++ts.drop (i+1)
def Cu(R:RefL)(P:eO)(m:Bs)(w:World)(e:Ending)(w':World):Prop :=
 (∃k:Int,e=.returned (.int .i64 k)/\Turns (aI R) (aI R) w w'/\((R.closed=true/\k=9)\/(R.closed=false/\aq m=false/\k=1)\/(R.closed=false/\aq m=true/\(∀t∈R.ts,t.name≠m)/\k=3))) \/
 (R.closed=false/\aq m=true/\∃i k tv',∃hi:i<R.ts.length,R.ts[i].name=m/\k<R.vs.length/\bQ R.vs R.ts[i].path R.ts[i].num R.vs.length=k/\e=.returned (.int .i64 0)/\RefOk (gT R (kg R.vs k (-1)) tv' (qO R.ts i)) /\
  Turns (aI R++bi P) (aI (gT R (kg R.vs k (-1)) tv' (qO R.ts i))++bi P) w w')
theorem yQ(R:RefL)(P:eO)(m:Bs)(w:World)(h:RefAt R P w)(hJ:Sat w (aI R++bi P))(htl:R.ts.length<=100000)(hhl:∀v∈R.vs,v.held.natAbs<=1099511627776)(hte:∀t∈R.ts,∃k:Nat,k<R.vs.length/\bQ R.vs t.path t.num R.vs.length=k):
  Calls Tryz.prog 26 #[.pointer (some ⟨R.blk,0,none⟩),str m] w (Cu R P m w):=by
 have HI:=qqH (jh m w);have hbl:=ae h.ref.Q5;have HH:=Hq4 h hJ hhl hte;clear h hJ hhl hte;go_enter Tryz.func26,Tryz.ntmps26;go_wp2_with fail;refine HI.out.mono ?_;rintro e w1 ⟨rfl,hs1⟩;have hA1:=HH.a.same hs1;have hb1:=hA1.ref.Q5;have c3:w1.cell? ⟨R.blk,3,none⟩=some (.bool R.closed):=aa hb1 3 rfl;have hbl1:=ae hb1;have H1:=Hq2 hs1 hA1;clear hs1 hA1 hb1
 cases hc:R.closed with
 | true =>
  rw[hc]at c3;have HC:=qqH hc;clear hc;go_wp2_with fail;go_ret;refine (.inl ⟨9,rfl,Turns.same HH.a.ref H1.a,.inl ⟨HC.out,rfl⟩⟩)
 | false =>
  rw[hc]at c3;have HC:=qqH hc;clear hc
  cases hp:aq m with
  | false =>
   have HP:=qqH hp;go_wp2_with fail;go_ret;refine (.inl ⟨1,rfl,Turns.same HH.a.ref H1.a,.inr (.inl ⟨HC.out,HP.out,rfl⟩)⟩)
  | true =>
   have HP:=qqH hp;clear hp;go_wp2_with fail;go_loopw [6] (fun i wr=>∃j:Nat,j<=R.ts.length/\i=.int .i64 j/\aQ w wr/\∀t∈R.ts.take j,t.name≠m) (fun i _=>R.ts.length-(intOf i).toNat)
   case atStart=>exact⟨0,Nat.zero_le _,rfl,H1.a,by simp⟩
   case round =>
    obtain⟨j,hj,rfl,hs,hnn⟩:=hrel;have hA:=HH.a.same hs;obtain⟨sl,cap,e1,e2,e3,hbo,hcell⟩:=hA.tags;have c1:wr.cell? ⟨R.blk,1,none⟩=some (.slice sl R.ts.length cap):=by rw[<- e1];exact aa hbo 1 rfl
    have hbl':=ae hbo;have HS:=Hq4 hs hA hnn e1;clear hs hbo hnn e1;by_cases hlt:j<R.ts.length
    ·obtain⟨g0,off,hg,hcc⟩:=hcell (by omega);subst hg;obtain⟨h0,h1,h2⟩:=hcc j hlt;obtain⟨tn,htn⟩:∃tn,tn=R.ts[j].name:=⟨_,rfl⟩;obtain⟨tp,htp⟩:∃tp,tp=R.ts[j].path:=⟨_,rfl⟩;obtain⟨tk,htk⟩:∃tk,tk=R.ts[j].num:=⟨_,rfl⟩;rw[<- htn]at h0;rw[<- htp]at h1;rw[<- htk]at h2;have hgl:=World.block_lt_of_cell? wr _ h0;have HX0:=Hq3 htn htp htk;clear hcc hcell hA htn htp htk;by_cases hp:tn=m
     ·obtain⟨k,hk,hbt⟩:=HH.x _ (getElem_mem hlt);rw[<- HX0.b,<- HX0.y]at hbt;have HB:=Hq2 hbt hp;clear hbt;go_upto_region 10 with(fail);refine wp_region_still_tail 17 HM.out (by kernel_rfl) ?_;simp only[QE,take_zero,QD,drop_zero];repeat still_step
      refine wpStill_nil ?_;change wpList _ _ _ _ _ wr.drew;have HFi:=qqH (kN R P tp tk wr.drew (HH.a.same HS.a.drew));go_wp2_with fail;refine HFi.out.mono ?_;rintro e w3 ⟨rfl,hs3⟩;rw[HB.a];have hs4:aQ w w3:=HS.a.drew.trans hs3;have hA4:=HH.a.same hs4;obtain⟨g,vcap,ev,ev2,ev3,c0,hblk3,hg3,hh3,hn3⟩:=BC hA4 hk;obtain⟨hd,hhd⟩:∃hd,hd=R.vs[k].held:=⟨_,rfl⟩;obtain⟨nk,hnk⟩:∃nk,nk=R.vs[k].num:=⟨_,rfl⟩;rw[<- hhd]at hh3;rw[<- hnk]at hn3;have hhb:=HH.c _ (getElem_mem hk);rw[<- hhd]at hhb;have hw:IntKind.i64.wrap (hd-1)=hd-1:=IntWalk.i64_in _ (by omega);have hT4:Turns (aI R++bi P) (dm (.slice (some ⟨g,0,none⟩) R.vs.length vcap) R.vs++((R.blk,Is (fQ R))::(dP R.tv R.ts++bi P))) w w3:=(Turns.same HH.b hs4).to (by unfold aI;rw[ev];exact ac);have hrvo:nh (.slice (some ⟨g,0,none⟩) R.vs.length vcap) R.vs:=by rw[<- ev];exact HH.a.ok.vs
      have HV:=Hq5 hT4 hrvo ev hhd hnk;have hkl:(k:Int)<(R.vs.length:Int):=by omega
      clear hs3 hs4 hA4 hT4 hrvo ev hhd hnk;obtain⟨F2,hF2⟩:∃F2,F2=aI R++bi P:=⟨_,rfl⟩;obtain⟨vs1,hvs1⟩:∃vs1,vs1=kg R.vs k (-1):=⟨_,rfl⟩;have hv1l:vs1.length=R.vs.length:=by rw[hvs1,qg]
      have hrow1:(bu R.vs).set (k*4+3) (.int .i64 (hd-1))=bu vs1:=by rw[HV.d,hvs1,Int.sub_eq_add_neg];exact wX hk (-1)
      have hn1:∀(h:k<vs1.length),vs1[k].num=nk:=fun h=>by
       have:vs1[k]?=some { R.vs[k]with held:=R.vs[k].held+-1 }:=by rw[hvs1];unfold kg;rw[getElem?_eq_getElem hk];simp[hk]
       rw[getElem?_eq_getElem h]at this;rw[Option.some.inj this,HV.w]
      obtain⟨BF,hBF⟩:∃BF,BF=bK 147 4 (.slice (some ⟨g,0,none⟩) R.vs.length vcap) R.vs.length (bu vs1)++((R.blk,Is (fQ R))::(dP R.tv R.ts++bi P)):=⟨_,rfl⟩
      have hRF:∀(W:World) (G:HF),Turns F2 (G++BF) w W->W.cell? ⟨R.blk,0,none⟩=some (.slice (some ⟨g,0,none⟩) R.vs.length vcap)/\W.cell? ⟨R.blk,1,none⟩=some (.slice (some ⟨g0,off,none⟩) R.ts.length cap)/\R.blk<W.heap.size/\W.cell? ⟨g,k*4+1,none⟩=some (.int .i64 nk)/\g<W.heap.size /\
        (∀k,ak W (some ⟨g0,off,none⟩) (cG (R.ts.take k)))/\(∀k,k<=R.ts.length->ak W (if cap=k then some ⟨g0,off,none⟩else some ⟨g0,off+k*3,none⟩) (cG (R.ts.drop k))):=fun W G hT=>by
       have hs:=hT.sat.right;rw[hBF]at hs;obtain⟨sl',cap',e1',-,-,e4',e5'⟩:=xH (hs.right.tail.left) HH.a.ok.ts;rw[HS.x]at e1';simp only[Value.slice.injEq,true_and]at e1';obtain⟨rfl,rfl⟩:=e1';have hbo:=hs.right.Q5;have hrk:et 4 (.slice (some ⟨g,0,none⟩) R.vs.length vcap) R.vs.length (bu vs1):=⟨by rw[bp,hv1l],fun h=>by cases h⟩;obtain⟨a',c',ea,-,-,hcc,-⟩:=bv hs.left hrk (by decide);simp only[Value.slice.injEq,true_and]at ea;obtain⟨rfl,-⟩:=ea;obtain⟨g',off',eg,hcc⟩:=hcc (by rw[bp];omega);simp only[Option.some.injEq,Addr.mk.injEq,and_true]at eg;obtain⟨rfl,rfl⟩:=eg;obtain⟨-,h1,-,-⟩:=yY hcc (show k<vs1.length by omega);rw[hn1,Nat.zero_add]at h1
       exact⟨by rw[<- HV.c];exact aa hbo 0 rfl,by rw[<- HS.x];exact aa hbo 1 rfl,ae hbo,h1,World.block_lt_of_cell? W _ h1,e4',fun k hk=>by
        have h:=e5' k hk;have e:(some (⟨g0,off,none⟩:Addr)).map (·.add (k*3))=some ⟨g0,off+k*3,none⟩:=by by_cases h0:k=0<;>simp[Addr.add,h0];omega
        rwa [e]at h⟩
      have HRF:=qqH hRF;have HX:=Hq5 hrow1 hF2 hvs1 hv1l hBF;have HV1:=qqH (show Turns F2 _ w w3 by rw[hF2];exact HV.a);clear hRF hrow1 hn1 hF2 hvs1 hv1l hBF;obtain⟨j1,hj1⟩:∃j1,j1=j+1:=⟨_,rfl⟩;have hj1z:(j:Int)+1=(j1:Int):=by omega
      have hj1l:j1<=R.ts.length:=by omega
      have hj1c:j1<=cap:=by omega
      have hjl:j<=R.ts.length:=by omega
      have HJ:=qqH hj1;clear hj1
      go_wp2_with (first
       | (refine ah rfl (pw 3 (.tmp 64) (.tmp 62) rfl 147 4 R.vs.length g vcap (bu R.vs) HV1.out HV.b (k*4+3) (by omega) (.int .i64 (hd-1)) rfl rfl (by kernel_rfl) (by simp[Value.oneCell']) rfl ?_);intro w5 hok5 hT5;rw[HX.a,<- HX.w]at hT5;obtain⟨d0,d1,d2,d3,d4,d5,d6⟩:=HRF.out _ [] hT5;have H5:=Hq3 hT5 d5 d6;clear hok5 hT5 d5 d6 c0 hh3 hn3;simp only[Act.put])
       | (at_builtin;refine ah rfl ?_;refine ie (.tmp 65) (.tmp 71) rfl (.slice none 0 0) [] rfl (G:=BF) (show Turns F2 (dP (.slice none 0 0) []++BF) w w5 from H5.a) ⟨rfl,fun _=>⟨rfl,rfl⟩⟩ _ _ _ rfl (R.ts.take j) (by rw[length_take,Nat.min_eq_left hjl]) (H5.b j) (by rw[length_take,Nat.min_eq_left hjl];simp;omega) ?_;intro v7 w7 hok7 hT7;simp only[nil_append]at hok7 hT7;obtain⟨d0,d1,d2,d3,d4,-,d6⟩:=HRF.out _ _ hT7;have H7:=Hq3 hok7 hT7 d6;clear hok7 hT7 d6)
       | (at_builtin;refine ah rfl ?_;refine ie (.tmp 73) (.tmp 80) rfl v7 (R.ts.take j) rfl H7.b H7.a _ _ _ rfl (R.ts.drop j1) (by rw[length_drop]) (H7.y j1 hj1l) (by simp;omega) ?_;intro v9 w9 hok9 hT9;obtain⟨d0,d1,d2,d3,d4,-,-⟩:=HRF.out _ _ hT9;have hv9:=dl hT9.sat.left hok9;have H9:=Hq3 hok9 hT9 hv9;clear hok9 hT9 hv9)
       | (refine ah rfl (bb 44 (.tmp 85) (.tmp 83) rfl R.blk 1 (bJ R) 46 v9 (H9.b.to (H:=(R.blk,Is (fQ R))::(dP v9 (R.ts.take j++R.ts.drop j1)++(bK 147 4 (.slice (some ⟨g,0,none⟩) R.vs.length vcap) R.vs.length (bu vs1)++(dP R.tv R.ts++bi P)))) (by rw[HX.w];exact ac)) rfl rfl (by simp[bJ]) (by kernel_rfl) H9.c H9.d ?_);intro w10 hT10;have H10:=qqH hT10;clear hT10;simp only[Act.put]))
      all_goals
       go_ret;refine (.inr ⟨HC.out,HP.out,j,k,v9,hlt,by rw[<- HX0.a];exact HB.z,hk,by rw[<- HX0.b,<- HX0.y];exact HB.a,rfl,⟨?_,?_⟩,?_⟩)
       ·show nh R.vv (kg R.vs k (-1));rw[<- HX.c,HV.c];exact⟨by rw[bp],fun h=>by cases h⟩
       ·show DV v9 (qO R.ts j);unfold qO;rw[<- HJ.out];exact H9.a
       ·rw[<- HX.b];refine H10.out.drop (fun x=>?_)
        have e1:aI (gT R (kg R.vs k (-1)) v9 (qO R.ts j))=(R.blk,Is (.cells ((bJ R).setIfInBounds 1 v9) 46 (0,0)))::(bK 147 4 (.slice (some ⟨g,0,none⟩) R.vs.length vcap) R.vs.length (bu vs1)++dP v9 (R.ts.take j++R.ts.drop j1)):=by
         unfold aI gT dm qO;dsimp only;rw[qg,<- HJ.out,<- HX.c,<- HV.c];rfl
        rw[e1];simp only[ao,ai];omega
     ·have hpq:(tn==m)=false:=by simp[hp]
      have hstep:∀t∈R.ts.take (j+1),t.name≠m:=fun t ht=>by
       rw[QH hlt]at ht;rcases mem_append.1 ht with ht|ht
       ·exact HS.c t ht
       ·rw[mem_singleton.1 ht,<- HX0.a];exact hp
      have HT:=qqH hstep;clear hstep;go_wp2_with fail;go_roundw
      case rel=>exact⟨j+1,by omega,by go_num,HS.a,HT.out⟩
      case measure=>simp[intOf];omega
    ·obtain rfl:j=R.ts.length:=by omega
     clear hcell hA;go_wp2_with fail;go_ret;refine (.inl ⟨3,rfl,Turns.same HH.a.ref HS.a,.inr (.inr ⟨HC.out,HP.out,fun t ht=>HS.c t (by rw[take_length];exact ht),rfl⟩)⟩)
def Hw(S:AS)(m:Bs)(k:Int):Prop :=
 (S.X.closed=true/\k=9)\/(S.X.closed=false/\aq m=false/\k=1)\/(S.X.closed=false/\aq m=true/\gN S.ts m=false/\k=3) \/
 (∃q∈S.ts,q.key=m/\S.X.closed=false/\aq m=true/\128*S.A.count<S.data.length+(frame 5 (dG q.g.1 m q.g.2)).length/\k=8)
def Fo(S:AS)(m:Bs)(w:World)(e:Ending)(w':World):Prop :=
 (∃k,Hw S m k/\e=.returned (ck k)/\Turns (arF S) (arF S) w w') \/
 (∃q∈S.ts,∃L',q.key=m/\S.X.closed=false/\aq m=true/\S.data.length+(frame 5 (dG q.g.1 m q.g.2)).length<=128*S.A.count/\e=.returned .nilIface/\RecIs S L' (frame 5 (dG q.g.1 m q.g.2))/\Turns (arF S) (arF (nm S m q.g.1 q.g.2 L')) w w')
theorem Js{S:AS}{b:Nat}(hB:ArB S b)(hb:b<=90000)(l:Bs):(af S.ps l).length<=1099511627776:=by have:=zf hB l;omega
theorem zK(S:AS)(m:Bs)(b:Nat)(w:World)(h:Sat w (arF S))(hok:ArOk S)(hB:ArB S b)(hb:b<=90000):
  Calls Tryz.prog 25 #[.pointer (some ⟨S.a,0,none⟩),str m] w (Fo S m w):=by
 have HBg:=qqH (fun W (hW:aQ w W) (h0:W.cell? ⟨w.heap.size,0,none⟩=some (str m))=>kB S.a S.X (some ⟨w.heap.size,0,none⟩) 1 [m] W (hW.at h.Q5 id) (fun _=>⟨_,_,rfl,fun j hj=>by
  obtain rfl:j=0:=by simp at hj;omega
  exact h0⟩) (by simp))
 have hal:=ae h.Q5;have HH:=Hq4 h hok hB hb;clear h hok hB hb;go_enter Tryz.func25,Tryz.ntmps25;go_wp2_with fail;have hal0:=aK w (.cells #[str m] 9);refine(HBg.out _ ((Mods.refl _ w).alloc _) (aa hal0 0 rfl)).mono ?_;rintro e w2 ⟨rfl,hs1⟩;have hs2:aQ w w2:=((Mods.refl _ w).alloc _).trans hs1;obtain⟨cl,hcl⟩:∃cl,cl=S.X.closed:=⟨_,rfl⟩;obtain⟨pb,hpb⟩:∃pb,pb=aq m:=⟨_,rfl⟩;have e1:([m].all aq)=pb:=by simp[hpb]
 rw[e1,<- hcl];have hT1:Turns (arF S) (arF S) w w2:=Turns.same HH.a hs2;have HD:=Hq3 hcl.symm hpb.symm hT1;clear hcl hpb hs2 hs1 e1 hal0
 cases cl with
 | true =>
  simp only[if_true];unfold ck;go_wp2_with fail;go_ret;refine (.inl ⟨9,.inl ⟨HD.a,rfl⟩,rfl,HD.y⟩)
 | false =>
  cases pb with
  | false =>
   simp only[Bool.false_eq_true,if_false];unfold ck;go_wp2_with fail;go_ret;refine (.inl ⟨1,.inr (.inl ⟨HD.a,HD.b,rfl⟩),rfl,HD.y⟩)
  | true =>
   simp only[Bool.false_eq_true,if_false,if_true];have a1:w2.cell? ⟨S.a,1,none⟩=some (.map (some S.X.tm)):=aa hT1.sat.Q5 1 rfl;have hal2:=ae hT1.sat.Q5;have htm:=hT1.sat.Q7 (b:=S.X.tm) (o:=aO str (S.ts.map aN) S.tc) (by simp[arF,bU]);have hOm:OkS m:=by have:=bA HD.b;unfold OkS;omega
   have HV:=Hq2 htm hOm;clear htm hOm hT1
   cases hg:dz (S.ts.map aN) m with
   | none =>
    have hhb:iv (S.ts.map aN) m=false:=by rw[gM,hg];rfl
    have HG:=Hq2 hg hhb;clear hg hhb;go_wp2_with (at_lookup;refine ah rfl (iJ dK (.tmp 21) (.tmp 22) rfl Tryz.underlying52 HV.a HH.b.tags.map (kt _) m rfl rfl HV.z ?_);rw[HG.a,HG.z];simp only[Option.getD_none];unfold KT);go_ret;refine (.inl ⟨3,.inr (.inr (.inl ⟨HD.a,HD.b,by rw[<- qi];exact HG.z,rfl⟩)),rfl,HD.y.alloc _⟩)
   | some u =>
    obtain⟨e,he,hek,hev⟩:=lr hg;obtain⟨q,hq,rfl⟩:=mem_map.1 he;have hqk:q.key=m:=hek;have hqv:=HH.b.tags.val q hq;have hu:u=.agg #[str m,str q.g.1,.int .i64 q.g.2]:=by rw[<- hqk,<- hev];exact hqv
    have hhb:iv (S.ts.map aN) m=true:=by rw[gM,hg];rfl
    rw[hu]at hg;have hqb:=HH.c.tags q hq;have HG:=Hq5 hg hhb hq hqk hqb;clear hg hhb hu hqv hek hev he hq hqb;obtain⟨l,n,hgq⟩:∃l n,q.g=(l,n):=⟨_,_,rfl⟩;rw[hgq]at HG;dsimp only at HG;go_upto_region 7 with(at_lookup;refine ah rfl (iJ dK (.tmp 21) (.tmp 22) rfl Tryz.underlying52 HV.a HH.b.tags.map (kt _) m rfl rfl HV.z ?_);rw[HG.a,HG.b];simp only[Option.getD_some]);generalize hW:World.alloc w2 _=W
    have hT2:Turns (arF S) ((w2.heap.size,Is (.cells #[str m,str l,.int .i64 n] 156 (0,0)))::arF S) w W:=by
     rw[<- hW];exact HD.y.Q8 (.cells #[str m,str l,.int .i64 n] 156)
    have hbo:=hT2.sat.Q5;have d0:W.cell? ⟨w2.heap.size,0,none⟩=some (str m):=aa hbo 0 rfl;have d1:W.cell? ⟨w2.heap.size,1,none⟩=some (str l):=aa hbo 1 rfl;have d2:W.cell? ⟨w2.heap.size,2,none⟩=some (.int .i64 n):=aa hbo 2 rfl;obtain⟨pb,hpb⟩:∃pb,pb=w2.heap.size:=⟨_,rfl⟩;rw[<- hpb]at hT2 d0 d1 d2 ⊢;have H2:=qqH hT2;clear hW hT2 hbo hpb;go_wp2_with fail;refine(lZ 5 m l n _).mono ?_;rintro e w3 ⟨rfl,hs3⟩;obtain⟨rec,hrec⟩:∃rec,rec=frame 5 (dG l m n):=⟨_,rfl⟩
    have hrl:rec.length<=70000:=by
     have:=bA HD.b;have:=HG.f;rw[hrec];simp only[aX,dG,length_append,bw,bM];omega
    have hWr:=kr 5 l m n w3 HG.f (by have:=bA HD.b;omega) (by unfold I64;have:=HH.x;have:=HG.u;omega);rw[<- hrec]at hWr;have HW:=qqH hWr;have H3:=Hq3 (H2.out.Q9 hs3) hrec hrl;clear hs3 hrec hrl hWr d0 d1 d2;go_wp2_with fail;refine HW.out.mono ?_;rintro e w4 ⟨rv,rfl,hbo,hT4⟩;obtain⟨ra,rc,hrv,-⟩:=aL (cZ hT4.sat hbo);subst hrv;have hT5:=((H3.a.Qb hT4).Q8 (.cells #[.slice ra rec.length rc] 35)).to (H:=(arF S++mD w4.heap.size (.slice ra rec.length rc) rec)++[(pb,Is (.cells #[str m,str l,.int .i64 n] 156 (0,0)))]) (by unfold mD;exact ac);have HC:=qqH (kW S HH.b b HH.c HH.x (.slice ra rec.length rc) rec w4.heap.size _ hT5.sat.left hbo H3.y);have hal4:=ae (hT5.sat.Q7 (b:=S.a) (o:=aJ S.X) (by simp[arF]));have H5:=qqH hT5;clear hT4 hT5 hbo;go_wp2_with fail;refine HC.out.mono ?_;rintro e w5 (⟨hful,rfl,hs⟩|⟨hfit,rfl,L',hR,hT6⟩)
    ·have H6:=Hq2 hful (H5.out.Q9 hs);clear hful hs;unfold ck;go_wp2_with fail;go_ret;refine (.inl ⟨8,.inr (.inr (.inr ⟨q,HG.c,HG.d,HD.a,HD.b,by rw[hgq,<- H3.b];exact H6.a,rfl⟩)),rfl,?_⟩);exact H6.z.drop (fun x=>by simp only[ai];omega)
    ·have hT7:=H5.out.step (Perm.refl _) hT6;have hT8:=hT7.to (H:=jI S.a S.X S.ps S.pc S.ts S.tc++((ap S.X.ab S.X.d (m9 S L' rec).A++(aD S.X.d L'++aP S.X.cm S.cs S.cc))++(mD w4.heap.size (.slice ra rec.length rc) rec++[(pb,Is (.cells #[str m,str l,.int .i64 n] 156 (0,0)))]))) (by unfold arF m9 jI;exact ac);have hbo8:=hT8.sat.Q7 (b:=pb) (o:=.cells #[str m,str l,.int .i64 n] 156 (0,0)) (by simp);have d0:w5.cell? ⟨pb,0,none⟩=some (str m):=aa hbo8 0 rfl;have d1:w5.cell? ⟨pb,1,none⟩=some (str l):=aa hbo8 1 rfl;have d2:w5.cell? ⟨pb,2,none⟩=some (.int .i64 n):=aa hbo8 2 rfl;have hal5:S.a<w5.heap.size:=ae (hT8.sat.Q7 (b:=S.a) (o:=aJ S.X) (by simp[jI]));have H8:=Hq3 hT8 hfit hR;clear hT6 hT7 hT8 hbo8 hfit hR;go_wp2_with fail;refine wp_region_still_tail 4 HM.out (by kernel_rfl) ?_;simp only[QE,take_zero,QD,drop_zero];repeat still_step
     refine wpStill_nil ?_;change wpList _ _ _ _ _ w5.drew;have hT9:=H8.a.drew;have HPn:=qqH (sf S.a S.X S.ps S.pc S.ts S.tc m l n w5.drew ⟨hT9.sat.left,HH.b.paths,HH.b.tags,HV.z,by unfold OkS;have:=HG.f;omega,Js HH.c HH.x l,EC HH.c HH.x l⟩);have H9:=qqH hT9;clear hT9 d0 d1 d2;go_wp2_with fail;refine HPn.out.mono ?_;rintro e w6 ⟨rfl,hT10⟩;have H10:=qqH (H9.out.step (Perm.refl _) hT10);clear hT10;go_wp2_with fail;go_ret;refine (.inr ⟨q,HG.c,L',HG.d,HD.a,HD.b,by rw[hgq,<- H3.b];exact H8.b,rfl,by rw[hgq,<- H3.b];exact H8.y,?_⟩);rw[hgq];refine H10.out.drop (fun x=>?_);unfold nm arF m9 jI;rw[<- H3.b];simp only[ao,ai];omega
def ei(p:Bs)(n d:Int)(v:RVer):RVer:=if v.path=p/\v.num=n then { v with held:=v.held+d } else v
theorem gH(p:Bs)(n d:Int)(v:RVer):(ei p n d v).path=v.path/\(ei p n d v).num=v.num/\(ei p n d v).cont=v.cont/\(ei p n d v).cv=v.cv:=by
 unfold ei;split<;>exact⟨rfl,rfl,rfl,rfl⟩
theorem lT{vs:List RVer}(h:pF vs){k:Nat}(hk:k<vs.length)(d:Int):kg vs k d=vs.map (ei vs[k].path vs[k].num d):=by
 unfold kg;rw[getElem?_eq_getElem hk];dsimp only;refine ext_getElem (by simp) fun i h1 h2=>?_
 rw[getElem_set,getElem_map];rw[length_set]at h1;by_cases hi:k=i
 ·subst hi;rw[if_pos rfl];unfold ei;rw[if_pos ⟨rfl,rfl⟩]
 ·rw[if_neg hi];unfold ei;rw[if_neg (fun e=>hi (h.one hk h1 e.1.symm e.2.symm))]
theorem tA(vs:List RVer)(p:Bs)(n d:Int)(q:Bs):aH (vs.map (ei p n d)) q=(aH vs q).map (ei p n d):=by
 unfold aH;rw[filter_map];congr 1;refine filter_congr fun v _=>?_
 show decide ((ei p n d v).path=q)=_;rw[(gH p n d v).1]
def tb(n d:Int)(t:ku):ku:=if t.1=n then(t.1,t.2.1,t.2.2+d)else t
theorem Link.hold{S S':AS}{R:RefL}(L:Link S R){p:Bs}{n d:Int}(hps:S'.ps=cM S.ps p n d)(hK:S'.K=S.K)(q:Bs):(af S'.ps q).map (cX S')=(aH (R.vs.map (ei p n d)) q).map gn:=by
 rw[hps,gX,tA]
 have e1:∀V:VerL,cX S' (dj n d V)=tb n d (cX S V):=fun V=>by
  have hc:∀U:VerL,U.chs=V.chs->cE S' U=cE S V:=fun U hU=>by unfold cE;rw[hK,hU]
  unfold cX tb dj;by_cases h:(V.num:Int)=n
  ·rw[if_pos h,if_pos h];exact congrArg (fun c=>((V.num:Int),c,V.held+d)) (hc _ rfl)
  ·rw[if_neg h,if_neg h,hc _ rfl]
 have e2:∀V:VerL,cX S' V=cX S V:=fun V=>by unfold cX cE;rw[hK]
 by_cases h:q=p
 ·subst h;rw[if_pos rfl,map_map,map_map];have h1:=congrArg (List.map (tb n d)) (L.vers q);rw[map_map,map_map]at h1;have h2:(af S.ps q).map (cX S' ∘ dj n d)=(af S.ps q).map (tb n d ∘ cX S):=map_congr_left fun V _=>e1 V
  rw[h2,h1];refine map_congr_left fun v hv=>?_
  have hv2:v.path=q:=by simpa using(mem_filter.1 hv).2
  show tb n d (gn v)=gn (ei q n d v);unfold tb gn ei;by_cases h3:v.num=n
  ·rw[if_pos h3,if_pos ⟨hv2,h3⟩]
  ·rw[if_neg h3,if_neg (fun e=>h3 e.2)]
 ·rw[if_neg h,map_map];have h2:(af S.ps q).map (cX S')=(af S.ps q).map (cX S):=map_congr_left fun V _=>e2 V
  rw[h2,L.vers];refine map_congr_left fun v hv=>?_
  have hv2:v.path=q:=by simpa using(mem_filter.1 hv).2
  show gn v=gn (ei p n d v);unfold ei;rw[if_neg (fun e=>h (hv2.symm.trans e.1))]
theorem CU(vs:List RVer)(p:Bs)(n d:Int):fS (vs.map (ei p n d))=fS vs:=by
 unfold fS;rw[map_map];congr 1;exact map_congr_left fun v _=>by show(ei p n d v).cont.length=_;rw[(gH p n d v).2.2.1]
theorem Link.held'{S S':AS}{R:RefL}(L:Link S R){p:Bs}{n d:Int}{tv:Value}{ts':List RTag}(hX:S'.X=S.X)(hps:S'.ps=cM S.ps p n d)(hK:S'.K=S.K)(h1:(S'.ts.map jL).Perm (ts'.map rt))(h2:ts'.Pairwise (fun a b=>bH a.name b.name=true))(h3:∀t∈ts',aq t.name=true/\∃v∈R.vs,v.path=t.path/\v.num=t.num)(h4:∀v∈R.vs,(ei p n d v).held=iQ ts' v.path v.num):Link S' (gT R (R.vs.map (ei p n d)) tv ts') where
 closed:=by rw[hX];exact L.closed
 quota:=by rw[hX];exact L.quota
 used:=by rw[hX,L.used];show _=((fS (R.vs.map (ei p n d)):Nat):Int);rw[CU]
 vers:=fun q=>L.hold hps hK q
 sorted:=by
  show(R.vs.map (ei p n d)).Pairwise _
  rw[pairwise_map]
  exact L.sorted.imp fun h=>by rw[(gH p n d _).1,(gH p n d _).1];exact h
 asc:=fun q=>by
  show((aH (R.vs.map (ei p n d)) q).map (·.num)).Pairwise _
  rw[tA,map_map]
  have:(aH R.vs q).map ((·.num) ∘ ei p n d)=(aH R.vs q).map (·.num):=map_congr_left fun v _=>(gH p n d v).2.1
  rw[this];exact L.asc q
 each:=fun v hv=>by
  obtain⟨u,hu,rfl⟩:=mem_map.1 (show v∈R.vs.map (ei p n d)from hv)
  obtain⟨e1,e2,e3,-⟩:=gH p n d u
  rw[e1,e2,e3];exact L.each u hu
 tags:=h1
 tsort:=h2
 teach:=fun t ht=>by
  obtain⟨a,v,hv,b,c⟩:=h3 t ht
  refine⟨a,ei p n d v,mem_map.2 ⟨v,hv,rfl⟩,?_,?_⟩
  ·rw[(gH p n d v).1];exact b
  ·rw[(gH p n d v).2.1];exact c
 held:=fun v hv=>by
  obtain⟨u,hu,rfl⟩:=mem_map.1 (show v∈R.vs.map (ei p n d)from hv)
  obtain⟨e1,e2,-,-⟩:=gH p n d u
  rw[e1,e2];exact h4 u hu
theorem xF{ts:List RTag}(hs:ts.Pairwise (fun a b=>bH a.name b.name=true)){m:Bs}(hm:∀t∈ts,t.name≠m):∀k,k<=ts.length->(∀i (h:i<ts.length),i<tAt ts m k->bH ts[i].name m=true)/\(∀i (h:i<ts.length),tAt ts m k<=i->i<k->bH m ts[i].name=true)
 | 0,_=>⟨fun i _ h=>by simp[tAt]at h,fun i _ _ h=>by omega⟩
 | k+1,hk=>by
  obtain⟨h1,h2⟩:=xF hs hm k (by omega)
  have h5:=pairwise_iff_getElem.1 hs
  rw[BX (by omega)]
  cases hb:bH ts[k].name m with
  | true =>
   rw[if_pos rfl]
   refine⟨fun i hi h3=>?_,fun i hi h3 h4=>by omega⟩
   by_cases hik:i=k
   ·subst hik;exact hb
   ·exact gV (h5 i k hi (by omega) (by omega)) hb
  | false =>
   rw[if_neg (by simp)]
   refine⟨h1,fun i hi h3 h4=>?_⟩
   by_cases hik:i=k
   ·subst hik
    cases hc:bH m ts[i].name with
    | true=>rfl
    | false=>exact absurd (j8 _ _ hb hc) (hm _ (getElem_mem hi))
   ·exact h2 i hi h3 (by omega)
theorem xG(ts:List RTag)(m:Bs)(x:RTag):(sA ts m x).Perm (x::ts):=by
 unfold sA;refine(Perm.append_right _ perm_append_comm).trans ?_;rw[append_assoc,take_append_drop];exact Perm.refl _
theorem BZ{ts:List RTag}(hs:ts.Pairwise (fun a b=>bH a.name b.name=true)){m:Bs}(hm:∀t∈ts,t.name≠m){x:RTag}(hx:x.name=m):(sA ts m x).Pairwise (fun a b=>bH a.name b.name=true):=by
 obtain⟨h1,h2⟩:=xF hs hm ts.length (Nat.le_refl _);have h3:(ts.take (tAt ts m ts.length)++ts.drop (tAt ts m ts.length)).Pairwise (fun a b=>bH a.name b.name=true):=by rw[take_append_drop];exact hs
 rw[pairwise_append]at h3
 have ha:∀t∈ts.take (tAt ts m ts.length),bH t.name m=true:=fun t ht=>by
  obtain⟨i,hi,rfl⟩:=getElem_of_mem ht;rw[length_take]at hi;rw[getElem_take];exact h1 i (by omega) (by omega)
 have hb:∀t∈ts.drop (tAt ts m ts.length),bH m t.name=true:=fun t ht=>by
  obtain⟨i,hi,rfl⟩:=getElem_of_mem ht;rw[length_drop]at hi;rw[getElem_drop];exact h2 _ (by omega) (by omega) (by omega)
 unfold sA;rw[pairwise_append,pairwise_append];refine⟨⟨h3.1,pairwise_singleton _ _,fun a h b hb'=>?_⟩,h3.2.1,fun a h b h'=>?_⟩
 ·obtain rfl:=mem_singleton.1 hb';rw[hx];exact ha a h
 ·rcases mem_append.1 h with h|h
  ·exact gV (ha a h) (hb b h')
  ·obtain rfl:=mem_singleton.1 h;rw[hx];exact hb b h'
theorem t6{a b:List RTag}(h:a.Perm b)(p:Bs)(n:Int):iQ a p n=iQ b p n:=by unfold iQ;rw[h.countP_eq]
theorem tZ(t:RTag)(ts:List RTag)(p:Bs)(n:Int):iQ (t::ts) p n=iQ ts p n+(if t.path=p/\t.num=n then 1 else 0):=by
 unfold iQ;rw[countP_cons];by_cases h:t.path=p/\t.num=n<;>simp[h]
theorem Link.names{S:AS}{R:RefL}(L:Link S R)(m:Bs):gN S.ts m=true↔∃t∈R.ts,t.name=m:=by
 unfold gN;rw[any_eq_true];constructor
 ·rintro⟨q,hq,e⟩;have:jL q∈R.ts.map rt:=L.tags.mem_iff.1 (mem_map.2 ⟨q,hq,rfl⟩);obtain⟨t,ht,e2⟩:=mem_map.1 this;refine⟨t,ht,?_⟩;have:=congrArg (·.1) e2;simp only[decide_eq_true_eq]at e;exact(show t.name=q.key from this).trans e
 ·rintro⟨t,ht,e⟩;have:rt t∈S.ts.map jL:=L.tags.mem_iff.2 (mem_map.2 ⟨t,ht,rfl⟩);obtain⟨q,hq,e2⟩:=mem_map.1 this;refine⟨q,hq,?_⟩;have:=congrArg (·.1) e2;simp only[decide_eq_true_eq];exact(show q.key=t.name from this).trans e
theorem Link.tag{S:AS}{R:RefL}(L:Link S R){m p:Bs}{n:Int}{V:VerL}(hm:aq m=true)(h:iP S p n V)(hno:gN S.ts m=false){k:Nat}(hk:k<R.vs.length)(hg:cL R p n=.ok R.vs[k]){tv:Value}{L':DevL}:
  R.vs[k].num=V.num/\Link (zd S m p V.num L') (gT R (kg R.vs k 1) tv (sA R.ts m ⟨m,p,R.vs[k].num⟩)):=by
 obtain⟨h1,h2,-⟩:=L.at h hk hg
 have hnm:∀t∈R.ts,t.name≠m:=fun t ht e=>by
  have:=(L.names m).2 ⟨t,ht,e⟩;rw[hno]at this;cases this
 refine⟨h2,?_⟩;rw[lT L.uniq hk,h1,h2];have hpm:=xG R.ts m ⟨m,p,(V.num:Int)⟩;refine L.held' (S':=zd S m p V.num L') rfl rfl rfl ?_ (BZ L.tsort hnm rfl) (fun t ht=>?_) (fun v hv=>?_)
 ·have e:(zd S m p V.num L').ts=S.ts++[⟨m,S.tc,mE m (p,(V.num:Int)),(p,(V.num:Int))⟩]:=by
   show eh S.ts S.tc m _ _=_;unfold eh;rw[hno];rfl
  rw[e,map_append];refine(Perm.append_right _ L.tags).trans ?_;refine Perm.trans ?_ (hpm.map _).symm;rw[map_cons];exact perm_append_singleton _ _
 ·rcases mem_cons.1 (hpm.mem_iff.1 ht)with rfl|ht
  ·exact⟨hm,R.vs[k],getElem_mem hk,h1,h2⟩
  ·exact L.teach t ht
 ·rw[t6 hpm,tZ,<- L.held v hv];unfold ei;by_cases hb:v.path=p/\v.num=V.num
  ·rw[if_pos hb,if_pos ⟨hb.1.symm,hb.2.symm⟩]
  ·rw[if_neg hb,if_neg (fun e=>hb ⟨e.1.symm,e.2.symm⟩),Int.add_zero]
theorem KN{ts:List RTag}(hs:ts.Pairwise (fun a b=>bH a.name b.name=true)){i:Nat}(hi:i<ts.length):qO ts i=ts.filter (fun t => !decide (t.name=ts[i].name)):=by
 have h5:=pairwise_iff_getElem.1 hs
 have hne:∀j (hj:j<ts.length),j≠i->ts[j].name≠ts[i].name:=fun j hj h e=>by
  rcases Nat.lt_or_gt_of_ne h with hl|hl
  ·have:=h5 j i hj hi hl;rw[e,bR]at this;cases this
  ·have:=h5 i j hi hj hl;rw[e,bR]at this;cases this
 have e:ts=ts.take i++ts[i]::ts.drop (i+1):=by rw[<- drop_eq_getElem_cons hi,take_append_drop]
 have h1:(ts.take i).filter (fun t => !decide (t.name=ts[i].name))=ts.take i:=filter_eq_self.2 fun v hv=>by
  obtain⟨j,hj,rfl⟩:=getElem_of_mem hv;rw[length_take]at hj;rw[getElem_take];have:=hne j (by omega) (by omega);simp[this]
 have h2:(ts.drop (i+1)).filter (fun t => !decide (t.name=ts[i].name))=ts.drop (i+1):=filter_eq_self.2 fun v hv=>by
  obtain⟨j,hj,rfl⟩:=getElem_of_mem hv;rw[length_drop]at hj;rw[getElem_drop];have:=hne (i+1+j) (by omega) (by omega);simp[this]
 calc qO ts i=ts.take i++ts.drop (i+1):=rfl
  _=(ts.take i++ts[i]::ts.drop (i+1)).filter (fun t => !decide (t.name=ts[i].name)):=by rw[filter_append,filter_cons_of_neg (by simp),h1,h2]
  _=_:=by rw[<- e]
theorem Link.Qu{S:AS}{R:RefL}(L:Link S R){m:Bs}{q:fO}(hq:q∈S.ts)(hqk:q.key=m){i:Nat}(hi:i<R.ts.length)(him:R.ts[i].name=m){k:Nat}(hb:bQ R.vs R.ts[i].path R.ts[i].num R.vs.length=k){tv:Value}{L':DevL}:
  Link (nm S m q.g.1 q.g.2 L') (gT R (kg R.vs k (-1)) tv (qO R.ts i)):=by
 have h5:=pairwise_iff_getElem.1 L.tsort
 have hqt:rt R.ts[i]=jL q:=by
  have:jL q∈R.ts.map rt:=L.tags.mem_iff.1 (mem_map.2 ⟨q,hq,rfl⟩);obtain⟨t,ht,e⟩:=mem_map.1 this;obtain⟨j,hj,rfl⟩:=getElem_of_mem ht;have hn:R.ts[j].name=R.ts[i].name:=by rw[him,<- hqk];exact congrArg (·.1) e
  have:j=i:=by
   rcases Nat.lt_trichotomy j i with hl|hl|hl
   ·have:=h5 j i hj hi hl;rw[hn,bR]at this;cases this
   ·exact hl
   ·have:=h5 i j hi hj hl;rw[hn,bR]at this;cases this
  subst this;exact e
 have hpn:R.ts[i].path=q.g.1/\R.ts[i].num=q.g.2:=⟨congrArg (·.2.1) hqt,congrArg (·.2.2) hqt⟩;obtain⟨-,v,hv,hv1,hv2⟩:=L.teach R.ts[i] (getElem_mem hi);obtain⟨k',hk',hk2,hb',-⟩:=lM L.uniq (fun v hv=>(L.each v hv).1) hv;have hkk:k'=k:=by rw[hv1,hv2,hb]at hb';omega
 subst hkk;have hcut:=KN L.tsort hi
 have hperm:R.ts.Perm (R.ts[i]::qO R.ts i):=by
  have e:R.ts=R.ts.take i++R.ts[i]::R.ts.drop (i+1):=by rw[<- drop_eq_getElem_cons hi,take_append_drop]
  unfold qO
  calc R.ts.Perm (R.ts.take i++R.ts[i]::R.ts.drop (i+1)):=by rw[<- e]
   _ |>.Perm (R.ts[i]::(R.ts.take i++R.ts.drop (i+1))):=perm_middle
 rw[lT L.uniq hk',hk2,hv1,hv2,hpn.1,hpn.2];refine L.held' (S':=nm S m q.g.1 q.g.2 L') rfl rfl rfl ?_ (by rw[hcut];exact L.tsort.filter _) (fun t ht=>L.teach t (by rw[hcut]at ht;exact(mem_filter.1 ht).1)) (fun v hv=>?_)
 ·show((bE S.ts m).map jL).Perm _;rw[hcut];have h6:=L.tags.filter (fun t => !decide (t.1=m));rw[filter_map,filter_map]at h6;rw[him];exact h6
 ·have h7:=L.held v hv;rw[t6 hperm,tZ,hpn.1,hpn.2]at h7;unfold ei;by_cases hb2:v.path=q.g.1/\v.num=q.g.2
  ·rw[if_pos hb2];rw[if_pos ⟨hb2.1.symm,hb2.2.symm⟩]at h7;show v.held+-1=_;omega
  ·rw[if_neg hb2];rw[if_neg (fun e=>hb2 ⟨e.1.symm,e.2.symm⟩)]at h7;omega
theorem yf:∀{a b:Bs},bH a b=true↔a<b
 | [],[]=>by simp[bH]
 | [],_::_=>by simp[bH]
 | _::_,[]=>by simp[bH]
 | a::ax,b::bs=>by
  rw[cons_lt_cons_iff,<- yf (a:=ax)]
  by_cases h1:a<b
  ·simp[bH,h1]
  ·by_cases h2:b<a
   ·have:¬a=b:=fun h=>by subst h;exact h1 h2
    simp[bH,h1,h2,this]
   ·have:a=b:=UInt8.le_antisymm (UInt8.not_lt.1 h2) (UInt8.not_lt.1 h1)
    subst this
    simp[bH]
theorem J4{a b:Bs}(h:bH a b=true):a<=b:=fun hb=>by
 have:=yf.2 hb
 rw[lN h]at this;cases this
theorem Link.pins{S:AS}{R:RefL}(L:Link S R)(hok:ArOk S):ec S.ts (gC S.ts)=R.ts.map tagT:=by
 have hk:gC S.ts=R.ts.map (·.name):=by
  unfold gC
  have hp:(S.ts.map (·.key)).Perm (R.ts.map (·.name)):=by
   have:=L.tags.map (·.1);rw[map_map,map_map]at this;exact this
  refine Perm.eq_of_pairwise (le:=fun x y=>decide (x<=y)=true) (fun x y _ _ h1 h2=>?_) (pairwise_mergeSort (fun x y z h1 h2=>?_) (fun x y=>?_) _) ?_ ((mergeSort_perm _ _).trans hp)
  ·simp only[decide_eq_true_eq]at h1 h2;exact List.le_antisymm h1 h2
  ·simp only[decide_eq_true_eq]at h1 h2 ⊢;exact List.le_trans h1 h2
  ·simp only[Bool.or_eq_true,decide_eq_true_eq];exact List.le_total x y
  ·rw[pairwise_map];exact L.tsort.imp fun h=>by simpa using J4 h
 unfold ec;rw[hk,map_map];refine map_congr_left fun t ht=>?_
 have hm:rt t∈S.ts.map jL:=L.tags.mem_iff.2 (mem_map.2 ⟨t,ht,rfl⟩);obtain⟨q,hq,e⟩:=mem_map.1 hm;have e1:q.key=t.name:=congrArg (·.1) e;have e2:q.g=(t.path,t.num):=congrArg (·.2) e;show(t.name,gOf ([],0) S.ts t.name)=(t.name,t.path,t.num);unfold gOf
 cases hf:S.ts.find? (fun p=>decide (p.key=t.name))with
 | none=>exact absurd e1 (by simpa using find?_eq_none.1 hf q hq)
 | some x =>
  have hx:=mem_of_find?_eq_some hf;have hxk:x.key=t.name:=by simpa using find?_some hf
  have hnd:(S.ts.map (·.key)).Nodup:=by have:=hok.tags.map.nodup;rw[cy]at this;exact this
  obtain⟨i,hi,rfl⟩:=getElem_of_mem hx;obtain⟨j,hj,rfl⟩:=getElem_of_mem hq
  have:i=j:=by
   have h3:=(pairwise_iff_getElem.1 hnd);rcases Nat.lt_trichotomy i j with hl|hl|hl
   ·exact absurd (by rw[getElem_map,getElem_map,hxk,e1]) (h3 i j (by simpa using hi) (by simpa using hj) hl)
   ·exact hl
   ·exact absurd (by rw[getElem_map,getElem_map,hxk,e1]) (h3 j i (by simpa using hj) (by simpa using hi) hl)
  subst this;simp only[e2]
theorem yj(vs:List RVer):cB vs=dU [] (vs.flatMap (fun v=>au v.cont)):=by
 unfold cB dU;rw[foldl_flatMap]
theorem rS{p:Bs}:∀{vs:List RVer},vs.Pairwise (fun a b=>bH b.path a.path=false)->(∀v∈vs,v.path=p\/bH p v.path=true)->vs=aH vs p++vs.filter (fun v => !decide (v.path=p))
 | [],_,_=>rfl
 | v::r,hs,h=>by
  obtain⟨h1,h2⟩:=pairwise_cons.1 hs
  have ih:=rS h2 (fun u hu=>h u (by simp[hu]))
  unfold aH at ih ⊢
  by_cases hp:v.path=p
  ·rw[filter_cons,filter_cons]
   simp only[hp,decide_true,if_true,Bool.not_true,Bool.false_eq_true,if_false,cons_append]
   rw[<- ih]
  ·have hlt:bH p v.path=true:=(h v (by simp)).resolve_left hp
   have hn:∀u∈r,¬u.path=p:=fun u hu e=>by
    have:=h1 u hu
    rw[e,hlt]at this;cases this
   have e1:(v::r).filter (fun u=>decide (u.path=p))=[]:=filter_eq_nil_iff.2 (fun u hu=>by
    rcases mem_cons.1 hu with rfl|hu
    ·simpa using hp
    ·simpa using hn u hu)
   have e2:(v::r).filter (fun u => !decide (u.path=p))=v::r:=filter_eq_self.2 (fun u hu=>by
    rcases mem_cons.1 hu with rfl|hu
    ·simpa using hp
    ·simpa using hn u hu)
   rw[e1,e2];rfl
theorem ul:∀{ks:List Bs} {vs:List RVer},ks.Pairwise (fun a b=>bH a b=true)->vs.Pairwise (fun a b=>bH b.path a.path=false)->(∀v∈vs,v.path∈ks)->vs=ks.flatMap (aH vs)
 | [],vs,_,_,h=>by
  cases vs with
  | nil=>rfl
  | cons v r=>exact absurd (h v (by simp)) (by simp)
 | p::r,vs,hk,hs,h=>by
  obtain⟨h1,h2⟩:=pairwise_cons.1 hk
  have hl:=rS (p:=p) hs (fun v hv=>by
   rcases mem_cons.1 (h v hv)with e|e
   ·exact .inl e
   ·exact .inr (h1 _ e))
  obtain⟨ws,hws⟩:∃ws,ws=vs.filter (fun v => !decide (v.path=p)):=⟨_,rfl⟩
  have ih:=ul (ks:=r) (vs:=ws) h2 (by rw[hws];exact hs.filter _) (fun v hv=>by
   rw[hws]at hv
   obtain⟨hv1,hv2⟩:=mem_filter.1 hv
   rcases mem_cons.1 (h v hv1)with e|e
   ·simp[e]at hv2
   ·exact e)
  have hq:∀q∈r,aH ws q=aH vs q:=fun q hq=>by
   unfold aH
   rw[hws,filter_filter]
   refine filter_congr (fun v _=>?_)
   have hne:q≠p:=fun e=>by
    have h3:=h1 q hq
    rw[e,bR]at h3;cases h3
   by_cases e:v.path=q
   ·simp[e,hne]
   ·simp[e]
  rw[<- hws]at hl
  rw[flatMap_cons]
  conv=>lhs;rw[hl,ih]
  congr 1
  exact gy hq
theorem y7{l:List Bs}(hn:l.Nodup):(kO l).Pairwise (fun a b=>bH a b=true):=by
 have h1:(kO l).Pairwise (fun x y=>decide (x<=y)=true):=pairwise_mergeSort (fun x y z h1 h2=>by simp only[decide_eq_true_eq]at h1 h2 ⊢;exact List.le_trans h1 h2) (fun x y=>by simp only[Bool.or_eq_true,decide_eq_true_eq];exact List.le_total x y) _;have h2:(kO l).Nodup:=(mergeSort_perm _ _).nodup_iff.2 hn;refine(h1.and h2).imp (fun {a b} h=>?_);obtain⟨h3,h4⟩:=h;simp only[decide_eq_true_eq]at h3
 cases hb:bH a b with
 | true=>rfl
 | false =>
  have h5:¬a<b:=fun e=>by rw[yf.2 e]at hb;cases hb
  exact absurd (List.le_antisymm h3 h5) h4
theorem nV{l:List Bs}{x:Bs}:x∈kO l↔x∈l:=(mergeSort_perm _ _).mem_iff
def pL(S:AS)(l:Bs):List Bs:=(af S.ps l).flatMap (fun V=>V.chs.map (bq S.K))
theorem AB.order{S:AS}{R:RefL}{M:List Bs}(h:AB S M)(hok:ArOk S)(L:Link S R):cB R.vs=dU [] ((fP S.ps).flatMap (pL S)):=by
 have hks:(S.ps.map (·.key)).Nodup:=by rw[<- cy];exact hok.paths.map.nodup
 have hf:=ul (ks:=fP S.ps) (vs:=R.vs) (y7 hks) L.sorted (fun v hv=>by
  have hm:gn v∈(af S.ps v.path).map (cX S):=by
   rw[L.vers];exact mem_map.2 ⟨v,mem_filter.2 ⟨hv,by simp⟩,rfl⟩
  obtain⟨V,hV,-⟩:=mem_map.1 hm;obtain⟨p,hp,hpk,-⟩:=bD (ne_nil_of_mem hV);exact nV.2 (mem_map.2 ⟨p,hp,hpk⟩))
 rw[yj];congr 1;conv=>lhs;rw[hf]
 rw[flatMap_assoc];refine gy (fun l _=>?_);have h1:(aH R.vs l).flatMap (fun v=>au v.cont)=((aH R.vs l).map gn).flatMap (fun t=>au t.2.1):=by rw[flatMap_map];rfl
 rw[h1,<- L.vers,flatMap_map];unfold pL;exact gy (fun V hV=>(h.cut l V hV).symm)
theorem ql{l:Bs}{n:Nat}(h:fe l false n=false):(eV l false n).length+n=l.length:=by
 unfold fe at h;simp only[Bool.false_or,decide_eq_false_iff_not]at h;unfold eV;rw[if_neg (by simpa using h),length_drop];omega
theorem lq{l:Bs}{b:Bool}{n:Nat}(h:fe l b n=false):b=false:=by
 unfold fe at h
 cases b with
 | false=>rfl
 | true=>simp at h
theorem ru{l:Bs}{b:Bool}(h:kQ l b=false):b=false/\(gm l b).length+1+(lD l b).length=l.length:=by
 unfold kQ at h;have h1:=lq h;have h0:=lq h1;subst h0;refine⟨rfl,?_⟩;rw[h1]at h;have h2:=ql h1;have h3:=ql h;unfold fe at h;simp only[Bool.false_or,decide_eq_false_iff_not]at h;unfold gm lD;rw[h1,if_neg (by simpa using h),length_take];omega
theorem uy{k:UInt8}{body:Bs}:(∀p n m ats,ff k body=some (.ver p n m ats)->p.length+16+4*ats.length<=body.length+9)/\(∀q p m n,ff k body=some (.pin q p m n)->p.length+m.length+15<=body.length+9):=by
 unfold ff;simp only;refine⟨fun p n m ats h=>?_,fun q p m n h=>?_⟩
 ·split at h
  ·split at h
   ·rename_i hc;simp only[Option.some.injEq,RecR.ver.injEq]at h;obtain⟨rfl,-,-,rfl⟩:=h;obtain⟨h1,-⟩:=hc;have b2:=lq (show fe _ _ 2=false from h1);have b1:=lq (show fe _ _ 4=false from b2);obtain⟨-,h3⟩:=ru (show kQ body false=false from b1);unfold rN rT at h1 b2 ⊢;simp only at h1 b2 b1 ⊢;unfold rT at b1;simp only at b1;rw[b1]at b2 h1 ⊢;rw[b2]at h1 ⊢;have h4:=ql b2;have h5:=ql h1;rw[i6];omega
   ·cases h
  ·split at h
   ·split at h<;>cases h
   ·split at h
    ·split at h<;>cases h
    ·cases h
 ·split at h
  ·split at h<;>cases h
  ·split at h
   ·split at h<;>cases h
   ·split at h
    ·split at h
     ·rename_i hc;simp only[Option.some.injEq,RecR.pin.injEq]at h;obtain⟨-,rfl,rfl,-⟩:=h;obtain⟨h1,-⟩:=hc;have b2:=lq (show fe _ _ 4=false from h1);obtain⟨b1,h4⟩:=ru (show kQ _ _=false from b2);obtain⟨-,h3⟩:=ru (show kQ body false=false from b1);unfold rT at h1 b2 h4 ⊢;unfold rN at h1;simp only at h1 b2 h4 ⊢;rw[b2]at h1;have h5:=ql h1;unfold rT at b1;simp only at b1;rw[b1]at h4 h5 ⊢;omega
     ·cases h
    ·cases h
def tH(H:List HV):Nat:=(H.map (fun h=>h.p.length+16+4*h.chs.length)).sum
theorem pu{α:Type}(f:α->Nat)(p:α->Bool):∀l:List α,((l.filter p).map f).sum<=(l.map f).sum
 | []=>by simp
 | a::r=>by
  have:=pu f p r
  rw[filter_cons]
  split
  ·simp only[map_cons,sum_cons];omega
  ·simp only[map_cons,sum_cons];omega
theorem Gn{x:Tg}:∀{T:List Tg},(T.map (·.1)).Nodup->dV (ma T x)<=dV T+(x.1.length+x.2.1.length+15):=by
 have key:∀{T:List Tg},(T.map (·.1)).Nodup->dV (T.map (fun t=>if t.1=x.1 then x else t))<=dV T+(x.1.length+x.2.1.length+15):=by
  intro T;induction T with
  | nil=>intro _;simp[dV]
  | cons t r ih =>
   intro hn;obtain⟨n1,n2⟩:=nodup_cons.1 hn;by_cases h:t.1=x.1
   ·have e:r.map (fun t=>if t.1=x.1 then x else t)=r:=by
     conv=>rhs;rw[<- map_id r]
     refine map_congr_left (fun u hu=>?_);rw[if_neg (fun e=>n1 (mem_map.2 ⟨u,hu,e.trans h.symm⟩))];rfl
    rw[map_cons,e,if_pos h];unfold dV;simp only[map_cons,sum_cons];omega
   ·have:=ih n2;rw[map_cons,if_neg h];unfold dV at this ⊢;simp only[map_cons,sum_cons];omega
 intro T hn;unfold ma;split
 ·exact key hn
 ·unfold dV;rw[map_append,sum_append];simp
theorem DM{x:Tg}{T:List Tg}(h:(T.map (·.1)).Nodup):((ma T x).map (·.1)).Nodup:=by
 unfold ma;split
 ·have e:(T.map (fun t=>if t.1=x.1 then x else t)).map (·.1)=T.map (·.1):=by
   rw[map_map];refine map_congr_left (fun t _=>?_);show(if t.1=x.1 then x else t).1=t.1;split
   ·rename_i e;exact e.symm
   ·rfl
  rw[e];exact h
 ·rename_i hx;rw[map_append];refine nodup_append.2 ⟨h,by simp,fun a ha b hb e=>?_⟩;simp only[map_cons,map_nil,mem_singleton]at hb;obtain⟨t,ht,e2⟩:=mem_map.1 ha;exact hx (any_eq_true.2 ⟨t,ht,by simpa using(e2.trans e).trans hb⟩)
def need(s:PSt):Nat:=mL s.K+tH s.H+dV s.T
theorem tI(H:List HV)(p:Bs)(n d:Int):tH (fy H p n d)=tH H:=by
 unfold tH fy;rw[map_map];congr 1;refine map_congr_left (fun h _=>?_);show(if _ then _ else h:HV).p.length+16+4*(if _ then _ else h:HV).chs.length=_;split<;>rfl
theorem GF{at_:Nat}{s s':PSt}{k:UInt8}{body:Bs}(h:fC at_ s k body=some s')(hn:(s.T.map (·.1)).Nodup):need s'<=need s+(body.length+9)/\(s'.T.map (·.1)).Nodup:=by
 unfold fC at h;split at h
 ·simp only[Option.some.injEq]at h;subst h;refine⟨?_,hn⟩;unfold need mL;simp only[map_append,sum_append,map_cons,map_nil,sum_cons,sum_nil];omega
 ·split at h
  ·cases h
  ·rename_i p n m ats hr;split at h
   ·cases h
   ·rename_i chs hc;split at h
    ·simp only[Option.some.injEq]at h;subst h;refine⟨?_,hn⟩;have h1:=uy.1 _ _ _ _ hr;have h2:=nO hc;unfold need tH;simp only[map_append,sum_append,map_cons,map_nil,sum_cons,sum_nil];omega
    ·cases h
  ·rename_i p ns hr;split at h
   ·simp only[Option.some.injEq]at h;subst h;refine⟨?_,hn⟩;have:=pu (fun h:HV=>h.p.length+16+4*h.chs.length) (fun h => !(decide (h.p=p)&&ns.contains (h.num:Int))) s.H;unfold need tH jy;simp only;omega
   ·cases h
  ·rename_i q p m n hr;have h1:=uy.2 _ _ _ _ hr;split at h
   ·simp only[Option.some.injEq]at h;subst h;have:=Gn (x:=(m,p,(n:Int))) hn;refine⟨?_,DM hn⟩;unfold need;simp only[tI]at this ⊢;omega
   ·simp only[Option.some.injEq]at h;subst h;have:=pu (fun t:Tg=>t.1.length+t.2.1.length+15) (fun t => !decide (t.1=m)) s.T;refine⟨?_,?_⟩
    ·unfold need;simp only[tI];unfold dV Ap;omega
    ·unfold Ap;exact(filter_sublist.map _).nodup hn
theorem BK:∀{rs:j0} {a:Nat} {s s':PSt},lf a s rs=some s'->(s.T.map (·.1)).Nodup->need s'<=need s+(cC rs).length
 | [],a,s,s',h,_=>by simp only[lf,Option.some.injEq]at h;subst h;omega
 | r::q,a,s,s',h,hn=>by
  simp only[lf]at h
  cases hs:fC a s r.1 r.2 with
  | none=>rw[hs]at h;cases h
  | some t =>
   rw[hs,Option.bind_some]at h
   obtain⟨h1,h2⟩:=GF hs hn
   have h3:=BK h h2
   rw[kF,length_append,aX]
   omega
theorem um{α β γ:Type}[DecidableEq γ](φ:α->Bs)(f:α->γ)(ψ:β->Bs)(g:β->γ){A:List α}{B:List β}(h:∀l,(A.filter (fun x=>decide (φ x=l))).map f=(B.filter (fun x=>decide (ψ x=l))).map g):(A.map (fun x=>(φ x,f x))).Perm (B.map (fun x=>(ψ x,g x))):=by
 have key:∀{δ:Type} (θ:δ->Bs) (k:δ->γ) (L:List δ) (a:Bs×γ),(L.map (fun x=>(θ x,k x))).count a=((L.filter (fun x=>decide (θ x=a.1))).map k).count a.2:=by
  intro δ θ k L a;induction L with
  | nil=>rfl
  | cons x r ih =>
   rw[map_cons,count_cons,ih,filter_cons];by_cases h1:θ x=a.1
   ·simp only[h1,decide_true,if_true,map_cons,count_cons];congr 1;by_cases h2:k x=a.2
    ·have:(a.1,k x)=a:=by rw[h2]
     simp[h2]
    ·have:¬(a.1,k x)=a:=fun e=>h2 (congrArg Prod.snd e)
     simp[h2,this]
   ·have:¬(θ x,k x)=a:=fun e=>h1 (congrArg Prod.fst e)
    simp[h1,this]
 rw[perm_iff_count];intro a;rw[key,key,h]
theorem wE(x y:UInt8):be (x.toNat*256+y.toNat) 2=[x,y]:=by
 have hx:=UInt8.toNat_lt x;have hy:=UInt8.toNat_lt y;rw[be2];congr 1
 ·refine UInt8.toNat_inj.1 ?_;rw[UInt8.toNat_ofNat'];omega
 ·congr 1;refine UInt8.toNat_inj.1 ?_;rw[UInt8.toNat_ofNat'];omega
theorem Aa:∀b:Bs,be (bz b) b.length=b
 | []=>rfl
 | x::r=>by
  have hx:=UInt8.toNat_lt x
  have hr:=im r
  rw[length_cons,be,oS]
  have e1:UInt8.ofNat ((x.toNat*256 ^ r.length+bz r) / 256 ^ r.length)=x:=by
   rw[Nat.mul_comm,Nat.mul_add_div (Nat.pow_pos (by omega)),Nat.div_eq_of_lt hr,Nat.add_zero];refine UInt8.toNat_inj.1 ?_;rw[UInt8.toNat_ofNat'];omega
  have e2:be (x.toNat*256 ^ r.length+bz r) r.length=be (bz r) r.length:=by
   have key:∀(k a b:Nat),a%256 ^ k=b%256 ^ k->be a k=be b k:=by
    intro k;induction k with
    | zero=>intro a b _;rfl
    | succ k ih =>
     intro a b h;rw[be,be]
     have h1:a%256 ^ k=b%256 ^ k:=by
      have this:a%256 ^ (k+1)%256 ^ k=b%256 ^ (k+1)%256 ^ k:=by rw[h]
      rwa [Nat.mod_mod_of_dvd _ ⟨256,by rw[Nat.pow_succ]⟩,Nat.mod_mod_of_dvd _ ⟨256,by rw[Nat.pow_succ]⟩]at this
     rw[ih a b h1];congr 1;refine UInt8.toNat_inj.1 ?_;rw[UInt8.toNat_ofNat',UInt8.toNat_ofNat'];have h2:∀n,n%256 ^ (k+1)=n%256 ^ k+256 ^ k*(n / 256 ^ k%256):=fun n=>by rw[Nat.pow_succ,Nat.mod_mul]
     rw[h2 a,h2 b,h1]at h;have h3:256 ^ k*(a / 256 ^ k%256)=256 ^ k*(b / 256 ^ k%256):=by omega
     exact Nat.eq_of_mul_eq_mul_left (Nat.pow_pos (by omega)) h3
   refine key _ _ _ ?_;rw[Nat.mul_comm,Nat.mul_add_mod]
  rw[e1,e2,Aa r]
theorem Md:∀{b:Bs},9<=b.length->∃b0 b1 b2 b3 b4 r,b=b0::b1::b2::b3::b4::r
 | b0::b1::b2::b3::b4::r,_=>⟨b0,b1,b2,b3,b4,r,rfl⟩
 | [],h=>by simp at h
 | [_],h=>by simp at h
 | [_,_],h=>by simp at h
 | [_,_,_],h=>by simp at h
 | [_,_,_,_],h=>by simp at h
theorem Dx{b:Bs}{k:UInt8}{body:Bs}{n:Nat}(h:ce b=some (k,body,n)):b.take n=frame k body:=by
 obtain⟨-,-,h0,-,-⟩:=eD h
 obtain⟨b0,b1,b2,b3,b4,r,rfl⟩:=Md (b:=b) (by
  unfold ce at h;split at h
  ·cases h
  ·omega)
 obtain⟨m,hm⟩:∃m,m=b1.toNat*256+b2.toNat:=⟨_,rfl⟩;have hd:(b0::b1::b2::b3::b4::r).drop (5+m)=r.drop m:=by rw[Nat.add_comm];simp
 unfold ce at h;simp only[QF,QG,length_cons,<- hm,hd]at h;split at h
 ·cases h
 split at h
 ·cases h
 split at h
 ·cases h
 split at h
 ·cases h
 split at h
 ·cases h
 rename_i h1 h2 h3 h4 h5;simp only[QD,drop_zero,Option.some.injEq,Prod.mk.injEq]at h h5;obtain⟨rfl,hb,rfl⟩:=h;have h3:=Decidable.not_not.1 h3;have h5:=Decidable.not_not.1 h5;have hb1:=UInt8.toNat_lt b1;have hb2:=UInt8.toNat_lt b2;have hb3:=UInt8.toNat_lt b3;have hb4:=UInt8.toNat_lt b4;have hl:(r.take m).length=m:=by rw[length_take];omega
 unfold frame
 have e4:be (dq b0 (r.take m)) 4=(r.drop m).take 4:=by
  rw[<- h5];have:=Aa ((r.drop m).take 4);rwa [show((r.drop m).take 4).length=4 by rw[length_take,length_drop];omega]at this
 rw[<- hb,e4,hl];have e1:be m 2=[b1,b2]:=by rw[hm];exact wE b1 b2
 have e2:be (65535-m%65536) 2=[b3,b4]:=by
  rw[<- wE b3 b4];congr 1;omega
 rw[e1,e2,show m+9=(m+4)+5 by omega];simp only[QE,cons_append,nil_append];rw[take_add]
theorem DR{D:Bs}{a:Nat}{s:PSt}(h:Reach D a s)(hl:a<=D.length):∃rs,xZ rs/\cC rs=D.take a/\lf 0 ⟨[],[],[]⟩ rs=some s:=by
 induction h with
 | zero=>exact⟨[],(fun r hr=>by cases hr),by simp[cC],rfl⟩
 | @next at_ s s' k body n _ ho hs ih =>
  obtain⟨rs,h1,h2,h3⟩:=ih (by omega);obtain⟨hk,hn,-,-,hb⟩:=eD ho;have hlen:(cC rs).length=at_:=by rw[h2,length_take];omega
  refine⟨rs++[(k,body)],fun r hr=>?_,?_,?_⟩
  ·rcases mem_append.1 hr with hr|hr
   ·exact h1 r hr
   ·obtain rfl:=mem_singleton.1 hr;exact⟨hk,hb⟩
  ·rw[dL,h2,take_add,Dx ho];simp[cC]
  ·rw[gk,h3,Option.bind_some,Nat.zero_add,hlen];simp[lf,hs]
end
section
open Go.RowKit
def ud(l:Bs)(first:Nat)(b:Bs):Bs:=if b=[]then l else aZ l (128*first) (iz b)
theorem A0{l b:Bs}{first count:Nat}(hl:128*(first+count)<=l.length)(hb:b.length<=128*count):aC (ud l first b) first count=iz b++(aC l first count).drop (iz b).length:=by
 unfold ud;by_cases h:b=[]
 ·rw[if_pos h,h];simp[iz,am]
 ·rw[if_neg h];have hp:=fc b;have:=qh (l:=l) (s:=iz b) (first:=first) (count:=count) (q:=0) (by omega) hl;rw[Nat.add_zero,Nat.mul_zero]at this;rw[this];simp[aZ]
theorem Ga{l b:Bs}{first count:Nat}(hl:128*(first+count)<=l.length)(hb:b.length<=128*count):∀f2 c2,(f2+c2<=first\/first+count<=f2)->aC (ud l first b) f2 c2=aC l f2 c2:=fun f2 c2 hd=>by
 unfold ud
 split
 ·rfl
 ·have hp:=fc b
  have:=kh (l:=l) (s:=iz b) (first:=first) (count:=count) (q:=0) (f2:=f2) (c2:=c2) (by omega) hl hd
  rw[Nat.add_zero]at this;exact this
theorem Ko{l b:Bs}{first count:Nat}(hl:128*(first+count)<=l.length)(hb:b.length<=128*count)(m:Nat)(hm:b.length / 128+m<count)(he:aM (b++(aC l first count).drop b.length) (b.length / 128+m)=(if m=0 then(((b++(aC l first count).drop b.length).take b.length).drop (128*(b.length / 128))++am (128-b.length%128))else am 128)):
  aM (ud l first b) (first+(b.length / 128+m))=(if m=0 then(((b++(aC l first count).drop b.length).take b.length).drop (128*(b.length / 128))++am (128-b.length%128))else am 128):=by
 rw[<- mf hm,A0 hl hb];have hp:=fc b;rcases Nat.lt_or_ge (128*(b.length / 128+m)) (iz b).length with h|h
 ·have h0:m=0:=by omega
  subst h0;rw[if_pos rfl,take_left];unfold aM;rw[Nat.add_zero,drop_append_of_le_length (by omega),take_append_of_le_length (by rw[length_drop];omega)];have hmod:b.length%128≠0:=by omega
  unfold iz;rw[drop_append_of_le_length (by omega),show(128-b.length%128)%128=128-b.length%128 by omega];exact take_of_length_le (by rw[length_append,length_drop,an];omega)
 ·rw[<- he];have hge:b.length<=128*(b.length / 128+m):=by omega
  unfold aM;rw[drop_append,drop_append,drop_of_length_le h,drop_of_length_le hge,drop_drop,drop_drop];rw[show(iz b).length+(128*(b.length / 128+m)-(iz b).length)=b.length+(128*(b.length / 128+m)-b.length) by omega]
end
section
open Go.RowKit Go.Maps
theorem Ai{W:World}{g cap:Nat}{ws:Bs}(h:Sat W (aA (.slice (some ⟨g,0,none⟩) ws.length cap) ws)):∃cur:List Value,W.heap[g]?=some (.cells cur.toArray 5 (0,0))/\ws.length<=cur.length/\cur.length<=9223372036854775807/\cur.length=cap/\cur.take ws.length=ws.map al:=by
 obtain⟨ob,hg,c,cur,he,rfl,h1,h2,h3,h4⟩:=h.head;have hc:cap=c:=by injection he
 subst hc;have hs:cur.toList.length=cap:=by simpa using h3
 exact⟨cur.toList,by simpa using hg,by omega,by unfold maxLen at h2;omega,hs,by simpa using h4⟩
theorem Ir{F G:HF}{A W W':World}{g cap:Nat}{ws b:Bs}{cur:List Value}(hT:Turns F (aA (.slice (some ⟨g,0,none⟩) ws.length cap) ws++G) A W)(hg:W.heap[g]?=some (.cells cur.toArray 5 (0,0)))(hb:b.length<=ws.length)(hM:Mods (fun k=>k=g) W W')(h':W'.heap[g]?=some (.cells (splice cur 0 (b.map al)).toArray 5 (0,0))):Turns F (aA (.slice (some ⟨g,0,none⟩) ws.length cap) (b++ws.drop b.length)++G) A W':=by
 obtain⟨cur',hg',h1,h2,h3,h4⟩:=Ai hT.sat.left;rw[hg]at hg';obtain rfl:cur=cur':=by simpa using hg'
 have hl:(b++ws.drop b.length).length=ws.length:=by simp;omega
 have e:∀l:Bs,l.length=ws.length->aA (.slice (some ⟨g,0,none⟩) ws.length cap) l=[(g,fun o=>∃c cu,Value.slice (some ⟨g,0,none⟩) ws.length cap=.slice (some ⟨g,0,none⟩) ws.length c/\o=.cells cu 5 (0,0)/\ws.length<=c/\c<=maxLen/\cu.size=c*1/\cu.toList.take (ws.length*1)=l.map al)]:=fun l hl=>by unfold aA;rw[hl];rfl
 rw[e _ rfl]at hT;rw[e _ hl];refine Turns.put hT hM h' ⟨cap,_,rfl,rfl,by omega,by unfold maxLen;omega,?_,?_⟩
 ·simp[splice];omega
 ·simp only[splice,take_zero,nil_append,Nat.zero_add,length_map,Nat.mul_one,map_append,map_drop,<- h4];rw[drop_take,take_append,length_map,take_of_length_le (by rw[length_map];omega)]
theorem kD{w:World}{sl:Option Addr}{cap:Nat}{b:Bs}(h:Sat w (aA (.slice sl b.length cap) b))(hok:bOk (.slice sl b.length cap) b):ak w sl (b.map al):=by
 obtain⟨a,c,e,-,-,hc,-⟩:=bv h hok (by decide);simp only[Value.slice.injEq,true_and]at e;rw[e.1];exact hc
theorem Kh{k:Nat}(h:(k:Int)<9223372036854775808):IntKind.i64.wrap (k:Int)=k:=IntWalk.i64_in _ (by omega)
theorem DX(k:Nat)(hk:k<4294967296)(w:World):(convert 57 3 (.int .u32 k)).run Tryz.prog w=.ok (.int .i64 k) w:=by
 simp[convert,run_underlying Tryz.underlying3,run_underlying Tryz.underlying57,Conv.intToInt,Kh (show(k:Int)<9223372036854775808 by omega)]
theorem Kp{l b:Bs}{first:Nat}:(if b=[]then l else aZ l (128*(first+([]:Bs).length / 128)) (iz (([]++b:Bs).drop (128*(([]:Bs).length / 128)))))=ud l first b:=by simp[ud]
theorem KH{l l0 s b:Bs}{r first count:Nat}(hl:256<=l.length)(hs:s.length=128)(h2:r<2/\2<=first)(h:ez l first count b/\∀f2 c2,(f2+c2<=first\/first+count<=f2)->aC l f2 c2=aC l0 f2 c2):
  ez (aZ l (128*r) s) first count b/\aM (aZ l (128*r) s) r=s/\∀f2 c2,(f2+c2<=first\/first+count<=f2)->(f2+c2<=r\/r+1<=f2)->aC (aZ l (128*r) s) f2 c2=aC l0 f2 c2:=by
 have ho:∀f2 c2,(f2+c2<=r\/r+1<=f2)->aC (aZ l (128*r) s) f2 c2=aC l f2 c2:=fun f2 c2 hd=>by
  have:=kh (l:=l) (s:=s) (first:=r) (count:=1) (q:=0) (f2:=f2) (c2:=c2) (by omega) (by omega) hd;rw[Nat.add_zero]at this;exact this
 refine⟨⟨by rw[ho _ _ (.inr (by omega))];exact h.1.1,h.1.2⟩,?_,fun f2 c2 hd hd2=>by rw[ho _ _ hd2];exact h.2 f2 c2 hd⟩;have:=qh (l:=l) (s:=s) (first:=r) (count:=1) (q:=0) (by omega) (by omega);rw[Nat.add_zero]at this;rw[show aM (aZ l (128*r) s) r=aC (aZ l (128*r) s) r 1 from rfl,this];have h1:(aC l r 1).length=128:=by unfold aC;rw[length_take,length_drop];omega
 unfold aZ;rw[Nat.mul_zero,take_zero,nil_append,Nat.zero_add,drop_of_length_le (by omega),append_nil]
def Hb(a tb d:Nat)(X:ArchL)(T:AreaL)(L:DevL)(vb:Value)(b:Bs)(w:World)(e:Ending)(w':World):Prop :=
 e=.returned .nilIface/\∃L',Turns ((a,Is (aJ X))::(ap tb d T++(aD d L++aA vb b))) ((a,Is (aJ X))::(ap tb d { T with end_:=b.length,tail:=bF b }++(aD d L'++aA vb b))) w w' /\
  DevOk L'/\L'.n=L.n/\L'.safe=L'.now/\L'.chs=[]/\ez L'.now T.first T.count b/\aM L'.now ((X.ep+1)%2)=cH (X.ep+1) b.length /\
  ∀f2 c2,(f2+c2<=T.first\/T.first+T.count<=f2)->(f2+c2<=(X.ep+1)%2\/(X.ep+1)%2+1<=f2)->aC L'.now f2 c2=aC L.now f2 c2
theorem Ds(a tb d:Nat)(X:ArchL)(T:AreaL)(L:DevL)(vb:Value)(b:Bs)(w:World)(h:Sat w ((a,Is (aJ X))::(ap tb d T++(aD d L++aA vb b))))(hX:X.d=d)(hep:X.ep+1<4294967296)(hL:DevOk L)(hn:16<=L.n)(hn2:L.n<=1073741824)(hT:T.first+T.count<=L.n)(hT2:2<=T.first)(hT0:0<T.count)(hTe:T.end_=0)(hTt:T.tail=am 128)(hTo:AreaOk T)(hvb:bOk vb b)(hb:b.length<=128*T.count)(hb2:b.length<4294967296)(hch:L.chs.length+b.length<=137438953472):
  Calls Tryz.prog 78 #[.pointer (some ⟨a,0,none⟩),.pointer (some ⟨tb,0,none⟩),vb] w (Hb a tb d X T L vb b w):=by
 obtain⟨bsl,bcap,hbv,hbc,hbc2,hbcells,hbown⟩:=bv h.tail.right.right hvb (by decide);subst hbv;have hwl:=fH hL.nowL (first:=T.first) (k:=T.count) hT;obtain⟨ws,hws⟩:∃ws,ws=aC L.now T.first T.count:=⟨_,rfl⟩
 rw[<- hws]at hwl;have hbw:b.length<=ws.length:=by omega
 have hw0:0<ws.length:=by omega
 have HW:=qqH hwl;have HAll:=qqH (qE tb d T L w (h.tail.sub (G:=ap tb d T++aD d L) bB) hL hT hn2);have HH:=Hq8 h hL hTo hws hvb hbcells hbown hX;have hal:=ae h.Q5;clear h hL hTo hws hvb hbcells hbown hX hwl;go_enter Tryz.func78,Tryz.ntmps78;go_wp2_with fail;refine HAll.out.mono ?_;rintro e w1 ⟨v,rfl,hok,hT1⟩;rw[<- HH.d]at hok hT1;rcases(cZ hT1.sat hok).2 with⟨-,h0⟩|⟨g,cap,cur0,rfl,-,-,hc1,hc2,-,-⟩
 ·omega
 have hc3:cap<=9223372036854775807:=by unfold maxLen at hc2;omega
 have hTa:=Turns.Qb (Turns.refl HH.a) hT1
 have hne:∀x,bsl=some x->x.block∉dom (ap tb d T++aD d L):=fun x hx hin=>by
  exact(HH.a.sub (G:=aA (.slice bsl b.length bcap) b++(ap tb d T++aD d L)) bB).Qh (b:=x.block) ((eK _ _ _ _ _ _).2 (HH.g x hx)) hin
 have HA:=qqH (pB tb d T L [] b bsl bcap w1 (hTa.sat.sub bB) HH.b hT hn2 hTe (by rw[hTt];simp[bF,dk]) (by simpa using hb) (HH.f.turns hT1) hbc hbc2 hne (by omega));have HTa:=Hq2 hTa hok;clear hTa hok hT1 hne;go_wp2_with fail;refine HA.out.mono ?_;rintro e w2 ⟨rfl,L1,hT2a,hL1,hn1,hnow1,hch1⟩;rw[Kp]at hnow1;rw[nil_append]at hT2a;have hTb:=HTa.a.step (F:=ap tb d T++aD d L) (R:=aA (.slice (some ⟨g,0,none⟩) ws.length cap) ws++((a,Is (aJ X))::aA (.slice bsl b.length bcap) b)) ac hT2a;have hTb:=hTb.to (H:=aA (.slice (some ⟨g,0,none⟩) ws.length cap) ws++(ap tb d { T with end_:=b.length,tail:=bF b }++aD d L1++((a,Is (aJ X))::aA (.slice bsl b.length bcap) b))) ac;obtain⟨cur,hcur,hcul,hcu9,-,-⟩:=Ai hTb.sat.left;have hbc3:=kD (hTb.sat.right.right.tail) HH.e;have hal2:=ae hTb.sat.right.right.Q5;have HTb:=Hq7 hTb hL1 hn1 hnow1 hch1 hcur hbc3;obtain⟨i0,hi0,hz1,hz2,hz3⟩:=info_parts ix;have HS8:Hid ((Tryz.prog.info? 5).map (·.size)=some 1):=qqH (by rw[hi0];simp[hz2]);clear hTb hT2a hL1 hn1 hnow1 hch1 hcur hbc3 hi0 hz1 hz2 hz3;have e1:(b.map al).length=Nat.min b.length ws.length:=by rw[length_map];exact(Nat.min_eq_left hbw).symm
 have e2:0<(b.map al).length->∃ad,bsl=some ad/\∀j v,(b.map al)[j]?=some v->w2.cell? (ad.add j)=some v:=fun hp=>by
  obtain⟨g',off',e',hcc⟩:=HTb.u hp;refine⟨_,e',fun j v hv=>?_⟩;obtain⟨hj,rfl⟩:=List.getElem?_eq_some_iff.1 hv;rw[Addr.add_mid];exact hcc j hj
 have e3:0+(b.map al).length<=cur.length:=by rw[length_map];omega
 have HE:=Hq3 e1 e2 e3;clear e1 e2 e3;go_wp2_with ((refine gr rfl (.tmp 27) (.tmp 28) 35 35 rfl 5 Tryz.underlying35 HS8.out _ _ _ _ _ _ rfl rfl g 0 cur 5 HTb.f (b.map al) HE.a (fun hp=>⟨rfl,HE.b hp⟩) HE.y (dW _) ?_);intro w3 h3 hM3 hz3;have HC3:=Hq3 h3 hM3 hz3;clear h3 hM3 hz3);have hTc:=Ir HTb.a HTb.f (by omega) HC3.b HC3.a;have hlw:(b++ws.drop b.length).length=ws.length:=by simp;omega
 have hl1:=HH.b.nowL;have htk:(b++ws.drop b.length).take b.length=b:=take_left
 have hlc:∀m,b.length / 128+m<T.count->aM (b++ws.drop b.length) (b.length / 128+m)=(if m=0 then(((b++ws.drop b.length).take b.length).drop (128*(b.length / 128))++am (128-b.length%128))else am 128)->aM L1.now (T.first+(b.length / 128+m))=(if m=0 then(((b++ws.drop b.length).take b.length).drop (128*(b.length / 128))++am (128-b.length%128))else am 128):=fun m hm he=>by
  rw[HTb.d];rw[HH.d]at he ⊢;have:=HW.out;exact Ko (by omega) hb m hm he
 obtain⟨wt,hwt⟩:∃wt,wt=b++ws.drop b.length:=⟨_,rfl⟩;rw[<- hwt]at hTc hlw htk hlc;have hTc2:=hTc;rw[<- hlw]at hTc2;have hokt:bOk (.slice (some ⟨g,0,none⟩) wt.length cap) wt:=⟨by simp,fun h=>by simp[Value.ownBlock]at h⟩
 have hcut:=qG tb d { T with end_:=b.length,tail:=bF b } L1 b.length (some ⟨g,0,none⟩) cap wt w3 (hTc.sat.sub bB) HTb.b (by rw[HTb.c];exact hT) (by rw[HTb.c];exact hn2) ⟨lj _,HH.c.few,HH.c.caps⟩ (kD hTc2.sat.left hokt)
  (fun x hx hin=>by
   obtain rfl:x=⟨g,0,none⟩:=(Option.some.inj hx).symm;exact hTc2.sat.Qh (b:=g) ((eK _ _ _ _ _ _).2 rfl) (by simp only[cF,mem_append]at hin ⊢;exact .inl hin)) (by rw[hlw];exact HW.out) (by omega) hc3 hT0 hb (by have:=HTb.e;omega) hlc
 rw[hlw]at hcut;unfold xQ at hcut;rw[htk]at hcut;have HCt:=qqH hcut;have HTc:=Hq3 hTc hlw htk;have hal3:=ae (hTc.sat.right.right.Q5);clear hTc hTc2 hlw hl1 hlc hcut hwt htk hokt;go_wp2_with fail;refine HCt.out.mono ?_;rintro e w4 ⟨rfl,L2,hT4,hL2,hn2',hnow2,hsafe2,hch2⟩;have hT4:Turns (ap tb d { T with end_:=b.length,tail:=bF b }++aD d L1) (ap tb d { T with end_:=b.length,tail:=bF b }++aD d L2) w3 w4:=hT4;have hTd:=(HTc.a.step (F:=ap tb d { T with end_:=b.length,tail:=bF b }++aD d L1) (R:=aA (.slice (some ⟨g,0,none⟩) ws.length cap) wt++((a,Is (aJ X))::aA (.slice bsl b.length bcap) b)) ac hT4).to (H:=(a,Is (aJ X))::(ap tb d { T with end_:=b.length,tail:=bF b }++(aD d L2++(aA (.slice bsl b.length bcap) b++aA (.slice (some ⟨g,0,none⟩) ws.length cap) wt)))) ac
 have hdat:ez L2.now T.first T.count b/\∀f2 c2,(f2+c2<=T.first\/T.first+T.count<=f2)->aC L2.now f2 c2=aC L.now f2 c2:=by
  have hl1:=HTb.b.nowL;have hl0:=HH.b.nowL;rw[HTb.c]at hl1;have hc:=tL (l:=L1.now) (ws:=wt) (first:=T.first) (count:=T.count) (end_:=b.length) (by omega) (by rw[HTc.y,HTb.d,A0 (by omega) hb];unfold iz;rw[append_assoc,take_left]) (by rw[HTc.b];exact HW.out) hb;rw[HTc.y]at hc;rw[hnow2];exact⟨hc.1,fun f2 c2 hd=>by rw[hc.2 f2 c2 hd,HTb.d];exact Ga (by omega) hb f2 c2 hd⟩
 have a6:w4.cell? ⟨a,6,none⟩=some (.pointer (some ⟨d,0,none⟩)):=by
  have:=aa hTd.sat.Q5 6 (v:=.pointer (some ⟨X.d,0,none⟩)) rfl;rw[HH.t]at this;exact this
 have a8:w4.cell? ⟨a,8,none⟩=some (.int .u32 X.ep):=aa hTd.sat.Q5 8 rfl;have hw1:IntKind.u32.wrap ((X.ep:Int)+1)=((X.ep+1:Nat):Int):=by rw[wrap_u32 (by omega) (by omega)];omega
 have hw2:IntKind.u32.wrap (b.length:Int)=(b.length:Int):=wrap_u32 (by omega) (by omega);have hal4:=ae hTd.sat.Q5;have H4:=Hq6 hTd hL2 hn2' hsafe2 hch2 hdat;clear hT4 hTd hL2 hn2' hnow2 hsafe2 hch2 hdat;go_upto_region 12 with(fail);obtain⟨e,he⟩:∃e:Nat,e=X.ep+1:=⟨_,rfl⟩;obtain⟨u,hu⟩:∃u,u=w4.heap.size:=⟨_,rfl⟩;rw[show(X.ep:Int)+1=(e:Int) by omega,<- hu];have hT5:=H4.a.Q8 (iM e b.length);rw[<- hu]at hT5;have HT5:=qqH hT5;have HE5:=qqH he;have he9:e<4294967296:=by omega
 clear hu hT5 he a6 a8 hw1 hw2;refine db [([0,1,2,3,4,5,6,7,8],9,[0,1,2,3,4,5,6,7]),([],10,[])] [11] HM.out (by kernel_rfl) fun W tW=>?_
 simp only[Mix,map_cons,map_nil,nth,QG,QF];have hT6:=tW HT5.out;clear tW
 have a6:∀{W:World} {F:HF},Sat W F->(a,Is (aJ X))∈F->W.cell? ⟨a,6,none⟩=some (.pointer (some ⟨d,0,none⟩)):=fun hs hm=>by
  have:=aa (hs.Q7 hm) 6 (v:=.pointer (some ⟨X.d,0,none⟩)) rfl;rw[HH.t]at this;exact this
 have u0:∀{W:World} {F:HF},Sat W F->(u,Is (iM e b.length))∈F->W.cell? ⟨u,0,none⟩=some (.int .u32 e):=fun hs hm=>aa (hs.Q7 hm) 0 rfl
 have u1:∀{W:World} {F:HF},Sat W F->(u,Is (iM e b.length))∈F->W.cell? ⟨u,1,none⟩=some (.int .u32 b.length):=fun hs hm=>aa (hs.Q7 hm) 1 rfl
 have k6:=a6 hT6.sat (by simp);have k0:=u0 hT6.sat (by simp);have k1:=u1 hT6.sat (by simp);iterate 6 still_step
 obtain⟨r,hr,hr2⟩:∃r,r=e%2/\r<2:=⟨_,rfl,by omega⟩;have hrr:∀W,(binOp .rem 57 (.int .u32 e) (.int .u32 2)).run Tryz.prog W=.ok (.int .u32 r) W:=fun W=>by rw[hr];exact BL e he9 W
 have hrc:∀W,(convert 57 3 (.int .u32 r)).run Tryz.prog W=.ok (.int .i64 r) W:=fun W=>DX r (by omega) W
 have HR:=Hq3 hr hrr hrc;clear hr hrr hrc;refine eG rfl (v:=.int .u32 r) (by simp[execOp,eqGuard,HR.b,Act.eval]) ?_;simp only[Act.put,QA,QB,QC];refine eG rfl (v:=.int .i64 r) (by simp[execOp,HR.y,Act.eval]) ?_;simp only[Act.put,QA,QB,QC];repeat still_step
 refine wpStill_nil (aU (by kernel_rfl) (mg e b.length he9 hb2 W) ?_);rintro ev W5 ⟨rfl,hs5⟩;have hT7:=hT6.Q9 hs5;have HT7:=qqH hT7
 refine⟨_,rfl,by
  have k6:=a6 HT7.out.sat (by simp);have k0:=u0 HT7.out.sat (by simp);iterate 6 still_step
  refine eG rfl (v:=.int .u32 r) (by simp[execOp,eqGuard,HR.b,Act.eval]) ?_;simp only[Act.put,QA,QB,QC];exact eG rfl (v:=.int .i64 r) (by simp[execOp,HR.y,Act.eval]) rfl,?_⟩
 simp only[Act.put,QA,QB,QC];clear hT6 hT7 k0 k1 k6 hs5;refine wpStill_nil (aU (by kernel_rfl) (jp d L2 r (cH e b.length) W5 (HT7.out.sat.sub bB) H4.b (by rw[H4.c,HTb.c];omega) (co e b.length) (by rw[H4.e];simp)) ?_);rintro ev W6 ⟨rfl,L3,hT8,hL3,hn3,hnow3,hch3⟩;have hT9:=(HT7.out.to (H:=aD d L2++((u,Is (iM e b.length))::(a,Is (aJ X))::(ap tb d { T with end_:=b.length,tail:=bF b }++(aA (.slice bsl b.length bcap) b++aA (.slice (some ⟨g,0,none⟩) ws.length cap) wt)))) ac).step (Perm.refl _) hT8;refine⟨_,rfl,rfl,?_⟩;simp only[Act.put,QA,QB,QC];repeat still_step
 refine wpStill_nil ?_;have k6:=a6 hT9.sat (by simp);have hal6:=ae (hT9.sat.Q7 (b:=a) (o:=aJ X) (by simp));have HFl:=qqH (jm d L3 W6 hT9.sat.left hL3 (by rw[hch3,H4.e];simp));have H9:=Hq5 hT9 hL3 hn3 hnow3 hch3;clear hT8 hT9 hL3 hn3 hnow3 hch3 a6 u0 u1;go_wp2_with fail;refine HFl.out.mono ?_;rintro ev W7 ⟨rfl,L4,hT10,hL4,hn4,hnow4,hsafe4,hch4⟩;have H10:=Hq6 (H9.a.step (Perm.refl _) hT10) hL4 hn4 hnow4 hsafe4 hch4;clear hT10 hL4 hn4 hnow4 hsafe4 hch4 k6;go_wp2_with fail;go_ret;refine ⟨rfl,L4,H10.a.drop (fun x=>?_),H10.b,?_,?_,H10.v,?_⟩
 ·simp only[ao,ai];omega
 ·rw[H10.c,H9.c,H4.c,HTb.c]
 ·rw[H10.e,H10.d]
 ·have hnow:L4.now=aZ L2.now (128*r) (cH e b.length):=by rw[H10.d,H9.d]
  rw[<- HE5.out,<- HR.a,hnow];have hn4:L2.n=L.n:=by rw[H4.c,HTb.c]
  have hl2:=H4.b.nowL;exact KH (by omega) (co e b.length) (by omega) H4.v
def dZ(S:AS)(ks:List Bs):zo:=ks.flatMap (fun l=>(af S.ps l).map (fun V=>(l,V)))
theorem kY(S:AS)(l:Bs):∀{ks:List Bs},ks.Nodup->((dZ S ks).filter (fun x=>decide (x.1=l))).map (·.2)=if l∈ks then af S.ps l else[]
 | [],_=>rfl
 | k::r,hn=>by
  obtain⟨n1,n2⟩:=nodup_cons.1 hn
  have ih:=kY S l n2
  unfold dZ at ih ⊢
  rw[flatMap_cons,filter_append,map_append,ih]
  by_cases h:k=l
  ·subst h
   have e:((af S.ps k).map (fun V=>(k,V))).filter (fun x=>decide (x.1=k))=(af S.ps k).map (fun V=>(k,V)):=filter_eq_self.2 (fun x hx=>by
    obtain⟨V,-,rfl⟩:=mem_map.1 hx;simp)
   rw[e,if_neg n1,if_pos (by simp),append_nil,map_map]
   exact map_id _
  ·have e:((af S.ps k).map (fun V=>(k,V))).filter (fun x=>decide (x.1=l))=[]:=filter_eq_nil_iff.2 (fun x hx=>by
    obtain⟨V,-,rfl⟩:=mem_map.1 hx;simpa using h)
   rw[e]
   have h2:¬l=k:=fun e=>h e.symm
   simp[h2]
theorem FQ(S:AS)(ks:List Bs):J3 S (dZ S ks)=ks.flatMap (pL S):=by
 unfold J3 dZ;rw[flatMap_assoc];refine gy (fun l _=>?_);rw[flatMap_map];rfl
def je(S:AS):Nat:=mL S.K+pU (dZ S (fP S.ps))+dV (S.ts.map eZ)
structure ColIn (S:AS):Prop where
 ok:ArOk S
 nd:(S.K.map (·.1)).Nodup
 vers:∀l,∀V∈af S.ps l,V.num<4294967296/\V.size<65536/\V.chs.length<=16000/\l.length<=20
 tags:∀t∈S.ts,t.key.length<=20/\t.g.1.length<=20/\0<=t.g.2/\t.g.2<4294967296
 held:∀l,∀V∈af S.ps l,V.held=(((S.ts.map eZ).countP (fun t=>decide (t.2.1=l/\t.2.2=(V.num:Int))):Nat):Int)
 cost:je S<=810000
 told:∃rs H,Told S rs H
 ep:S.X.ep+1<4294967296
 room:je S<=128*ay S.L.n
structure CollectIs (S S':AS):Prop where
 a:S'.a=S.a
 ok:ArOk S'
 d:S'.X.d=S.X.d
 quota:S'.X.quota=S.X.quota
 closed:S'.X.closed=S.X.closed
 used:S'.X.used=S.X.used
 trips:∀l,(af S'.ps l).map (cX S')=(af S.ps l).map (cX S)
 tags:(S'.ts.map jL).Perm (S.ts.map jL)
 views:∀l,(af S'.ps l).map (fF S'.K)=(af S.ps l).map (fF S.K)
 K:S'.K.map (·.1)=dU [] ((fP S.ps).flatMap (pL S))
 sc:S'.X.sc=S'.K.length
 sb:S'.X.sb=((S'.K.map (·.1.length)).sum:Nat)
 n:S'.L.n=S.L.n
 ep:S'.X.ep=S.X.ep+1
 chs:S'.L.chs=[]
 data:S'.data.length<=je S
 told:∃rs H,Told S' rs H
def Ag(S:AS)(B:CB)(L':DevL)(ab ch:Nat):AS :=
 ⟨S.a,{ S.X with pm:=B.pm,tm:=B.tm,cm:=B.cm,sc:=B.X.sc,sb:=B.X.sb,used:=B.X.used,ab:=ab,ep:=S.X.ep+1 },⟨2+(S.X.ep+1)%2*ay S.L.n,ay S.L.n,B.D.length,bF B.D,ch,[]⟩,L',B.ps,B.pc,B.cs,B.cc,B.ts,B.tc,B.D,B.s.K⟩
theorem Gy{now:Bs}{us:Nat->Option (Nat×Nat)}{e wh:Nat}{rest:List (Nat×Nat)}(h:∀k,k<2->wn now us k)(ho:jz (lE us 2)=(e,wh)::rest):aM now (e%2)=cH e wh/\e<4294967296/\wh<4294967296:=by
 have hm:(e,wh)∈lE us 2:=by
  have h1:(e,wh)∈jz (lE us 2):=by rw[ho];simp
  unfold jz at h1;split at h1
  ·rename_i u v hu;rw[hu];split at h1
   ·rcases mem_cons.1 h1 with h2|h2
    ·rw[h2];simp
    ·rw[mem_singleton.1 h2];simp
   ·exact h1
  ·exact h1
 unfold lE at hm;obtain⟨k,hk,hu⟩:=mem_filterMap.1 hm;rcases h k (by simpa using hk)with⟨h1,-⟩|⟨e',wh',h1,h2,h3,h4,h5⟩
 ·rw[hu]at h1;cases h1
 ·rw[hu]at h1;simp only[Option.some.injEq,Prod.mk.injEq]at h1;obtain⟨rfl,rfl⟩:=h1;rw[h3];exact⟨h2,h4,h5⟩
theorem Ji{now now':Bs}{e n m:Nat}(h:Sec now e n)(h1:aM now' ((e+1)%2)=cH (e+1) m)(h0:aM now' (e%2)=aM now (e%2))(he:e+1<4294967296)(hm:m<4294967296):Sec now' (e+1) m:=by
 obtain⟨us,wh,rest,u1,u2,-,-,-⟩:=h;obtain⟨s1,s2,s3⟩:=Gy u1 u2;rw[<- h0]at s1
 have hz:cD now' 2=false:=by
  unfold cD;refine decide_eq_false (fun hz=>D6 (e+1) m ?_);rw[<- h1];exact hz _ (by omega)
 rcases Nat.mod_two_eq_zero_or_one e with e0|e0
 ·have e1:(e+1)%2=1:=by omega
  rw[e1]at h1;rw[e0]at s1;refine⟨fun k=>if k=0 then some (e,wh)else some (e+1,m),m,[(e,wh)],fun k hk=>?_,?_,hz,Nat.le_refl _,hm⟩
  ·rcases(show k=0\/k=1 by omega)with rfl|rfl
   ·exact .inr ⟨e,wh,rfl,s1,e0,s2,s3⟩
   ·exact .inr ⟨e+1,m,rfl,h1,e1,he,hm⟩
  ·show jz [(e,wh),(e+1,m)]=_;exact if_pos (Nat.lt_succ_self e)
 ·have e1:(e+1)%2=0:=by omega
  rw[e1]at h1;rw[e0]at s1;refine⟨fun k=>if k=0 then some (e+1,m)else some (e,wh),m,[(e,wh)],fun k hk=>?_,?_,hz,Nat.le_refl _,hm⟩
  ·rcases(show k=0\/k=1 by omega)with rfl|rfl
   ·exact .inr ⟨e+1,m,rfl,h1,e1,he,hm⟩
   ·exact .inr ⟨e,wh,rfl,s1,e0,s2,s3⟩
  ·show jz [(e+1,m),(e,wh)]=_;exact if_neg (Nat.not_lt.2 (Nat.le_succ e))
theorem CY{S:AS}(hi:ColIn S){B:CB}{vb:Value}{td:List Tg}(h:CbOk S (dZ S (fP S.ps)) [] td B vb)(htd:td.Perm (S.ts.map eZ)){L':DevL}{ab ch:Nat}(hL:DevOk L')(hn:L'.n=S.L.n)(hch:L'.chs=[])(hdat:ez L'.now (2+(S.X.ep+1)%2*ay S.L.n) (ay S.L.n) B.D)(hsec:aM L'.now ((S.X.ep+1)%2)=cH (S.X.ep+1) B.D.length)(hoth:aM L'.now (S.X.ep%2)=aM S.L.now (S.X.ep%2)):CollectIs S (Ag S B L' ab ch):=by
 have hkn:(fP S.ps).Nodup:=by
  unfold fP kO;exact(mergeSort_perm _ _).nodup_iff.2 (by rw[<- cy];exact hi.ok.paths.map.nodup)
 have hviews:∀l,(af B.ps l).map (fF B.s.K)=(af S.ps l).map (fF S.K):=fun l=>by
  rw[h.hist l];have h1:=congrArg (List.map (fF S.K)) (kY S l hkn);rw[map_map]at h1;refine h1.trans ?_;split
  ·rfl
  ·rename_i hl
   have:af S.ps l=[]:=by
    cases hv:af S.ps l with
    | nil=>rfl
    | cons V r =>
     obtain⟨p,hp,hk,-⟩:=bD (S.ps |> fun _=>show af S.ps l≠[] by rw[hv];simp);exact absurd (nV.2 (mem_map.2 ⟨p,hp,hk⟩)) hl
   rw[this]
 have hin:∀x∈dZ S (fP S.ps),∀q∈x.2.chs,∃e∈S.K,e.2=q:=fun x hx q hq=>by
  obtain⟨l,-,hx⟩:=mem_flatMap.1 hx;obtain⟨V,hV,rfl⟩:=mem_map.1 hx;obtain⟨p,hp,-,hpg⟩:=bD (ne_nil_of_mem hV);exact(hi.ok.vers p hp V (hpg ▸ hV)).1 q hq
 have hct:dV td=dV (S.ts.map eZ):=by unfold dV;exact(htd.map _).sum_nat
 have hlen:B.D.length<=je S:=by
  have:=h.costs hin (fun c hc=>by cases hc);unfold je;omega
 have hcost:=hi.cost;have hok:=hi.ok
 have hused:B.X.used=S.X.used:=by
  obtain⟨rs,H,ht⟩:=hi.told;rw[h.ct.used,ht.used]
  have hp:=um (fun h:HV=>h.p) (·.size) (fun h:HV=>h.p) (·.size) (A:=B.s.H) (B:=H) (fun l=>by
   have e1:=congrArg (List.map (fun t:Fp=>t.2.1)) (h.ct.hist l);have e2:=congrArg (List.map (fun t:Fp=>t.2.1)) (ht.hist l);have e3:=congrArg (List.map (fun t:Nat×Nat×List Bs=>t.2.1)) (hviews l);rw[map_map,map_map]at e1 e2 e3;exact e1.symm.trans (e3.trans e2))
  have h2:=hp.map (·.2);rw[map_map,map_map]at h2;exact congrArg Int.ofNat h2.sum_nat
 have hkat:∀e∈B.s.K,e.2.2=e.1.length/\dw B.D e.2.1 e.1:=fun e he=>by
  obtain⟨h1,-,h3⟩:=h.ct.kat e he;rw[take_length]at h3;exact⟨h1,h3⟩
 have hok':ArOk (Ag S B L' ab ch):=by
  refine⟨hL,by show 16<=L'.n;rw[hn];exact hok.n16,by show L'.n<=_;rw[hn];exact hok.nmax,⟨lj _,Nat.zero_le _,fun s hs=>by cases hs⟩,?_,?_,rfl,rfl,hdat,h.ct.paths,h.ct.tags,h.ct.chunks,h.ct.kin,hkat,fun p hp V hV=>?_,h.ct.nem,hok.sound,hi.ep⟩
  ·show 2+(S.X.ep+1)%2*ay S.L.n=2+(S.X.ep+1)%2*ay L'.n;rw[hn]
  ·show ay S.L.n=ay L'.n;rw[hn]
  ·exact h.ct.vers (l:=p.key) (by rw[go h.ct.paths hp];exact hV)
 have hbody:∀(K:KL) (V:VerL),V.chs.flatMap (bq K)=(V.chs.map (bq K)).flatten:=fun K V=>flatMap_def
 have htell:∃rs H,Told (Ag S B L' ab ch) rs H:=by
  obtain⟨rs,r1,r2,r3⟩:=DR h.ct.reach (Nat.le_refl _);rw[take_length]at r2;refine⟨rs,B.s.H,r1,r2.symm,?_,h.ct.hist,?_,h.ct.used⟩
  ·rw[r3];show some B.s=some ⟨B.s.K,B.s.H,B.ts.map eZ⟩;rw[h.ct.tagT]
  ·obtain⟨rs,H,ht⟩:=hi.told;exact Ji ht.sec hsec hoth hi.ep (by show B.D.length<_;omega)
 refine⟨rfl,hok',rfl,rfl,rfl,hused,fun l=>?_,?_,hviews,?_,h.ct.sc,h.ct.sb,hn,rfl,hch,hlen,htell⟩
 ·have e1:(af B.ps l).map (cX (Ag S B L' ab ch))=((af B.ps l).map (fF B.s.K)).map (fun t=>((t.1:Int),t.2.2.flatten,((td.countP (fun u=>decide (u.2.1=l/\u.2.2=(t.1:Int))):Nat):Int))):=by
   rw[map_map];refine map_congr_left (fun V hV=>?_);show((V.num:Int),V.chs.flatMap (bq B.s.K),V.held)=((V.num:Int),(V.chs.map (bq B.s.K)).flatten,_);rw[hbody,h.held l V hV];rfl
  have e2:(af S.ps l).map (cX S)=((af S.ps l).map (fF S.K)).map (fun t=>((t.1:Int),t.2.2.flatten,((td.countP (fun u=>decide (u.2.1=l/\u.2.2=(t.1:Int))):Nat):Int))):=by
   rw[map_map];refine map_congr_left (fun V hV=>?_);show((V.num:Int),V.chs.flatMap (bq S.K),V.held)=((V.num:Int),(V.chs.map (bq S.K)).flatten,_);rw[hbody,hi.held l V hV,htd.countP_eq];rfl
  show(af B.ps l).map _=_;rw[e1,e2,hviews]
 ·show(B.ts.map jL).Perm _;have:B.ts.map jL=td:=by rw[<- h.tT,<- h.ct.tagT];rfl
  rw[this];exact htd
 ·show B.s.K.map _=_;rw[h.bod,append_nil,FQ]
theorem Told.costs{S:AS}{rs:j0}{H:List HV}(h:Told S rs H)(hok:ArOk S):je S<=S.data.length:=by
 have h1:=BK h.run (by simp)
 have hkn:(fP S.ps).Nodup:=by
  unfold fP kO;exact(mergeSort_perm _ _).nodup_iff.2 (by rw[<- cy];exact hok.paths.map.nodup)
 have hp:=um (fun x:Bs×VerL=>x.1) (·.2.chs.length) (fun h:HV=>h.p) (·.chs.length) (A:=dZ S (fP S.ps)) (B:=H) (fun l=>by
  have e1:=congrArg (List.map (fun V:VerL=>V.chs.length)) (kY S l hkn);have e2:=congrArg (List.map (fun t:Fp=>t.2.2.1.length)) (h.hist l);rw[map_map]at e1;rw[map_map,map_map]at e2;refine e1.trans (Eq.trans ?_ e2);split
  ·rfl
  ·rename_i hl
   have:af S.ps l=[]:=by
    cases hv:af S.ps l with
    | nil=>rfl
    | cons V r =>
     obtain⟨p,hp,hk,-⟩:=bD (show af S.ps l≠[] by rw[hv];simp);exact absurd (nV.2 (mem_map.2 ⟨p,hp,hk⟩)) hl
   rw[this];rfl)
 have h2:=(hp.map (fun t=>t.1.length+16+4*t.2)).sum_nat;rw[map_map,map_map]at h2;rw[h.data];unfold need at h1;unfold je pU;unfold tH at h1;simp only[Function.comp_def]at h2;rw[h2];simp only[mL,dV,map_nil,sum_nil]at h1 ⊢;omega
end
end Go.Proofs.YtdhobpbngkainabGreatDoor
