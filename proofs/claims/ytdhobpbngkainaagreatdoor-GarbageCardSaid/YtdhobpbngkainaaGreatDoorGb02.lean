/- Ours. A part of the proof, made small by a program. -/
import Derived.Test.YtdhobpbngkainaaGreatDoorGb01
set_option maxRecDepth 100000
set_option maxHeartbeats 16000000
namespace Go.Proofs.YtdhobpbngkainaaGreatDoor
open List Go.Proofs.Tryz
section
open Go.RowKit
def tB(w:World)(rb:Nat)(a:Option Addr)(n cap:Nat)(bad:Bool):Prop:=w.heap[rb]?=some (.cells #[.slice a n cap,.bool bad] 282 (0,0))
def Rd(w:World)(rb:Nat)(l:Bs)(bad:Bool):Prop:=∃a cap,tB w rb a l.length cap bad/\l.length<=cap/\ak w a (l.map am)/\∀x,a=some x->x.block<rb
def nB(rb:Nat)(l:Bs)(bad:Bool)(n:Nat)(w:World)(e:Ending)(w':World):Prop :=
 (bad=true\/l.length<n->e=.returned (.slice none 0 0)/\Rd w' rb l true) /\
 (bad=false->n<=l.length->(∃a cap,e=.returned (.slice a n cap)/\n<=cap/\ak w' a ((l.take n).map am)/\(∀x,a=some x->x.block<rb))/\Rd w' rb (l.drop n) false) /\
 N7 (fun k=>k=rb) w w'/\w'.heap.size=w.heap.size
theorem j9{w:World}{a:Option Addr}{l:Bs}(h:ak w a (l.map am))(n:Nat)(hn:n<=l.length):ak w a ((l.take n).map am):=fun hp=>by
 simp at hp
 obtain⟨g,off,ha,hc⟩:=h Nj
 refine⟨g,off,ha,fun j hj=>?_⟩
 have hj':j<n:=by simp at hj;omega
 rw[hc j Nj]
 simp
theorem fY{w:World}{g off:Nat}{l:Bs}(h:ak w (some ⟨g,off,none⟩) (l.map am))(n:Nat)(hn:n<=l.length):ak w (some ⟨g,off+n,none⟩) ((l.drop n).map am):=fun hp=>by
 simp at hp
 obtain⟨g',off',ha,hc⟩:=h Nj
 simp only[NY,Addr.mk.injEq,and_true]at ha
 obtain⟨rfl,rfl⟩:=ha
 refine⟨g,off+n,rfl,fun j hj=>?_⟩
 have hj':n+j<l.length:=by simp at hj;omega
 rw[Nat.add_assoc,hc (n+j) (by simpa using hj')]
 simp
theorem Ag{w:World}{a:Option Addr}{l:Bs}(h:ak w a (l.map am))(n:Nat)(hn:n<=l.length):ak w (a.map (·.add n)) ((l.drop n).map am):=fun hp=>by
 simp at hp
 obtain⟨g,off,rfl,hc⟩:=h Nj
 have:=fY (fun _=>⟨g,off,rfl,hc⟩) n hn (by simpa using hp)
 simpa[Addr.add_lit]using this
theorem Ex{a:Option Addr}{n rb:Nat}(h:∀x,a=some x->x.block<rb):∀x,a.map (·.add n)=some x->x.block<rb:=fun x hx=>by
 cases a with
 | none=>simp at hx
 | some y =>
  simp at hx;subst hx
  have:=h y rfl
  simpa[Addr.add,apply_ite Addr.block]using this
theorem dS(w:World)(a:Option Addr):ak w a (([]:Bs).map am):=fun hp=>by simp at hp
theorem FI(rb:Nat)(l:Bs)(bad:Bool)(n:Nat)(w:World)(h:Rd w rb l bad)(_:l.length<=1099511627776)(_:n<=1099511627776)(hb:bad=true\/l.length<n):
  Calls prog 158 #[.pointer (some ⟨rb,0,none⟩),.int .i64 n] w (nB rb l bad n w):=by
 obtain⟨a,cap,hr,hcap,hc,hne⟩:=h;have h0:=aa hr 0 (v:=.slice a l.length cap) Nh;have h1:=aa hr 1 (v:=.bool bad) Nh;have f1:=aY hr 1;have hset:=bq hr 1 (.bool true);have H:=OW hset hcap hc hne;clear hset hcap hc hne hr;rcases hb with rfl|hb
 ·go_enter func158,ntmps158;go_wp2;go_ret;obtain⟨hset,hcap,hc,hne⟩:=H.o;have hM:N7 (fun k=>k=rb) w (w.setCell ⟨rb,1,none⟩ (.bool true)):=(N7.refl _ w).set1 _;exact⟨fun _=>⟨rfl,a,cap,by unfold tB;rw[hset];rfl,hcap,hc.keep hM (fun _ _ e=>Nat.ne_of_lt (hne _ e)),hne⟩,(fun h=>by cases h),hM,Nh⟩
 ·cases bad
  ·have hg:decide (l.length<n)=true:=by simpa using hb
   have hg2:((n:Int)<=(l.length:Int))=False:=Nj
   go_enter func158,ntmps158;go_wp2;go_ret;obtain⟨hset,hcap,hc,hne⟩:=H.o;have hM:N7 (fun k=>k=rb) w (w.setCell ⟨rb,1,none⟩ (.bool true)):=(N7.refl _ w).set1 _;exact⟨fun _=>⟨rfl,a,cap,by unfold tB;rw[hset];rfl,hcap,hc.keep hM (fun _ _ e=>Nat.ne_of_lt (hne _ e)),hne⟩,(fun _ h=>by omega),hM,Nh⟩
  ·go_enter func158,ntmps158;go_wp2;go_ret;obtain⟨hset,hcap,hc,hne⟩:=H.o;have hM:N7 (fun k=>k=rb) w (w.setCell ⟨rb,1,none⟩ (.bool true)):=(N7.refl _ w).set1 _;exact⟨fun _=>⟨rfl,a,cap,by unfold tB;rw[hset];rfl,hcap,hc.keep hM (fun _ _ e=>Nat.ne_of_lt (hne _ e)),hne⟩,(fun h=>by cases h),hM,Nh⟩
theorem CY(rb:Nat)(l:Bs)(n:Nat)(w:World)(h:Rd w rb l false)(_:l.length<=1099511627776)(hn:n<=l.length):
  Calls prog 158 #[.pointer (some ⟨rb,0,none⟩),.int .i64 n] w (nB rb l false n w):=by
 obtain⟨a,cap,hr,hcap,hc,hne⟩:=h;have h0:=aa hr 0 (v:=.slice a l.length cap) Nh;have h1:=aa hr 1 (v:=.bool false) Nh;have f0:=aY hr 0;have hset:=fun v=>bq hr 0 v
 have H:=OW hset hcap hc hne;have hg:decide (l.length<n)=false:=Nj
 clear hset hc hne hr;go_enter func158,ntmps158;go_wp2
 all_goals
  go_ret;obtain⟨hset,hcap',hc,hne⟩:=H.o
 ·have hln:l.length=n:=Nb
  have hM:N7 (fun k=>k=rb) w (w.setCell ⟨rb,0,none⟩ (.slice a (l.length-n) 0)):=(N7.refl _ w).set1 _;have hd:l.drop n=[]:=drop_of_length_le Nb;refine⟨fun h=>by rcases h with h|h;cases h;omega,fun _ _=>⟨⟨a,n,rfl,Nat.le_refl _,(j9 hc n hn).keep hM (fun _ _ e=>Nat.ne_of_lt (hne _ e)),hne⟩,a,0,?_,?_,by rw[hd];exact dS _ _,hne⟩,hM,Nh⟩
  ·unfold tB;rw[hset];simp
  ·simp;omega
 ·have hM:N7 (fun k=>k=rb) w (w.setCell ⟨rb,0,none⟩ (.slice (Option.map (fun x=>x.add n) a) (l.length-n) (cap-n))):=(N7.refl _ w).set1 _;refine⟨fun h=>by rcases h with h|h;cases h;omega,fun _ _=>⟨⟨a,cap,rfl,Nb,(j9 hc n hn).keep hM (fun _ _ e=>Nat.ne_of_lt (hne _ e)),hne⟩,Option.map (fun x=>x.add n) a,cap-n,?_,?_,(Ag hc n hn).keep hM (fun _ _ e=>Nat.ne_of_lt (Ex hne _ e)),Ex hne⟩,hM,Nh⟩
  ·unfold tB;rw[hset];simp
  ·simp;omega
theorem rX(rb:Nat)(l:Bs)(bad:Bool)(n:Nat)(w:World)(h:Rd w rb l bad)(hl:l.length<=1099511627776)(hn:n<=1099511627776):
  Calls prog 158 #[.pointer (some ⟨rb,0,none⟩),.int .i64 n] w (nB rb l bad n w):=by
 by_cases hb:bad=true\/l.length<n
 ·exact FI rb l bad n w h hl hn hb
 ·have hbad:bad=false:=by cases bad<;>simp_all
  subst hbad;exact CY rb l n w h hl (by simp at hb;exact hb)
def dl(l:Bs)(bad:Bool)(n:Nat):Nat:=if bad=true\/l.length<n then 0 else bz (l.take n)
def fd(l:Bs)(bad:Bool)(n:Nat):Bool:=bad || decide (l.length<n)
def eR(l:Bs)(bad:Bool)(n:Nat):Bs:=if bad=true\/l.length<n then l else l.drop n
def iZ(rb:Nat)(l:Bs)(bad:Bool)(n:Nat)(w:World)(e:Ending)(w':World):Prop :=
 e=.returned (.int .i64 (dl l bad n))/\Rd w' rb (eR l bad n) (fd l bad n)/\N7 (fun k=>k=rb) w w'/\w'.heap.size=w.heap.size
theorem ow{rb:Nat}{l:Bs}{bad:Bool}{n:Nat}{w w':World}{e:Ending}(h:nB rb l bad n w e w'):
  ∃a cap bs,e=.returned (.slice a bs.length cap)/\ak w' a (bs.map am)/\(∀x,a=some x->x.block<rb)/\bs=(if bad=true\/l.length<n then[]else l.take n)/\Rd w' rb (eR l bad n) (fd l bad n)/\N7 (fun k=>k=rb) w w'/\w'.heap.size=w.heap.size:=by
 obtain⟨h1,h2,h3,h4⟩:=h;by_cases hb:bad=true\/l.length<n
 ·obtain⟨he,hr⟩:=h1 hb;refine⟨none,0,[],he,dS _ _,fun _ h=>(by cases h),by rw[NR hb],?_,h3,h4⟩;have e2:fd l bad n=true:=by unfold fd;rcases hb with rfl|hb;rfl;simp[hb]
  rw[e2];unfold eR;rw[NR hb];exact hr
 ·have hbad:bad=false:=by cases bad<;>simp_all
  have hn:n<=l.length:=by simp at hb;omega
  obtain⟨⟨a,cap,he,hc,hca,hne⟩,hr⟩:=h2 hbad hn;have hl:(l.take n).length=n:=Nj
  refine⟨a,cap,l.take n,by rw[hl];exact he,hca,hne,by rw[NQ hb],?_,h3,h4⟩;have e2:fd l bad n=false:=by unfold fd;rw[hbad];simp;omega
  rw[e2];unfold eR;rw[NQ hb];exact hr
theorem gr(a b:Nat)(ha:a*256+b<9223372036854775808)(hb:b<256):bits BinOp.or IntKind.i64 ((a:Int)*256) (b:Int)=((a*256+b:Nat):Int):=by
 have e1:(BitVec.ofInt 64 ((a:Int)*256)).toNat=a*256:=by
  rw[show((a:Int)*256)=((a*256:Nat):Int) by omega,BitVec.ofInt_natCast,BitVec.toNat_ofNat];exact Nat.mod_eq_of_lt Nb
 have e2:(BitVec.ofInt 64 (b:Int)).toNat=b:=by rw[BitVec.ofInt_natCast,BitVec.toNat_ofNat];exact Nat.mod_eq_of_lt Nb
 show IntKind.i64.wrap ((BitVec.ofInt 64 ((a:Int)*256) ||| BitVec.ofInt 64 (b:Int)).toNat:Int)=_
 have e3:a*256 ||| b=a*256+b:=by
  have:=Nat.two_pow_add_eq_or_of_lt (i:=8) hb a;rw[show(256:Nat)=2 ^ 8 from rfl,Nat.mul_comm];exact this.symm
 rw[BitVec.toNat_or,e1,e2,e3];unfold IntKind.wrap;simp[IntKind.bits,IntKind.signed];omega
theorem dm(rb:Nat)(l:Bs)(bad:Bool)(n:Nat)(w:World)(h:Rd w rb l bad)(hl:l.length<=1099511627776)(hn:n<=7):
  Calls prog 139 #[.pointer (some ⟨rb,0,none⟩),.int .i64 n] w (iZ rb l bad n w):=by
 have H:=NZ (rX rb l bad n w h hl Nb);clear h;go_enter func139,ntmps139;go_wp2_with fail;refine H.o.mono ?_;rintro e w1 hp;obtain⟨a,cap,bs,rfl,hca,hne,hbs,hr,hM,hsz⟩:=ow hp;have hbl:bs.length<=7:=by rw[hbs];split<;>simp;omega
 have H1:=PD hca hbs hr hM hsz;clear hp H hca hbs hr hM hsz hne;go_wp2_with fail;go_loop [5,12] (fun v i=>∃j:Nat,j<=bs.length/\i=.int .i64 j/\v=.int .i64 (bz (bs.take j))) (fun _ i=>bs.length-(intOf i).toNat)
 case atStart=>exact⟨0,Nat.zero_le _,rfl,rfl⟩
 case round =>
  obtain⟨j,hj,rfl,rfl⟩:=hrel;by_cases hlt:j<bs.length
  ·obtain⟨g,off,rfl,hc⟩:=H1.a Nj;have hcj:=hc j (by simpa using hlt);simp only[getElem_map]at hcj;unfold am at hcj;have h8:=UInt8.toNat_lt bs[j]
   have hlb:bz (bs.take j)<281474976710656:=by
    have:=fU (bs.take j);have h2:(bs.take j).length<=6:=Nj
    have h3:(256:Nat) ^ (bs.take j).length<=256 ^ 6:=Nat.pow_le_pow_right Nb h2;omega
   have hor:=gr (bz (bs.take j)) bs[j].toNat Nb h8;have hnx:bz (bs.take (j+1))=bz (bs.take j)*256+bs[j].toNat:=by rw[QH hlt,oV]
   have HN:=NZ hnx;clear hc hnx;generalize bs[j].toNat=x at *
   generalize bz (bs.take j)=q at *
   go_wp2_with fail;exact⟨⟨j+1,Nb,by go_num,by rw[HN.o];congr 1⟩,by simp[intOf];omega⟩
  ·obtain rfl:j=bs.length:=Nb
   go_wp2_with fail;go_ret;obtain⟨hca,hbs,hr,hM,hsz⟩:=H1.o;refine⟨EZ ?_,hr,hM,hsz⟩;rw[hbs];unfold dl;split<;>rfl
def ln(w:World)(e:Ending)(w':World):Prop:=e=.returned (.tuple #[.int .u8 0,.slice none 0 0,.int .i64 0])/\aV w w'
def zz(a:Option Addr)(k:UInt8)(body:Bs)(n:Nat)(w:World)(e:Ending)(w':World):Prop :=
 ∃a',e=.returned (.tuple #[.int .u8 k.toNat,.slice a' body.length body.length,.int .i64 n])/\ak w' a' (body.map am)/\(∀x,a'=some x->∃y,a=some y/\x.block=y.block)/\aV w w'
def eb(a:Option Addr)(b:Bs)(w:World)(e:Ending)(w':World):Prop :=
 match b5 b with
 | none=>ln w e w'
 | some (k,body,n)=>zz a k body n w e w'
theorem FF(x:Nat)(h:x<256):bits BinOp.xor IntKind.u8 IntKind.u8.max (x:Int)=((255-x:Nat):Int):=by
 have:∀y:Fin 256,bits BinOp.xor IntKind.u8 IntKind.u8.max ((y.1:Nat):Int)=((255-y.1:Nat):Int):=by decide +kernel
 exact this ⟨x,h⟩
theorem fV(x y:Nat)(h:x<256)(hy:255-x=y):bits BinOp.xor IntKind.u8 (if IntKind.u8.signed=true then -1 else IntKind.u8.max) (x:Int)=(y:Int):=by
 subst hy;exact FF x h
theorem DC(a:Option Addr)(cap:Nat)(b:Bs)(w:World)(hb:b.length<9):Calls prog 97 #[.slice a b.length cap] w (ln w):=by
 have hg:decide ((b.length:Int)<9)=true:=Nj
 go_enter func97,ntmps97;go_wp2;go_ret3;exact⟨rfl,N7.refl _ _⟩
theorem Gn(g off:Nat)(cap:Nat)(b:Bs)(w:World)(hb:9<=b.length)(hl:b.length<=1099511627776)(h0:w.cell? ⟨g,off+0,none⟩=some (.int .u8 0)):Calls prog 97 #[.slice (some ⟨g,off,none⟩) b.length cap] w (ln w):=by
 have hg:decide ((b.length:Int)<9)=false:=Nj
 have hp:(0:Int)<b.length:=Nb
 have h0':w.cell? ⟨g,off,none⟩=some (.int .u8 0):=h0;go_enter func97,ntmps97;go_wp2;go_ret3;exact⟨rfl,N7.refl _ _⟩
theorem sY{w:World}{g off cap r m n:Nat}{b:Bs}(hc:ak w (some ⟨g,off,none⟩) (b.map am))(hr:r<=b.length)(hcap:b.length<=cap)(hg:g<w.heap.size)(hn:n=b.length-r):
  Rd ((w.drewN m).alloc (.cells #[.slice (some ⟨g,off+r,none⟩) n (cap-r),.bool false] 282)) w.heap.size (b.drop r) false/\aV w ((w.drewN m).alloc (.cells #[.slice (some ⟨g,off+r,none⟩) n (cap-r),.bool false] 282)):=by
 have hs:aV w ((w.drewN m).alloc (.cells #[.slice (some ⟨g,off+r,none⟩) n (cap-r),.bool false] 282)):=((N7.refl _ w).drewN m).alloc _;have hl:(b.drop r).length=n:=Nj
 refine⟨⟨_,cap-r,?_,Nb,(fY hc r hr).keep hs (fun _ _ _=>id),fun x hx=>?_⟩,hs⟩
 ·unfold tB;rw[hl];exact aM (w.drewN m) _
 ·simp at hx;subst hx;show g<_;omega
theorem Jo(g off:Nat)(cap:Nat)(b:Bs)(w:World)(b0 b1 b2 b3 b4:Nat)(hb:9<=b.length)(hl:b.length<=1099511627776)(h0:w.cell? ⟨g,off,none⟩=some (.int .u8 b0))(hb0:b0≠0)(h1:w.cell? ⟨g,off+1,none⟩=some (.int .u8 b1))(h2:w.cell? ⟨g,off+2,none⟩=some (.int .u8 b2))(h3:w.cell? ⟨g,off+3,none⟩=some (.int .u8 b3))(h4:w.cell? ⟨g,off+4,none⟩=some (.int .u8 b4))(l1:b1<256)(l2:b2<256)(l3:b3<256)(l4:b4<256)(hne:b1*256+b2≠(255-b3)*256+(255-b4)):Calls prog 97 #[.slice (some ⟨g,off,none⟩) b.length cap] w (ln w):=by
 have hg:decide ((b.length:Int)<9)=false:=Nj
 have hp:(0:Int)<b.length:=Nb
 have hp1:(1:Int)<b.length:=Nb
 have hp2:(2:Int)<b.length:=Nb
 have hp3:(3:Int)<b.length:=Nb
 have Vs:(4:Int)<b.length:=Nb
 have hz:((b0:Int)==0)=false:=Nj
 have o1:=gr b1 b2 Nb l2;obtain⟨c3,hc3⟩:∃c:Nat,255-b3=c:=⟨_,rfl⟩;obtain⟨c4,hc4⟩:∃c:Nat,255-b4=c:=⟨_,rfl⟩;have n3:=fV b3 c3 l3 hc3;have n4:=fV b4 c4 l4 hc4;have l3':c3<256:=Nb
 have l4':c4<256:=Nb
 rw[hc3,hc4]at hne;clear hc3 hc4;have o2:=gr c3 c4 Nb Nb;obtain⟨mm,hmm⟩:∃mm:Nat,c3*256+c4=mm:=⟨_,rfl⟩;rw[hmm]at o2 hne;obtain⟨nn,hnn⟩:∃nn:Nat,b1*256+b2=nn:=⟨_,rfl⟩;rw[hnn]at o1 hne;have hq:((nn:Int) != (mm:Int))=true:=by simp only[bne_iff_ne];omega
 have HN:=NZ hnn;clear hmm hnn hne;go_enter func97,ntmps97;go_wp2_with fail;go_quiet (fail);go_wp2_with fail;have k3:(w.drewN nq).cell? ⟨g,off+3,none⟩=some (.int .u8 b3):=h3;have k4:(w.drewN nq).cell? ⟨g,off+4,none⟩=some (.int .u8 b4):=h4;clear o1 h0 h1 h2 hz hp hp1 hp2;go_quiet (fail);go_wp2_with fail;go_ret3;exact⟨rfl,((N7.refl _ w).drewN _).drewN _⟩
theorem Gm(g off:Nat)(cap:Nat)(b:Bs)(w:World)(b0 b1 b2 b3 b4:Nat)(hb:9<=b.length)(hl:b.length<=1099511627776)(h0:w.cell? ⟨g,off,none⟩=some (.int .u8 b0))(hb0:b0≠0)(h1:w.cell? ⟨g,off+1,none⟩=some (.int .u8 b1))(h2:w.cell? ⟨g,off+2,none⟩=some (.int .u8 b2))(h3:w.cell? ⟨g,off+3,none⟩=some (.int .u8 b3))(h4:w.cell? ⟨g,off+4,none⟩=some (.int .u8 b4))(l1:b1<256)(l2:b2<256)(l3:b3<256)(l4:b4<256)(hne:b1*256+b2=(255-b3)*256+(255-b4))(hsz:b.length<b1*256+b2+9):Calls prog 97 #[.slice (some ⟨g,off,none⟩) b.length cap] w (ln w):=by
 have hg:decide ((b.length:Int)<9)=false:=Nj
 have hp:(0:Int)<b.length:=Nb
 have hp1:(1:Int)<b.length:=Nb
 have hp2:(2:Int)<b.length:=Nb
 have hp3:(3:Int)<b.length:=Nb
 have Vs:(4:Int)<b.length:=Nb
 have hz:((b0:Int)==0)=false:=Nj
 have o1:=gr b1 b2 Nb l2;obtain⟨c3,hc3⟩:∃c:Nat,255-b3=c:=⟨_,rfl⟩;obtain⟨c4,hc4⟩:∃c:Nat,255-b4=c:=⟨_,rfl⟩;have n3:=fV b3 c3 l3 hc3;have n4:=fV b4 c4 l4 hc4;have l3':c3<256:=Nb
 have l4':c4<256:=Nb
 rw[hc3,hc4]at hne;clear hc3 hc4;have o2:=gr c3 c4 Nb Nb;obtain⟨mm,hmm⟩:∃mm:Nat,c3*256+c4=mm:=⟨_,rfl⟩;rw[hmm]at o2 hne;obtain⟨nn,hnn⟩:∃nn:Nat,b1*256+b2=nn:=⟨_,rfl⟩;rw[hnn]at o1 hne;rw[hnn]at hsz;subst hne;have hq:((nn:Int) != (nn:Int))=false:=Nh
 have hlt:decide ((b.length:Int)<(nn:Int)+9)=true:=Nj
 have Xm:nn<65536:=Nb
 have HN:=NZ hnn;clear hmm hnn;go_enter func97,ntmps97;go_wp2_with fail;go_quiet (fail);go_wp2_with fail;have k3:(w.drewN nq).cell? ⟨g,off+3,none⟩=some (.int .u8 b3):=h3;have k4:(w.drewN nq).cell? ⟨g,off+4,none⟩=some (.int .u8 b4):=h4;clear o1 h0 h1 h2 hz hp hp1 hp2;go_quiet ((go_at_call 79;exact(gW _ Nb Nb _).mono (fun e w' ⟨he,hw⟩=>⟨he,_,hw.symm⟩)));go_wp2_with fail;go_ret3;exact⟨rfl,((N7.refl _ w).drewN _).drewN _⟩
theorem Jp(g off:Nat)(cap:Nat)(b:Bs)(w:World)(b0 b1 b2 b3 b4:Nat)(hb:9<=b.length)(hl:b.length<=1099511627776)(h0:w.cell? ⟨g,off,none⟩=some (.int .u8 b0))(hb0:b0≠0)(h1:w.cell? ⟨g,off+1,none⟩=some (.int .u8 b1))(h2:w.cell? ⟨g,off+2,none⟩=some (.int .u8 b2))(h3:w.cell? ⟨g,off+3,none⟩=some (.int .u8 b3))(h4:w.cell? ⟨g,off+4,none⟩=some (.int .u8 b4))(l1:b1<256)(l2:b2<256)(l3:b3<256)(l4:b4<256)(hne:b1*256+b2=(255-b3)*256+(255-b4))(hsz:b1*256+b2+9<=b.length)(hcap:b.length<=cap)(k0:UInt8)(hk0:k0.toNat=b0)(hc:ak w (some ⟨g,off,none⟩) (b.map am))(body:Bs)(hbody:body=(b.drop 5).take (b1*256+b2))(hsum:bz ((b.drop (5+(b1*256+b2))).take 4)≠dz k0 body):Calls prog 97 #[.slice (some ⟨g,off,none⟩) b.length cap] w (ln w):=by
 have hg:decide ((b.length:Int)<9)=false:=Nj
 have hp:(0:Int)<b.length:=Nb
 have hp1:(1:Int)<b.length:=Nb
 have hp2:(2:Int)<b.length:=Nb
 have hp3:(3:Int)<b.length:=Nb
 have Vs:(4:Int)<b.length:=Nb
 have hz:((b0:Int)==0)=false:=Nj
 have o1:=gr b1 b2 Nb l2;obtain⟨c3,hc3⟩:∃c:Nat,255-b3=c:=⟨_,rfl⟩;obtain⟨c4,hc4⟩:∃c:Nat,255-b4=c:=⟨_,rfl⟩;have n3:=fV b3 c3 l3 hc3;have n4:=fV b4 c4 l4 hc4;have l3':c3<256:=Nb
 have l4':c4<256:=Nb
 rw[hc3,hc4]at hne;clear hc3 hc4;have o2:=gr c3 c4 Nb Nb;obtain⟨mm,hmm⟩:∃mm:Nat,c3*256+c4=mm:=⟨_,rfl⟩;rw[hmm]at o2 hne;obtain⟨nn,hnn⟩:∃nn:Nat,b1*256+b2=nn:=⟨_,rfl⟩;rw[hnn]at o1 hne;rw[hnn]at hsz;subst hne;have hq:((nn:Int) != (nn:Int))=false:=Nh
 have hlt:decide ((b.length:Int)<(nn:Int)+9)=false:=Nj
 have Xm:nn<65536:=Nb
 rw[hnn]at hbody hsum;have hgl:g<w.heap.size:=World.block_lt_of_cell? w _ h0;have hbl:body.length=nn:=by rw[hbody];simp;omega
 have hrl:(b.drop (5+nn)).length=b.length-(5+nn):=Nh
 have hcb:=j9 (fY hc 5 Nb) nn Nj;have hcr:=fY hc (5+nn) Nb;rw[<- hbody]at hcb;have hr4:dl (b.drop (5+nn)) false 4=bz ((b.drop (5+nn)).take 4):=by unfold dl;rw[NQ Nj]
 have hr4l:bz ((b.drop (5+nn)).take 4)<4294967296:=by
  have:=fU ((b.drop (5+nn)).take 4);have h2:(256:Nat) ^ ((b.drop (5+nn)).take 4).length<=256 ^ 4:=Nat.pow_le_pow_right Nb Nj;omega
 have hsl:=nj k0 body;have HB:=Ry hcb hcr hr4 hbl hc hrl hk0;clear hcb hcr hr4 hbl hc hbody hrl hk0;have HN:=NZ hnn;clear hmm hnn;go_enter func97,ntmps97;go_wp2_with fail;go_quiet (fail);go_wp2_with fail;have k3:(w.drewN nq).cell? ⟨g,off+3,none⟩=some (.int .u8 b3):=h3;have k4:(w.drewN nq).cell? ⟨g,off+4,none⟩=some (.int .u8 b4):=h4;clear o1 h1 h2 hz hp1 hp2;obtain⟨m1,rfl⟩:=Na nq;go_quiet ((go_at_call 79;exact(gW _ Nb Nb _).mono (fun e w' ⟨he,hw⟩=>⟨he,_,hw.symm⟩)));obtain⟨m2,rfl⟩:=Na nq;rcases Nat.eq_zero_or_pos nn with hn0|hn0
 ·subst hn0;simp only[Nat.add_zero]at *
  go_wp2_with fail;obtain⟨hrd,hs1⟩:=sY (m:=m1+m2) HB.e (r:=5) Nb hcap hgl rfl;generalize ((w.drewN (m1+m2)).alloc (.cells #[.slice (some ⟨g,off+5,none⟩) (b.length-5) (cap-5),.bool false] 282))=W1 at hrd hs1 ⊢;generalize hrb:w.heap.size=rb at hrd hgl ⊢;have hk1:W1.cell? ⟨g,off,none⟩=some (.int .u8 b0):=by rw[World.cell?_of_block (hs1.block g Nb id)];exact h0
  have RP:ak W1 (some ⟨g,off,none⟩) (body.map am):=(by rw[eq_nil_of_length_eq_zero HB.d];exact dS _ _);have HR:=OW hrd hs1 hrb RP;clear hrd hs1 hrb RP;have hw4:IntKind.u32.wrap ((bz ((b.drop 5).take 4):Nat):Int)=((bz ((b.drop 5).take 4):Nat):Int):=by rw[IntKind.wrap_u32];omega
  have hne:(((bz ((b.drop 5).take 4):Nat):Int) != ((dz k0 body:Nat):Int))=true:=by simp only[bne_iff_ne];omega
  generalize bz ((b.drop 5).take 4)=x at *
  have hp0:0<b.length:=Nb
  have TJ:Hid (∀W:World,ak W (some ⟨g,off,none⟩) (body.map am)->Calls prog 128 #[.int .u8 b0,.slice (some ⟨g,off,none⟩) 0 0] W (pM k0 body W)):=NZ (fun W h=>by
   have:=jR (some ⟨g,off,none⟩) 0 k0 body W h (by have:=HB.d;omega);rwa [HB.d,HB.u]at this)
  have TI:=NZ (fun(W:World) (h:Rd W rb (b.drop 5) false)=>(show Calls prog 139 #[.pointer (some ⟨rb,0,none⟩),.int .i64 4] W (iZ rb (b.drop 5) false 4 W)from dm rb (b.drop 5) false 4 W h Nj Nb));go_region_held3 (fun w'=>w'.cell? ⟨g,off,none⟩=some (.int .u8 b0)) (first|exact hk1|exact hk2|exact hk3) (first|(go_at_call 139;refine(TI.o _ (by exact HR.a)).mono ?_;rintro e w2 ⟨rfl,hr2,hM2,hz2⟩;rw[HB.c];have hk2:w2.cell? ⟨g,off,none⟩=some (.int .u8 b0):=(World.cell?_of_block (hM2.block g (by have:=HR.b.size;have:=HR.c;show g<W1.heap.size;omega) Nb)).trans hk1;have H2:=Ob hM2 hz2;clear hr2 hM2 hz2)|(go_at_call 128;refine(TJ.o _ (ak.keep (w:=W1.drew) (by exact HR.x) H2.a (fun g' off' e=>by simp at e;omega))).mono ?_;rintro e w3 ⟨rfl,hs3⟩;have hk3:w3.cell? ⟨g,off,none⟩=some (.int .u8 b0):=(World.cell?_of_block (hs3.block g (World.block_lt_of_cell? w2 _ hk2) id)).trans hk2;have H3:=NZ hs3;clear hs3));go_wp2_with fail;go_ret3;exact⟨rfl,(HR.b.trans' ((N7.refl _ W1).drew.trans H2.a) (fun i hi=>.inr (by have:=HR.c;omega))).trans' H3.o (fun i hi=>hi.elim)⟩
 ·go_wp2_with fail;obtain⟨hrd,hs1⟩:=sY (m:=m1+m2) HB.e (r:=5+nn) Nb hcap hgl rfl;generalize ((w.drewN (m1+m2)).alloc (.cells #[.slice (some ⟨g,off+(5+nn),none⟩) (b.length-(5+nn)) (cap-(5+nn)),.bool false] 282))=W1 at hrd hs1 ⊢;generalize hrb:w.heap.size=rb at hrd hgl ⊢;have hk1:W1.cell? ⟨g,off,none⟩=some (.int .u8 b0):=by rw[World.cell?_of_block (hs1.block g Nb id)];exact h0
  have RP:ak W1 (some ⟨g,off+5,none⟩) (body.map am):=HB.a.keep hs1 (fun _ _ _=>id);have HR:=OW hrd hs1 hrb RP;clear hrd hs1 hrb RP;have hw4:IntKind.u32.wrap ((bz ((b.drop (5+nn)).take 4):Nat):Int)=((bz ((b.drop (5+nn)).take 4):Nat):Int):=by rw[IntKind.wrap_u32];omega
  have hne:(((bz ((b.drop (5+nn)).take 4):Nat):Int) != ((dz k0 body:Nat):Int))=true:=by simp only[bne_iff_ne];omega
  generalize bz ((b.drop (5+nn)).take 4)=x at *
  have hp0:0<b.length:=Nb
  have TJ:Hid (∀W:World,ak W (some ⟨g,off+5,none⟩) (body.map am)->Calls prog 128 #[.int .u8 b0,.slice (some ⟨g,off+5,none⟩) nn nn] W (pM k0 body W)):=NZ (fun W h=>by
   have:=jR (some ⟨g,off+5,none⟩) nn k0 body W h (by have:=HB.d;omega);rwa [HB.d,HB.u]at this)
  have TI:=NZ (fun(W:World) (h:Rd W rb (b.drop (5+nn)) false)=>(show Calls prog 139 #[.pointer (some ⟨rb,0,none⟩),.int .i64 4] W (iZ rb (b.drop (5+nn)) false 4 W)from dm rb (b.drop (5+nn)) false 4 W h Nj Nb));go_region_held3 (fun w'=>w'.cell? ⟨g,off,none⟩=some (.int .u8 b0)) (first|exact hk1|exact hk2|exact hk3) (first|(go_at_call 139;refine(TI.o _ (by exact HR.a)).mono ?_;rintro e w2 ⟨rfl,hr2,hM2,hz2⟩;rw[HB.c];have hk2:w2.cell? ⟨g,off,none⟩=some (.int .u8 b0):=(World.cell?_of_block (hM2.block g (by have:=HR.b.size;have:=HR.c;show g<W1.heap.size;omega) Nb)).trans hk1;have H2:=Ob hM2 hz2;clear hr2 hM2 hz2)|(go_at_call 128;refine(TJ.o _ (ak.keep (w:=W1.drew) (by exact HR.x) H2.a (fun g' off' e=>by simp at e;omega))).mono ?_;rintro e w3 ⟨rfl,hs3⟩;have hk3:w3.cell? ⟨g,off,none⟩=some (.int .u8 b0):=(World.cell?_of_block (hs3.block g (World.block_lt_of_cell? w2 _ hk2) id)).trans hk2;have H3:=NZ hs3;clear hs3));go_wp2_with fail;go_ret3;exact⟨rfl,(HR.b.trans' ((N7.refl _ W1).drew.trans H2.a) (fun i hi=>.inr (by have:=HR.c;omega))).trans' H3.o (fun i hi=>hi.elim)⟩
theorem KU(g off:Nat)(cap:Nat)(b:Bs)(w:World)(b0 b1 b2 b3 b4:Nat)(hb:9<=b.length)(hl:b.length<=1099511627776)(h0:w.cell? ⟨g,off,none⟩=some (.int .u8 b0))(hb0:b0≠0)(h1:w.cell? ⟨g,off+1,none⟩=some (.int .u8 b1))(h2:w.cell? ⟨g,off+2,none⟩=some (.int .u8 b2))(h3:w.cell? ⟨g,off+3,none⟩=some (.int .u8 b3))(h4:w.cell? ⟨g,off+4,none⟩=some (.int .u8 b4))(l1:b1<256)(l2:b2<256)(l3:b3<256)(l4:b4<256)(hne:b1*256+b2=(255-b3)*256+(255-b4))(hsz:b1*256+b2+9<=b.length)(hcap:b.length<=cap)(k0:UInt8)(hk0:k0.toNat=b0)(hc:ak w (some ⟨g,off,none⟩) (b.map am))(body:Bs)(hbody:body=(b.drop 5).take (b1*256+b2))(hsum:bz ((b.drop (5+(b1*256+b2))).take 4)=dz k0 body):Calls prog 97 #[.slice (some ⟨g,off,none⟩) b.length cap] w (zz (some ⟨g,off,none⟩) k0 body (b1*256+b2+9) w):=by
 have hg:decide ((b.length:Int)<9)=false:=Nj
 have hp:(0:Int)<b.length:=Nb
 have hp1:(1:Int)<b.length:=Nb
 have hp2:(2:Int)<b.length:=Nb
 have hp3:(3:Int)<b.length:=Nb
 have Vs:(4:Int)<b.length:=Nb
 have hz:((b0:Int)==0)=false:=Nj
 have o1:=gr b1 b2 Nb l2;obtain⟨c3,hc3⟩:∃c:Nat,255-b3=c:=⟨_,rfl⟩;obtain⟨c4,hc4⟩:∃c:Nat,255-b4=c:=⟨_,rfl⟩;have n3:=fV b3 c3 l3 hc3;have n4:=fV b4 c4 l4 hc4;have l3':c3<256:=Nb
 have l4':c4<256:=Nb
 rw[hc3,hc4]at hne;clear hc3 hc4;have o2:=gr c3 c4 Nb Nb;obtain⟨mm,hmm⟩:∃mm:Nat,c3*256+c4=mm:=⟨_,rfl⟩;rw[hmm]at o2 hne;obtain⟨nn,hnn⟩:∃nn:Nat,b1*256+b2=nn:=⟨_,rfl⟩;rw[hnn]at o1 hne;rw[hnn]at hsz;subst hne;have hq:((nn:Int) != (nn:Int))=false:=Nh
 have hlt:decide ((b.length:Int)<(nn:Int)+9)=false:=Nj
 have Xm:nn<65536:=Nb
 rw[hnn]at hbody hsum;have hgl:g<w.heap.size:=World.block_lt_of_cell? w _ h0;have hbl:body.length=nn:=by rw[hbody];simp;omega
 have hrl:(b.drop (5+nn)).length=b.length-(5+nn):=Nh
 have hcb:=j9 (fY hc 5 Nb) nn Nj;have hcr:=fY hc (5+nn) Nb;rw[<- hbody]at hcb;have hr4:dl (b.drop (5+nn)) false 4=bz ((b.drop (5+nn)).take 4):=by unfold dl;rw[NQ Nj]
 have hr4l:bz ((b.drop (5+nn)).take 4)<4294967296:=by
  have:=fU ((b.drop (5+nn)).take 4);have h2:(256:Nat) ^ ((b.drop (5+nn)).take 4).length<=256 ^ 4:=Nat.pow_le_pow_right Nb Nj;omega
 have hsl:=nj k0 body;have HB:=Ry hcb hcr hr4 hbl hc hrl hk0;clear hcb hcr hr4 hbl hc hbody hrl hk0;have HN:=NZ hnn;clear hmm hnn;go_enter func97,ntmps97;go_wp2_with fail;go_quiet (fail);go_wp2_with fail;have k3:(w.drewN nq).cell? ⟨g,off+3,none⟩=some (.int .u8 b3):=h3;have k4:(w.drewN nq).cell? ⟨g,off+4,none⟩=some (.int .u8 b4):=h4;clear o1 h1 h2 hz hp1 hp2;obtain⟨m1,rfl⟩:=Na nq;go_quiet ((go_at_call 79;exact(gW _ Nb Nb _).mono (fun e w' ⟨he,hw⟩=>⟨he,_,hw.symm⟩)));obtain⟨m2,rfl⟩:=Na nq;rcases Nat.eq_zero_or_pos nn with hn0|hn0
 ·subst hn0;simp only[Nat.add_zero]at *
  go_wp2_with fail;obtain⟨hrd,hs1⟩:=sY (m:=m1+m2) HB.e (r:=5) Nb hcap hgl rfl;generalize ((w.drewN (m1+m2)).alloc (.cells #[.slice (some ⟨g,off+5,none⟩) (b.length-5) (cap-5),.bool false] 282))=W1 at hrd hs1 ⊢;generalize hrb:w.heap.size=rb at hrd hgl ⊢;have hk1:W1.cell? ⟨g,off,none⟩=some (.int .u8 b0):=by rw[World.cell?_of_block (hs1.block g Nb id)];exact h0
  have RP:ak W1 (some ⟨g,off,none⟩) (body.map am):=(by rw[eq_nil_of_length_eq_zero HB.d];exact dS _ _);have HR:=OW hrd hs1 hrb RP;clear hrd hs1 hrb RP;have hw4:IntKind.u32.wrap ((bz ((b.drop 5).take 4):Nat):Int)=((bz ((b.drop 5).take 4):Nat):Int):=by rw[IntKind.wrap_u32];omega
  have hne:(((bz ((b.drop 5).take 4):Nat):Int) != ((dz k0 body:Nat):Int))=false:=by rw[hsum];simp
  clear hsum;generalize bz ((b.drop 5).take 4)=x at *
  have hp0:0<b.length:=Nb
  have TJ:Hid (∀W:World,ak W (some ⟨g,off,none⟩) (body.map am)->Calls prog 128 #[.int .u8 b0,.slice (some ⟨g,off,none⟩) 0 0] W (pM k0 body W)):=NZ (fun W h=>by
   have:=jR (some ⟨g,off,none⟩) 0 k0 body W h (by have:=HB.d;omega);rwa [HB.d,HB.u]at this)
  have TI:=NZ (fun(W:World) (h:Rd W rb (b.drop 5) false)=>(show Calls prog 139 #[.pointer (some ⟨rb,0,none⟩),.int .i64 4] W (iZ rb (b.drop 5) false 4 W)from dm rb (b.drop 5) false 4 W h Nj Nb));go_region_held3 (fun w'=>w'.cell? ⟨g,off,none⟩=some (.int .u8 b0)) (first|exact hk1|exact hk2|exact hk3) (first|(go_at_call 139;refine(TI.o _ (by exact HR.a)).mono ?_;rintro e w2 ⟨rfl,hr2,hM2,hz2⟩;rw[HB.c];have hk2:w2.cell? ⟨g,off,none⟩=some (.int .u8 b0):=(World.cell?_of_block (hM2.block g (by have:=HR.b.size;have:=HR.c;show g<W1.heap.size;omega) Nb)).trans hk1;have H2:=Ob hM2 hz2;clear hr2 hM2 hz2)|(go_at_call 128;refine(TJ.o _ (ak.keep (w:=W1.drew) (by exact HR.x) H2.a (fun g' off' e=>by simp at e;omega))).mono ?_;rintro e w3 ⟨rfl,hs3⟩;have hk3:w3.cell? ⟨g,off,none⟩=some (.int .u8 b0):=(World.cell?_of_block (hs3.block g (World.block_lt_of_cell? w2 _ hk2) id)).trans hk2;have H3:=NZ hs3;clear hs3));go_wp2_with fail;have hsame:aV w w3:=(HR.b.trans' ((N7.refl _ W1).drew.trans H2.a) (fun i hi=>.inr (by have:=HR.c;omega))).trans' H3.o (fun i hi=>hi.elim);have hcb3:ak w3 (some ⟨g,off,none⟩) (body.map am):=by rw[eq_nil_of_length_eq_zero HB.d];exact dS _ _
  have HZ:=Ob hsame hcb3;clear hsame hcb3 hk1 hk2;go_quiet ((go_at_call 79;exact(gW _ Nb Nb _).mono (fun e w' ⟨he,hw⟩=>⟨he,_,hw.symm⟩)));go_wp2_with fail;go_ret3;refine⟨some ⟨g,off,none⟩,?_,HZ.z,fun x hx=>⟨_,rfl,by simp at hx;subst hx;rfl⟩,HZ.a.drewN _⟩;rw[HB.d,HB.u,HN.o];first|rfl|(congr 3)|simp
 ·go_wp2_with fail;obtain⟨hrd,hs1⟩:=sY (m:=m1+m2) HB.e (r:=5+nn) Nb hcap hgl rfl;generalize ((w.drewN (m1+m2)).alloc (.cells #[.slice (some ⟨g,off+(5+nn),none⟩) (b.length-(5+nn)) (cap-(5+nn)),.bool false] 282))=W1 at hrd hs1 ⊢;generalize hrb:w.heap.size=rb at hrd hgl ⊢;have hk1:W1.cell? ⟨g,off,none⟩=some (.int .u8 b0):=by rw[World.cell?_of_block (hs1.block g Nb id)];exact h0
  have RP:ak W1 (some ⟨g,off+5,none⟩) (body.map am):=HB.a.keep hs1 (fun _ _ _=>id);have HR:=OW hrd hs1 hrb RP;clear hrd hs1 hrb RP;have hw4:IntKind.u32.wrap ((bz ((b.drop (5+nn)).take 4):Nat):Int)=((bz ((b.drop (5+nn)).take 4):Nat):Int):=by rw[IntKind.wrap_u32];omega
  have hne:(((bz ((b.drop (5+nn)).take 4):Nat):Int) != ((dz k0 body:Nat):Int))=false:=by rw[hsum];simp
  clear hsum;generalize bz ((b.drop (5+nn)).take 4)=x at *
  have hp0:0<b.length:=Nb
  have TJ:Hid (∀W:World,ak W (some ⟨g,off+5,none⟩) (body.map am)->Calls prog 128 #[.int .u8 b0,.slice (some ⟨g,off+5,none⟩) nn nn] W (pM k0 body W)):=NZ (fun W h=>by
   have:=jR (some ⟨g,off+5,none⟩) nn k0 body W h (by have:=HB.d;omega);rwa [HB.d,HB.u]at this)
  have TI:=NZ (fun(W:World) (h:Rd W rb (b.drop (5+nn)) false)=>(show Calls prog 139 #[.pointer (some ⟨rb,0,none⟩),.int .i64 4] W (iZ rb (b.drop (5+nn)) false 4 W)from dm rb (b.drop (5+nn)) false 4 W h Nj Nb));go_region_held3 (fun w'=>w'.cell? ⟨g,off,none⟩=some (.int .u8 b0)) (first|exact hk1|exact hk2|exact hk3) (first|(go_at_call 139;refine(TI.o _ (by exact HR.a)).mono ?_;rintro e w2 ⟨rfl,hr2,hM2,hz2⟩;rw[HB.c];have hk2:w2.cell? ⟨g,off,none⟩=some (.int .u8 b0):=(World.cell?_of_block (hM2.block g (by have:=HR.b.size;have:=HR.c;show g<W1.heap.size;omega) Nb)).trans hk1;have H2:=Ob hM2 hz2;clear hr2 hM2 hz2)|(go_at_call 128;refine(TJ.o _ (ak.keep (w:=W1.drew) (by exact HR.x) H2.a (fun g' off' e=>by simp at e;omega))).mono ?_;rintro e w3 ⟨rfl,hs3⟩;have hk3:w3.cell? ⟨g,off,none⟩=some (.int .u8 b0):=(World.cell?_of_block (hs3.block g (World.block_lt_of_cell? w2 _ hk2) id)).trans hk2;have H3:=NZ hs3;clear hs3));go_wp2_with fail;have hsame:aV w w3:=(HR.b.trans' ((N7.refl _ W1).drew.trans H2.a) (fun i hi=>.inr (by have:=HR.c;omega))).trans' H3.o (fun i hi=>hi.elim);have hcb3:ak w3 (some ⟨g,off+5,none⟩) (body.map am):=HB.a.keep hsame (fun _ _ _=>id);have HZ:=Ob hsame hcb3;clear hsame hcb3 hk1 hk2;go_quiet ((go_at_call 79;exact(gW _ Nb Nb _).mono (fun e w' ⟨he,hw⟩=>⟨he,_,hw.symm⟩)));go_wp2_with fail;go_ret3;refine⟨some ⟨g,off+5,none⟩,?_,HZ.z,fun x hx=>⟨_,rfl,by simp at hx;subst hx;rfl⟩,HZ.a.drewN _⟩;rw[HB.d,HB.u,HN.o];first|rfl|(congr 3)|simp
theorem jo(a:Option Addr)(cap:Nat)(b:Bs)(w:World)(h:ak w a (b.map am))(hl:b.length<=1099511627776)(hcap:b.length<=cap):
  Calls prog 97 #[.slice a b.length cap] w (eb a b w):=by
 have key:∀{R R':Ending->World->Prop},(∀e w',R e w'->R' e w')->Calls prog 97 #[.slice a b.length cap] w R->Calls prog 97 #[.slice a b.length cap] w R':=fun hR hc=>hc.mono hR
 by_cases h9:b.length<9
 ·have e:b5 b=none:=by unfold b5;rw[NR h9]
  exact(DC a cap b w h9).mono fun e' w' hp=>by unfold eb;rw[e];exact hp
 obtain⟨g,off,rfl,hc⟩:=h Nj
 have cell:∀j (hj:j<b.length),w.cell? ⟨g,off+j,none⟩=some (.int .u8 (b.getD j 0).toNat):=fun j hj=>by
  rw[hc j (by simpa using hj)];simp[am,getD_eq_getElem?_getD,hj]
 by_cases hz:b.getD 0 0=0
 ·have e:b5 b=none:=by unfold b5;rw[NQ h9,NR hz]
  refine(Gn g off cap b w Nb hl ?_).mono fun e' w' hp=>by unfold eb;rw[e];exact hp
  rw[cell 0 Nb,hz];rfl
 have hz':(b.getD 0 0).toNat≠0:=fun e=>hz (UInt8.toNat_inj.1 (by simpa using e))
 have c0:=cell 0 Nb;have c1:=cell 1 Nb;have c2:=cell 2 Nb;have c3:=cell 3 Nb;have c4:=cell 4 Nb;have l1:=UInt8.toNat_lt (b.getD 1 0);have l2:=UInt8.toNat_lt (b.getD 2 0);have l3:=UInt8.toNat_lt (b.getD 3 0);have l4:=UInt8.toNat_lt (b.getD 4 0);by_cases hne:(b.getD 1 0).toNat*256+(b.getD 2 0).toNat≠(255-(b.getD 3 0).toNat)*256+(255-(b.getD 4 0).toNat)
 ·have e:b5 b=none:=by unfold b5;rw[NQ h9,NQ hz];simp only;rw[NR hne]
  exact(Jo g off cap b w _ _ _ _ _ Nb hl c0 hz' c1 c2 c3 c4 l1 l2 l3 l4 hne).mono fun e' w' hp=>by unfold eb;rw[e];exact hp
 by_cases hsz:b.length<(b.getD 1 0).toNat*256+(b.getD 2 0).toNat+9
 ·have e:b5 b=none:=by unfold b5;rw[NQ h9,NQ hz];simp only;rw[NQ hne,NR hsz]
  exact(Gm g off cap b w _ _ _ _ _ Nb hl c0 hz' c1 c2 c3 c4 l1 l2 l3 l4 (by simpa using hne) hsz).mono fun e' w' hp=>by unfold eb;rw[e];exact hp
 by_cases hsum:bz ((b.drop (5+((b.getD 1 0).toNat*256+(b.getD 2 0).toNat))).take 4)≠dz (b.getD 0 0) ((b.drop 5).take ((b.getD 1 0).toNat*256+(b.getD 2 0).toNat))
 ·have e:b5 b=none:=by unfold b5;rw[NQ h9,NQ hz];simp only;rw[NQ hne,NQ hsz,NR hsum]
  exact(Jp g off cap b w _ _ _ _ _ Nb hl c0 hz' c1 c2 c3 c4 l1 l2 l3 l4 (by simpa using hne) Nb hcap _ rfl h _ rfl hsum).mono fun e' w' hp=>by unfold eb;rw[e];exact hp
 ·have e:b5 b=some (b.getD 0 0,(b.drop 5).take ((b.getD 1 0).toNat*256+(b.getD 2 0).toNat),(b.getD 1 0).toNat*256+(b.getD 2 0).toNat+9):=by unfold b5;rw[NQ h9,NQ hz];simp only;rw[NQ hne,NQ hsz,NQ hsum]
  exact(KU g off cap b w _ _ _ _ _ Nb hl c0 hz' c1 c2 c3 c4 l1 l2 l3 l4 (by simpa using hne) Nb hcap _ rfl h _ rfl (by simpa using hsum)).mono fun e' w' hp=>by unfold eb;rw[e];exact hp
theorem kL:b5 (an 128)=none:=by
 unfold b5;rw[NQ ND,NR (by simp[an])]
def Ip(z:Bool)(w:World)(e:Ending)(w':World):Prop:=e=.returned (.tuple #[.slice none 0 0,.bool z,.nilIface])/\aV w w'
def cD(l:Bs)(k:Nat):Bool:=decide (∀j,j<k->aN l j=an 128)
theorem qN(l:Bs):cD l 0=true:=by simp[cD]
theorem sD{l:Bs}{k:Nat}(h:aN l k=an 128):cD l (k+1)=cD l k:=by
 unfold cD;refine decide_eq_decide.2 ⟨fun H j hj=>H j Nb,fun H j hj=>?_⟩;rcases Nat.lt_or_ge j k with h'|h'
 ·exact H j h'
 ·obtain rfl:j=k:=Nb
  exact h
theorem vB{l:Bs}{k:Nat}(h:aN l k≠an 128):cD l (k+1)=false:=by
 unfold cD;exact decide_eq_false (fun H=>h (H k Nb))
theorem G3(d:Nat)(L:Ol)(w:World)(h:Sat w (aA d L))(hL:Ou L)(hn:16<=L.n)(h01:∀k,k<2->b5 (aN L.now k)=none):
  Calls prog 50 #[.pointer (some ⟨d,0,none⟩)] w (Ip (cD L.now 2) w):=by
 have HZ:=NZ nU;have HC:Hid (∀(k:Nat) (W:World),k<2->aV w W->Calls prog 17 #[.pointer (some ⟨d,0,none⟩),.int .i64 k] W (j0 L k W)):=NZ (fun k W hk hW=>j5 d L k W (h.same hW) hL Nb);have HL:Hid (∀k,k<2->(aN L.now k).length=128):=NZ (fun k hk=>gz hL.OU Nb);have HO:=NZ h01;clear h hL h01;go_enter func50,ntmps50;go_wp2_with fail;go_loopw [2,3,16] (fun l em i wr=>∃k:Nat,k<=2/\i=.int .i64 k/\l=.slice none 0 0/\em=.bool (cD L.now k)/\aV w wr) (fun _ _ i _=>2-(intOf i).toNat)
 case atStart=>exact⟨0,Nb,rfl,rfl,by rw[qN],N7.refl _ _⟩
 case round =>
  obtain⟨k,hk,rfl,rfl,rfl,hs⟩:=hrel;by_cases hlt:k<2
  ·have HR:=NZ (HC.o k wr hlt hs);have HS:=NZ hs;have HO':=NZ (HO.o k hlt);have Ro:=NZ (HL.o k hlt);have HZ0:=NZ (sD (l:=L.now) (k:=k));have HZ1:=NZ (vB (l:=L.now) (k:=k));unfold j0 at HR;obtain⟨s,hse⟩:=Na (aN L.now k);obtain⟨z,hz⟩:=Na (cD L.now k);obtain⟨z1,hz1⟩:=Na (cD L.now (k+1));rw[<- hse]at HR HO' Ro HZ0 HZ1;rw[<- hz,<- hz1]at HZ0;rw[<- hz1]at HZ1;rw[<- hz];have H1:=NZ hz1;clear hs HC HO HL hse hz hz1;go_wp2_with fail;refine HR.o.mono ?_;rintro e w2 ⟨rfl,hs2⟩;have hb:=aM w2 (.cells (aw (an 128)) 43);obtain⟨q1,q2⟩:=dr hb (s:=s) (by rw[Ro.o,ap]);have hs3:aV w ((w2.alloc (.cells (aw (an 128)) 43)).setCells w2.heap.size 0 (s.map am)):=(((HS.o.trans' hs2 (fun _ h=>h.elim)).alloc _).trans' q2 (fun i hi=>.inr (by have:=(HS.o.trans' hs2 (fun _ h=>h.elim)).size;omega)));have hth:(w2.alloc (.cells (aw (an 128)) 43)).there w2.heap.size 0 (aw s).size:=by rw[bL,Ro.o];exact eT hb 0 128 ND
   have hrg:((w2.alloc (.cells (aw (an 128)) 43)).setCells w2.heap.size 0 (s.map am)).rangeAt w2.heap.size 0 (s.map am):=by
    have:=dX q1 0 128;rwa [drop_zero,take_of_length_le (by rw[Ro.o];omega)]at this
   have HN:=NZ (fun W=>ER s (an 128) Ro.o (ap _) W);obtain⟨W4,X7⟩:∃W,(w2.alloc (.cells (aw (an 128)) 43)).setCells w2.heap.size 0 (s.map am)=W:=⟨_,rfl⟩;rw[X7]at q1 hs3 hrg;have H3:=Oz q1 hs3 hrg;have HT:=NZ hth;have HW:=NZ X7;clear q1 q2 hb hs3 hs2 hth hrg X7;have hz:=mx;go_wp2_with (first|(refine wpList_store_mid rfl 43 (.tmp 6) (.tmp 23) rfl w2.heap.size 0 (aw s) rfl rfl HT.o (gU Ro.o) (cS _) ?_;change wpList _ _ _ _ _ (World.setCells (w2.alloc (.cells (aw (an 128)) 43)) w2.heap.size 0 (s.map am));rw[HW.o])|(refine wpList_load_mid rfl 43 (.tmp 6) rfl w2.heap.size 0 rfl (s.map am) _ H3.y underlying43 rfl (gT Ro.o) ?_)|(refine bT rfl 43 #[] rfl (aw (an 128)) HZ.o ?_)|(refine mw rfl .neq 43 (.tmp 28) (.tmp 29) _ rfl lw _ _ (.bool (!decide (s=an 128))) (HN.o _) rfl rfl ?_))
   all_goals
    have hb:=H3.a
    have hop:Calls prog 97 #[.slice (some ⟨w2.heap.size,0,none⟩) 128 128] W4 (eb (some ⟨w2.heap.size,0,none⟩) s W4):=by
     have:=jo (some ⟨w2.heap.size,0,none⟩) 128 s W4 (fun hp=>⟨w2.heap.size,0,rfl,fun j hj=>by rw[Nat.zero_add];exact aa hb j (by rw[ex s j (by simpa using hj)];simp)⟩) (by rw[Ro.o];omega) (by rw[Ro.o];omega);rwa [Ro.o]at this
    unfold eb at hop;rw[HO'.o]at hop;have HP:=NZ hop;clear hb hop;first
    | (
     have hne:s≠an 128:=by
      have:(!decide (s=an 128))=true:=Nl
      simpa using this
     have HE:=NZ (HZ1.o hne))
    | (
     have hne:s=an 128:=by
      have:(!decide (s=an 128))=false:=Nl
      simpa using this
     have HE:=NZ (HZ0.o hne))
    clear hne;refine HP.o.mono ?_;rintro e w5 ⟨rfl,hs5⟩;have H5:=NZ (H3.b.trans hs5);clear hs5;go_wp2_with fail;go_roundw
    case rel=>exact⟨k+1,Nb,by go_num,rfl,by rw[<- H1.o,HE.o],H5.o⟩
    case measure=>simp[intOf];omega
  ·obtain rfl:k=2:=Nb
   have HS:=NZ hs;clear hs HC HO HL;go_wp2_with fail;go_quiet (fail);go_wp2_with fail;go_ret3;exact⟨rfl,HS.o.drewN _⟩
end
section
theorem Sat.Q7{w:World}{F:HF}(h:Sat w F){b:Nat}{o:Obj}(hm:(b,Is o)∈F):w.heap[b]?=some o:=by
 obtain⟨o',ho,hi⟩:=h.sat _ hm;have hi:o'=o:=hi;subst hi;exact ho
open Classical in
noncomputable def cnt(a:Nat×(Obj->Prop))(F:HF):Nat:=F.countP (fun b=>decide (b=a))
open Classical in
noncomputable def II(a b:Nat×(Obj->Prop)):Nat:=if b=a then 1 else 0
theorem cW(a:Nat×(Obj->Prop)):cnt a []=0:=rfl
theorem ao(a b:Nat×(Obj->Prop))(F:HF):cnt a (b::F)=II a b+cnt a F:=by
 unfold cnt II;rw[countP_cons];by_cases h:b=a<;>simp[h,Nat.add_comm]
theorem af(a:Nat×(Obj->Prop))(F G:HF):cnt a (F++G)=cnt a F+cnt a G:=countP_append
open Classical in
theorem Bj{F G:HF}(h:∀a,cnt a F=cnt a G):F.Perm G:=by
 rw[perm_iff_count];intro a;have:=h a;unfold cnt at this
 have e:(fun b:Nat×(Obj->Prop)=>decide (b=a))=(fun b=>b==a):=by
  funext b;by_cases hb:b=a
  ·subst hb;simp
  ·simp[hb]
 rw[e]at this;exact this
theorem ac{F G:HF}(h:∀a,cnt a F=cnt a G:=by intro _;simp only[ao,af,cW]<;>omega):F.Perm G:=Bj h
theorem bR{F G:HF}(h:∀a,cnt a F<=cnt a G:=by intro _;simp only[ao,af,cW]<;>omega):∀a,cnt a F<=cnt a G:=h
theorem pA{G:HF}:∀{F:HF},(∀a,cnt a G<=cnt a F)->∃R,F.Perm (G++R):=by
 induction G with
 | nil=>intro F _;exact⟨F,Perm.refl _⟩
 | cons g G ih =>
  intro F h
  have hg:g∈F:=by
   have:=h g;rw[ao]at this;have h1:II g g=1:=by unfold II;simp
   have h2:0<cnt g F:=Nb
   unfold cnt at h2;rw[countP_pos_iff]at h2;obtain⟨b,hb,he⟩:=h2;have he:b=g:=by simpa using he
   exact he ▸ hb
  obtain⟨s,t,rfl⟩:=append_of_mem hg;obtain⟨R,hR⟩:=ih (F:=s++t) (fun a=>by have:=h a;simp only[ao,af]at this ⊢;omega);exact⟨R,perm_middle.trans (hR.cons g)⟩
theorem Sat.sub{w:World}{F G:HF}(h:Sat w F)(hp:∀a,cnt a G<=cnt a F):Sat w G:=by
 obtain⟨R,hR⟩:=pA hp;exact(h.perm hR).left
theorem Turns.step{a b c:World}{F0 G F F' R:HF}(h:Turns F0 G a b)(hp:G.Perm (F++R))(k:Turns F F' b c):Turns F0 (F'++R) a c :=
 (h.perm (Perm.refl _) hp).trans (k.frame (h.sat.perm hp))
theorem Turns.to{a b:World}{F G H:HF}(h:Turns F G a b)(hp:G.Perm H):Turns F H a b:=h.perm (Perm.refl _) hp
theorem Turns.drop{a b:World}{F G H:HF}(h:Turns F G a b)(hp:∀x,cnt x H<=cnt x G):Turns F H a b:=by
 obtain⟨R,hR⟩:=pA hp;exact(h.to hR).left
theorem Turns.Qb{a b c:World}{F G H:HF}(h:Turns F G a b)(k:Turns [] H b c):Turns F (H++G) a c:=by
 have:=k.frame (R:=G) (by simpa using h.sat);simp only[nil_append]at this;exact h.trans this
theorem nu{P:Program}{o:Oper}{a:Act}{w w':World}{v:Value}{K:Act->World->Prop}{Q:Exit->Act->World->Prop}(h:(execOp a.eval o).run P w=.ok (.value v) w')(hk:K (a.put o.dst v) w'):o.wp P a w K Q:=by
 unfold Oper.wp;rw[h];exact hk
theorem aO{P:Program}{o:Oper}{a:Act}{w:World}{f:FuncId}{args:Array Value}{R:Ending->World->Prop}{K:Act->World->Prop}{Q:Exit->Act->World->Prop}(h:(execOp a.eval o).run P w=.ok (.enter f args) w)(hc:Calls P f args w R)(hk:∀e w',R e w'->∃v,e=.returned v/\K (a.put o.dst v) w'):o.wp P a w K Q:=by
 unfold Oper.wp;rw[h];refine hc.mono (fun e w' hr=>?_);obtain⟨v,rfl,hv⟩:=hk e w' hr;exact hv
def kJ:TypeDesc->Bool
 | .struct _|.array _ _=>false
 | _=>true
end
section
section
variable {P:Program} {ops:Array Oper} {N:Nat->Bool} {D:Nat->Nat->Bool} {Q:Act->World->Prop}
def U0:Exit->Act->World->Prop:=fun _ _ _=>False
def zB(P:Program)(ops:Array Oper)(w:World)(a:Act)(q:Nat):Prop:=∃o v,ops[q]?=some o/\YieldsAt P ops w o v a/\a.put o.dst v=a
def Seq(P:Program)(ops:Array Oper)(N:Nat->Bool)(D:Nat->Nat->Bool)(Q:Act->World->Prop):List Nat->List Nat->Act->World->Prop
 | [],_,a,w=>Q a w
 | i::r,f,a,w=>if N i=true then ∃o,ops[i]?=some o/\o.guard=none/\o.wp P a w (fun c v=>(∀q∈f,D i q=false->zB P ops v c q)/\Seq P ops N D Q r f c v) U0
  else stOp P ops w i (fun c=>Seq P ops N D Q r (i::f) c w) a
theorem Seq.mono:∀{s f g:List Nat} {a:Act} {w:World},(∀q∈g,q∈f)->Seq P ops N D Q s f a w->Seq P ops N D Q s g a w
 | [],_,_,_,_,_,h=>h
 | i::r,f,g,a,w,hg,h=>by
  unfold Seq at h ⊢
  split
  ·rename_i hn
   rw[NR hn]at h
   obtain⟨o,h1,h2,h3⟩:=h
   exact⟨o,h1,h2,Oper.wp_mono (fun c v hc=>⟨fun q hq=>hc.1 q (hg q hq),hc.2.mono hg⟩) h3⟩
  ·rename_i hn
   rw[NQ hn]at h
   exact stOp_mono (fun c hc=>hc.mono (by simp only[mem_cons];rintro q (hq|hq)<;>simp[hq,hg])) h
theorem JA{a:Act}{x y:Option Tmp}{u v:Value}(hne:∀d,x=some d->y≠some d)(h:(a.put x v).put y u=a.put x v):a.put y u=a:=by
 cases y with
 | none=>rfl
 | some e =>
  cases x with
  | none=>exact h
  | some d =>
   have hde:d≠e:=fun he=>hne d rfl (by rw[he])
   obtain⟨t,df⟩:=a;simp only[Act.put,Act.mk.injEq,and_true]at h ⊢;refine Array.ext_getElem? fun k=>?_
   by_cases hk:e=k
   ·subst hk;have h1:=congrArg (·[e]?) h;simp only[Array.getElem?_setIfInBounds_ne hde]at h1;rw[<- h1];rcases Nat.lt_or_ge e t.size with h2|h2
    ·simp[h2]
    ·simp[Nat.not_lt.2 h2]
   ·rw[Array.getElem?_setIfInBounds_ne hk]
theorem Lm{oj:Oper}{x:Option Tmp}{v:Value}{K:Act->World->Prop}{a:Act}{w:World}(hs:∀cs b,oj.op ≠ .select cs b)(h1:∀d,x=some d->d∉oj.looksAt ops)(h2:∀d,x=some d->oj.dst≠some d)(h:oj.wp P (a.put x v) w K U0):oj.wp P a w (fun c u=>K (c.put x v) u) U0:=by
 unfold Oper.wp at *
 rw[execOp_put oj hs a x v h1]at h;generalize (execOp a.eval oj).run P w=r at *
 cases r with
 | ok n w' =>
  cases n<;>simp only[Oper.upon]at h ⊢
  case value u=>rw[<- Act.put_comm a v u h2];exact h
  case skip=>rw[<- Act.put_comm a v undef h2];exact h
  case defer d=>rw[<- Act.put_comm _ v undef h2,<- Act.put_defers];exact h
  case enter f args =>
   refine Calls.mono h fun e w'' he=>?_
   cases e with
   | returned u=>have he:K ((a.put x v).put oj.dst u) w'':=he;rw[Act.put_comm a v u h2]at he;exact he
   | panicked c=>exact he
   | outgrown=>exact he
  case row row args=>exact Rows.mono h fun u w'' he=>by rw[<- Act.put_comm a v u h2];exact he
 | halt x w'=>cases x<;>simp only[Oper.upon]at h ⊢;exact h.elim
structure Sm (ops:Array Oper) (D:Nat->Nat->Bool) (E:Nat->Bool):Prop where
 sel:Region.noSelect ops=true
 lt:∀i k,Region.waitsFor .any ops i k=true->k<i
 dst:∀(i k:Nat) (oi ok:Oper) (d:Tmp),i≠k->ops[i]?=some oi->ops[k]?=some ok->oi.dst=some d->ok.dst≠some d
 look:∀(i k:Nat) (oi ok:Oper) (d:Tmp),ops[i]?=some oi->ops[k]?=some ok->oi.dst=some d->d∈ok.looksAt ops->Region.waitsFor .any ops k i=true\/(Region.waitsFor .any ops i k=true/\E i=true)
 dep:∀i q,D i q=true->∃k,Region.waitsFor .any ops i k=true/\(k=q\/D k q=true)
variable {E:Nat->Bool} (H:Sm ops D E)
include H
theorem Sm.away{i k:Nat}{oi ok:Oper}(hi:ops[i]?=some oi)(hk:ops[k]?=some ok)(hw:Region.waitsFor .any ops k i=false)(h2:Region.waitsFor .any ops i k=false\/E i=false)(d:Tmp)(hd:oi.dst=some d):d∉ok.looksAt ops:=fun hm=>by
 rcases H.look i k oi ok d hi hk hd hm with h|⟨h,h'⟩
 ·rw[h]at hw;cases hw
 ·rw[h,h']at h2;simp at h2
theorem Sm.self(i:Nat):Region.waitsFor .any ops i i=false:=by
 cases h:Region.waitsFor .any ops i i with
 | false=>rfl
 | true=>exact absurd (H.lt i i h) (Nat.lt_irrefl _)
theorem Sm.keep{w:World}{i k:Nat}{oi ok:Oper}{a:Act}{v u:Value}(hi:ops[i]?=some oi)(hk:ops[k]?=some ok)(hw:Region.waitsFor .any ops k i=false)(h2:Region.waitsFor .any ops i k=false\/E i=false):
  YieldsAt P ops w ok u (a.put oi.dst v)↔YieldsAt P ops w ok u a:=by
 have h3:=H.away hi hk hw h2;have hs:=fun cs b=>Region.noSelect_spec H.sel k ok cs b hk
 have e1:=execOp_put ok hs a oi.dst v h3;have e2:=wanted_put ok a oi.dst v h3;exact⟨fun h=>h.of_same e1.symm e2.symm,fun h=>h.of_same e1 e2⟩
theorem Sm.ahead{s:List Nat}(hc:∀i k,Region.waitsFor .any ops i k=true->i∉s->k∉s):∀(i:Nat),(∀k,Region.waitsFor .any ops i k=true->k∉s)->∀q,D i q=true->q∉s:=by
 intro i;induction i using Nat.strongRecOn with
 | _ i ih =>
  intro hi q hq;obtain⟨k,hk,h⟩:=H.dep i q hq;rcases h with rfl|h
  ·exact hi k hk
  ·exact ih k (H.lt i k hk) (fun k' hk'=>hc k k' hk' (hi k hk)) q h
omit H
def row(R:Nat->Nat->Prop):List Nat->Prop
 | []=>True
 | x::r=>(∀j∈r,R x j)/\row R r
theorem row.cut{R:Nat->Nat->Prop}:∀{s1:List Nat} {j:Nat} {s2:List Nat},row R (s1++j::s2)->row R (s1++s2)
 | [],_,_,h=>h.2
 | x::s1,j,s2,h=>by
  have h:row R (x::(s1++j::s2)):=h
  refine⟨fun k hk=>h.1 k ?_,row.cut (s1:=s1) h.2⟩
  rcases mem_append.1 hk with hk|hk<;>simp[hk]
def Far(ops:Array Oper)(x j:Nat):Prop:=x≠j/\Region.waitsFor .any ops x j=false
include H
theorem Seq.move{j:Nat}{s2:List Nat}:∀(s1 f:List Nat) (a:Act) (w:World),(∀i∈s1++j::s2,i<ops.size)->row (Far ops) (s1++j::s2)->(∀x∈s1,N x=false)->(N j=true->∀x∈s1,E x=false)->(∀q,Region.waitsFor .any ops j q=true\/D j q=true->q∉s1) ->
  (∀q∈f,∀x∈s1++j::s2,q≠x/\Region.waitsFor .any ops q x=false)->Seq P ops N D Q (s1++j::s2) f a w ->
  if N j=true then ∃o,ops[j]?=some o/\o.guard=none/\o.wp P a w (fun c v=>(∀q∈f,D j q=false->zB P ops v c q)/\Seq P ops N D Q (s1++s2) f c v) U0
  else stOp P ops w j (fun c=>Seq P ops N D Q (s1++s2) f c w) a
 | [],f,a,w,_,_,_,_,_,_,h=>by
  rw[nil_append]at h
  unfold Seq at h
  split
  ·rename_i hn;rw[NR hn]at h;exact h
  ·rename_i hn;rw[NQ hn]at h
   exact stOp_mono (fun c hc=>hc.mono (fun q hq=>mem_cons_of_mem _ hq)) h
 | x::s1,f,a,w,hlt,hr,hfi,hE,hd,hf,h=>by
  have hjm:j∈s1++j::s2:=Nh
  have hx:=hr.1 j hjm
  have hxn:¬N x=true:=by rw[hfi x Nh];simp
  rw[cons_append]at h
  unfold Seq at h
  rw[NQ hxn]at h
  obtain⟨ox,hox⟩:∃o,ops[x]?=some o:=⟨_,Array.getElem?_eq_getElem (hlt x Nh)⟩
  obtain⟨oj,hoj⟩:∃o,ops[j]?=some o:=⟨_,Array.getElem?_eq_getElem (hlt j Nh)⟩
  obtain⟨v,hy,h⟩:=yieldsAt_of_stOp hox h
  have hjx:Region.waitsFor .any ops j x=false:=by
   cases hw:Region.waitsFor .any ops j x with
   | false=>rfl
   | true=>exact(hd x (.inl hw) Nh).elim
  have hdx:D j x=false:=by
   cases hw:D j x with
   | false=>rfl
   | true=>exact(hd x (.inr hw) Nh).elim
  have hsel:=fun i o hi cs b=>Region.noSelect_spec H.sel i o cs b hi
  have a1:=H.away hox hoj hjx (.inl hx.2);have a2:=fun d hd=>H.dst x j ox oj d hx.1 hox hoj hd
  have a3:=H.away hoj hox hx.2 (.inl hjx)
  have hf':∀q∈x::f,∀y∈s1++j::s2,q≠y/\Region.waitsFor .any ops q y=false:=by
   intro q hq y hy;rcases mem_cons.1 hq with rfl|hq
   ·exact hr.1 y hy
   ·exact hf q hq y (mem_cons_of_mem _ hy)
  have ih:=Seq.move s1 (x::f) (a.put ox.dst v) w (fun i hi=>hlt i (mem_cons_of_mem _ hi)) hr.2 (fun y hy=>hfi y (mem_cons_of_mem _ hy)) (fun hn y hy=>hE hn y (mem_cons_of_mem _ hy)) (fun q hq hm=>hd q hq (mem_cons_of_mem _ hm)) hf' h;by_cases hn:N j=true
  ·rw[NR hn]at ih ⊢;obtain⟨o,ho,hg,ih⟩:=ih;obtain rfl:=Option.some.inj (hoj.symm.trans ho);refine⟨oj,ho,hg,Oper.wp_mono ?_ (Lm (hsel j oj hoj) a1 a2 ih)⟩;rintro c u ⟨hst,hsq⟩;refine⟨fun q hq hdq=>?_,?_⟩
   ·obtain⟨oq,vq,hoq,hyq,hpq⟩:=hst q (mem_cons_of_mem _ hq) hdq;have:=hf q hq x Nh;exact⟨oq,vq,hoq,(H.keep hox hoq this.2 (.inr (hE hn x Nh))).1 hyq,JA (fun d hd=>H.dst x q ox oq d (Ne.symm this.1) hox hoq hd) hpq⟩
   ·obtain⟨o',v',ho',hy',hp'⟩:=hst x Nh hdx;obtain rfl:=Option.some.inj (hox.symm.trans ho');rw[cons_append];unfold Seq;rw[NQ hxn];refine((H.keep hox hox (H.self x) (.inl (H.self x))).1 hy').stOp hox ?_
    have e:c.put ox.dst v'=c.put ox.dst v:=by
     have:(c.put ox.dst v).put ox.dst v'=c.put ox.dst v':=by cases ox.dst<;>simp[Act.put]
     rw[<- this];exact hp'
    rw[e];exact hsq
  ·rw[NQ hn]at ih ⊢
   refine stOp_mono (fun c hc=>?_) (stOp_put hoj (by
    simp only[Oper.apart,Bool.and_eq_true];constructor
    ·cases hd:ox.dst with
     | none=>rfl
     | some d=>simp[a1 d hd,a2 d hd]
    ·cases hd:oj.dst with
     | none=>rfl
     | some d=>simp[a3 d hd]) (hsel x ox hox) (hsel j oj hoj) hy ih)
   rw[cons_append];unfold Seq;rw[NQ hxn];exact hc.1.stOp hox hc.2
omit H
structure Un (ops:Array Oper) (L:Array Bool) (s:List Nat):Prop where
 un:∀i,L.getD i true=false↔i∈s
 lt:∀i∈s,i<ops.size
 sz:L.size=ops.size
 cl:∀i k,Region.waitsFor .any ops i k=true->i∉s->k∉s
theorem Un.congr{L:Array Bool}{s t:List Nat}(h:Un ops L s)(e:∀i,i∈s↔i∈t):Un ops L t :=
 ⟨fun i=>(h.un i).trans (e i),fun i hi=>h.lt i ((e i).2 hi),h.sz,fun i k hw hi hk=>h.cl i k hw (fun m=>hi ((e i).1 m)) ((e k).2 hk)⟩
include H
theorem Un.ready{L:Array Bool}{s:List Nat}(h:Un ops L s){j:Nat}(hj:j∈s)(hk:∀k,Region.waitsFor .any ops j k=true->k∉s):j∈Region.ready .any ops L:=by
 obtain⟨o,ho⟩:∃o,ops[j]?=some o:=⟨_,Array.getElem?_eq_getElem (h.lt j hj)⟩;refine mem_ready.2 ⟨(h.un j).2 hj,_,ho,fun e he hb=>?_⟩
 have hw:Region.waitsFor .any ops j e.on=true:=by
  unfold Region.waitsFor;rw[ho];exact Array.any_eq_true'.2 ⟨e,he,by simp[hb]⟩
 have h1:=hk e.on hw;have h2:=H.lt j e.on hw;have h3:=h.lt j hj;have h4:=h.sz
 cases hl:L.getD e.on false with
 | true=>rfl
 | false =>
  refine absurd ((h.un e.on).1 ?_) h1;simp only[Array.getD_eq_getD_getElem?,Array.getElem?_eq_getElem (show e.on<L.size by omega),Option.getD_some]at hl ⊢;exact hl
theorem Un.head{L:Array Bool}{x:Nat}{r:List Nat}(h:Un ops L (x::r))(hr:row (Far ops) (x::r)):Region.ready .any ops L≠[]:=fun h0=>by
 have:=h.ready H (j:=x) Nh (fun k hk hm=>by
  rcases mem_cons.1 hm with rfl|hm
  ·rw[H.self]at hk;cases hk
  ·rw[(hr.1 k hm).2]at hk;cases hk)
 rw[h0]at this;cases this
omit H
theorem Un.waits{L:Array Bool}{s:List Nat}(h:Un ops L s){j:Nat}(hj:j∈Region.ready .any ops L):j∈s/\∀k,Region.waitsFor .any ops j k=true->k∉s:=by
 obtain⟨hj1,oj,hoj,hj2⟩:=mem_ready.1 hj;refine⟨(h.un j).1 hj1,fun k hk hm=>?_⟩;obtain⟨o',ho',e,he,hb,rfl⟩:=Region.waitsFor_spec hk;obtain rfl:=Option.some.inj (hoj.symm.trans ho');have h1:=hj2 e he hb;have h2:=(h.un e.on).2 hm;have h3:=h.lt _ hm;have h4:=h.sz;simp only[Array.getD_eq_getD_getElem?,Array.getElem?_eq_getElem (show e.on<L.size by omega),Option.getD_some]at h1 h2;rw[h1]at h2;cases h2
theorem Un.step{L:Array Bool}{s1 s2:List Nat}{j:Nat}(h:Un ops L (s1++j::s2))(hr:row (Far ops) (s1++j::s2))(hw:∀k,Region.waitsFor .any ops j k=true->k∉s1++j::s2):Un ops (L.setIfInBounds j true) (s1++s2):=by
 have hnd:∀i,i∈s1++s2->i≠j:=by
  have:∀(s1:List Nat),row (Far ops) (s1++j::s2)->∀i,i∈s1++s2->i≠j:=by
   intro s1;induction s1 with
   | nil=>intro hr i hi he;exact(hr.1 i hi).1 he.symm
   | cons x s1 ih2 =>
    intro hr i hi;rcases mem_cons.1 hi with rfl|hi
    ·exact(hr.1 j Nh).1
    ·exact ih2 hr.2 i hi
  exact this s1 hr
 have hsub:∀i,i∈s1++s2->i∈s1++j::s2:=fun i hi=>by
  rcases mem_append.1 hi with hi|hi<;>simp[hi]
 refine⟨fun i=>?_,fun i hi=>h.lt i (hsub i hi),by simp[h.sz],fun i k hik hi hk=>?_⟩
 ·by_cases hij:j=i
  ·subst hij;have:j<L.size:=by rw[h.sz];exact h.lt j Nh
   exact⟨fun h=>by simp[this]at h,fun h=>absurd rfl (hnd j h)⟩
  ·rw[getD_set_ne true hij,h.un i];simp only[mem_append,mem_cons];exact⟨fun h=>by rcases h with h|h|h<;>simp_all,fun h=>by rcases h with h|h<;>simp[h]⟩
 ·by_cases hij:i=j
  ·subst hij;exact hw k hik (hsub k hk)
  ·exact h.cl i k hik (fun hm=>hi (by simp only[mem_append,mem_cons]at hm ⊢;rcases hm with h|h|h<;>simp_all)) (hsub k hk)
theorem LC{Q':Exit->Act->World->Prop}{j:Nat}{f:List Nat}{R:Act->World->Prop}{a:Act}{w:World}(hm:if N j=true then ∃o,ops[j]?=some o/\o.guard=none/\o.wp P a w (fun c v=>(∀q∈f,D j q=false->zB P ops v c q)/\R c v) U0 else stOp P ops w j (fun c=>R c w) a){K:Act->World->Prop}(nx:∀c v,R c v->K c v):wpOp P ops Q' j K a w:=by
 split at hm
 ·obtain⟨o,ho,hg,hm⟩:=hm;unfold wpOp;simp only[ho];rw[NR (by simp[Region.wanted,hg])];refine .inl ?_;unfold Oper.wp at *
  generalize (execOp a.eval o).run P w=r at *
  cases r with
  | ok n w' =>
   cases n<;>simp only[Oper.upon]at hm ⊢ <;>
    first
     | exact nx _ _ hm.2
     | exact Calls.mono hm (fun e w'' he=>by cases e<;>first|exact nx _ _ he.2|exact False.elim he|exact(show LetsOut U0 from he).elim fun _ h=>h.elim fun _ h=>False.elim h)
     | exact Rows.mono hm (fun _ _ he=>nx _ _ he.2)
  | halt x w'=>cases x<;>simp only[Oper.upon]at hm ⊢<;>exact hm.elim
 ·exact wpOp_of_stOp (fun c hc=>nx c w hc) hm
theorem zd{t F:List Nat}{Z:Act->World->Prop}(hZ:∀a w,Z a w->Seq P ops N D Q t F a w):∀{q f g:List Nat} {a:Act} {w:World},(∀i∈q,N i=false)->(∀i,i∈q\/i∈f->i∈F)->Seq P ops N D Z q g a w->Seq P ops N D Q (q++t) f a w
 | [],f,g,a,w,_,hf,h=>(hZ a w h).mono (fun i hi=>hf i (.inr hi))
 | i::q,f,g,a,w,hq,hf,h=>by
  have hn:¬N i=true:=by rw[hq i Nh];simp
  rw[cons_append]
  unfold Seq at h ⊢
  rw[NQ hn]at h ⊢
  exact stOp_mono (fun c hc=>zd hZ (fun k hk=>hq k (by simp[hk])) (fun k hk=>hf k (hk.elim (fun hk=>.inl (mem_cons_of_mem _ hk)) (fun hk=>(mem_cons.1 hk).elim (fun e=>.inl (e ▸ mem_cons_self)) .inr))) hc) h
inductive Tree where
 | fin
 | one (i:Nat) (f q:List Nat) (t:Tree)
 | two (i:Nat) (f q:List Nat) (t:Tree) (j:Nat) (g r:List Nat) (u:Tree)
def Hk(P:Program)(ops:Array Oper)(D:Nat->Nat->Bool)(i:Nat)(F:List Nat)(Z:Act->World->Prop)(a:Act)(w:World):Prop :=
 ∃o,ops[i]?=some o/\o.guard=none/\o.wp P a w (fun c v=>(∀q∈F,D i q=false->zB P ops v c q)/\Z c v) U0
def Pre(P:Program)(ops:Array Oper)(N:Nat->Bool)(D:Nat->Nat->Bool)(Q:Act->World->Prop):Tree->List Nat->Act->World->Prop
 | .fin,_,a,w=>Q a w
 | .one i _ q t,F,a,w=>Hk P ops D i F (Seq P ops N D (Pre P ops N D Q t (q++F)) q F) a w
 | .two i _ q t j _ r u,F,a,w=>Hk P ops D i F (Seq P ops N D (Pre P ops N D Q t (q++F)) q F) a w/\Hk P ops D j F (Seq P ops N D (Pre P ops N D Q u (r++F)) r F) a w
def Tree.flat:Tree->List Nat
 | .fin=>[]
 | .one i _ q t=>i::(q++t.flat)
 | .two i _ q t _ _ _ _=>i::(q++t.flat)
def ti(_:Array Oper)(N:Nat->Bool)(E:Nat->Bool)(i:Nat)(q:List Nat)(t:Tree):Prop :=
 N i=true/\(∀x∈q,N x=false)/\((∀x∈q,E x=false)\/t=.fin)
def Tree.Ok(ops:Array Oper)(N E:Nat->Bool):Tree->Prop
 | .fin=>True
 | .one i _ q t=>ti ops N E i q t/\(∀k∈q++t.flat,∃m∈i::(q++t.flat),Region.waitsFor .any ops k m=true)/\t.Ok ops N E
 | .two i _ q t j _ r u=>ti ops N E i q t/\ti ops N E j r u/\(∀k∈i::(q++t.flat),k=i\/k=j\/∃m∈i::(q++t.flat),Region.waitsFor .any ops k m=true)/\(∀k,k∈i::(q++t.flat)↔k∈j::(r++u.flat))/\(i::(q++t.flat)).length=(j::(r++u.flat)).length/\t.Ok ops N E/\u.Ok ops N E
def Tree.Rows(ops:Array Oper):Tree->List Nat->Prop
 | .fin,U=>row (Far ops) U
 | .one i _ q t,U=>t.Rows ops (U++i::q)
 | .two i _ q t j _ r u,U=>t.Rows ops (U++i::q)/\u.Rows ops (U++j::r)
theorem Tree.Rows.cut:∀{t:Tree} {s1:List Nat} {j:Nat} {s2:List Nat},t.Rows ops (s1++j::s2)->t.Rows ops (s1++s2)
 | .fin,_,_,_,h=>row.cut h
 | .one i f q t,s1,j,s2,h=>by
  have h:t.Rows ops (s1++j::(s2++i::q)):=by simpa[Tree.Rows]using h
  have:=h.cut
  show t.Rows ops _
  rwa [NV]
 | .two i f q t j' g r u,s1,j,s2,h=>by
  have h1:t.Rows ops (s1++j::(s2++i::q)):=by simpa using h.1
  have h2:u.Rows ops (s1++j::(s2++j'::r)):=by simpa using h.2
  refine⟨?_,?_⟩
  ·have:=h1.cut;rwa [NV]
  ·have:=h2.cut;rwa [NV]
theorem row.left{R:Nat->Nat->Prop}:∀{l r:List Nat},row R (l++r)->row R l
 | [],_,_=>trivial
 | _::_,_,h=>⟨fun k hk=>h.1 k (by simp[hk]),row.left h.2⟩
theorem Tree.Rows.flat:∀{t:Tree} {U:List Nat},t.Rows ops U->row (Far ops) (U++t.flat)
 | .fin,U,h=>by rw[Tree.flat,append_nil];exact h
 | .one i f q t,U,h=>by have:=Tree.Rows.flat (t:=t) h;simpa[Tree.flat]using this
 | .two i f q t j g r u,U,h=>by have:=Tree.Rows.flat (t:=t) h.1;simpa[Tree.flat]using this
theorem Tree.Rows.ZR{t:Tree}{U q:List Nat}{i:Nat}(h:t.Rows ops (U++i::q)):row (Far ops) (U++[i]):=by
 have:=h.flat;have e:U++i::q++t.flat=(U++[i])++(q++t.flat):=Nh
 rw[e]at this;exact this.left
include H
theorem It{Q':Exit->Act->World->Prop}(hQ:∀a w,Q a w->Q' .normal a w):∀(n:Nat) (T:Tree) (U F:List Nat) (L:Array Bool) (a:Act) (w:World),(U++T.flat).length=n->Un ops L (U++T.flat)->(∀i∈U,N i=false/\i∈F)->((∀i∈U,E i=false)\/T=.fin) ->
  T.Ok ops N E->T.Rows ops U->Seq P ops N D (Pre P ops N D Q T F) U [] a w->wpAny P .any ops Q' n L a w:=by
 intro n;induction n with
 | zero =>
  intro T U F L a w hn hL _ _ _ _ h;rw[NM]at hn;obtain rfl:U=[]:=length_eq_zero_iff.1 Nb
  have ht:T=.fin:=by
   cases T with
   | fin=>rfl
   | one=>simp[Tree.flat]at hn
   | two=>simp[Tree.flat]at hn
  subst ht;exact⟨eq_nil_iff_forall_not_mem.2 fun i hi=>(by have:=(hL.waits hi).1;simp[Tree.flat]at this),hQ _ _ h⟩
 | succ n ih =>
  intro T U F L a w hn hL hU hE hok hrw h;have hr:=hrw.flat;refine⟨fun h0=>?_,fun j hj=>?_⟩
  ·cases hs:U++T.flat with
   | nil=>rw[hs]at hn;cases hn
   | cons x r=>rw[hs]at hL hr;exact absurd h0 (hL.head H hr)
  ·obtain⟨hjs,hw⟩:=hL.waits hj;have hD:=H.ahead hL.cl j hw;rcases mem_append.1 hjs with hjq|hjT
   ·obtain⟨s1,s2,rfl⟩:=append_of_mem hjq;have hn1:¬N j=true:=by rw[(hU j hjq).1];simp
    have hm:=Seq.move H s1 [] a w (fun i hi=>hL.lt i (by simp only[mem_append]at hi ⊢;exact .inl hi)) hr.left (fun x hx=>(hU x (by simp[hx])).1) (fun hn=>absurd hn hn1) (fun k hk hk1=>by
     rcases hk with hk|hk
     ·exact hw k hk (by simp[hk1])
     ·exact hD k hk (by simp[hk1])) (fun _ h=>(nomatch h)) h
    have e:s1++j::s2++T.flat=s1++j::(s2++T.flat):=Nh
    rw[e]at hL hr hw hn
    refine LC hm fun c v hs=>ih T (s1++s2) F _ c v (by simp at hn ⊢;omega) (by rw[NV];exact hL.step hr hw) (fun i hi=>hU i (by rcases mem_append.1 hi with hi|hi<;>simp[hi]))
     (hE.imp (fun h i hi=>h i (by rcases mem_append.1 hi with hi|hi<;>simp[hi])) id) hok hrw.cut hs
   ·have branch:∀{i:Nat} {q:List Nat} {t:Tree},i=j->(∀k,k∈U++T.flat↔k∈U++i::(q++t.flat))->(U++T.flat).length=(U++i::(q++t.flat)).length->ti ops N E i q t->(∀x∈U,E x=false)->t.Ok ops N E->t.Rows ops (U++i::q) ->
      (∀a w,Pre P ops N D Q T F a w->Hk P ops D i F (Seq P ops N D (Pre P ops N D Q t (q++F)) q F) a w)->wpOp P ops Q' j (wpAny P .any ops Q' n (L.setIfInBounds j true)) a w:=by
     intro i q t hij hmem hlen hb XV Wp hrt hpre;subst hij
     have h1:Seq P ops N D (Seq P ops N D (Pre P ops N D Q t (q++F)) q F) (U++[i]) [] a w:=zd (t:=[i]) (F:=F) (fun a w hz=>by
      obtain⟨o,h1,h2,h3⟩:=hpre a w hz;unfold Seq;rw[NR hb.1];exact⟨o,h1,h2,h3⟩) (fun x hx=>(hU x hx).1) (fun x hx=>hx.elim (fun hx=>(hU x hx).2) (fun hx=>nomatch hx)) h
     have hm:=Seq.move H U [] a w (fun x hx=>hL.lt x ((hmem x).2 (by simp only[mem_append,mem_cons,not_mem_nil,or_false]at hx ⊢;rcases hx with hx|hx<;>simp[hx]))) hrt.ZR (fun x hx=>(hU x hx).1) (fun _=>XV) (fun k hk hk1=>by
      rcases hk with hk|hk
      ·exact hw k hk (by simp[hk1])
      ·exact hD k hk (by simp[hk1])) (fun _ h=>(nomatch h)) h1
     have hr2:=hrt.flat;have e2:U++i::q++t.flat=U++i::(q++t.flat):=Nh
     rw[e2]at hr2;have hst:=(hL.congr hmem).step hr2 (fun k hk hm=>hw k hk ((hmem k).2 hm));refine LC hm fun c v hs=>ih t (U++q) (q++F) _ c v (by rw[hlen]at hn;simp at hn ⊢;omega) (by rw[NV];exact hst) (fun x hx=>?_) ?_ Wp hrt.cut ?_
     ·rcases mem_append.1 hx with hx|hx
      ·exact⟨(hU x hx).1,by simp[(hU x hx).2]⟩
      ·exact⟨hb.2.1 x hx,by simp[hx]⟩
     ·refine hb.2.2.imp (fun h x hx=>?_) id;rcases mem_append.1 hx with hx|hx
      ·exact XV x hx
      ·exact h x hx
     ·rw[append_nil]at hs;exact zd (t:=q) (F:=F) (fun a w hz=>hz) (fun x hx=>(hU x hx).1) (fun x hx=>hx.elim (fun hx=>(hU x hx).2) (fun hx=>nomatch hx)) hs
    cases T with
    | fin=>cases hjT
    | one i f q t =>
     have XV:=hE.resolve_right Nh;rcases mem_cons.1 hjT with rfl|hj2
     ·exact branch rfl (fun _=>Iff.rfl) rfl hok.1 XV hok.2.2 hrw (fun _ _ h=>h)
     ·obtain⟨m,hm1,hm2⟩:=hok.2.1 j hj2;exact absurd (mem_append_right U hm1) (hw m hm2)
    | two i f q t i2 g r u =>
     have XV:=hE.resolve_right Nh;obtain⟨b1,b2,hh,hmem,hlen,o1,o2⟩:=hok;rcases hh j hjT with rfl|rfl|⟨m,hm1,hm2⟩
     ·exact branch rfl (fun _=>Iff.rfl) rfl b1 XV o1 hrw.1 (fun _ _ h=>h.1)
     ·exact branch rfl (fun k=>by simp only[mem_append];exact or_congr Iff.rfl (hmem k)) (by rw[NM,NM];exact congrArg _ hlen) b2 XV o2 hrw.2 (fun _ _ h=>h.2)
     ·exact absurd (mem_append_right U hm1) (hw m hm2)
omit H
def nth(l:List Oper)(i:Nat):Oper:=l.getD i default
def waits(ops:Array Oper)(n:Nat):List Nat:=(range n).map fun i=>(range i).foldl (fun m k=>if Region.waitsFor .any ops i k then m ||| (1 <<< k)else m) 0
def bit(t:List Nat)(i k:Nat):Bool:=(t.getD i 0).testBit k
def Kw(ws:List Nat)(n:Nat):List Nat:=(range n).foldl (fun t i=>t++[(range i).foldl (fun m k=>if bit ws i k then m ||| t.getD k 0 else m) (ws.getD i 0)]) []
def KS(ops:Array Oper)(i k:Nat):Bool:=decide (i<ops.size)&&decide (k<ops.size)&&bit (Kw (waits ops ops.size) ops.size) i k
def okB(ops:Array Oper)(D:Nat->Nat->Bool)(E:Nat->Bool):Bool :=
 Region.noSelect ops&&(range ops.size).all fun k=>match ops[k]? with
  | none=>true
  | some ok=>(ok.after.all fun e => !Region.binds .any e || decide (e.on<k))&&(range ops.size).all fun i=>match ops[i]? with
   | none=>true
   | some oi=>(match oi.dst with|none=>true|some d=>(i==k || ok.dst != some d)&&(!(ok.looksAt ops).contains d || (Region.waitsFor .any ops k i || (Region.waitsFor .any ops i k&&E i)))) &&
     (!D k i || (range k).any fun m=>Region.waitsFor .any ops k m&&(m==i || D m i))
def K7(ops:Array Oper):List Nat->Bool
 | []=>true
 | x::r=>(r.all fun j=>x != j && !Region.waitsFor .any ops x j)&&K7 ops r
def yO:List Nat->Bool
 | []=>true
 | x::r => !r.contains x&&yO r
def Tree.noisy:Tree->List Nat
 | .fin=>[]
 | .one i _ _ t=>i::t.noisy
 | .two i _ _ t _ _ _ _=>i::t.noisy
def Tree.last:Tree->List Nat->List Nat
 | .fin,q=>q
 | .one _ _ q t,_=>t.last q
 | .two _ _ q t _ _ r u,_=>t.last q++u.last r
def Tree.isFin:Tree->Bool
 | .fin=>true
 | _=>false
section
variable (l:List Oper) (D:Nat->Nat->Bool) (N E:Nat->Bool)
def nI(i:Nat)(f q:List Nat)(t:Tree)(F:List Nat):Bool :=
 N i&&decide (i<l.length)&&(nth l i).guard.isNone&&yO f&&(f.all fun x=>decide (x<l.length))&&(F.all fun x=>D i x || f.contains x)&&(q.all fun x => !N x&&decide (x<l.length))&&((q.all fun x => !E x) || t.isFin)
def oM:Tree->List Nat->Bool
 | .fin,_=>true
 | .one i f q t,F=>nI l D N E i f q t F&&((q++t.flat).all fun k=>(i::(q++t.flat)).any fun m=>Region.waitsFor .any l.toArray k m)&&oM t (q++F)
 | .two i f q t j g r u,F=>nI l D N E i f q t F&&nI l D N E j g r u F&&((i::(q++t.flat)).all fun k=>k==i || (k==j || (i::(q++t.flat)).any fun m=>Region.waitsFor .any l.toArray k m)) &&
   ((i::(q++t.flat)).all fun k=>(j::(r++u.flat)).contains k)&&((j::(r++u.flat)).all fun k=>(i::(q++t.flat)).contains k)&&((i::(q++t.flat)).length==(j::(r++u.flat)).length)&&oM t (q++F)&&oM u (r++F)
end
def xD(ops:Array Oper):Tree->List Nat->Bool
 | .fin,U=>K7 ops U
 | .one i _ q t,U=>xD ops t (U++i::q)
 | .two i _ q t j _ r u,U=>xD ops t (U++i::q)&&xD ops u (U++j::r)
def Jk(l:List Oper)(q:List Nat)(T:Tree):Bool :=
 let D:=KS l.toArray
 let N:=fun i=>T.noisy.contains i
 let E:=fun i=>(T.last q).contains i
 okB l.toArray D E&&oM l D N E T q&&xD l.toArray T q&&(q.all fun x => !N x&&decide (x<l.length))&&((q.all fun x => !E x) || T.isFin)&&((q++T.flat).all fun i=>decide (i<l.length))&&((q++T.flat).length==l.length)&&(range l.length).all fun i=>(q++T.flat).contains i
theorem Bc:∀{l:List Nat},yO l=true->l.Nodup
 | [],_=>nodup_nil
 | x::r,h=>by
  simp only[yO,Bool.and_eq_true,Bool.not_eq_true',contains_eq_mem,decide_eq_false_iff_not]at h
  exact nodup_cons.2 ⟨h.1,Bc h.2⟩
theorem lY{l:List Oper}{i:Nat}(h:i<l.length):l.toArray[i]?=some (nth l i):=by simp[nth,h]
theorem wE{n:Nat}{p:Nat->Bool}(h:(range n).all p=true){i:Nat}(hi:i<n):p i=true:=all_eq_true.1 h i (mem_range.2 hi)
theorem MD{D:Nat->Nat->Bool}{E:Nat->Bool}(h:okB ops D E=true)(hD:∀i q,D i q=true->i<ops.size/\q<ops.size):Sm ops D E:=by
 simp only[okB,Bool.and_eq_true]at h
 have H:∀{k i:Nat} {ok oi:Oper},ops[k]?=some ok->ops[i]?=some oi->_:=fun {k i ok oi} hk hi=>by
  have h1:=wE h.2 (Array.getElem?_eq_some_iff.1 hk).1;rw[hk]at h1;simp only[Bool.and_eq_true]at h1;have h2:=wE h1.2 (Array.getElem?_eq_some_iff.1 hi).1;rw[hi]at h2;simp only[Bool.and_eq_true]at h2;exact NK h1.1 h2
 refine⟨h.1,fun i k hw=>?_,fun i k oi ok d hne hi hk hd=>?_,fun i k oi ok d hi hk hd hm=>?_,fun i q hq=>?_⟩
 ·obtain⟨oi,hoi,e,he,hb,rfl⟩:=Region.waitsFor_spec hw;have:=Array.all_eq_true_iff_forall_mem.1 (H hoi hoi).1 e he;simpa[hb]using this
 ·have:=(H hk hi).2.1;simp only[hd,Bool.and_eq_true,Bool.or_eq_true,beq_iff_eq,bne_iff_ne]at this;exact this.1.resolve_left hne
 ·have:=(H hk hi).2.1;simp only[hd,Bool.and_eq_true,Bool.or_eq_true,Bool.not_eq_true',contains_eq_mem,decide_eq_false_iff_not]at this;exact this.2.resolve_left (fun h=>h hm)
 ·obtain⟨h1,h2⟩:=hD i q hq;have:=(H (Array.getElem?_eq_getElem h1) (Array.getElem?_eq_getElem h2)).2.2;rw[hq]at this;simp only[Bool.not_true,Bool.false_or,any_eq_true,Bool.and_eq_true,Bool.or_eq_true,beq_iff_eq]at this;obtain⟨m,-,hw,hm⟩:=this;exact⟨m,hw,hm⟩
theorem JI:∀{s:List Nat},K7 ops s=true->row (Far ops) s
 | [],_=>trivial
 | x::r,h=>by
  simp only[K7,Bool.and_eq_true,all_eq_true,bne_iff_ne,Bool.not_eq_true']at h
  exact⟨fun j hj=>h.1 j hj,JI h.2⟩
theorem te:∀{T:Tree} {U:List Nat},xD ops T U=true->T.Rows ops U
 | .fin,_,h=>JI h
 | .one _ _ _ t,_,h=>te (T:=t) h
 | .two _ _ _ t _ _ _ u,_,h=>by
  simp only[xD,Bool.and_eq_true]at h
  exact⟨te (T:=t) h.1,te (T:=u) h.2⟩
theorem AV{t:Tree}(h:t.isFin=true):t=.fin:=by cases t<;>simp[Tree.isFin]at h ⊢
end
section
variable {P:Program} {l:List Oper} {N:Nat->Bool} {D:Nat->Nat->Bool} {E:Nat->Bool} {Q:Act->World->Prop} {w:World}
theorem nJ{i:Nat}{f q F:List Nat}{t:Tree}(h:nI l D N E i f q t F=true):ti l.toArray N E i q t/\i<l.length/\(nth l i).guard=none/\f.Nodup/\(∀x∈f,x<l.length)/\(∀x∈F,D i x=false->x∈f)/\∀x∈q,N x=false/\x<l.length:=by
 simp only[nI,Bool.and_eq_true,Bool.or_eq_true,all_eq_true,decide_eq_true_eq,Bool.not_eq_true',Option.isNone_iff_eq_none,contains_eq_mem]at h;obtain⟨⟨⟨⟨⟨⟨⟨h1,h2⟩,h3⟩,h4⟩,h5⟩,h6⟩,h7⟩,h8⟩:=h;exact⟨⟨h1,fun x hx=>(h7 x hx).1,h8.imp id AV⟩,h2,h3,Bc h4,h5,fun x hx hd=>(h6 x hx).resolve_left (by rw[hd];simp),h7⟩
theorem tf:∀{T:Tree} {F:List Nat},oM l D N E T F=true->T.Ok l.toArray N E
 | .fin,_,_=>trivial
 | .one i f q t,F,h=>by
  simp only[oM,Bool.and_eq_true,all_eq_true,any_eq_true]at h
  exact⟨(nJ h.1.1).1,h.1.2,tf h.2⟩
 | .two i f q t j g r u,F,h=>by
  simp only[oM,Bool.and_eq_true]at h
  obtain⟨⟨⟨⟨⟨⟨⟨h1,h2⟩,h3⟩,h4⟩,h5⟩,h6⟩,h7⟩,h8⟩:=h
  simp only[all_eq_true,any_eq_true,Bool.or_eq_true,beq_iff_eq,contains_iff_mem]at h3 h4 h5 h6
  exact⟨(nJ h1).1,(nJ h2).1,h3,fun k=>⟨h4 k,h5 k⟩,h6,tf h7,tf h8⟩
theorem qL{K K':Act->Prop}(hk:∀a,K a->K' a):∀{s:List Oper} {a:Act},wpStill P l.toArray w K s a->wpStill P l.toArray w K' s a
 | [],_,h=>hk _ h
 | o::s,a,h=>by
  unfold wpStill at h ⊢
  split
  ·rename_i hw;rw[NR hw]at h;exact Oper.still_mono (fun _=>qL hk) h
  ·rename_i hw;rw[NQ hw]at h;exact qL hk h
theorem rG{r:List Nat}:∀{q f:List Nat} {a:Act},(∀i∈q,N i=false/\i<l.length)->wpStill P l.toArray w (fun b=>Seq P l.toArray N D Q r (q.reverse++f) b w) (q.map (nth l)) a->Seq P l.toArray N D Q (q++r) f a w
 | [],f,a,_,h=>h
 | i::q,f,a,hq,h=>by
  have hi:=hq i Nh
  rw[cons_append]
  unfold Seq
  rw[NQ (by rw[hi.1];simp)]
  unfold stOp
  rw[lY hi.2]
  have h2:wpStill P l.toArray w (fun b=>Seq P l.toArray N D Q r (q.reverse++(i::f)) b w) (nth l i::q.map (nth l)) a:=by
   simpa using h
  have nx:∀c,wpStill P l.toArray w (fun b=>Seq P l.toArray N D Q r (q.reverse++(i::f)) b w) (q.map (nth l)) c->Seq P l.toArray N D Q (q++r) (i::f) c w :=
   fun c hc=>rG (fun i hi=>hq i (by simp[hi])) hc
  unfold wpStill at h2;simp only;split
  ·rename_i hw;rw[NR hw]at h2;exact Oper.still_mono nx h2
  ·rename_i hw;rw[NQ hw]at h2;exact nx _ h2
theorem vj{c:Act}:∀{q:List Nat} {b:Act},(∀i∈q,i<l.length)->wpStill P l.toArray w (fun d=>d=c) (q.map (nth l)) b->b.defers=c.defers/\∀t,(∀k∈q,(nth l k).dst≠some t)->b.tmps[t]?=c.tmps[t]?
 | [],b,_,h=>by
  have:b=c:=h
  subst this;exact⟨rfl,fun _ _=>rfl⟩
 | i::q,b,hq,h=>by
  have hs:stOp P l.toArray w i (wpStill P l.toArray w (fun d=>d=c) (q.map (nth l))) b:=by unfold stOp;rw[lY (hq i Nh)];exact h
  obtain⟨v,-,h2⟩:=yieldsAt_of_stOp (lY (hq i Nh)) hs
  obtain⟨e1,e2⟩:=vj (fun i hi=>hq i (by simp[hi])) h2
  refine⟨?_,fun t ht=>?_⟩
  ·rw[<- e1];cases (nth l i).dst<;>rfl
  ·rw[<- e2 t (fun k hk=>ht k (by simp[hk]))]
   cases hd:(nth l i).dst with
   | none=>rfl
   | some d=>simp only[Act.put];rw[Array.getElem?_setIfInBounds_ne (fun e=>ht i Nh (by rw[hd,e]))]
theorem xq(hd:∀i k t,i≠k->i<l.length->k<l.length->(nth l i).dst=some t->(nth l k).dst≠some t){c:Act}:∀{q:List Nat},q.Nodup->(∀i∈q,i<l.length)->wpStill P l.toArray w (fun d=>d=c) (q.map (nth l)) c->∀i∈q,zB P l.toArray w c i
 | [],_,_,_,i,hi=>nomatch hi
 | x::q,hn,hq,h,i,hi=>by
  have hx:=hq x Nh
  have hq':=fun i hi=>hq i (mem_cons_of_mem x hi)
  have hs:stOp P l.toArray w x (wpStill P l.toArray w (fun d=>d=c) (q.map (nth l))) c:=by unfold stOp;rw[lY hx];exact h
  obtain⟨v,hy,h2⟩:=yieldsAt_of_stOp (lY hx) hs
  have e:c.put (nth l x).dst v=c:=by
   obtain⟨e1,e2⟩:=vj hq' h2
   cases ht:(nth l x).dst with
   | none=>rfl
   | some t =>
    rw[ht]at e1 e2;have:=e2 t (fun k hk hk2=>hd x k t (fun e=>(nodup_cons.1 hn).1 (e ▸ hk)) hx (hq' k hk) ht hk2);obtain⟨tm,df⟩:=c;simp only[Act.put,Act.mk.injEq,and_true]at this ⊢;refine Array.ext_getElem? fun k=>?_
    by_cases hk:t=k
    ·subst hk;exact this
    ·rw[Array.getElem?_setIfInBounds_ne hk]
  rcases mem_cons.1 hi with rfl|hi
  ·exact⟨_,v,lY hx,hy,e⟩
  ·rw[e]at h2;exact xq hd (nodup_cons.1 hn).2 hq' h2 i hi
def tx(P:Program)(l:List Oper)(Q:Act->World->Prop):Tree->Act->World->Prop
 | .fin,a,w=>Q a w
 | .one i f q t,a,w=>(nth l i).wp P a w (fun c v=>wpStill P l.toArray v (fun d=>d=c) (f.map (nth l)) c/\wpStill P l.toArray v (fun b=>tx P l Q t b v) (q.map (nth l)) c) U0
 | .two i f q t j g r u,a,w=>(nth l i).wp P a w (fun c v=>wpStill P l.toArray v (fun d=>d=c) (f.map (nth l)) c/\wpStill P l.toArray v (fun b=>tx P l Q t b v) (q.map (nth l)) c) U0 /\
   (nth l j).wp P a w (fun c v=>wpStill P l.toArray v (fun d=>d=c) (g.map (nth l)) c/\wpStill P l.toArray v (fun b=>tx P l Q u b v) (r.map (nth l)) c) U0
theorem Jl(hd:∀i k t,i≠k->i<l.length->k<l.length->(nth l i).dst=some t->(nth l k).dst≠some t):∀{T:Tree} {F:List Nat} {a:Act} {w:World},oM l D N E T F=true->tx P l Q T a w->Pre P l.toArray N D Q T F a w:=by
 have one:∀{i:Nat} {f q F:List Nat} {t:Tree} {a:Act} {w:World} {Z:Act->World->Prop},nI l D N E i f q t F=true->(∀a w,tx P l Q t a w->Z a w) ->
   (nth l i).wp P a w (fun c v=>wpStill P l.toArray v (fun d=>d=c) (f.map (nth l)) c/\wpStill P l.toArray v (fun b=>tx P l Q t b v) (q.map (nth l)) c) U0->Hk P l.toArray D i F (Seq P l.toArray N D Z q F) a w:=by
  intro i f q F t a w Z hb hZ h;obtain⟨-,h1,h2,h3,h4,h5,h6⟩:=nJ hb;refine⟨_,lY h1,h2,Oper.wp_mono (fun c v hc=>⟨fun x hx hdx=>xq hd h3 h4 hc.1 x (h5 x hx hdx),?_⟩) h⟩;have:=rG (P:=P) (N:=N) (D:=D) (Q:=Z) (r:=[]) (q:=q) (f:=F) (a:=c) (w:=v) h6 (qL (fun b hb=>hZ b v hb) hc.2);rwa [append_nil]at this
 intro T;induction T with
 | fin=>intro F a w _ h;exact h
 | one i f q t ih =>
  intro F a w hB h;simp only[oM,Bool.and_eq_true]at hB;exact one hB.1.1 (fun a w=>ih hB.2) h
 | two i f q t j g r u ih1 ih2 =>
  intro F a w hB h;simp only[oM,Bool.and_eq_true]at hB;exact⟨one hB.1.1.1.1.1.1.1 (fun a w=>ih1 hB.1.2) h.1,one hB.1.1.1.1.1.1.2 (fun a w=>ih2 hB.2) h.2⟩
theorem Ey{Q':Exit->Act->World->Prop}(q:List Nat)(T:Tree)(hB:Jk l q T=true){a:Act}(h:wpStill P l.toArray w (fun b=>tx P l (fun a w=>Q' .normal a w) T b w) (q.map (nth l)) a):
  wpAny P .any l.toArray Q' l.toArray.size (Array.replicate l.toArray.size false) a w:=by
 simp only[Jk,Bool.and_eq_true]at hB;obtain⟨⟨⟨⟨⟨⟨⟨h1,h2⟩,h3⟩,h4⟩,h5⟩,h6⟩,h7⟩,h8⟩:=hB;simp only[all_eq_true,decide_eq_true_eq,beq_iff_eq,Bool.not_eq_true',Bool.or_eq_true,Bool.and_eq_true,contains_iff_mem]at h4 h5 h6 h7 h8;have H:=MD h1 (fun i q h=>by simp only[KS,Bool.and_eq_true,decide_eq_true_eq]at h;exact h.1)
 have hs:=rG (P:=P) (l:=l) (w:=w) (N:=fun i=>T.noisy.contains i) (D:=KS l.toArray) (Q:=Pre P l.toArray (fun i=>T.noisy.contains i) (KS l.toArray) (fun a w=>Q' .normal a w) T q) (r:=[]) (q:=q) (f:=[]) (a:=a) h4
  (qL (fun b hb=>Jl (fun i k t hne hi hk hd=>H.dst i k _ _ t hne (lY hi) (lY hk) hd) h2 hb) h)
 rw[append_nil]at hs;refine It H (Q:=fun a w=>Q' .normal a w) (fun _ _ h=>h) _ T q q _ a w (by rw[size_toArray];exact h7) ⟨fun i=>?_,by simpa using h6,Nh,fun i k hw hi hk=>hi (h8 i (mem_range.2 ?_))⟩ (fun i hi=>⟨(h4 i hi).1,hi⟩) (h5.imp id AV) (tf h2) (te h3) hs
 ·rcases Nat.lt_or_ge i l.length with hi|hi
  ·have:=h8 i (mem_range.2 hi);simp[hi,mem_append.1 this]
  ·have:¬i∈q++T.flat:=fun hm=>Nat.not_lt.2 hi (h6 i hm)
   rw[mem_append]at this;simp[Nat.not_lt.2 hi,this]
 ·obtain⟨o,ho,_⟩:=Region.waitsFor_spec hw;simpa using(Array.getElem?_eq_some_iff.1 ho).1
theorem zo{id:Nat}{Q:Exit->Act->World->Prop}{a:Act}(q:List Nat)(T:Tree)(hm:P.follows .mixedOrders=true)(hB:Jk l q T=true)(h:∀W,(∀{F G:HF} {b:World},Turns F G b w->Turns F G b W)->wpStill P l.toArray W (fun b=>tx P l (fun a w=>Q .normal a w) T b W) (q.map (nth l)) a):(Code.region id l.toArray true).wp P Q a w :=
 wp_region_any hm (Ey q T hB (h _ fun h=>h.drew))
def Mix(P:Program)(l:List Oper)(Q:Act->World->Prop):List (List Nat×Nat×List Nat)->List Nat->Act->World->Prop
 | [],e,a,w=>wpStill P l.toArray w (fun b=>Q b w) (e.map (nth l)) a
 | (q,i,f)::r,e,a,w=>wpStill P l.toArray w (fun b=>(nth l i).wp P b w (fun c v=>wpStill P l.toArray v (fun d=>d=c) (f.map (nth l)) c/\Mix P l Q r e c v) U0) (q.map (nth l)) a
def lin:List (List Nat×Nat×List Nat)->List Nat->List Nat×Tree
 | [],e=>(e,.fin)
 | (q,i,f)::r,e=>(q,.one i f (lin r e).1 (lin r e).2)
theorem yN:∀{pl:List (List Nat×Nat×List Nat)} {e:List Nat} {a:Act} {w:World},Mix P l Q pl e a w->wpStill P l.toArray w (fun b=>tx P l Q (lin pl e).2 b w) ((lin pl e).1.map (nth l)) a
 | [],_,_,_,h=>h
 | (_,_,_)::_,_,_,_,h=>qL (fun _ hb=>Oper.wp_mono (fun _ _ hc=>⟨hc.1,yN hc.2⟩) hb) h
theorem cH{id:Nat}{Q:Exit->Act->World->Prop}{a:Act}(pl:List (List Nat×Nat×List Nat))(e:List Nat)(hm:P.follows .mixedOrders=true)(hB:Jk l (lin pl e).1 (lin pl e).2=true)(h:∀W,(∀{F G:HF} {b:World},Turns F G b w->Turns F G b W)->Mix P l (fun a w=>Q .normal a w) pl e a W):(Code.region id l.toArray true).wp P Q a w :=
 zo _ _ hm hB fun W tW=>yN (h W tW)
theorem qM{ops:Array Oper}{Q:Act->Prop}{o:Oper}{r:List Oper}{a:Act}{v:Value}(hg:Region.wanted o (yielded ops a.tmps)=true)(h:(execOp a.eval o).run P w=.ok (.value v) w)(hk:wpStill P ops w Q r (a.put o.dst v)):wpStill P ops w Q (o::r) a:=by
 unfold wpStill;rw[NR hg];unfold Oper.still;rw[h];exact⟨rfl,hk⟩
theorem cq{ops:Array Oper}{Q:Act->Prop}{o:Oper}{r:List Oper}{a:Act}{v:Value}(hg:o.guard=none)(h:(execOp a.eval o).run P w=.ok (.value v) w)(hk:wpStill P ops w Q r (a.put o.dst v)):wpStill P ops w Q (o::r) a :=
 qM (by simp[Region.wanted,hg]) h hk
end
end
section
open Go.RowKit
def nP(o:Oper):Bool:=match o.op with|.defer _=>false|_=>true
theorem Ae{l n:Nat}{P:Program}{f:FuncId}{args:Array Value}{w:World}{R:Ending->World->Prop}(h:Calls P f args w R):CallsIn (Fence.wide.inRound l) n P f args w R :=
 ⟨trivial,fun cs _=>(callsIn_wide (n:=n).2 h).2 cs (room_wide _)⟩
theorem K9{l n:Nat}{P:Program}{r:String}{args:Array Value}{w:World}{R:Value->World->Prop}(h:Rows P r args w R):RowsIn (Fence.wide.inRound l) n P r args w R :=
 fun c cs _=>let ⟨v,w',r,s⟩:=h c cs;⟨v,w',r,stepsIn_wide.2 s⟩
theorem ET{l n:Nat}{P:Program}{o:Oper}{a:Act}{w:World}{K:Act->World->Prop}{Q:Exit->Act->World->Prop}(hd:nP o=true)(h:o.wp P a w K Q):o.wpIn (Fence.wide.inRound l) n P a w K Q:=by
 refine⟨fun _ _=>trivial,?_⟩;have e:Oper.semAt (Fence.wide.inRound l).round a.eval o=execOp a.eval o:=Oper.semAt_eq _ _ _ (fun c hc=>by simp[nP,hc]at hd);rw[e];unfold Oper.wp at h;generalize (execOp a.eval o).run P w=r at h ⊢;have hdp:(Fence.wide.inRound l).depth.isSome=true->1<=n:=fun hx=>by simp[Fence.wide]at hx
 cases r with
 | ok x w' =>
  cases x with
  | enter f args=>exact⟨hdp,(Ae h).mono (fun e w'' he=>by cases e<;>exact he)⟩
  | row r args=>exact⟨hdp,(K9 h).mono (fun _ _ he=>he)⟩
  | value v=>exact h
  | skip=>exact h
  | defer d=>exact h
  | _=>exact h.elim
 | halt x w' =>
  cases x with
  | panic v=>exact h
  | _=>exact h.elim
theorem no{l n:Nat}{P:Program}{ops:Array Oper}{rest:List Oper}{o:Oper}{a:Act}{w:World}{Q:Exit->Act->World->Prop}(hg:o.guard=none)(hd:nP o=true)(h:o.wp P a w (wpListIn (Fence.wide.inRound l) n P ops Q rest) Q):
  wpListIn (Fence.wide.inRound l) n P ops Q (o::rest) a w:=wpListIn_plain hg fun _ hK=>Oper.wpIn_mono hK (ET hd h)
theorem JW{l n:Nat}{P:Program}{md:Region.Mode}{ops:Array Oper}{Q:Exit->Act->World->Prop}(hn:ops.all nP=true)(hQ:¬LetsOut Q):
  ∀(fuel:Nat) (listed:Array Bool) (a:Act) (w:World),wpAny P md ops Q fuel listed a w->wpAnyIn (Fence.wide.inRound l) n P md ops Q fuel listed a w:=by
 intro fuel;induction fuel with
 | zero=>exact fun _ _ _ h=>h
 | succ fuel ih =>
  intro listed a w h;refine⟨h.1,fun i hi=>?_⟩;have h2:=h.2 i hi;unfold wpOp at h2;unfold wpOpIn
  cases ho:ops[i]? with
  | none=>rw[ho]at h2;exact ih _ _ _ h2
  | some o =>
   rw[ho]at h2;simp only at h2 ⊢
   have hd:nP o=true:=by
    obtain⟨hlt,rfl⟩:=Array.getElem?_eq_some_iff.1 ho;exact Array.all_eq_true.1 hn i hlt
   split
   ·rename_i hw;rw[NR hw]at h2;rcases h2 with h2|⟨_,h2⟩
    ·exact Oper.wpIn_mono (fun a w h=>ih _ _ _ h) (ET hd h2)
    ·exact absurd h2 hQ
   ·rename_i hw;rw[NQ hw]at h2;exact⟨fun _ _=>trivial,ih _ _ _ h2⟩
theorem vu{b n id:Nat}{P:Program}{l:List Oper}{Q:Exit->Act->World->Prop}{a:Act}{w:World}(pl:List (List Nat×Nat×List Nat))(e:List Nat)(hm:P.follows .mixedOrders=true)(hn:l.toArray.all nP=true)(hQ:¬LetsOut Q)(hB:Jk l (lin pl e).1 (lin pl e).2=true)(h:∀W,(∀{F G:HF} {b:World},Turns F G b w->Turns F G b W)->Mix P l (fun a w=>Q .normal a w) pl e a W):(Code.region id l.toArray true).wpIn (Fence.wide.inRound b) n P Q a w :=
 wpIn_region_any hm (JW hn hQ _ _ _ _ (Ey _ _ hB (yN (h _ fun h=>h.drew))))
theorem aP{w:World}{b e n:Nat}{v:Value}{xs:List Value}(h:w.ownsRow b e 1 v n xs):∃a cap,v=.slice a n cap/\xs.length=n/\n<=cap/\ak w a xs/\∀x,a=some x->v.ownBlock=some x.block:=by
 have hl:xs.length=n:=by simpa using h.1
 rcases h.2 with⟨rfl,rfl⟩|⟨g,cap,cur,rfl,hb,hg,hnc,hcm,hcs,htk⟩
 ·exact⟨none,0,rfl,hl,Nat.le_refl _,fun hp=>by omega,fun x hx=>by cases hx⟩
 ·refine⟨_,cap,rfl,hl,hnc,fun _=>⟨g,0,rfl,fun j hj=>?_⟩,fun x hx=>by simp at hx;subst hx;rfl⟩;rw[Nat.zero_add];refine aa hg j ?_;have:(cur.toList.take (n*1))[j]?=some xs[j]:=by rw[htk];simp[hj]
  rw[getElem?_take]at this;split at this
  ·simpa using this
  ·cases this
theorem uV{P:Program}{w:World}(t ty e:TypeId)(i:TypeInfo)(z:Value)(size bytes:Nat)(ht:P.underlying t=some (.slice e))(hi:P.info? e=some i)(hz:i.zero=some z)(hsize:i.size=size)(hby:i.bytes=bytes)(hzs:z.cells.size=size)(hs0:0<size)(v:Value)(n:Nat)(xs:List Value)(hown:w.ownsRow 0 e size v n xs)(sa:Option Addr)(m c:Nat)(news:List Value)(hnl:news.length=m*size)(hnews:0<m->∃ad,sa=some ad/\∀j u,news[j]?=some u->w.cell? (ad.add j)=some u)(h1:∀u∈news,u.oneCell'=true)(h63:n+m<=maxLen)(hbytes:(n+m)*bytes<=140737488355328):
  ∃v' w',(Builtin.append_ #[t,t] ty #[v,.slice sa m c]).run P w=.ok v' w'/\w'.ownsRow 0 e size v' (n+m) (xs++news)/\w.grownBy w' v.ownBlock/\(∀g,v'.ownBlock=some g->v.ownBlock=some g\/w.heap.size<=g)/\(v'=.slice none 0 0↔v=.slice none 0 0/\m=0):=by
 rcases Nat.eq_zero_or_pos m with rfl|hp
 ·obtain rfl:news=[]:=eq_nil_of_length_eq_zero Nb;exact⟨v,w,mE (P:=P) w t ty e i size ht hi v n xs hown sa c,by simpa using hown,⟨rfl,rfl,rfl,Nat.le_refl _,fun _ _ _=>rfl⟩,fun g h=>.inl h,Nh⟩
 ·obtain⟨ad,rfl,hc⟩:=hnews hp;obtain⟨v',w',r,r1,r2,r3,r4⟩:=jq (P:=P) w t ty e i z size bytes ht hi hz hsize hby hzs hs0 v n xs hown ad m c news hnl hc h1 h63 hbytes;exact⟨v',w',r,r1,r2,r4,r3⟩
theorem cL{P:Program}{o:Oper}{a:Act}{w a0:World}{K:Act->World->Prop}{Q:Exit->Act->World->Prop}{F G:HF}(s x:Operand)(t e:TypeId)(i:TypeInfo)(z:Value)(size bytes:Nat)(hop:o.op=.call { callee:=.builtin .append,args:=#[s,x],argTypes:=#[t,t] })(ht:P.underlying t=some (.slice e))(hi:P.info? e=some i)(hz:i.zero=some z)(hsize:i.size=size)(hby:i.bytes=bytes)(hzs:z.cells.size=size)(hs0:0<size)(v:Value)(n:Nat)(xs:List Value)(hs:a.eval s=v)(hT:Turns F (bH e size v n xs++G) a0 w)(hok:ei size v n xs)(sa:Option Addr)(m c:Nat)(hx:a.eval x=.slice sa m c)(news:List Value)(hnl:news.length=m*size)(hnews:0<m->∃ad,sa=some ad/\∀j u,news[j]?=some u->w.cell? (ad.add j)=some u)(h1:∀u∈news,u.oneCell'=true)(h63:n+m<=maxLen)(hbytes:(n+m)*bytes<=140737488355328)(hk:∀v' w',ei size v' (n+m) (xs++news)->Turns F (bH e size v' (n+m) (xs++news)++G) a0 w'->(v'=.slice none 0 0↔v=.slice none 0 0/\m=0)->K (a.put o.dst v') w'):o.wp P a w K Q:=by
 obtain⟨v',w',hr,r1,r2,r3,r4⟩:=uV (P:=P) t o.type e i z size bytes ht hi hz hsize hby hzs hs0 v n xs (aW hT.sat.left hok) sa m c news hnl hnews h1 h63 hbytes;unfold Oper.wp execOp;simp only[hop,resolve,invoke,builtin,Sem.run_bind,Sem.run_pure,Result.andThen_ok,map_toArray,map_cons,map_nil,hs,hx,hr];exact hk v' w' (fe r1).2 (hT.grow r1 r2 r3) r4
theorem fu{o:Oper}{a:Act}{w a0:World}{K:Act->World->Prop}{Q:Exit->Act->World->Prop}{F G:HF}(s x:Operand)(hop:o.op=.call { callee:=.builtin .append,args:=#[s,x],argTypes:=#[38,38] })(v:Value)(l:Bs)(hs:a.eval s=v)(hT:Turns F (aJ v l++G) a0 w)(hok:PE v l)(sa:Option Addr)(m c:Nat)(hx:a.eval x=.slice sa m c)(r:Bs)(hm:m=r.length)(hc:ak w sa (r.map am))(hb:l.length+r.length<=137438953472)(hk:∀av cv w',PE (.slice av (l++r).length cv) (l++r)->Turns F (aJ (.slice av (l++r).length cv) (l++r)++G) a0 w'->(av=none->v=.slice none 0 0/\m=0)->K (a.put o.dst (.slice av (l++r).length cv)) w'):o.wp prog a w K Q:=by
 obtain⟨i0,hi0,hz1,hz2,hz3⟩:=info_parts iD;refine cL s x 38 5 i0 (.int .u8 0) 1 1 hop underlying38 hi0 hz1 hz2 hz3 rfl Nk v l.length (l.map am) hs hT hok sa m c hx (r.map am) (by simp[hm]) (fun hp=>?_) (dF _) (by unfold maxLen;omega) Nb (fun v' w' h1 h2 h3=>?_)
 ·obtain⟨g,off,e,hcc⟩:=hc Nj;exact⟨_,e,fun j u hu=>by obtain⟨hj,rfl⟩:=List.getElem?_eq_some_iff.1 hu;rw[Addr.add_lit];exact hcc j hj⟩
 ·have k1:PE v' (l++r):=by unfold PE;rw[NM,NW,<- hm];exact h1
  have k2:Turns F (aJ v' (l++r)++G) a0 w':=by unfold aJ;rw[NM,NW,<- hm];exact h2
  obtain⟨av,cv,rfl,-,-,-,-⟩:=aP (dh k2.sat.left k1)
  exact hk av cv w' k1 k2 (fun hn=>by
   subst hn;refine h3.1 ?_;have:=k1.2 rfl;exact this.1)
theorem ai{P:Program}{ops:Array Oper}{rest:List Oper}{o:Oper}{a:Act}{w:World}{Q:Exit->Act->World->Prop}(hg:o.guard=none)(h:o.wp P a w (wpList P ops Q rest) Q):wpList P ops Q (o::rest) a w:=by
 unfold wpList;rw[NR (by simp[Region.wanted,hg])];exact .inl h
theorem Turns.old{F G:HF}{a w:World}(h:Turns F G a w){b:Nat}{o:Obj}(hb:a.heap[b]?=some o)(hn:b∉dom F):w.heap[b]?=some o:=h.mods.at hb hn
theorem ak.Qc{F G:HF}{w w':World}{a:Option Addr}{xs:List Value}(h:ak w a xs)(hT:Turns F G w w')(hn:∀x,a=some x->x.block∉dom F):ak w' a xs:=h.keep hT.mods (fun g off e=>hn ⟨g,off,none⟩ e)
abbrev str(l:List UInt8):Value:=.string ⟨l.toArray⟩
def DJ(c:UInt8):Bool:=(97<=c.toNat&&c.toNat<=122) || (48<=c.toNat&&c.toNat<=57) || c.toNat==46 || c.toNat==45 || c.toNat==95
def lf(x:Nat):Bool:=(decide (97<=x)&&decide (x<=122)) || (decide (48<=x)&&decide (x<=57)) || x==46 || x==45 || x==95
theorem uK(c:UInt8):DJ c=lf c.toNat:=rfl
def eo:Nat->List UInt8->Bool
 | m,[]=>decide (0<m)
 | m,c::r=>if c.toNat=47/\0<m then eo 0 r else if DJ c then eo (m+1) r else false
def az(l:List UInt8):Bool:=decide (l≠[])&&decide (l.length<=20)&&eo 0 l
theorem zb{P:Program}(w:World)(s:ByteArray)(pos:Nat)(ty:TypeId)(h:pos<s.size):
  (Instr.next (.pointer (some ⟨w.heap.size,0,none⟩)) true ty).run P (w.iter s pos) =
   .ok (.tuple #[.bool true,.int .i64 pos,.int .i32 ((Utf8.decode s pos).1:Nat)]) (w.iter s (pos+(Utf8.decode s pos).2)):=by
 simp only[Instr.next,getObj,setObj,Sem.run_bind,Sem.run,World.iter_heap,Result.andThen,h,if_true,World.iter_set];simp[goInt]
theorem Aq(s:ByteArray)(pos:Nat)(h:pos<s.size)(ha:¬(s[pos]'h).toNat<128):128<=(Utf8.decode s pos).1:=by
 have e:s.get! (pos+0)=s[pos]'h:=by
  show s.get! pos=_;simp[ByteArray.get!,getElem!_pos,h];rfl
 unfold Utf8.decode;simp only[e];rw[NQ ha];split
 ·split
  ·simp only;omega
  ·simp[Utf8.runeError]
 split
 ·split
  ·rename_i h1;simp only[Bool.and_eq_true,decide_eq_true_eq,ge_iff_le]at h1;simp only;omega
  ·simp[Utf8.runeError]
 split
 ·split
  ·rename_i h1;simp only[Bool.and_eq_true,decide_eq_true_eq,ge_iff_le]at h1;simp only;omega
  ·simp[Utf8.runeError]
 ·simp[Utf8.runeError]
def fS(b:Bool)(w:World)(e:Ending)(w':World):Prop:=e=.returned (.bool b)/\aV w w'
theorem yL(s:ByteArray)(w:World)(h:s.toList=[]):Calls prog 122 #[.string s] w (fS false w):=by
 have h2:s.toList.isEmpty=true:=by rw[h];rfl
 go_enter func122,ntmps122;go_wp2_with fail;go_ret;exact ⟨rfl,N7.refl _ _⟩
theorem AW(s:ByteArray)(w:World)(h:¬s.toList=[])(hl:¬(s.size:Int)<=20):Calls prog 122 #[.string s] w (fS false w):=by
 have h2:s.toList.isEmpty=false:=by cases h':s.toList;exact absurd h' h;rfl
 have h3:(20:Int)<(s.size:Int):=Nb
 go_enter func122,ntmps122;go_wp2_with fail;go_ret;exact ⟨rfl,N7.refl _ _⟩
theorem nO{w a:World}(h:aV a w)(s:ByteArray)(p:Nat):aV a (w.iter s p):=h.alloc _
def J9(s:ByteArray)(w:World)(B:Bool)(v:Value)(wr:World):Prop :=
 ∃k m:Nat,k<=s.size/\m<=k/\v=.int .i64 m/\wr=w.iter s k/\eo m (s.data.toList.drop k)=B
theorem Dv(s:ByteArray)(w:World)(h:¬s.toList=[])(hl:(s.size:Int)<=20):Calls prog 122 #[.string s] w (fS (eo 0 s.data.toList) w):=by
 have h2:s.toList.isEmpty=false:=by cases h':s.toList;exact absurd h' h;rfl
 have h3:¬(20:Int)<(s.size:Int):=Nb
 go_enter func122,ntmps122;go_wp2_with fail;go_loopw [3] (fun v wr=>J9 s w (eo 0 s.data.toList) v wr) (fun _ wr=>s.size-wr.iterPos w.heap.size)
 case atStart=>exact⟨0,0,Nat.zero_le _,Nat.le_refl _,rfl,rfl,Nh⟩
 case round =>
  obtain⟨k,m,hk,hm,rfl,rfl,hB⟩:=hrel;have HB:=NZ hB;clear hB h h2 h3;by_cases hlt:k<s.size
  ·have hnx:=fun ty=>zb (P:=prog) w s k ty hlt
   have hsl:s.data.toList.length=s.size:=Nh
   have hdr:s.data.toList.drop k=s[k]::s.data.toList.drop (k+1):=by
    rw[drop_eq_getElem_cons Nb];rfl
   have HD:=NZ hdr;clear hdr;by_cases ha:s[k].toNat<128
   ·have hdc:=decode_ascii s k hlt ha;obtain⟨x,hx⟩:∃x,s[k].toNat=x:=⟨_,rfl⟩;simp only[hdc,hx]at hnx;have HX:=NZ hx;rw[hx]at ha;clear hdc hx hsl
    have hB2:(if x=47/\0<m then eo 0 (s.data.toList.drop (k+1))else if lf x then eo (m+1) (s.data.toList.drop (k+1))else false)=eo 0 s.data.toList:=by
     have:=HB.o;rw[HD.o,eo,HX.o,uK,HX.o]at this;exact this
    have HB2:=NZ hB2;clear hB2 HB;have hm1:(m:Int)<=9223372036854775806:=Nb
    by_cases c1:x=47
    ·subst c1;by_cases hm0:0<m
     ·have HB3:=NZ HB2.o;have hm2:(0:Int)<(m:Int):=Nb
      go_wp2_with fail;go_roundw
      case rel=>exact⟨k+1,0,Nb,Nb,rfl,rfl,by have:=HB3.o;rwa [NR ⟨rfl,hm0⟩]at this⟩
      case measure=>simp;omega
     ·obtain rfl:m=0:=Nb
      have HB3:=NZ HB2.o;go_wp2_with fail;go_ret;refine ⟨?_,nO (N7.refl _ w) _ _⟩;have:=HB3.o;rw[NQ Nb,NQ Nk]at this;rw[<- this];rfl
    ·by_cases c2:lf x=true
     ·have HC2:=NZ c2;have hne:¬(x:Int)=47:=Nb
      have hp:(97<=x/\x<=122)\/(48<=x/\x<=57)\/x=46\/x=45\/x=95:=by
       unfold lf at c2;simp only[Bool.or_eq_true,Bool.and_eq_true,decide_eq_true_eq,beq_iff_eq]at c2;omega
      clear c2;rcases hp with hp|hp|hp|hp|hp
      all_goals first|subst hp|(obtain⟨hp1,hp2⟩:=hp;have hp3:(x:Int)<=122:=Nb)
      all_goals go_wp2_with fail
      all_goals
       go_roundw
       case rel=>exact⟨k+1,m+1,Nb,Nb,by go_num,rfl,by have:=HB2.o;rwa [NQ Nb,NR HC2.o]at this⟩
       case measure=>simp;omega
     ·have HC2:=NZ c2
      have hp:¬(97<=x/\x<=122)/\¬(48<=x/\x<=57)/\¬x=46/\¬x=45/\¬x=95:=by
       unfold lf at c2;simp only[Bool.or_eq_true,Bool.and_eq_true,decide_eq_true_eq,beq_iff_eq]at c2;omega
      obtain⟨hp1,hp2,hp3,Vs,hp5⟩:=hp;clear c2;go_wp2_with fail;go_ways
      all_goals
       go_ret;refine ⟨?_,nO (N7.refl _ w) _ _⟩;have:=HB2.o;rw[NQ Nb,NQ HC2.o]at this;rw[<- this];rfl
   ·have hdc:=Aq s k hlt ha;generalize hc:(Utf8.decode s k).1=c at hdc hnx
    have hB2:false=eo 0 s.data.toList:=by
     have:=HB.o;rw[HD.o]at this;simp only[eo]at this;rw[NQ (fun h=>ha Nb)]at this
     have hp:DJ s[k]=false:=by
      rw[uK];unfold lf;generalize s[k].toNat=y at ha;simp only[Bool.or_eq_false_iff,Bool.and_eq_false_iff,decide_eq_false_iff_not,beq_eq_false_iff_ne];omega
     rw[hp]at this;exact this
    have HB2:=NZ hB2;clear hB2 HB HD ha;have e47:¬(c:Int)=47:=Nb
    have e1:(97:Int)<=c:=Nb
    have e2:¬(c:Int)<=122:=Nb
    have e3:(48:Int)<=c:=Nb
    have e4:¬(c:Int)<=57:=Nb
    have e5:¬(c:Int)=46:=Nb
    have e6:¬(c:Int)=45:=Nb
    have e7:¬(c:Int)=95:=Nb
    go_wp2_with fail;go_ways
    all_goals
     go_ret;refine ⟨?_,nO (N7.refl _ w) _ _⟩;rw[<- HB2.o];rfl
  ·obtain rfl:k=s.size:=Nb
   have hnx:=fun ty=>run_next_end (P:=prog) w s s.size ty hlt
   have hB3:decide (0<m)=eo 0 s.data.toList:=by
    have:=HB.o;rw[drop_of_length_le Nh]at this;exact this
   have HB3:=NZ hB3;clear hB3 HB;go_wp2_with fail;refine bodyPost_end (results_tmp rfl _ _ _) rfl ⟨?_,nO (N7.refl _ w) _ _⟩;rw[<- HB3.o];simp
theorem yK(l:List UInt8)(w:World):Calls prog 122 #[str l] w (fS (az l) w):=by
 unfold az;by_cases h0:l=[]
 ·subst h0;exact yL _ w ((toList_nil_iff_emptyBytes _).2 rfl)
 have hne:¬(⟨l.toArray⟩:ByteArray).toList=[]:=by
  intro h;apply h0;have:=congrArg (fun b:ByteArray=>b.data.toList) ((toList_nil_iff_emptyBytes _).1 h);simpa using this
 have hsz:(⟨l.toArray⟩:ByteArray).size=l.length:=by simp[ByteArray.size]
 by_cases h1:l.length<=20
 ·have:=Dv ⟨l.toArray⟩ w hne (by rw[hsz];omega);simpa[h0,h1]using this
 ·have:=AW ⟨l.toArray⟩ w hne (by rw[hsz];omega);simpa[h0,h1]using this
def Fg(ob:Nat)(body:Bs)(w:World)(e:Ending)(w':World):Prop :=
 e=.returned .nilIface/\∃v,PE v body/\Turns [(ob,Is (.cells #[.slice none 0 0] 38 (0,0)))] ((ob,Is (.cells #[v] 38 (0,0)))::aJ v body) w w'
theorem A8(a:Option Addr)(cap:Nat)(b body:Bs)(at_ pb xb ob:Nat)(w:World)(h:ak w a (b.map am))(hl:b.length<=1099511627776)(hcap:b.length<=cap)(ho:b5 b=some (1,body,body.length+9))(hp:w.heap[pb]?=some (.cells #[.int .i64 at_,.int .i64 body.length] 161 (0,0)))(hob:w.heap[ob]?=some (.cells #[.slice none 0 0] 38 (0,0)))(hpo:pb≠ob)(hao:∀x,a=some x->x.block≠ob):
  Calls prog 131 #[.slice a b.length cap,.pointer (some ⟨pb,0,none⟩),.pointer (some ⟨xb,0,none⟩),.pointer (some ⟨ob,0,none⟩)] w (Fg ob body w):=by
 have hop:=jo a cap b w h hl hcap;unfold eb at hop;rw[ho]at hop;have hbl:body.length<65536:=(dD ho).2.2.2.2;have HO:=NZ hop;have HH:=OW hp hob hpo hao;clear h hl hcap hop hp hob hpo hao;go_enter func131,ntmps131;go_wp2_with fail;refine HO.o.mono ?_;rintro e w1 ⟨a',rfl,hca,hab,hs1⟩;have p1:=aa (hs1.at HH.a id) 1 rfl;have o0:=aa (hs1.at HH.b id) 0 rfl;have of:=aY (hs1.at HH.b id) 0;have hT1:Turns [(ob,Is (.cells #[.slice none 0 0] 38 (0,0)))] (aJ (.slice none 0 0) []++[(ob,Is (.cells #[.slice none 0 0] 38 (0,0)))]) w w1:=(Turns.refl (Sat.one HH.b Is.rfl)).Q8 hs1;have H1:=Ob hT1 hca;clear hs1 hca hab hT1;go_wp2_with ((refine ai rfl (fu (.tmp 38) (.tmp 39) rfl (.slice none 0 0) [] rfl H1.a go a' body.length body.length rfl body rfl H1.z Nj ?_));intro av cv w2 hok2 hT2 _;rw[nil_append]at hok2 hT2 ⊢;have o2:=aa (hT2.sat.right.Q5) 0 rfl;have of2:=aY (hT2.sat.right.Q5) 0;have H2:=Ob hok2 hT2;clear hok2 hT2);go_ret;refine⟨rfl,.slice av body.length cv,H2.a,?_⟩;have h3:=H2.z.to (H:=(ob,Is (.cells #[.slice none 0 0] 38 (0,0)))::aJ (.slice av body.length cv) body) ac;exact h3.Qa ((N7.refl (fun k=>k=ob) w2).set1 (i:=0) _) (bq h3.sat.Q5 0 _)
end
section
open Go.RowKit Go.Maps
structure OT (κ:Type) where
 key:κ
 val:Value
 born:Nat
section
variable {κ:Type} [DecidableEq κ]
set_option linter.unusedSectionVars false
def dK(enc:κ->Value)(e:OT κ):MapEntry:=⟨enc e.key,e.val,e.born⟩
def aU(enc:κ->Value)(l:List (OT κ))(c:Nat):Obj:=.map (l.map (dK enc)).toArray c
def dH(l:List (OT κ))(k:κ):Option Value:=(l.find? (fun e=>decide (e.key=k))).map (·.val)
def iB(l:List (OT κ))(k:κ):Bool:=l.any (fun e=>decide (e.key=k))
def rE(l:List (OT κ))(k:κ)(v:Value):List (OT κ):=l.map (fun e=>if e.key=k then { e with val:=v } else e)
def gJ(l:List (OT κ))(c:Nat)(k:κ)(v:Value):List (OT κ):=if iB l k then rE l k v else l++[⟨k,v,c⟩]
def cy(l:List (OT κ))(c:Nat)(k:κ):Nat:=if iB l k then c else c+1
def yx(l:List (OT κ))(k:κ):List (OT κ):=l.filter (fun e => !decide (e.key=k))
structure OO (Ok:κ->Prop) (l:List (OT κ)) (c:Nat):Prop where
 nodup:(l.map (·.key)).Nodup
 Ri:(l.map (·.born)).Nodup
 lt:∀e∈l,e.born<c
 ok:∀e∈l,Ok e.key
structure Pz (P:Program) (k:TypeId) (enc:κ->Value) (Ok:κ->Prop):Prop where
 keyed:Keyed P k
 inj:∀a b,enc a=enc b->a=b
 key:∀a,Ok a->∃l,keyOf P k (enc a)=some l
theorem lu{l:List (OT κ)}{k:κ}{v:Value}(h:dH l k=some v):∃e∈l,e.key=k/\e.val=v:=by
 unfold dH at h
 cases hf:l.find? (fun e=>decide (e.key=k))with
 | none=>rw[hf]at h;simp at h
 | some e =>
  rw[hf]at h;have h1:=find?_some hf;exact⟨e,mem_of_find?_eq_some hf,by simpa using h1,by simpa using h⟩
theorem gy{l:List (OT κ)}{k:κ}:dH l k=none↔∀e∈l,e.key≠k:=by
 unfold dH;simp
theorem iC{l:List (OT κ)}{k:κ}:iB l k=true↔∃e∈l,e.key=k:=by simp[iB]
theorem gO{l:List (OT κ)}{k:κ}:iB l k=(dH l k).isSome:=by
 cases h:dH l k with
 | none=>rw[gy]at h;simp[iB];exact h
 | some v=>obtain⟨e,h1,h2,_⟩:=lu h;simp[iB];exact⟨e,h1,h2⟩
theorem rn{l:List (OT κ)}(h:(l.map (·.key)).Nodup){i j:Nat}{a b:OT κ}(ha:l[i]?=some a)(hb:l[j]?=some b)(hk:a.key=b.key):i=j:=by
 obtain⟨hi,rfl⟩:=List.getElem?_eq_some_iff.1 ha;obtain⟨hj,rfl⟩:=List.getElem?_eq_some_iff.1 hb;have hp:=pairwise_iff_getElem.1 h;rcases Nat.lt_trichotomy i j with hl|hl|hl
 ·exact absurd (by rw[getElem_map,getElem_map];exact hk) (hp i j (by simpa using hi) (by simpa using hj) hl)
 ·exact hl
 ·exact absurd (by rw[getElem_map,getElem_map];exact hk.symm) (hp j i (by simpa using hj) (by simpa using hi) hl)
theorem qm{l:List (OT κ)}(h:(l.map (·.key)).Nodup){e:OT κ}(he:e∈l):dH l e.key=some e.val:=by
 cases hg:dH l e.key with
 | none=>exact absurd rfl (gy.1 hg e he)
 | some v =>
  obtain⟨e',h1,h2,h3⟩:=lu hg;obtain⟨i,hi⟩:=mem_iff_getElem?.1 he;obtain⟨j,hj⟩:=mem_iff_getElem?.1 h1;have:=rn h hj hi h2;subst this;rw[hi]at hj
  cases hj
  rw[<- h3]
theorem mS{P:Program}{k:TypeId}{enc:κ->Value}{Ok:κ->Prop}(E:Pz P k enc Ok){l:List (OT κ)}{c:Nat}(hm:OO Ok l c){x:κ}(hx:Ok x)(w:World):
  ((Instr.findKey k (enc x) (l.map (dK enc))).run P w=.ok none w/\∀e∈l,e.key≠x) \/
  ∃i e,(Instr.findKey k (enc x) (l.map (dK enc))).run P w=.ok (some (i,e.val)) w/\l[i]?=some e/\e.key=x:=by
 obtain⟨lx,hlx⟩:=E.key x hx
 rcases E.keyed.find w hlx (l.map (dK enc)) (fun e he=>by
  obtain⟨e',h1,rfl⟩:=mem_map.1 he;exact E.key e'.key (hm.ok e' h1))with⟨h1,h2⟩|⟨j,e,h1,h2,h3⟩
 ·exact .inl ⟨h1,fun e he hk=>h2 (dK enc e) (mem_map.2 ⟨e,he,rfl⟩) (by rw[<- hk];rfl)⟩
 ·rw[getElem?_map]at h2
  cases hl:l[j]? with
  | none=>rw[hl]at h2;simp at h2
  | some e' =>
   rw[hl]at h2;simp only[Option.map_some,NY]at h2;subst h2;exact .inr ⟨j,e',h1,hl,E.inj _ _ h3⟩
variable {P:Program} {k t ev:TypeId} {enc:κ->Value} {Ok:κ->Prop}
theorem vd(E:Pz P k enc Ok)(ht:P.underlying t=some (.map k ev)){w:World}{b:Nat}{l:List (OT κ)}{c:Nat}(hb:w.heap[b]?=some (aU enc l c))(hm:OO Ok l c){z:Value}(hz:(zeroValue ev).run P w=.ok z w){x:κ}(hx:Ok x):
  (Instr.lookup t (.map (some b)) (enc x) false).run P w=.ok ((dH l x).getD z) w:=by
 obtain⟨lx,hlx⟩:=E.key x hx;rcases mS E hm hx w with⟨h1,h2⟩|⟨i,e,h1,h2,h3⟩
 ·rw[gy.2 h2];simp[Instr.lookup,run_underlying ht,MapKept.run_getObj_map hb,E.keyed.check w _ hlx,h1,hz,Result.andThen]
 ·subst h3;rw[qm hm.nodup (mem_of_getElem? h2)];simp[Instr.lookup,run_underlying ht,MapKept.run_getObj_map hb,E.keyed.check w _ hlx,h1,Result.andThen]
theorem ve(E:Pz P k enc Ok)(ht:P.underlying t=some (.map k ev)){w:World}{b:Nat}{l:List (OT κ)}{c:Nat}(hb:w.heap[b]?=some (aU enc l c))(hm:OO Ok l c){z:Value}(hz:(zeroValue ev).run P w=.ok z w){x:κ}(hx:Ok x):
  (Instr.lookup t (.map (some b)) (enc x) true).run P w=.ok (.tuple #[(dH l x).getD z,.bool (iB l x)]) w:=by
 obtain⟨lx,hlx⟩:=E.key x hx;rw[gO];rcases mS E hm hx w with⟨h1,h2⟩|⟨i,e,h1,h2,h3⟩
 ·rw[gy.2 h2];simp[Instr.lookup,run_underlying ht,MapKept.run_getObj_map hb,E.keyed.check w _ hlx,h1,hz,Result.andThen]
 ·subst h3;rw[qm hm.nodup (mem_of_getElem? h2)];simp[Instr.lookup,run_underlying ht,MapKept.run_getObj_map hb,E.keyed.check w _ hlx,h1,Result.andThen]
open Go.ChangeMaps (setBlock modify_eq_set)
theorem E4{l:List (OT κ)}(h:(l.map (·.key)).Nodup){i:Nat}{e:OT κ}(hi:l[i]?=some e)(v:Value):l.set i { e with val:=v }=rE l e.key v:=by
 apply ext_getElem?;intro j;unfold rE;rw[getElem?_set,getElem?_map];by_cases hj:i=j
 ·subst hj;obtain⟨hlt,he⟩:=List.getElem?_eq_some_iff.1 hi;simp[hlt,he]
 ·rw[NQ hj]
  cases hl:l[j]? with
  | none=>rfl
  | some e' =>
   have:e'.key≠e.key:=fun hk=>hj (rn h hi hl hk.symm)
   simp[this]
theorem GG(E:Pz P k enc Ok)(ht:P.underlying t=some (.map k ev)){w:World}{b:Nat}{l:List (OT κ)}{c:Nat}(hb:w.heap[b]?=some (aU enc l c))(hm:OO Ok l c){x:κ}(hx:Ok x)(v:Value):
  (Instr.mapUpdate t (.map (some b)) (enc x) v).run P w=.ok () (setBlock w b (aU enc (gJ l c x v) (cy l c x))):=by
 obtain⟨lx,hlx⟩:=E.key x hx;unfold gJ cy;rcases mS E hm hx w with⟨h1,h2⟩|⟨i,e,h1,h2,h3⟩
 ·have hh:iB l x=false:=by rw[gO,gy.2 h2];rfl
  simp[hh,Instr.mapUpdate,run_underlying ht,MapKept.run_getObj_map hb,E.keyed.check w false hlx,h1,MapKept.run_setObj_map _ hb,Result.andThen,setBlock,aU,dK]
 ·subst h3;have hh:iB l e.key=true:=iC.2 ⟨e,mem_of_getElem? h2,rfl⟩;have hj:(l.map (dK enc)).toArray[i]?=some (dK enc e):=by simp[h2]
  have hlist:(l.map (dK enc)).modify i (fun e'=>{ e' with key:=enc e.key,val:=v })=(rE l e.key v).map (dK enc):=by
   rw[modify_eq_set _ _ _ (dK enc e) (by simp[h2]),<- E4 hm.nodup h2 v,map_set];rfl
  simp[hh,Instr.mapUpdate,run_underlying ht,MapKept.run_getObj_map hb,E.keyed.check w false hlx,h1,h2,dK,E.keyed.stays w hlx,MapKept.run_setObj_map _ hb,Result.andThen,setBlock,aU];rw[<- hlist]
theorem E1{ty:TypeId}(E:Pz P k enc Ok)(ht:P.underlying t=some (.map k ev)){w:World}{b:Nat}{l:List (OT κ)}{c:Nat}(hb:w.heap[b]?=some (aU enc l c))(hm:OO Ok l c){x:κ}(hx:Ok x):
  (Builtin.delete_ #[t,k] ty #[.map (some b),enc x]).run P w=.ok (.tuple #[]) (setBlock w b (aU enc (yx l x) c)):=by
 obtain⟨lx,hlx⟩:=E.key x hx;unfold yx;rcases mS E hm hx w with⟨h1,h2⟩|⟨i,e,h1,h2,h3⟩
 ·have:l.filter (fun e => !decide (e.key=x))=l:=filter_eq_self.2 (fun e he=>by simp[h2 e he]);rw[this];simp[Builtin.delete_,run_underlying ht,MapKept.run_getObj_map hb,E.keyed.check w _ hlx,h1,MapKept.run_setObj_map _ hb,Result.andThen,setBlock,aU]
 ·subst h3;have hil:i<l.length:=(List.getElem?_eq_some_iff.1 h2).1
  have hlist:(l.map (dK enc)).eraseIdx i=(l.filter (fun e' => !decide (e'.key=e.key))).map (dK enc):=by
   have e1:l.filter (fun e' => !decide (e'.key=e.key))=l.eraseIdx i:=by
    have:=ChangeMaps.filter_eq_eraseIdx (fun e':OT κ=>decide (e'.key=e.key)) l i e h2 Nh (by
     refine(pairwise_map.1 hm.nodup).imp ?_;intro a b hab hk;simp only[decide_eq_true_eq]at hk;exact hab (hk.1.trans hk.2.symm))
    exact this
   rw[e1,ChangeMaps.map_eraseIdx]
  simp[Builtin.delete_,run_underlying ht,MapKept.run_getObj_map hb,E.keyed.check w _ hlx,h1,MapKept.run_setObj_map _ hb,Result.andThen,setBlock,aU];rw[<- hlist]
theorem wF(P:Program)(w:World)(k:IntKind)(n:Int):(asInt (.int k n)).run P w=.ok n w:=rfl
def Bb(l:List (OT κ))(c:Nat)(k:κ)(z:Value):List (OT κ):=if iB l k then l else l++[⟨k,z,c⟩]
theorem qg{l:List (OT κ)}(h:(l.map (·.born)).Nodup)(enc:κ->Value){i:Nat}{e:OT κ}(hi:l[i]?=some e):(l.map (dK enc)).findIdx? (fun e'=>(e'.born:Int)==(e.born:Int))=some i:=by
 obtain⟨hlt,he⟩:=List.getElem?_eq_some_iff.1 hi;rw[findIdx?_eq_some_iff_getElem];refine⟨by simpa using hlt,by simp[dK,he],?_⟩;intro j hj;simp only[getElem_map,dK,beq_iff_eq,Int.natCast_inj];intro hb;have hp:=pairwise_iff_getElem.1 h j i Nj (by simpa using hlt) hj;exact hp (by simp[hb,he])
def pU(l:List (OT κ))(c:Nat)(k:κ):Nat:=match l.find? (fun e=>decide (e.key=k))with|some e=>e.born|none=>c
theorem CU{l:List (OT κ)}{c:Nat}{k:κ}(h:∀e∈l,e.key≠k):pU l c k=c:=by
 unfold pU;have:l.find? (fun e=>decide (e.key=k))=none:=by rw[find?_eq_none];intro e he;simpa using h e he
 rw[this]
theorem CV{l:List (OT κ)}{c:Nat}(h:(l.map (·.key)).Nodup){i:Nat}{e:OT κ}(hi:l[i]?=some e):pU l c e.key=e.born:=by
 unfold pU
 cases hf:l.find? (fun e'=>decide (e'.key=e.key))with
 | none=>rw[find?_eq_none]at hf;exact absurd (hf e (mem_of_getElem? hi)) Nh
 | some e' =>
  obtain⟨j,hj⟩:=mem_iff_getElem?.1 (mem_of_find?_eq_some hf);have hk:e'.key=e.key:=by simpa using find?_some hf
  have:=rn h hj hi hk;subst this;rw[hi]at hj
  cases hj
  rfl
theorem xH(E:Pz P k enc Ok)(ht:P.underlying t=some (.map k ev)){w:World}{b:Nat}{l:List (OT κ)}{c:Nat}(hb:w.heap[b]?=some (aU enc l c))(hm:OO Ok l c){z:Value}(hz:(zeroValue ev).run P w=.ok z w){x:κ}(hx:Ok x):
  (Instr.mapEntry t (.map (some b)) (enc x)).run P w=.ok (.tuple #[(dH l x).getD z,.int .i64 (pU l c x)]) (setBlock w b (aU enc (Bb l c x z) (cy l c x))) /\
   ∀(W:World) (v:Value),W.heap[b]?=some (aU enc (Bb l c x z) (cy l c x))->(Instr.entryStore t (.map (some b)) (.int .i64 (pU l c x)) v).run P W=.ok () (setBlock W b (aU enc (gJ l c x v) (cy l c x))):=by
 obtain⟨lx,hlx⟩:=E.key x hx;unfold gJ cy Bb;rcases mS E hm hx w with⟨h1,h2⟩|⟨i,e,h1,h2,h3⟩
 ·have hh:iB l x=false:=by rw[gO,gy.2 h2];rfl
  rw[gy.2 h2,CU h2];refine⟨?_,?_⟩
  ·simp[hh,Instr.mapEntry,run_underlying ht,MapKept.run_getObj_map hb,E.keyed.check w false hlx,h1,hz,MapKept.run_setObj_map _ hb,Result.andThen,setBlock,aU,dK,goInt]
  ·intro W v hW;simp only[hh]at hW ⊢
   have hn:((l++[(⟨x,z,c⟩:OT κ)]).map (·.born)).Nodup:=by
    rw[NW,nodup_append];refine⟨hm.Ri,Nh,?_⟩;intro a ha b hb;obtain⟨e,he,rfl⟩:=mem_map.1 ha;simp only[map_cons,map_nil,NU]at hb;have:=hm.lt e he;omega
   have hf:=qg hn enc (i:=l.length) (e:=⟨x,z,c⟩) Nh;have hf2:((l++[(⟨x,z,c⟩:OT κ)]).map (dK enc)).toArray.findIdx? (fun e'=>(e'.born:Int)==(c:Int))=some l.length:=by simpa using hf
   have hmod:((l++[(⟨x,z,c⟩:OT κ)]).map (dK enc)).modify l.length (fun e'=>{ e' with val:=v })=(l++[(⟨x,v,c⟩:OT κ)]).map (dK enc):=by
    rw[modify_eq_set _ _ _ (dK enc ⟨x,z,c⟩) Nh];simp[dK]
   have hW2:W.heap[b]?=some (.map ((l++[(⟨x,z,c⟩:OT κ)]).map (dK enc)).toArray (c+1)):=hW;unfold aU;simp only[Bool.false_eq_true,if_false];rw[<- hmod];unfold Instr.entryStore;simp only[Sem.run_bind,MapKept.run_getObj_map hW2,Result.andThen,wF,hf2];rw[MapKept.run_setObj_map _ hW2];simp[setBlock]
 ·subst h3;have hh:iB l e.key=true:=iC.2 ⟨e,mem_of_getElem? h2,rfl⟩;rw[qm hm.nodup (mem_of_getElem? h2),CV hm.nodup h2];refine⟨?_,?_⟩
  ·have hlist:(l.map (dK enc)).modify i (fun e'=>{ e' with key:=enc e.key })=l.map (dK enc):=by
    rw[modify_eq_set _ _ _ (dK enc e) (by simp[h2])];have:({ dK enc e with key:=enc e.key }:MapEntry)=dK enc e:=rfl;rw[this];apply ext_getElem?;intro j;rw[getElem?_set];by_cases hj:i=j
    ·subst hj;obtain⟨hlt,he⟩:=List.getElem?_eq_some_iff.1 h2;simp[hlt,he]
    ·simp[hj]
   simp[hh,Instr.mapEntry,run_underlying ht,MapKept.run_getObj_map hb,E.keyed.check w false hlx,h1,h2,dK,E.keyed.stays w hlx,MapKept.run_setObj_map _ hb,Result.andThen,setBlock,aU,goInt];rw[hlist]
  ·intro W v hW;simp only[hh,if_true]at hW ⊢;have hf:=qg hm.Ri enc h2;have hf2:(l.map (dK enc)).toArray.findIdx? (fun e'=>(e'.born:Int)==(e.born:Int))=some i:=by simpa using hf
   have hmod:(l.map (dK enc)).modify i (fun e'=>{ e' with val:=v })=(rE l e.key v).map (dK enc):=by
    rw[modify_eq_set _ _ _ (dK enc e) (by simp[h2]),<- E4 hm.nodup h2 v,map_set];rfl
   have hW2:W.heap[b]?=some (.map (l.map (dK enc)).toArray c):=hW;unfold aU;rw[<- hmod];unfold Instr.entryStore;simp only[Sem.run_bind,MapKept.run_getObj_map hW2,Result.andThen,wF,hf2];rw[MapKept.run_setObj_map _ hW2];simp[setBlock]
theorem OO.put{l:List (OT κ)}{c:Nat}(h:OO Ok l c){x:κ}(hx:Ok x)(v:Value):OO Ok (gJ l c x v) (cy l c x):=by
 unfold gJ cy
 cases hh:iB l x with
 | true =>
  simp only[if_true]
  have hb:(rE l x v).map (·.born)=l.map (·.born):=by
   unfold rE;rw[map_map];apply map_congr_left;intro e _;simp only[Function.comp];split<;>rfl
  have hk:(rE l x v).map (·.key)=l.map (·.key):=by
   unfold rE;rw[map_map];apply map_congr_left;intro e _;simp only[Function.comp];split<;>rfl
  refine⟨hk ▸ h.nodup,hb ▸ h.Ri,?_,?_⟩
  ·intro e he;obtain⟨e',h1,rfl⟩:=mem_map.1 he;have:=h.lt e' h1;split<;>exact this
  ·intro e he;obtain⟨e',h1,rfl⟩:=mem_map.1 he;have:=h.ok e' h1;split<;>exact this
 | false =>
  simp only[Bool.false_eq_true,if_false]
  have hn:∀e∈l,e.key≠x:=fun e he hk=>by
   have:=iC.2 ⟨e,he,hk⟩;rw[hh]at this
   cases this
  refine⟨?_,?_,?_,?_⟩
  ·rw[NW,nodup_append];refine⟨h.nodup,Nh,?_⟩;intro a ha b hb;obtain⟨e,he,rfl⟩:=mem_map.1 ha;simp only[map_cons,map_nil,NU]at hb;exact hb ▸ hn e he
  ·rw[NW,nodup_append];refine⟨h.Ri,Nh,?_⟩;intro a ha b hb;obtain⟨e,he,rfl⟩:=mem_map.1 ha;simp only[map_cons,map_nil,NU]at hb;have:=h.lt e he;omega
  ·intro e he;rcases mem_append.1 he with h'|h'
   ·have:=h.lt e h';omega
   ·simp only[NU]at h';subst h';simp
  ·intro e he;rcases mem_append.1 he with h'|h'
   ·exact h.ok e h'
   ·simp only[NU]at h';subst h';exact hx
theorem OO.del{l:List (OT κ)}{c:Nat}(h:OO Ok l c)(x:κ):OO Ok (yx l x) c :=
 ⟨h.nodup.sublist (filter_sublist.map _),h.Ri.sublist (filter_sublist.map _),fun e he=>h.lt e (mem_filter.1 he).1,fun e he=>h.ok e (mem_filter.1 he).1⟩
theorem AJ{l m:List (OT κ)}{k:κ}:dH (l++m) k=(dH l k).or (dH m k):=by
 unfold dH;rw[find?_append]
 cases l.find? (fun e=>decide (e.key=k))<;>simp
theorem FY{l:List (OT κ)}{c:Nat}{x y:κ}{v:Value}:dH (gJ l c x v) y=if y=x then some v else dH l y:=by
 unfold gJ
 cases hh:iB l x with
 | true =>
  simp only[if_true]
  have:∀l:List (OT κ),dH (rE l x v) y=if y=x then(dH l x).map (fun _=>v)else dH l y:=by
   intro l;induction l with
   | nil=>simp[dH,rE]
   | cons e r ih =>
    simp only[dH,rE,map_cons,find?_cons]at ih ⊢;by_cases h1:e.key=x
    ·by_cases h2:y=x
     ·subst h2;simp[h1]
     ·simp only[h1,if_true,h2,if_false];have h3:decide (x=y)=false:=by simp;exact fun h=>h2 h.symm
      rw[h3];simp only[h2,if_false]at ih;exact ih
    ·simp only[h1,if_false];by_cases h4:e.key=y
     ·have h2:¬y=x:=fun h=>h1 (h4.trans h)
      simp[h4,h2]
     ·simp only[h4,decide_false];rw[ih]
  rw[this];rw[gO]at hh;by_cases h2:y=x
  ·subst h2;rw[NR rfl,NR rfl]
   cases hg:dH l y with
   | none=>rw[hg]at hh;cases hh
   | some u=>rfl
  ·rw[NQ h2,NQ h2]
 | false =>
  simp only[Bool.false_eq_true,if_false];rw[AJ];have hn:dH l x=none:=by rw[gO]at hh;cases hg:dH l x<;>simp_all
  by_cases h2:y=x
  ·subst h2;rw[hn];simp[dH]
  ·rw[NQ h2];have:dH [(⟨x,v,c⟩:OT κ)] y=none:=gy.2 (by simp;exact fun h=>h2 h.symm);rw[this];simp
theorem dq(w:World)(b:Nat)(o:Obj):N7 (fun k=>k=b) w (setBlock w b o):=by
 have:=(N7.refl (fun k=>k=b) w).putObj (r:=b) (.inl rfl) o;exact this
theorem ez{w:World}{b:Nat}{o o':Obj}(h:w.heap[b]?=some o):(setBlock w b o').heap[b]?=some o':=by
 have:=ae h;simp[setBlock,this]
end
structure GE (γ:Type) where
 key:Bs
 born:Nat
 val:Value
 g:γ
def aR{γ:Type}(p:GE γ):OT Bs:=⟨p.key,p.val,p.born⟩
def gl{γ:Type}(R:Value->γ->HF)(ps:List (GE γ)):HF:=ps.flatMap (fun p=>R p.val p.g)
def Qr{γ:Type}(d:γ)(ps:List (GE γ))(l:Bs):γ:=match ps.find? (fun p=>decide (p.key=l))with|some p=>p.g|none=>d
def eI{γ:Type}(z:Value)(ps:List (GE γ))(l:Bs):Value:=match ps.find? (fun p=>decide (p.key=l))with|some p=>p.val|none=>z
def kh{γ:Type}(ps:List (GE γ))(l:Bs):Bool:=ps.any (fun p=>decide (p.key=l))
def bM{γ:Type}(ps:List (GE γ))(l:Bs):List (GE γ):=ps.filter (fun p => !decide (p.key=l))
def eS{γ:Type}(ps:List (GE γ))(c:Nat)(l:Bs)(v:Value)(g:γ):List (GE γ) :=
 if kh ps l then ps.map (fun p=>if p.key=l then { p with val:=v,g:=g } else p)else ps++[⟨l,c,v,g⟩]
theorem cX{γ:Type}(z:Value)(ps:List (GE γ))(l:Bs):(dH (ps.map aR) l).getD z=eI z ps l:=by
 unfold eI;induction ps with
 | nil=>rfl
 | cons p r ih =>
  unfold dH at ih ⊢;simp only[map_cons,find?_cons];by_cases h:p.key=l
  ·simp[aR,h]
  ·simp only[aR,h,decide_false];exact ih
theorem qp{γ:Type}(ps:List (GE γ))(l:Bs):iB (ps.map aR) l=kh ps l:=by
 unfold iB kh;rw[any_map];rfl
theorem iI{γ:Type}(ps:List (GE γ))(c:Nat)(l:Bs)(v:Value)(g:γ):(eS ps c l v g).map aR=gJ (ps.map aR) c l v:=by
 unfold eS gJ;rw[qp];split
 ·unfold rE;rw[map_map,map_map];apply map_congr_left;intro p _;simp only[Function.comp];by_cases h:p.key=l
  ·simp[h,aR]
  ·rw[NQ h,NQ (by exact h)]
 ·simp[aR]
theorem mP{γ:Type}(ps:List (GE γ))(l:Bs):(bM ps l).map aR=yx (ps.map aR) l:=by
 unfold bM yx;rw[filter_map];rfl
theorem uU{γ:Type}(R:Value->γ->HF)(z:Value)(d:γ)(hR:R z d=[]):∀(ps:List (GE γ)) (l:Bs),(ps.map (·.key)).Nodup->(gl R ps).Perm (R (eI z ps l) (Qr d ps l)++gl R (bM ps l)):=by
 intro ps l;induction ps with
 | nil=>intro _;simp[gl,eI,Qr,bM,hR]
 | cons p r ih =>
  intro hn;simp only[map_cons,nodup_cons]at hn;obtain⟨h1,h2⟩:=hn;have ih:=ih h2;simp only[gl,eI,Qr,bM,flatMap_cons,find?_cons,filter_cons]at ih ⊢;by_cases h:p.key=l
  ·have hf:r.filter (fun p => !decide (p.key=l))=r:=filter_eq_self.2 (fun q hq=>by
    simp only[Bool.not_eq_true',decide_eq_false_iff_not];intro hk;exact h1 (mem_map.2 ⟨q,hq,hk.trans h.symm⟩))
   simp only[h,decide_true,Bool.not_true,Bool.false_eq_true,if_false,hf];exact Perm.refl _
  ·simp only[h,decide_false,Bool.not_false,if_true,flatMap_cons];refine(Perm.append_left _ ih).trans ?_;rw[<- NV,<- NV];exact Perm.append_right _ perm_append_comm
theorem uT{γ:Type}(R:Value->γ->HF):∀(ps:List (GE γ)) (c:Nat) (l:Bs) (v:Value) (g:γ),(ps.map (·.key)).Nodup->(gl R (eS ps c l v g)).Perm (R v g++gl R (bM ps l)):=by
 intro ps c l v g hn;unfold eS;split
 ·rename_i hh
  have key:∀(ps:List (GE γ)),(ps.map (·.key)).Nodup->kh ps l=true->(gl R (ps.map (fun p=>if p.key=l then { p with val:=v,g:=g } else p))).Perm (R v g++gl R (bM ps l)):=by
   intro ps;induction ps with
   | nil=>intro _ h;simp[kh]at h
   | cons p r ih =>
    intro hn hh;simp only[map_cons,nodup_cons]at hn;obtain⟨h1,h2⟩:=hn;by_cases h:p.key=l
    ·have hne:∀q∈r,q.key≠l:=fun q hq hk=>h1 (mem_map.2 ⟨q,hq,hk.trans h.symm⟩)
     have hf:r.filter (fun p => !decide (p.key=l))=r:=filter_eq_self.2 (fun q hq=>by simp[hne q hq])
     have hm:r.map (fun p=>if p.key=l then { p with val:=v,g:=g } else p)=r:=by
      conv=>rhs;rw[<- map_id r]
      exact map_congr_left (fun q hq=>by simp[hne q hq])
     simp only[gl,bM,map_cons,flatMap_cons,filter_cons,h,if_true,decide_true,Bool.not_true,Bool.false_eq_true,if_false,hf,hm];exact Perm.refl _
    ·have hh2:kh r l=true:=by simpa[kh,h]using hh
     have ih:=ih h2 hh2;simp only[gl,bM,map_cons,flatMap_cons,filter_cons,h,if_false,decide_false,Bool.not_false,if_true]at ih ⊢;refine(Perm.append_left _ ih).trans ?_;rw[<- NV,<- NV];exact Perm.append_right _ perm_append_comm
  exact key ps hn hh
 ·rename_i hh
  have hf:bM ps l=ps:=filter_eq_self.2 (fun q hq=>by
   simp only[Bool.not_eq_true',decide_eq_false_iff_not];intro hk;apply hh;simp only[kh,any_eq_true,decide_eq_true_eq];exact⟨q,hq,hk⟩)
  rw[hf];unfold gl;rw[flatMap_append];simpa using perm_append_comm
theorem cQ{γ:Type}(ps:List (GE γ)):(ps.map aR).map (·.key)=ps.map (·.key):=by rw[map_map];rfl
theorem iJ{γ:Type}{ps:List (GE γ)}{c:Nat}{l:Bs}{v:Value}{g:γ}{p:GE γ}(h:p∈eS ps c l v g):(p∈ps/\p.key≠l)\/(p.key=l/\p.val=v/\p.g=g):=by
 unfold eS at h;split at h
 ·obtain⟨q,hq,rfl⟩:=mem_map.1 h;by_cases hk:q.key=l
  ·exact .inr (by simp[hk])
  ·rw[NQ hk];exact .inl ⟨hq,hk⟩
 ·rename_i hh;rcases mem_append.1 h with h'|h'
  ·refine .inl ⟨h',fun hk=>hh ?_⟩;simp only[kh,any_eq_true,decide_eq_true_eq];exact⟨p,h',hk⟩
  ·simp only[NU]at h';subst h';exact .inr ⟨rfl,rfl,rfl⟩
theorem ql{γ:Type}(d:γ)(ps:List (GE γ))(c:Nat)(l m:Bs)(v:Value)(g:γ):Qr d (eS ps c l v g) m=if m=l then g else Qr d ps m:=by
 unfold eS;split
 ·rename_i hh
  have key:∀ps:List (GE γ),Qr d (ps.map (fun p=>if p.key=l then { p with val:=v,g:=g } else p)) m=if m=l/\kh ps l=true then g else Qr d ps m:=by
   intro ps;unfold Qr;induction ps with
   | nil=>simp[kh]
   | cons p r ih =>
    simp only[map_cons,find?_cons];by_cases h:p.key=l
    ·by_cases h2:m=l
     ·subst h2;simp[h,kh]
     ·have h3:¬l=m:=fun e=>h2 e.symm
      simp only[h,if_true,h3,decide_false,h2,false_and,if_false];simpa[h2]using ih
    ·by_cases h4:p.key=m
     ·have h2:¬m=l:=fun e=>h (h4.trans e)
      simp[h4,h2]
     ·simp only[h,if_false,h4,decide_false];rw[ih];simp[kh,h]
  rw[key,hh];simp
 ·rename_i hh;unfold Qr;rw[find?_append];by_cases h:m=l
  ·subst h
   have hn:ps.find? (fun p=>decide (p.key=m))=none:=by
    rw[find?_eq_none];intro q hq hk;apply hh;simp only[kh,any_eq_true];exact⟨q,hq,hk⟩
   simp[hn]
  ·have h2:¬l=m:=fun e=>h e.symm
   simp only[find?_cons,h2,decide_false,find?_nil,Option.or_none,h,if_false]
end
section
open Go.RowKit Go.Maps
open Go.ChangeMaps (setBlock)
theorem A9{κ:Type}[DecidableEq κ]{P:Program}{k t ev:TypeId}{enc:κ->Value}{Ok:κ->Prop}(E:Pz P k enc Ok){w:World}{o:Oper}{a:Act}(m x:Operand)(hop:o.op=.lookup t m x false)(ht:P.underlying t=some (.map k ev)){b:Nat}{l:List (OT κ)}{c:Nat}(hb:w.heap[b]?=some (aU enc l c))(hm:OO Ok l c){z:Value}(hz:(zeroValue ev).run P w=.ok z w)(key:κ)(hmv:a.eval m=.map (some b))(hx:a.eval x=enc key)(hk:Ok key):(execOp a.eval o).run P w=.ok (.value ((dH l key).getD z)) w:=by
 simp[execOp,hop,hmv,hx,vd E ht hb hm hz hk,Result.andThen]
theorem je{P:Program}{o:Oper}{a:Act}{w a0:World}{K:Act->World->Prop}{Q:Exit->Act->World->Prop}{F G:HF}(O:Obj)(f:Nat->Value)(hr:(execOp a.eval o).run P w=.ok (.value (f w.heap.size)) (w.alloc O))(hT:Turns F G a0 w)(hk:∀n w',Turns F ((n,Is O)::G) a0 w'->K (a.put o.dst (f n)) w'):o.wp P a w K Q:=nu hr (hk _ _ (hT.Q9 O))
theorem Ll{κ:Type}[DecidableEq κ]{P:Program}{k t ev:TypeId}{enc:κ->Value}{Ok:κ->Prop}(E:Pz P k enc Ok){w:World}{o:Oper}{a:Act}{K:Act->World->Prop}{Q:Exit->Act->World->Prop}(m x y:Operand)(hop:o.op=.mapUpdate t m x y)(ht:P.underlying t=some (.map k ev)){b:Nat}{l:List (OT κ)}{c:Nat}(hb:w.heap[b]?=some (aU enc l c))(hm:OO Ok l c)(key:κ)(v:Value)(hmv:a.eval m=.map (some b))(hx:a.eval x=enc key)(hy:a.eval y=v)(hk:Ok key)(hK:K (a.put o.dst undef) (setBlock w b (aU enc (gJ l c key v) (cy l c key)))):o.wp P a w K Q:=by
 unfold Oper.wp execOp;simp only[hop,hmv,hx,hy,Sem.run_bind,GG E ht hb hm hk v,Result.andThen_ok,Sem.run_pure];exact hK
theorem JV{P:Program}{o:Oper}{a:Act}{w:World}{K:Act->World->Prop}{Q:Exit->Act->World->Prop}{ty:TypeId}(x y:Operand)(hs:(P.info? ty).map (·.size)=some 1)(ho:o.op=.store ty x y){b i:Nat}{C:Array Value}{t:TypeId}{v u:Value}(hb:w.heap[b]?=some (.cells C t (0,0)))(hi:C[i]?=some u)(hx:a.eval x=.pointer (some ⟨b,i,none⟩))(hy:a.eval y=v)(h1:v.oneCell'=true)(UZ:v.cells=#[v])(hK:K (a.put o.dst undef) (w.setCell ⟨b,i,none⟩ v)):o.wp P a w K Q:=by
 have hc:w.cell? ⟨b,i,none⟩=some u:=aa hb i hi;have hf:=aY hb i
 have hst:=run_storeCells_cells (P:=P) b i [v] 0 w (fun j hj=>by
  obtain rfl:j=0:=by simp at hj;omega
  simp[hc]) (fun j hj=>by
   obtain rfl:j=0:=by simp at hj;omega
   simpa using hf) (fun q hq=>by simp at hq;subst hq;exact h1)
 have hsv:(storeVar ty ⟨b,i,none⟩ v).run P w=.ok () (w.setCell ⟨b,i,none⟩ v):=by
  cases hq:P.info? ty with
  | none=>simp[hq]at hs
  | some j =>
   have hj:j.size=1:=by simpa[hq]using hs
   simp only[Nat.add_zero]at hst;simp[storeVar,sizeOf,typeInfo,hq,UZ,hj,hst,World.setCells]
 unfold Oper.wp execOp;simp only[ho,hx,hy,Instr.storeAt,Instr.sureAddr,Sem.run_bind,Sem.run_pure,Result.andThen_ok,hsv];exact hK
section
variable {P:Program} {o:Oper} {a:Act} {w:World} {K:Act->World->Prop} {Q:Exit->Act->World->Prop} {F G:HF} {a0:World}
theorem qJ(ty:TypeId)(x y:Operand)(ho:o.op=.store ty x y)(b:Nat)(old cells:Array Value)(t:TypeId)(hT:Turns F ((b,Is (.cells old t (0,0)))::G) a0 w)(hx:a.eval x=.pointer (some ⟨b,0,none⟩))(hy:a.eval y=.agg cells)(hsz:cells.size=old.size)(hi:(P.info? ty).map (·.size)=some cells.size)(h1:cells.all (·.oneCell')=true)(hk:∀w',Turns F ((b,Is (.cells cells t (0,0)))::G) a0 w'->K (a.put o.dst undef) w'):o.wp P a w K Q:=by
 have hb:=hT.sat.Q5;obtain⟨q1,q2⟩:=dQ hb cells.toList (by simpa using hsz);refine wp_store_mid ty x y ho b 0 cells hx hy (dA hb 0 _ Nb) hi h1 (hk _ (hT.Qa q2 (by simpa using q1)))
theorem aX(ty:TypeId)(x y:Operand)(ho:o.op=.store ty x y)(b i:Nat)(C:Array Value)(t:TypeId)(v:Value)(hT:Turns F ((b,Is (.cells C t (0,0)))::G) a0 w)(hx:a.eval x=.pointer (some ⟨b,i,none⟩))(hy:a.eval y=v)(hiC:i<C.size)(hi:(P.info? ty).map (·.size)=some 1)(h1:v.oneCell'=true)(UZ:v.cells=#[v])(hk:∀w',Turns F ((b,Is (.cells (C.setIfInBounds i v) t (0,0)))::G) a0 w'->K (a.put o.dst undef) w'):o.wp P a w K Q:=by
 have hb:=hT.sat.Q5;exact JV x y hi ho hb (Array.getElem?_eq_getElem hiC) hx hy h1 UZ (hk _ (hT.Qa ((N7.refl (fun k=>k=b) w).set1 v) (bq hb i v)))
theorem lJ{κ:Type}[DecidableEq κ]{k t ev:TypeId}{enc:κ->Value}{Ok:κ->Prop}(E:Pz P k enc Ok)(m x y:Operand)(ho:o.op=.mapUpdate t m x y)(ht:P.underlying t=some (.map k ev))(b:Nat)(l:List (OT κ))(c:Nat)(hT:Turns F ((b,Is (aU enc l c))::G) a0 w)(hm:OO Ok l c)(key:κ)(v:Value)(hmv:a.eval m=.map (some b))(hx:a.eval x=enc key)(hy:a.eval y=v)(hk:Ok key)(hK:∀w',Turns F ((b,Is (aU enc (gJ l c key v) (cy l c key)))::G) a0 w'->K (a.put o.dst undef) w'):o.wp P a w K Q:=by
 have hb:=hT.sat.Q5;refine Ll E m x y ho ht hb hm key v hmv hx hy hk ?_;exact hK _ (hT.Qa (dq _ _ _) (ez hb))
theorem vr(t:TypeId)(ho:o.op=.makeMap t none)(hT:Turns F G a0 w)(hk:∀n w',Turns F ((n,Is (.map #[] 0))::G) a0 w'->K (a.put o.dst (.map (some n))) w'):o.wp P a w K Q:=by
 refine nu (v:=.map (some w.heap.size)) (w':=w.alloc (.map #[] 0)) ?_ (hk _ _ (hT.Q9 _));simp[execOp,ho,run_makeMap,Result.andThen]
theorem JU{κ:Type}[DecidableEq κ]{k t ev:TypeId}{enc:κ->Value}{Ok:κ->Prop}(E:Pz P k enc Ok)(m x:Operand)(ho:o.op=.mapEntry t m x)(ht:P.underlying t=some (.map k ev))(b:Nat)(l:List (OT κ))(c:Nat)(hT:Turns F ((b,Is (aU enc l c))::G) a0 w)(hm:OO Ok l c){z:Value}(hz:(zeroValue ev).run P w=.ok z w)(key:κ)(hmv:a.eval m=.map (some b))(hx:a.eval x=enc key)(hk:Ok key)(hK:∀w',Turns F ((b,Is (aU enc (Bb l c key z) (cy l c key)))::G) a0 w'->K (a.put o.dst (.tuple #[(dH l key).getD z,.int .i64 (pU l c key)])) w'):o.wp P a w K Q:=by
 have hb:=hT.sat.Q5;refine nu (v:=.tuple #[(dH l key).getD z,.int .i64 (pU l c key)]) (w':=setBlock w b (aU enc (Bb l c key z) (cy l c key))) ?_ (hK _ (hT.Qa (dq _ _ _) (ez hb)));simp[execOp,ho,hmv,hx,(xH E ht hb hm hz hk).1,Result.andThen]
theorem ww{κ:Type}[DecidableEq κ]{k t ev:TypeId}{enc:κ->Value}{Ok:κ->Prop}(E:Pz P k enc Ok){w0:World}(m s x:Operand)(ho:o.op=.entryStore t m s x)(ht:P.underlying t=some (.map k ev))(b:Nat)(l:List (OT κ))(c:Nat)(hb0:w0.heap[b]?=some (aU enc l c))(hm:OO Ok l c){z:Value}(hz:(zeroValue ev).run P w0=.ok z w0)(key:κ)(hk:Ok key)(hT:Turns F ((b,Is (aU enc (Bb l c key z) (cy l c key)))::G) a0 w)(v:Value)(hmv:a.eval m=.map (some b))(hs:a.eval s=.int .i64 (pU l c key))(hx:a.eval x=v)(hK:∀w',Turns F ((b,Is (aU enc (gJ l c key v) (cy l c key)))::G) a0 w'->K (a.put o.dst undef) w'):o.wp P a w K Q:=by
 have hb:=hT.sat.Q5;have hr:=hK _ (hT.Qa (o:=aU enc (gJ l c key v) (cy l c key)) (dq _ _ _) (ez hb));unfold Oper.wp execOp;simp only[ho,hmv,hs,hx,Sem.run_bind,(xH E ht hb0 hm hz hk).2 w v hb,Result.andThen_ok,Sem.run_pure];exact hr
theorem iR{ops:Array Oper}{R:Act->Prop}{r:List Oper}(ty:TypeId)(x:Operand)(hg:o.guard=none)(ho:o.op=.load ty x)(b i:Nat)(hx:a.eval x=.pointer (some ⟨b,i,none⟩))(cs:List Value)(d:TypeDesc)(hc:w.rangeAt b i cs)(hu:P.underlying ty=some d)(hd:d.isRow=true)(hi:(P.info? ty).map (·.size)=some cs.length)(hk:wpStill P ops w R r (a.put o.dst (.agg cs.toArray))):wpStill P ops w R (o::r) a:=by
 refine cq hg ?_ hk;unfold execOp;simp only[ho,hx,Instr.loadAt,Instr.sureAddr,Sem.run_bind,Sem.run_pure,Result.andThen_ok,run_loadVar_mid w b i ty cs d hc hu hd hi]
end
end
section
open Go.RowKit
theorem vm{P:Program}{main:Bool}{b:Frame}{a:Act}{k:List Item}{cs:List Frame}{w w':World}{ops:Array Oper}{i:Nat}{rest:List Nat}{o:Oper}{cases:Array CommCase}{blocking:Bool}{shape:CommShape}(ho:ops[i]?=some o)(hw:Region.wanted o (yielded ops a.tmps)=true)(hr:(execOp a.eval o).run P w=.ok (.comm cases blocking shape) w'):
  ∃es,stepG P main (Conc.G (b.at a (.inRegion ops (i::rest)::k)) cs) w=.comm (Conc.G (b.at a (.inRegion ops (i::rest)::k)) cs) cases blocking shape w' es:=by
 rw[Conc.stepG_oper ho hw]
 cases main<;>simp[stepG.apply,hr,Conc.G,Frame.at,GStep.after]
theorem iP{P:Program}{id n:Nat}{ops:Array Oper}{Q:Exit->Act->World->Prop}{a:Act}{w w1 w':World}{o:Oper}{cases:Array CommCase}{v:Value}(hsz:ops.size=n+1)(ho:ops[0]?=some o)(hg:o.guard=none)(hr:(execOp a.eval o).run P w=.ok (.comm cases false .select) w1)(hstep:∀fr cs es,stepG P true (Conc.G fr cs) w=.comm (Conc.G fr cs) cases false .select w1 es->step P (Conc.solo (Conc.G fr cs) w)=.next (Conc.solo (Conc.G (fr.finish v) cs) w'))(h:wpList P ops Q (ops.toList.drop 1) (a.put o.dst v) w'):(Code.region id ops false).wp P Q a w:=by
 intro b k cs;have hl:range ops.size=0::range' 1 n:=by rw[hsz,range_eq_range',range'_succ]
 have h2:wpOps P ops Q (range' 1 n) (a.put o.dst v) w':=by
  have e:=wpOps_eq_wpList (P:=P) (ops:=ops) (Q:=Q) (ops.toList.drop 1) 1 (fun j=>by rw[getElem?_drop];simp);have hn:(ops.toList.drop 1).length=n:=Nj
  rw[hn]at e;rw[e];exact h
 obtain⟨e,a',w'',hq,harr⟩:=wp_ops _ _ _ h2 b k cs;refine⟨e,a',w'',hq,.of_steps (.head step_region (.one ?_)) harr⟩;rw[hl];obtain⟨es,hes⟩:=vm (P:=P) (main:=true) (b:=b) (a:=a) (k:=k) (cs:=cs) (w:=w) (rest:=range' 1 n) ho (by simp[Region.wanted,hg]) hr;have:=hstep _ _ _ hes;rw[Frame.finish_at,ho]at this;exact this
theorem vy{P:Program}{id n:Nat}{ops:Array Oper}{Q:Exit->Act->World->Prop}{a:Act}{w:World}{o:Oper}{c cap s r:Nat}{buf:Array Value}{closed tm:Bool}{z:Value}(hsz:ops.size=n+1)(ho:ops[0]?=some o)(hg:o.guard=none)(hr:(execOp a.eval o).run P w=.ok (.comm #[Conc.rcase c z] false .select) w)(hc:w.heap[c]?=some (.chan cap buf closed s r tm))(hb:0<buf.size)(h:wpList P ops Q (ops.toList.drop 1) (a.put o.dst (.tuple #[goInt 0,.bool true,buf.getD 0 undef])) (w.setChan c cap (buf.extract 1 buf.size) closed s (r+1) tm)):(Code.region id ops false).wp P Q a w :=
 iP hsz ho hg hr (fun _ _ _ hs=>Conc.step_lone_select_recv_buf hs hc hb) h
theorem vx{P:Program}{id n:Nat}{ops:Array Oper}{Q:Exit->Act->World->Prop}{a:Act}{w:World}{o:Oper}{c cap s r:Nat}{tm:Bool}{z:Value}(hsz:ops.size=n+1)(ho:ops[0]?=some o)(hg:o.guard=none)(hr:(execOp a.eval o).run P w=.ok (.comm #[Conc.rcase c z] false .select) w)(hc:w.heap[c]?=some (.chan cap #[] false s r tm))(h:wpList P ops Q (ops.toList.drop 1) (a.put o.dst (.tuple #[goInt (-1),.bool false,z])) w):(Code.region id ops false).wp P Q a w :=
 iP hsz ho hg hr (fun _ _ _ hs=>Conc.step_lone_select_default hs hc) h
theorem vz{P:Program}{id n:Nat}{ops:Array Oper}{Q:Exit->Act->World->Prop}{a:Act}{w:World}{o:Oper}{c cap s r:Nat}{buf:Array Value}{tm:Bool}{v z:Value}(hsz:ops.size=n+1)(ho:ops[0]?=some o)(hg:o.guard=none)(hr:(execOp a.eval o).run P w=.ok (.comm #[Conc.scase c v z] false .select) w)(hc:w.heap[c]?=some (.chan cap buf false s r tm))(hb:buf.size<cap)(h:wpList P ops Q (ops.toList.drop 1) (a.put o.dst (.tuple #[goInt 0,.bool false])) (w.setChan c cap (buf.push v) false (s+1) r tm)):(Code.region id ops false).wp P Q a w :=
 iP hsz ho hg hr (fun _ _ _ hs=>Conc.step_lone_select_send_room hs hc hb) h
theorem vw{P:Program}{id n:Nat}{ops:Array Oper}{Q:Exit->Act->World->Prop}{a:Act}{w:World}{o:Oper}{c cap s r:Nat}{buf:Array Value}{tm:Bool}{v z:Value}(hsz:ops.size=n+1)(ho:ops[0]?=some o)(hg:o.guard=none)(hr:(execOp a.eval o).run P w=.ok (.comm #[Conc.scase c v z] false .select) w)(hc:w.heap[c]?=some (.chan cap buf false s r tm))(hb:cap<=buf.size)(h:wpList P ops Q (ops.toList.drop 1) (a.put o.dst (.tuple #[goInt (-1),.bool false])) w):(Code.region id ops false).wp P Q a w :=
 iP hsz ho hg hr (fun _ _ _ hs=>Conc.step_lone_select_send_full hs hc hb) h
theorem qG(w:World)(c cap:Nat)(buf:Array Value)(cl:Bool)(s r:Nat)(tm:Bool):N7 (fun k=>k=c) w (w.setChan c cap buf cl s r tm) :=
 ⟨rfl,rfl,rfl,by simp[World.setChan],fun k _ hk=>by simp only[World.setChan];rw[Array.getElem?_setIfInBounds_ne (Ne.symm hk)]⟩
theorem Turns.Qq{F G:HF}{a w:World}{b:Nat}{φ ψ:Obj->Prop}(h:Turns F ((b,φ)::G) a w)(hw:∀o,φ o->ψ o):Turns F ((b,ψ)::G) a w :=
 ⟨h.mods,h.sat.weak hw,fun k hk=>h.fresh k (by simpa using hk)⟩
theorem zS(d:Nat)(A:Oq)(h:A.tail.length=128):(aK d A)[132]?=some (.chan (some A.ch)):=by
 have e:(aK d A)[132]?=(aK d A).toList[132]?:=Nh
 rw[e];simp only[aK,Array.toList_append,aw,NV];rw[getElem?_append_right Nh,getElem?_append_right (by simp[h])];simp[h]
theorem CR(w:World)(cur:Array Value)(cap:Nat)(hc:cur.size=cap)(hm:cap<=maxLen):Turns [] (aJ (.slice (some ⟨w.heap.size,0,none⟩) 0 cap) []) w (w.alloc (.cells cur 5)):=by
 have:=(Turns.refl (Sat.nil w)).Qe (φ:=fun o=>∃cap' cur,Value.slice (some ⟨w.heap.size,0,none⟩) 0 cap=.slice (some ⟨w.heap.size,0,none⟩) 0 cap'/\o=.cells cur 5 (0,0)/\0<=cap'/\cap'<=maxLen/\cur.size=cap'*1/\cur.toList.take (0*1)=[]) (o:=.cells cur 5) ⟨cap,cur,rfl,rfl,Nat.zero_le _,hm,Nb,Nh⟩;exact this
theorem wL(g cap:Nat):PE (.slice (some ⟨g,0,none⟩) 0 cap) []:=⟨rfl,fun h=>by simp[Value.ownBlock]at h⟩
def tj(ab d:Nat)(A:Oq)(w:World)(e:Ending)(w':World):Prop :=
 ∃bg cv sp,e=.returned (.slice (some ⟨bg,0,none⟩) 0 cv)/\PE (.slice (some ⟨bg,0,none⟩) 0 cv) []/\Turns (aq ab d A) (aJ (.slice (some ⟨bg,0,none⟩) 0 cv) []++aq ab d { A with spare:=sp }) w w'/\Ov { A with spare:=sp }/\sp.length<=A.spare.length/\sp.length<=1
theorem yj(ab d:Nat)(A:Oq)(w:World)(h:Sat w (aq ab d A))(hA:Ov A):
  Calls prog 151 #[.pointer (some ⟨ab,0,none⟩)] w (tj ab d A w):=by
 have hab:=h.Q5;have a5:w.cell? ⟨ab,132,none⟩=some (.chan (some A.ch)):=aa hab 132 (zS d A hA.tail);obtain⟨o,hch,s,r,rfl⟩:=h.tail.head;have HH:=Ob h hA;clear h hA hab
 cases hs:A.spare with
 | nil =>
  rw[hs]at hch;have HC:=NZ hch;have HS:=NZ hs;clear hch hs
  obtain⟨cur,hsz,hmk⟩:∃cur:Array Value,cur.size=256/\∀w:World,(Instr.makeSlice 38 (.int .i64 0) (.int .i64 256)).run prog w=.ok (.slice (some ⟨w.heap.size,0,none⟩) 0 256) (w.alloc (.cells cur 5)) :=
   ⟨aw (replicate 256 0),by rw[bL,length_replicate],fun _=>by kernel_rfl⟩
  have HSZ:=NZ hsz;clear hsz;go_enter func151,ntmps151;go_upto_region 2 with(fail);refine vx (n:=2) (z:=.slice none 0 0) rfl rfl rfl Nc HC.o ?_;simp only[QD,drop_zero,Act.put,QA];go_wp2_with fail;go_ret;exact⟨_,_,A.spare,rfl,wL _ _,Turns.Qb (Turns.refl HH.a) (CR w cur 256 HSZ.o (by unfold maxLen;omega)),HH.z,Nat.le_refl _,by rw[HS.o];simp⟩
 | cons x sp =>
  rw[hs]at hch;have HC:=NZ hch;have HS:=NZ hs;clear hch hs;have hx:=HH.z.caps x (by rw[HS.o];simp);have hx1:(0:Int)<=(x.2.2:Int):=Nb
  have hx2:(x.2.2:Int)<=9223372036854775807:=by have:=hx.2;unfold maxLen at this;omega
  obtain⟨bx,lx,cx⟩:=x;simp only at hx hx1 hx2;go_enter func151,ntmps151;go_upto_region 2 with(fail);refine vy (n:=2) (z:=.slice none 0 0) rfl rfl rfl Nc HC.o Nh ?_;rw[show(List.map fq ((bx,lx,cx)::sp)).toArray.getD 0 undef=.slice (some ⟨bx,0,none⟩) lx cx from rfl];have hm:=qG w A.ch 2 ((List.map fq ((bx,lx,cx)::sp)).toArray.extract 1 (List.map fq ((bx,lx,cx)::sp)).toArray.size) false s (r+1) false;have hc2:=Conc.heap_setChan w A.ch 2 ((List.map fq ((bx,lx,cx)::sp)).toArray.extract 1 (List.map fq ((bx,lx,cx)::sp)).toArray.size) false s (r+1) false (ae HC.o);generalize w.setChan A.ch 2 ((List.map fq ((bx,lx,cx)::sp)).toArray.extract 1 (List.map fq ((bx,lx,cx)::sp)).toArray.size) false s (r+1) false=W2 at hm hc2 ⊢;have HM:=Ob hm hc2;clear hm hc2;simp only[QD,drop_zero,Act.put,QA];go_wp2_with fail;go_ret;have hb:=HH.a;simp only[aq,HS.o,mj,map_cons]at hb;have h1:=(Turns.refl hb).to (H:=(A.ch,fun o=>∃s r,o=.chan 2 (List.map fq ((bx,lx,cx)::sp)).toArray false s r false)::(ab,Is (.cells (aK d A) 157 (0,0)))::(bx,fun o=>∃cur:Array Value,o=.cells cur 5 (0,0)/\cur.size=cx)::mj sp) (Perm.swap _ _ _);have h2:=h1.put (ψ:=fun o=>∃s r,o=.chan 2 (sp.map fq).toArray false s r false) HM.a HM.z ⟨s,r+1,by simp;exact take_of_length_le Nh⟩;refine⟨_,_,sp,rfl,wL _ _,?_,⟨HH.z.tail,?_,?_⟩,?_,?_⟩
  ·have e:aq ab d A=(ab,Is (.cells (aK d A) 157 (0,0)))::(A.ch,fun o=>∃s r,o=.chan 2 (List.map fq ((bx,lx,cx)::sp)).toArray false s r false)::(bx,fun o=>∃cur:Array Value,o=.cells cur 5 (0,0)/\cur.size=cx)::mj sp:=by
    simp only[aq,HS.o,mj,map_cons]
   have h4:=(h2.to (H:=(bx,fun o=>∃cur:Array Value,o=.cells cur 5 (0,0)/\cur.size=cx)::(ab,Is (.cells (aK d A) 157 (0,0)))::(A.ch,fun o=>∃s r,o=.chan 2 (sp.map fq).toArray false s r false)::mj sp) ac).Qq (ψ:=fun o=>∃cap' cur,Value.slice (some ⟨bx,0,none⟩) 0 cx=.slice (some ⟨bx,0,none⟩) 0 cap'/\o=.cells cur 5 (0,0)/\0<=cap'/\cap'<=maxLen/\cur.size=cap'*1/\cur.toList.take (0*1)=[]) (fun o ⟨cur,h1,h2⟩=>⟨cx,cur,rfl,h1,Nat.zero_le _,hx.2,Nb,Nh⟩);rw[e];exact h4
  ·have:=HH.z.few;rw[HS.o]at this;simp at this ⊢;omega
  ·intro x hx;exact HH.z.caps x (by rw[HS.o];exact mem_cons_of_mem _ hx)
  ·rw[HS.o];simp
  ·have:=HH.z.few;rw[HS.o]at this;simp at this;omega
theorem JX(w:World):(zeroValue 5).run prog w=.ok (.int .u8 0) w:=Nc
theorem FL{w:World}{g n cap:Nat}{cur:Array Value}(hg:w.heap[g]?=some (.cells cur 5 (0,0)))(hn:n<=cap)(hc:cur.size=cap):
  ∃W1:World,(∀ty,(Builtin.clear_ #[38] ty #[.slice (some ⟨g,0,none⟩) n cap]).run prog w=.ok (.tuple #[]) W1)/\N7 (fun k=>k=g) w W1/\∃cur':Array Value,W1.heap[g]?=some (.cells cur' 5 (0,0))/\cur'.size=cap:=by
 rcases Nat.eq_zero_or_pos n with rfl|hp
 ·exact⟨w,fun ty=>by simp[Builtin.clear_,run_underlying underlying38],N7.refl _ _,cur,hg,hc⟩
 ·have hth:=dA hg 0 n Nb;have h1:=fun ty=>Lib.run_clear_slice (P:=prog) w 38 5 ty (.int .u8 0) underlying38 JX rfl rfl g 0 n cap hp (fun j hj=>(hth j hj).1) (fun j hj=>(hth j hj).2)
  obtain⟨h2,h3⟩:=fp (C:=cur.toList) (by simpa using hg) 0 (replicate n (.int .u8 0)) Nj;exact⟨_,h1,h3,_,h2,by simp[spl];omega⟩
def Hb(ab d:Nat)(A:Oq)(v:Value)(l:Bs)(w:World)(e:Ending)(w':World):Prop :=
 e=.returned (.tuple #[])/\∃sp,Turns (aJ v l++aq ab d A) (aq ab d { A with spare:=sp }) w w'/\Ov { A with spare:=sp }
theorem CS(ab d:Nat)(A:Oq)(g cap:Nat)(l:Bs)(w:World)(h:Sat w (aJ (.slice (some ⟨g,0,none⟩) l.length cap) l++aq ab d A))(hA:Ov A):
  Calls prog 153 #[.pointer (some ⟨ab,0,none⟩),.slice (some ⟨g,0,none⟩) l.length cap] w (Hb ab d A (.slice (some ⟨g,0,none⟩) l.length cap) l w):=by
 obtain⟨o,hgo,cap',cur,hv,rfl,hn,hcm,hcs,htk⟩:=(show Sat w ((g,_)::aq ab d A)from h).head;obtain rfl:cap=cap':=by simpa using hv
 obtain⟨W1,hcl,hm1,Ze,hg1,hs1⟩:=FL hgo hn Nb;have hT1:Turns (aJ (.slice (some ⟨g,0,none⟩) l.length cap) l++aq ab d A) ((g,fun o=>∃cur:Array Value,o=.cells cur 5 (0,0)/\cur.size=cap)::aq ab d A) w W1:=(Turns.refl h).put (φ:=_) (ψ:=fun o=>∃cur:Array Value,o=.cells cur 5 (0,0)/\cur.size=cap) hm1 hg1 ⟨Ze,rfl,hs1⟩;have hab:=hT1.sat.tail.Q5;have a5:W1.cell? ⟨ab,132,none⟩=some (.chan (some A.ch)):=aa hab 132 (zS d A hA.tail);obtain⟨o,hch,s,r,rfl⟩:=hT1.sat.tail.tail.head;have HH:=OW hT1 hA hn hcm;clear h hA hab hgo hn hcm hcs htk hm1 hg1 hs1 hT1 hv;have HC:=NZ hch;clear hch;go_enter func153,ntmps153;go_upto_region 3 with(simp only[hcl]);by_cases hlt:A.spare.length<2
 ·refine vz (n:=2) (v:=.slice (some ⟨g,0,none⟩) l.length cap) (z:=.slice none 0 0) rfl rfl rfl Nc HC.o (by simpa using hlt) ?_;have hm:=qG W1 A.ch 2 ((A.spare.map fq).toArray.push (.slice (some ⟨g,0,none⟩) l.length cap)) false (s+1) r false;have hc2:=Conc.heap_setChan W1 A.ch 2 ((A.spare.map fq).toArray.push (.slice (some ⟨g,0,none⟩) l.length cap)) false (s+1) r false (ae HC.o);generalize W1.setChan A.ch 2 ((A.spare.map fq).toArray.push (.slice (some ⟨g,0,none⟩) l.length cap)) false (s+1) r false=W2 at hm hc2 ⊢;have HM:=Ob hm hc2;clear hm hc2 hcl;simp only[QD,drop_zero,Act.put,QA];go_wp2_with fail;go_end0;have h1:=HH.a.to (H:=(A.ch,fun o=>∃s r,o=.chan 2 (A.spare.map fq).toArray false s r false)::(ab,Is (.cells (aK d A) 157 (0,0)))::(mj A.spare++[(g,fun o=>∃cur:Array Value,o=.cells cur 5 (0,0)/\cur.size=cap)])) (by unfold aq;exact ac);have h2:=h1.put (ψ:=fun o=>∃s r,o=.chan 2 ((A.spare++[(g,l.length,cap)]).map fq).toArray false s r false) HM.a HM.z ⟨s+1,r,by simp[fq]⟩;refine⟨rfl,A.spare++[(g,l.length,cap)],?_,⟨HH.b.tail,Nj,?_⟩⟩
  ·have e:aq ab d { A with spare:=A.spare++[(g,l.length,cap)] }=(ab,Is (.cells (aK d A) 157 (0,0)))::(A.ch,fun o=>∃s r,o=.chan 2 ((A.spare++[(g,l.length,cap)]).map fq).toArray false s r false)::(mj A.spare++[(g,fun o=>∃cur:Array Value,o=.cells cur 5 (0,0)/\cur.size=cap)]):=by
    unfold aq mj;simp only[NW,map_cons,map_nil];rfl
   rw[e];exact h2.to ac
  ·intro x hx;rcases mem_append.1 hx with hx|hx
   ·exact HH.b.caps x hx
   ·simp at hx;subst hx;exact HH.y
 ·refine vw (n:=2) (v:=.slice (some ⟨g,0,none⟩) l.length cap) (z:=.slice none 0 0) rfl rfl rfl Nc HC.o Nj ?_;clear hcl;simp only[QD,drop_zero,Act.put,QA];go_wp2_with fail;go_end0;exact⟨rfl,A.spare,Turns.drop (H:=aq ab d A) HH.a bR,HH.b⟩
theorem wo{l:Bs}{first count k:Nat}(h:k<count):aN (aB l first count) k=aN l (first+k):=by
 unfold aN aB;rw[drop_take,drop_drop,take_take];congr 1
 ·omega
 ·congr 1;omega
def dU(H:Bs)(at_ n i:Nat):Bs:=(H.take (min (128*i) (at_+n))).drop at_
theorem Ny{p:Prop}(h:p:=by rw[NS];omega):p:=h
theorem sd(H:Bs)(at_ n:Nat):dU H at_ n (at_ / 128)=[]:=by
 unfold dU;exact drop_of_length_le Ny
theorem Dn{H:Bs}{at_ n i:Nat}(hi:128*i<at_+n)(_:at_ / 128<=i)(hH:at_+n<=H.length):
  dU H at_ n (i+1)=dU H at_ n i++((aN H i).take (min 128 (at_+n-128*i))).drop (at_-128*i):=by
 unfold dU aN;rw[Nat.min_eq_left (show 128*i<=at_+n by omega),take_take,show min (min 128 (at_+n-128*i)) 128=min 128 (at_+n-128*i) by omega];have e:min (128*(i+1)) (at_+n)=128*i+min 128 (at_+n-128*i):=Nb
 rw[e,take_add,drop_append];congr 2;rw[NS];omega
theorem F4{H:Bs}{at_ n i:Nat}(hi:¬128*i<at_+n):dU H at_ n i=(H.drop at_).take n:=by
 unfold dU;rw[Nat.min_eq_right Nb,drop_take,Nat.add_sub_cancel_left]
theorem yG{H:Bs}{at_ n i:Nat}:(dU H at_ n i).length<=n:=by
 unfold dU;rw[NT,NS];omega
def Fa(ab d:Nat)(A:Oq)(g cap:Nat)(l:Bs)(_ _:Nat)(w:World)(e:Ending)(w':World):Prop :=
 e=.returned (.tuple #[])/\∃sp,Turns (aJ (.slice (some ⟨g,0,none⟩) l.length cap) l++aq ab d A) (aq ab d { A with spare:=sp }) w w'/\Ov { A with spare:=sp }
theorem Mt(ab d:Nat)(A:Oq)(g cap:Nat)(l:Bs)(B0 B1:Nat)(u:FrameMode)(w:World)(h:Sat w (aJ (.slice (some ⟨g,0,none⟩) l.length cap) l++aq ab d A))(hA:Ov A)(h0:w.cell? ⟨B0,0,none⟩=some (.pointer (some ⟨ab,0,none⟩)))(h1:w.cell? ⟨B1,0,none⟩=some (.slice (some ⟨g,0,none⟩) l.length cap)):
  CallsD prog 152 #[.pointer (some ⟨B0,0,none⟩),.pointer (some ⟨B1,0,none⟩)] u w (fun e u' w'=>u'=u/\Fa ab d A g cap l B0 B1 w e w'):=by
 have HB:=NZ (CS ab d A g cap l w h hA);clear h hA;go_enter_d func152,ntmps152;go_wp2_with fail;refine HB.o.mono ?_;rintro e w' ⟨rfl,hb⟩;have H:=NZ hb;clear hb;go_wp2_with fail;go_end0;exact⟨rfl,H.o⟩
def fa(v:Value):Obj:=.cells #[v] 38 (0,0)
def Ew(ab d:Nat)(A:Oq)(H:Bs)(at_ n B0 B1:Nat)(R:HF)(w:World)(i:Value)(wr:World):Prop :=
 ∃k g cv sp,at_ / 128<=k/\128*k<=at_+n+127/\i=.int .i64 ((k:Nat):Int)/\PE (.slice (some ⟨g,0,none⟩) (dU H at_ n k).length cv) (dU H at_ n k)/\Ov { A with spare:=sp } /\
  Turns (aq ab d A++R) (aJ (.slice (some ⟨g,0,none⟩) (dU H at_ n k).length cv) (dU H at_ n k)++((B1,Is (fa (.slice (some ⟨g,0,none⟩) (dU H at_ n k).length cv)))::(B0,Is (.cells #[.pointer (some ⟨ab,0,none⟩)] 125 (0,0)))::(aq ab d { A with spare:=sp }++R))) w wr
def Iq(ab d:Nat)(A:Oq)(R0:HF)(Pf:HF->Prop)(w:World)(e:Ending)(w':World):Prop :=
 e=.returned .nilIface/\∃R1 sp,Pf R1/\Ov { A with spare:=sp }/\Turns (aq ab d A++R0) (aq ab d { A with spare:=sp }++R1) w w'
def Fe(ab d:Nat)(A:Oq)(R0:HF)(Pf:HF->Prop)(B0 B1 g cv:Nat)(sp:List (Nat×Nat×Nat))(data:Bs)(w:World)(e:Ending)(w':World):Prop :=
 e=.returned .nilIface/\∃R1,Pf R1/\Turns (aq ab d A++R0) (aJ (.slice (some ⟨g,0,none⟩) data.length cv) data++((B1,Is (fa (.slice (some ⟨g,0,none⟩) data.length cv)))::(B0,Is (.cells #[.pointer (some ⟨ab,0,none⟩)] 125 (0,0)))::(aq ab d { A with spare:=sp }++R1))) w w'
theorem CH(ab d:Nat)(A:Oq)(L:Ol)(at_ n:Nat)(p0 p1 p2:Value)(H:Bs)(hH:H=aB L.now A.first A.count)(R0:HF)(Pf:HF->Prop)(w:World)(h:Sat w (aq ab d A++R0))(hsub:∀a,cnt a (aA d L)<=cnt a R0)(hL:Ou L)(hA:Ov A)(hAn:A.first+A.count<=L.n)(hn:L.n<=1073741824)(hfit:at_+n<=128*A.count)(hf:∀(W:World) (B0 B1 g cv:Nat) sp,PE (.slice (some ⟨g,0,none⟩) ((H.drop at_).take n).length cv) ((H.drop at_).take n)->Turns (aq ab d A++R0) (aJ (.slice (some ⟨g,0,none⟩) ((H.drop at_).take n).length cv) ((H.drop at_).take n)++((B1,Is (fa (.slice (some ⟨g,0,none⟩) ((H.drop at_).take n).length cv)))::(B0,Is (.cells #[.pointer (some ⟨ab,0,none⟩)] 125 (0,0)))::(aq ab d { A with spare:=sp }++R0))) w W ->
   Calls prog 131 #[.slice (some ⟨g,0,none⟩) ((H.drop at_).take n).length cv,p0,p1,p2] W (Fe ab d A R0 Pf B0 B1 g cv sp ((H.drop at_).take n) w)):
  Calls prog 130 #[.pointer (some ⟨ab,0,none⟩),.int .i64 at_,.int .i64 n,.func (.func 131) #[] #[p0,p1,p2]] w (Iq ab d A R0 Pf w):=by
 have hmf:∀(fn:Fn) (first cap:Array Value) (w:World),(Instr.makeFunc fn first cap).run prog w=.ok (.func fn first cap) w:=fun _ _ _ _=>rfl
 have HB:Hid (∀W,Sat W (aq ab d A)->Calls prog 151 #[.pointer (some ⟨ab,0,none⟩)] W (tj ab d A W)):=NZ (fun W hW=>yj ab d A W hW hA);have hb1:(at_:Int)+n<=1099511627776:=Nb
 have hb2:(at_:Int)<=1099511627776:=Nb
 have hc1:A.count<=1073741824:=Nb
 have hHl:H.length=128*A.count:=by rw[hH];exact fC hL.OU Nb
 have HH:=NZ (NK h (NK hL (NK hA (NK hAn (NK hn (NK hfit (NK hsub (NK hHl (NK hH hc1)))))))));have HIn:=NZ hf;clear h hL hA hAn hn hfit hf hsub hHl hH hc1;go_enter_defers func130,ntmps130;go_wp2_with fail;refine(HB.o _ ((HH.a.left).same ((N7.refl _ w).alloc _))).mono ?_;rintro e w1 ⟨bg,cv,sp,rfl,hok,hT,Zf,-⟩;have hT0:Turns (aq ab d A++R0) ((w.heap.size,Is (.cells #[.pointer (some ⟨ab,0,none⟩)] 125 (0,0)))::(aq ab d A++R0)) w _:=(Turns.refl HH.a).Q9 (.cells #[.pointer (some ⟨ab,0,none⟩)] 125);have hT1:=hT0.step (F:=aq ab d A) (R:=(w.heap.size,Is (.cells #[.pointer (some ⟨ab,0,none⟩)] 125 (0,0)))::R0) ac hT;have b0:=aa (hT1.sat.Q7 (b:=w.heap.size) (o:=.cells #[.pointer (some ⟨ab,0,none⟩)] 125 (0,0)) Nh) 0 rfl;have hB0':w.heap.size<w1.heap.size:=World.block_lt_of_cell? w1 _ b0;have hst:=hT1.Q9 (fa (.slice (some ⟨bg,0,none⟩) 0 cv))
 have hst2:Ew ab d A H at_ n w.heap.size w1.heap.size R0 w (.int .i64 ((at_ / 128:Nat):Int)) (w1.alloc (fa (.slice (some ⟨bg,0,none⟩) 0 cv))):=by
  refine⟨at_ / 128,bg,cv,sp,Nat.le_refl _,Nb,rfl,?_,Zf,?_⟩
  ·rw[sd];exact hok
  ·rw[sd,length_nil];exact hst.to ac
 have H1:=NZ hst2;clear hT0 hT1 hst hok Zf hT hst2;obtain⟨B0,hB0⟩:∃B0,w.heap.size=B0:=⟨_,rfl⟩;obtain⟨B1,hB1⟩:∃B1,w1.heap.size=B1:=⟨_,rfl⟩;rw[hB0,hB1]at H1;have e128:((at_ / 128:Nat):Int)=(at_:Int) / 128:=Nb
 rw[e128]at H1;clear e128;go_wp2_with fail;go_loopw [10] (fun i wr=>Ew ab d A H at_ n B0 B1 R0 w i wr) (fun i _=>at_+n+128-128*(intOf i).toNat)
 case atStart=>exact H1.o
 case round =>
  obtain⟨k,g,SQ,sp2,hk1,hk2,rfl,hok,hAo,hT⟩:=hrel;by_cases hlt:128*k<at_+n
  ·have hkc:k<A.count:=by have:=HH.f;omega
   have hnn:=HH.q.z;obtain⟨s,hs⟩:=Na (aN H k);have hsL:aN L.now (A.first+k)=s:=by rw[hs,HH.q.a,wo hkc]
   have hsl:s.length=128:=by rw[hs];exact gz HH.h hkc
   have HSL:=NZ hsl
   have HRd:Hid (∀W,Sat W (aA d L)->Calls prog 17 #[.pointer (some ⟨d,0,none⟩),.int .i64 ((A.first:Int)+(k:Nat))] W (fun e w'=>e=.returned (.tuple #[.agg (aw s),.nilIface])/\aV W w')):=NZ (fun W hW=>by
    have:=j5 d L (A.first+k) W hW HH.b (by have:=HH.d;omega);unfold j0 at this;rw[hsL]at this;exact this)
   have HSUM:=NZ (show IntKind.i64.wrap ((A.first:Int)+(k:Nat))=(A.first:Int)+(k:Nat)from IntWalk.i64_in _ (by have:=HH.d;have:=HH.e;omega));have HR:=PD hok hAo hT hs hkc;have hlt':(128:Int)*k<at_+n:=Nb
   clear hok hAo hT hs hkc hsl hsL;go_upto_region 6 with(fail);refine zo [0,1,2,3,4,5,6,7,8,9] (.two 10 [] [11,12,13] (.one 14 [0,1,2,3,4,5,6,7,8,9,11,12,13] [] (.one 15 [13] [16] .fin)) 14 [0,1,2,3,4,5,6,7,8,9] [] (.one 10 [] [11,12,13] (.one 15 [13] [16] .fin))) HM.o Nc fun W tW=>?_
   simp only[tx,map_cons,map_nil,nth,QG,QF];have hT:=tW HR.c;clear tW
   have key:∀{W:World} {F:HF},Sat W F->(∀a,cnt a ((B0,Is (.cells #[.pointer (some ⟨ab,0,none⟩)] 125 (0,0)))::(aq ab d { A with spare:=sp2 }++R0))<=cnt a F)->W.cell? ⟨B0,0,none⟩=some (.pointer (some ⟨ab,0,none⟩))/\W.cell? ⟨ab,0,none⟩=some (.pointer (some ⟨d,0,none⟩))/\W.cell? ⟨ab,1,none⟩=some (.int .i64 A.first)/\Sat W (aA d L):=fun hs hm=>by
    have h1:=hs.sub hm;exact⟨aa h1.Q5 0 rfl,aa (iu h1.tail) 0 (lO d _),aa (iu h1.tail) 1 (lP d _),h1.sub (fun a=>by have:=HH.g a;simp only[ao,af];omega)⟩
   have g9:=HSUM.o;obtain⟨k1,k2,k3,k4⟩:=key hT.sat bR;repeat still_step
   refine wpStill_nil ⟨aO Nc (HRd.o W k4) ?A,je (.cells (aw (an 128)) 43 (0,0)) (fun n=>.pointer (some ⟨n,0,none⟩)) Nc hT fun g14 W1 hT1=>⟨by(obtain⟨k1,k2,k3,k4⟩:=key hT1.sat bR;(repeat still_step);exact rfl),wpStill_nil (aO Nc (HRd.o W1 (key hT1.sat bR).2.2.2) ?B)⟩⟩
   case' A =>
    rintro e W1 ⟨rfl,hs⟩;have hT1:=hT.Q8 hs;refine⟨_,rfl,rfl,?_⟩;simp only[Act.put,QA,QB,QC];repeat still_step
    refine wpStill_nil (je (.cells (aw (an 128)) 43 (0,0)) (fun n=>.pointer (some ⟨n,0,none⟩)) Nc hT1 fun g14 W2 hT2=>⟨by(obtain⟨k1,k2,k3,k4⟩:=key hT2.sat bR;(repeat still_step);exact rfl),wpStill_nil ?_⟩)
   case' B =>
    rintro e W2 ⟨rfl,hs⟩;have hT2:=hT1.Q8 hs;refine⟨_,rfl,rfl,?_⟩;simp only[Act.put,QA,QB,QC];repeat still_step
    refine wpStill_nil ?_
   all_goals
    refine qJ 43 (.tmp 11) (.tmp 40) rfl g14 (aw (an 128)) (aw s) _ hT2 rfl rfl (by rw[bL,bL,HSL.o,ap]) (gU HSL.o) (cS _) fun W3 Oa=>⟨by(repeat still_step);exact rfl,?_⟩
    simp only[Act.put,QA,QB,QC];repeat still_step
    refine wpStill_nil ?_;clear key hT1 g9 k1 k2 k3 k4;have b1:=aa (Oa.sat.Q7 (b:=B1) (o:=fa (.slice (some ⟨g,0,none⟩) (dU H at_ n k).length SQ)) Nh) 0 rfl;have f1:=aY (Oa.sat.Q7 (b:=B1) (o:=fa (.slice (some ⟨g,0,none⟩) (dU H at_ n k).length SQ)) Nh) 0;have H3:=NZ Oa;clear Oa hT2 hT;obtain⟨lo,hlo⟩:=Na (at_-128*k);obtain⟨hi,hhi⟩:=Na (min 128 (at_+n-128*k));have m1:max (0:Int) ((at_:Int)-(k:Nat)*128)=(lo:Int):=Nb
    have m2:min (128:Int) ((at_:Int)+n-(k:Nat)*128)=(hi:Int):=Nb
    have m3:(lo:Int)<=hi:=Nb
    have m4:(hi:Int)<=128:=Nb
    have HLH:=Ob hlo hhi;clear hlo hhi;go_upto_region 11 with(fail);have m5:¬lo=128:=by have:=HLH.a;omega
    have m7:¬128=lo:=Nb
    have m6:(lo:Int)<=128:=Nb
    obtain⟨r,hr⟩:=Na ((s.take hi).drop lo);have hrl:r.length=hi-lo:=by rw[hr,NT,NS,HSL.o];omega
    have hgn:dU H at_ n (k+1)=dU H at_ n k++r:=by
     rw[hr,HR.d,HLH.a,HLH.z];exact Dn Nb hk1 (by rw[HH.h];exact HH.f)
    have hcr:ak W3 (some ⟨g14,lo,none⟩) (r.map am):=fun _=>⟨g14,lo,rfl,fun j hj=>by
     have hj':j<hi-lo:=by simpa[hrl]using hj
     have hx:=H3.o.sat.Q5;refine aa hx (lo+j) ?_;rw[ex s (lo+j) (by rw[HSL.o];omega)];simp[hr]⟩
    have hgl:=yG (H:=H) (at_:=at_) (n:=n) (i:=k+1);have H4:=OW hrl hgn hcr hgl;clear hr hrl hgn hcr hgl;refine wp_region_still_tail 4 HM.o Nc ?_;simp only[QE,take_zero,QD,drop_zero];iterate 4 still_step
    refine wpStill_nil ?_;change wpList _ _ _ _ _ W3.drew;have hTd:=H3.o.drew.to (H:=aJ (.slice (some ⟨g,0,none⟩) (dU H at_ n k).length SQ) (dU H at_ n k)++((g14,Is (.cells (aw s) 43 (0,0)))::((B1,Is (fa (.slice (some ⟨g,0,none⟩) (dU H at_ n k).length SQ)))::(B0,Is (.cells #[.pointer (some ⟨ab,0,none⟩)] 125 (0,0)))::(aq ab d { A with spare:=sp2 }++R0)))) ac;refine ai rfl (fu (.tmp 57) (.tmp 60) rfl (.slice (some ⟨g,0,none⟩) (dU H at_ n k).length SQ) (dU H at_ n k) rfl hTd HR.a (some ⟨g14,lo,none⟩) (hi-lo) _ rfl r H4.a.symm (ak.of_heap rfl H4.c) (by have h1:=H4.x;rw[H4.b,NM]at h1;have:=HH.f;have:=HH.q.z;omega) ?_);intro av YP w4 P7 Oj hav
    obtain⟨gx,cx,rfl⟩:∃gx:Nat,∃_:Unit,av=some ⟨gx,0,none⟩:=by
     cases av with
     | none=>exact absurd (hav rfl).1 Nh
     | some ad =>
      have hO:=dh Oj.sat.left P7;rcases hO.2 with⟨hv,_⟩|⟨gg,cap,cur,hv,_⟩
      ·cases hv
      ·simp only[Value.slice.injEq,NY]at hv;exact⟨gg,(),by rw[hv.1]⟩
    rw[<- H4.b]at P7 Oj ⊢;have hb1:=Oj.sat.Q7 (b:=B1) (o:=fa (.slice (some ⟨g,0,none⟩) (dU H at_ n k).length SQ)) Nh;have c1:=aa hb1 0 rfl;have d1:=aY hb1 0;have Og:=(Oj.to (H:=(B1,Is (fa (.slice (some ⟨g,0,none⟩) (dU H at_ n k).length SQ)))::(aJ (.slice (some ⟨gx,0,none⟩) (dU H at_ n (k+1)).length YP) (dU H at_ n (k+1))++((g14,Is (.cells (aw s) 43 (0,0)))::((B0,Is (.cells #[.pointer (some ⟨ab,0,none⟩)] 125 (0,0)))::(aq ab d { A with spare:=sp2 }++R0))))) ac).Qa ((N7.refl (fun k=>k=B1) w4).set1 (i:=0) (.slice (some ⟨gx,0,none⟩) (dU H at_ n (k+1)).length YP)) (bq hb1 0 _);have Ox:=Og.drop (H:=aJ (.slice (some ⟨gx,0,none⟩) (dU H at_ n (k+1)).length YP) (dU H at_ n (k+1))++((B1,Is (fa (.slice (some ⟨gx,0,none⟩) (dU H at_ n (k+1)).length YP)))::(B0,Is (.cells #[.pointer (some ⟨ab,0,none⟩)] 125 (0,0)))::(aq ab d { A with spare:=sp2 }++R0))) (fun _=>by simp only[ao,af];show _<=II _ (B1,Is (fa (.slice (some ⟨gx,0,none⟩) (dU H at_ n (k+1)).length YP)))+_;omega);have H6:=Ob P7 Ox;clear P7 Oj Og Ox hb1 hav hTd b1 f1;go_wp2_with fail;go_roundw
    case rel=>exact⟨k+1,gx,YP,sp2,Nb,Nb,by go_num,H6.a,HR.b,H6.z⟩
    case measure=>simp[intOf];omega
  ·have hge:=F4 (H:=H) (at_:=at_) (n:=n) (i:=k) hlt;rw[hge]at hok hT;obtain⟨data,hd⟩:=Na ((H.drop at_).take n);have Y4:=NZ (HIn.o wr B0 B1 g SQ sp2);rw[<- hd]at hok hT Y4;have b1:=aa (hT.sat.Q7 (b:=B1) (o:=fa (.slice (some ⟨g,0,none⟩) data.length SQ)) Nh) 0 rfl;have HR:=Oz hok hAo hT;have hlt':¬(128:Int)*k<at_+n:=Nb
   clear hok hAo hT hge hd HIn;go_wp2_with fail;refine(Y4.o HR.a HR.y).mono ?_;rintro e w3 ⟨rfl,R1,hP,Oa⟩;have H3:=Ob hP Oa;clear hP Oa;go_wp2_with fail;have Yt:=H3.z.sat;have hb0:=Yt.Q7 (b:=B0) (o:=.cells #[.pointer (some ⟨ab,0,none⟩)] 125 (0,0)) Nh;have hb1:=Yt.Q7 (b:=B1) (o:=fa (.slice (some ⟨g,0,none⟩) data.length SQ)) Nh;refine leaves_cons (f:=152) (args:=#[.pointer (some ⟨B0,0,none⟩),.pointer (some ⟨B1,0,none⟩)]) Nh (by simp[go_sem]) ?_;refine(Mt ab d { A with spare:=sp2 } g SQ data B0 B1 .returning _ (Yt.sub bR) HR.b (aa hb0 0 rfl) (aa hb1 0 rfl)).mono ?_;rintro e u' w4 ⟨rfl,rfl,sp3,Oj,XP⟩;have Og:=H3.z.step (F:=aJ (.slice (some ⟨g,0,none⟩) data.length SQ) data++aq ab d { A with spare:=sp2 }) (R:=(B1,Is (fa (.slice (some ⟨g,0,none⟩) data.length SQ)))::(B0,Is (.cells #[.pointer (some ⟨ab,0,none⟩)] 125 (0,0)))::R1) ac Oj;exact⟨_,results_tmp rfl _ _ _,rfl,R1,sp3,H3.a,XP,Og.drop bR⟩
def au(n:Nat):Nat:=(n-2) / 2
theorem pr(d:Nat)(L:Ol)(ep:Nat)(w:World)(h:Sat w (aA d L))(hn:2<=L.n)(hn2:L.n<=1073741824)(UF:ep<4294967296):
  Calls prog 53 #[.pointer (some ⟨d,0,none⟩),.int .u32 ep] w (mJ d (2+ep%2*au L.n) (au L.n) w):=by
 have HS:=NZ (jg d L w h);obtain⟨m,hm⟩:=Na (au L.n);have e1:((L.n:Int)-2) / 2=(m:Int):=by rw[hm];unfold au;omega
 have hml:m<=1073741824:=by rw[hm];unfold au;omega
 obtain⟨b,hb⟩:=Na (ep%2);have e2:((ep:Int))%2=(b:Int):=Nb
 have hb2:b=0\/b=1:=Nb
 have e3:wrap64 (2+wrap64 ((b:Int)*(m:Int)))=((2+b*m:Nat):Int):=by
  have hbm:(b:Int)*(m:Int)=((b*m:Nat):Int):=Nh
  have hle:b*m<=1*m:=Nat.mul_le_mul_right _ Nb;have i1:wrap64 ((b*m:Nat):Int)=((b*m:Nat):Int):=IntWalk.wrap64_in _ ⟨Nb,Nb⟩;rw[hbm,i1,IntWalk.wrap64_in _ ⟨Nb,Nb⟩];omega
 rw[<- hm,<- hb];have HM:=Ob hm hb;clear h hm hb;go_enter func53,ntmps53;go_wp2_with fail;refine HS.o.mono ?_;rintro e w1 ⟨rfl,rfl⟩;have E3:=NZ e3;clear e3;go_wp2_with fail;rw[E3.out];refine(vG d (2+b*m) m w).mono ?_;rintro e w1 ⟨ab,ch,rfl,hT⟩;have HT:=NZ hT;clear hT;go_wp2_with fail;go_ret;exact⟨ab,ch,rfl,HT.o⟩
def d9(pm tm cm:Nat)(sc sb used:Int):Array Value:=#[.map (some pm),.map (some tm),.map (some cm),.int .i64 sc,.int .i64 sb,.int .i64 used]
def tz(w:World)(e:Ending)(w':World):Prop :=
 ∃pm tm cm:Nat,e=.returned (.agg (d9 pm tm cm 0 0 0))/\Turns [] [(cm,Is (.map #[] 0)),(tm,Is (.map #[] 0)),(pm,Is (.map #[] 0))] w w'
theorem ja(w:World):Calls prog 52 #[] w (tz w):=by
 have hmm:=@run_makeMap prog;go_enter func52,ntmps52;go_wp2_with fail;have h:=((((Turns.refl (Sat.nil w)).alloc (.cells (d9 (w.heap.size+1) (w.heap.size+1+1) (w.heap.size+1+1+1) 0 0 0) 123)).Q9 (.map #[] 0)).Q9 (.map #[] 0)).Q9 (.map #[] 0);simp only[World.size_alloc]at h
 have hc:((((w.alloc (.cells (d9 (w.heap.size+1) (w.heap.size+1+1) (w.heap.size+1+1+1) 0 0 0) 123)).alloc (.map #[] 0)).alloc (.map #[] 0)).alloc (.map #[] 0)).heap[w.heap.size]?=some (.cells (d9 (w.heap.size+1) (w.heap.size+1+1) (w.heap.size+1+1+1) 0 0 0) 123 (0,0)):=by
  rw[dZ Nj,dZ Nj,dZ Nh];exact aM w _
 exact bodyPost_ret (results_cell_row rfl _ _ w.heap.size 123 _ (0,0) _ rfl hc underlying123 rfl Nc) rfl ⟨_,_,_,rfl,h⟩
structure Om where
 pm:Nat
 tm:Nat
 cm:Nat
 sc:Int
 sb:Int
 used:Int
 d:Nat
 ab:Nat
 ep:Nat
 quota:Int
 closed:Bool
 broken:Value
def bm(X:Om):Array Value:=#[.map (some X.pm),.map (some X.tm),.map (some X.cm),.int .i64 X.sc,.int .i64 X.sb,.int .i64 X.used,.pointer (some ⟨X.d,0,none⟩),.pointer (some ⟨X.ab,0,none⟩),.int .u32 X.ep,.int .i64 X.quota,.bool X.closed,X.broken]
def aL(X:Om):Obj:=.cells (bm X) 128 (0,0)
theorem mg{l:Bs}{first count k:Nat}(h:k<count):aN (aB l first count) k=aN l (first+k):=by
 unfold aN aB;rw[drop_take,drop_drop,take_take];congr 1
 ·omega
 ·congr 1;omega
theorem pw{w:World}{b e n:Nat}{v:Value}{xs:List Value}(h:w.ownsRow b e 1 v n xs):∃a cap,v=.slice a n cap/\xs.length=n/\n<=cap/\cap<=9223372036854775807/\ak w a xs/\∀x,a=some x->v.ownBlock=some x.block:=by
 obtain⟨a,cap,rfl,h1,h2,h3,h4⟩:=ru h;refine⟨a,cap,rfl,h1,h2,?_,h3,h4⟩;rcases h.2 with⟨hv,_⟩|⟨g,c,cur,hv,_,_,_,hc,_⟩
 ·simp only[Value.slice.injEq]at hv;omega
 ·simp only[Value.slice.injEq]at hv;unfold maxLen at hc;omega
def fO(q:Int):Int:=if(0:Int)>q then 0 else q
def qQ(d:Nat)(L:Ol)(q:Int)(w:World)(e:Ending)(w':World):Prop :=
 ∃a ab pm tm cm ch L',e=.returned (.tuple #[.pointer (some ⟨a,0,none⟩),.nilIface]) /\
  Turns (aA d L) ((a,Is (aL ⟨pm,tm,cm,0,0,0,d,ab,1,fO q,false,.nilIface⟩))::(pm,Is (.map #[] 0))::(tm,Is (.map #[] 0))::(cm,Is (.map #[] 0))::(aq ab d ⟨2+au L.n,au L.n,0,an 128,ch,[]⟩++aA d L')) w w' /\
  Ou L'/\L'.n=L.n/\L'.now=ba (gc L.now (2+au L.n) 0 (an 128) (au L.n)) 128 (bO 1 0)/\L'.safe=L'.now/\L'.N8=[]
theorem AE(d:Nat)(L:Ol)(q:Int)(w:World)(h:Sat w (aA d L))(hL:Ou L)(hn:16<=L.n)(hn2:L.n<=1073741824)(hch:L.N8.length<=137438953472):
  Calls prog 51 #[.pointer (some ⟨d,0,none⟩),.int .i64 q] w (qQ d L q w):=by
 have HNC:=NZ ja
 have HH:Hid (∀W,Sat W (aA d L)->Calls prog 53 #[.pointer (some ⟨d,0,none⟩),.int .u32 1] W (mJ d (2+au L.n) (au L.n) W)):=NZ (fun W hW=>by
  have:=pr d L 1 W hW Nb hn2 Nb;simpa using this)
 have HS:=PD h hL hn hn2 hch;clear h hL hn hn2 hch;go_enter func51,ntmps51;go_wp2_with fail;obtain⟨w1,hw1⟩:=Na (w.alloc (.cells #[.int .u32 1,.int .u32 0] 118));have hT1:Turns (aA d L) ((w.heap.size,Is (.cells #[.int .u32 1,.int .u32 0] 118 (0,0)))::aA d L) w w1:=by rw[hw1];exact(Turns.refl HS.a).Q9 _
 rw[<- hw1];have a0:=aa hT1.sat.Q5 0 rfl;obtain⟨u,hu⟩:=Na w.heap.size;rw[<- hu]at hT1 a0 ⊢;have HT:=NZ hT1;have hs1:aV w w1:=by rw[hw1];exact(N7.refl _ w).alloc _
 have Ug:=NZ hs1;clear hw1 hu hT1 hs1;refine cH [([1,2,3,4,6,7,8,9],0,[1,2,3,4,6,7,8,9]),([],5,[1,6,7,8,9]),([10],11,[])] [12] HM.o Nc fun W tW=>?_
 simp only[Mix,map_cons,map_nil,nth,QG,QF];have hT0:=tW HT.o;clear tW;have u0:∀{W:World} {F:HF},Sat W F->(u,Is (.cells #[.int .u32 1,.int .u32 0] 118 (0,0)))∈F->W.cell? ⟨u,0,none⟩=some (.int .u32 1):=fun hs hm=>aa (hs.Q7 hm) 0 rfl
 have c0:=u0 hT0.sat Nh;iterate 7 still_step
 refine cq rfl (v:=.int .i64 (fO q)) Nc ?_;simp only[Act.put,QA,QB,QC];refine wpStill_nil (aO Nc (HNC.o _) ?_);rintro e W1 ⟨pm,tm,cm,rfl,Oa⟩;have hT1:=Turns.Qb hT0 Oa;refine⟨_,rfl,by(have c1:=u0 hT1.sat Nh;(iterate 7 still_step);exact cq rfl (v:=.int .i64 (fO q)) Nc rfl),wpStill_nil (aO Nc (HH.o _ hT1.sat.right.tail) ?_)⟩;rintro e W2 ⟨ab,ch,rfl,Oa⟩;have hT2:=Turns.Qb hT1 Oa;refine⟨_,rfl,by(have c1:=u0 hT2.sat Nh;(iterate 4 still_step);exact cq rfl (v:=.int .i64 (fO q)) Nc rfl),?_⟩;simp only[Act.put,QA,QB,QC];refine cq rfl (v:=.agg (bm ⟨pm,tm,cm,0,0,0,d,ab,1,fO q,false,.nilIface⟩)) Nc ?_;simp only[Act.put,QA,QB,QC];refine wpStill_nil (je (aL ⟨pm,tm,cm,0,0,0,d,ab,1,fO q,false,.nilIface⟩) (fun g=>.pointer (some ⟨g,0,none⟩)) Nc hT2 fun g w2 hT=>⟨rfl,?_⟩);simp only[Act.put,QA,QB,QC];repeat still_step
 refine wpStill_nil ?_;have g7:=aa hT.sat.Q5 7 (show(bm ⟨pm,tm,cm,0,0,0,d,ab,1,fO q,false,.nilIface⟩)[7]?=some (.pointer (some ⟨ab,0,none⟩))from rfl);have U3:=NZ (qO ab d ⟨2+au L.n,au L.n,0,an 128,ch,[]⟩ L w2 (hT.sat.sub bR) HS.b (by simp only;unfold au;have:=HS.c;omega) HS.d);have HT2:=NZ hT;clear hT0 hT1 hT2 hT c0 u0;go_wp2_with fail;refine U3.o.mono ?_;rintro e w3 ⟨v,rfl,hok,Oa⟩;have hwl:=fC HS.b.OU (first:=2+au L.n) (k:=au L.n) (by unfold au;have:=HS.c;omega);obtain⟨ws,hws⟩:=Na (aB L.now (2+au L.n) (au L.n));try simp only at hok Oa
 rw[<- hws]at hok Oa hwl;obtain⟨av,cv,rfl,hlv,hcv,hcv2,hca,hav⟩:=pw (dh Oa.sat hok);have Oj:=Turns.Qb HT2.o Oa
 have hcut:=qP ab d ⟨2+au L.n,au L.n,0,an 128,ch,[]⟩ L 0 av cv ws w3 (Oj.sat.sub bR) HS.b (by simp only;unfold au;have:=HS.c;omega) HS.d ⟨ap _,Nh,fun _ h=>by simp at h⟩ hca
  (fun x hx hin=>Oj.sat.Qh (b:=x.block) ((eL _ _ _ _ _ _).2 (hav x hx)) (by simp only[cM,gL,mem_append,mem_cons]at hin ⊢;rcases hin with h|h<;>simp[h])) hwl hcv hcv2 (by simp only;unfold au;have:=HS.c;omega) (Nat.zero_le _) HS.w
  (fun m hm he=>by simp only at hm ⊢;rw[hws,mg Nb]at he;exact he)
 have g7:=aa (Oj.sat.right.Q5) 7 (show(bm ⟨pm,tm,cm,0,0,0,d,ab,1,fO q,false,.nilIface⟩)[7]?=some (.pointer (some ⟨ab,0,none⟩))from rfl);have HC:=NZ hcut;have H4:=Ob Oj hwl;clear hcut Oj hca hav Oa hok hws hlv hwl hcv hcv2;go_wp2_with fail;refine HC.o.mono ?_;rintro e w4 ⟨rfl,L',Og,hL',hn',PK,hsafe',hch'⟩;have eA:(drop (128*(0 / 128)) (take 0 ws)++an (128-0%128))=an 128:=Nh
 simp only[eA]at Og PK;clear eA;have Ox:=H4.a.step (F:=aq ab d ⟨2+au L.n,au L.n,0,an 128,ch,[]⟩++aA d L) (R:=aJ (.slice av ws.length cv) ws++((g,Is (aL ⟨pm,tm,cm,0,0,0,d,ab,1,fO q,false,.nilIface⟩))::([(cm,Is (.map #[] 0)),(tm,Is (.map #[] 0)),(pm,Is (.map #[] 0))]++[(u,Is (.cells #[.int .u32 1,.int .u32 0] 118 (0,0)))]))) ac Og;have hu:=(Ox.sat.sub (G:=[(u,Is (.cells #[.int .u32 1,.int .u32 0] 118 (0,0)))]) bR).Q5;have u0:=aa hu 0 rfl;have u1:=aa hu 1 rfl;have HSec:=NZ (mh 1 0 Nb Nb w4)
 have HWr:Hid (∀W,Sat W (aA d L')->Calls prog 18 #[.pointer (some ⟨d,0,none⟩),.int .i64 1,.agg (aw (bO 1 0))] W (jS d L' 1 (bO 1 0) W)):=NZ (fun W hW=>by
  have:=ie d L' 1 (bO 1 0) W hW hL' (by rw[hn'];have:=HS.c;omega) (co 1 0) (by rw[hch'];simp);exact this)
 have H6:=RV Ox hL' hn' PK hsafe' hch';clear Og Ox hL' hn' PK hsafe' hch' hu g7;go_wp2_with fail;refine HSec.o.mono ?_;rintro e w5 ⟨rfl,hs5⟩;have OH:=H6.a.Q8 hs5;have H7:=NZ OH;clear hs5 OH u0 u1;go_wp2_with fail;refine(HWr.o _ (H7.o.sat.sub bR)).mono ?_;rintro e w6 ⟨rfl,L2,OX,hL2,hn2,OQ,O9⟩;have O4:=H7.o.step (F:=aA d L') (R:=(aq ab d ⟨2+au L.n,au L.n,0,an 128,ch,[]⟩)++((g,Is (aL ⟨pm,tm,cm,0,0,0,d,ab,1,fO q,false,.nilIface⟩))::([(cm,Is (.map #[] 0)),(tm,Is (.map #[] 0)),(pm,Is (.map #[] 0))]++([(u,Is (.cells #[.int .u32 1,.int .u32 0] 118 (0,0)))]++aJ (.slice av ws.length cv) ws)))) ac OX;have VN:Hid (∀W,Sat W (aA d L2)->Calls prog 20 #[.pointer (some ⟨d,0,none⟩)] W (lm d L2 W)):=NZ (fun W hW=>ib d L2 W hW hL2 (by rw[O9,H6.v];simp));have H9:=OW O4 hL2 hn2 OQ;clear OX O4 hL2 hn2 OQ O9;go_wp2_with fail;refine(VN.o _ (H9.a.sat.sub bR)).mono ?_;rintro e w7 ⟨rfl,L3,OM,hL3,hn3,Rq,VB,QZ⟩;have Rj:=H9.a.step (F:=aA d L2) (R:=(aq ab d ⟨2+au L.n,au L.n,0,an 128,ch,[]⟩)++((g,Is (aL ⟨pm,tm,cm,0,0,0,d,ab,1,fO q,false,.nilIface⟩))::([(cm,Is (.map #[] 0)),(tm,Is (.map #[] 0)),(pm,Is (.map #[] 0))]++([(u,Is (.cells #[.int .u32 1,.int .u32 0] 118 (0,0)))]++aJ (.slice av ws.length cv) ws)))) ac OM;have Rn:=Rj.drop (H:=(g,Is (aL ⟨pm,tm,cm,0,0,0,d,ab,1,fO q,false,.nilIface⟩))::(pm,Is (.map #[] 0))::(tm,Is (.map #[] 0))::(cm,Is (.map #[] 0))::(aq ab d ⟨2+au L.n,au L.n,0,an 128,ch,[]⟩++aA d L3)) bR;have Uu:=RV Rn hL3 hn3 Rq VB QZ;clear OM Rj Rn hL3 hn3 Rq VB QZ;go_wp2_with fail;go_ret2;refine⟨g,ab,pm,tm,cm,ch,L3,rfl,Uu.a,Uu.b,by rw[Uu.c,H9.c,H6.c],?_,by rw[Uu.e,Uu.d],Uu.v⟩;rw[Uu.d,H9.x,H6.d];simp only[Nat.zero_div,Nat.sub_zero,Nat.mul_one]
def lK(H:Bs)(at_:Nat)(body:Bs):Prop:=at_+(body.length+9)<=H.length/\b5 ((H.drop at_).take (body.length+9))=some (1,body,body.length+9)
def J7(ab d:Nat)(A:Oq)(R0 R2:HF)(ob:Nat)(body:Bs)(w w':World):Prop :=
 ∃v sp,PE v body/\Ov { A with spare:=sp }/\Turns (aq ab d A++R0) (aJ v body++((ob,Is (fa v))::(aq ab d { A with spare:=sp }++R2))) w w'
def Hp(ab d:Nat)(A:Oq)(R0:HF)(body:Bs)(w:World)(e:Ending)(w':World):Prop :=
 ∃av cv sp,e=.returned (.tuple #[.slice av body.length cv,.nilIface])/\PE (.slice av body.length cv) body/\Ov { A with spare:=sp }/\Turns (aq ab d A++R0) (aJ (.slice av body.length cv) body++(aq ab d { A with spare:=sp }++R0)) w w'
theorem lX(a:Nat)(X:Om)(ab d:Nat)(hab:ab=X.ab)(A:Oq)(L:Ol)(at_:Nat)(body:Bs)(R0:HF)(w:World)(h:Sat w (aq ab d A++R0))(hsub:∀x,cnt x ((a,Is (aL X))::aA d L)<=cnt x R0)(hL:Ou L)(hA:Ov A)(hAn:A.first+A.count<=L.n)(hn:L.n<=1073741824)(hc:lK (aB L.now A.first A.count) at_ body):
  Calls prog 86 #[.pointer (some ⟨a,0,none⟩),.agg #[.int .i64 at_,.int .i64 body.length]] w (Hp ab d A R0 body w):=by
 have hmf:∀(fn:Fn) (first cap:Array Value) (w:World),(Instr.makeFunc fn first cap).run prog w=.ok (.func fn first cap) w:=fun _ _ _ _=>rfl
 have hbl:body.length<65536:=(dD hc.2).2.2.2.2;have HSz:=NZ (fun W=>gW (body.length:Int) Nb Nb W);have HH:=Uh h hsub hL hA hAn hn hc hab;clear h hsub hL hA hAn hn hc hab;go_enter func86,ntmps86;go_wp2_with fail;obtain⟨B2,hB2⟩:∃B,w.heap.size=B:=⟨_,rfl⟩;have hT1:=(((Turns.refl HH.a).Q9 (.cells #[.pointer (some ⟨a,0,none⟩)] 32)).Q9 (.cells #[.int .i64 at_,.int .i64 body.length] 161)).Q9 (fa (.slice none 0 0));simp only[World.size_alloc]at hT1;obtain⟨B3,hB3⟩:∃B,w.heap.size+1=B:=⟨_,rfl⟩;obtain⟨B6,UU⟩:∃B,w.heap.size+1+1=B:=⟨_,rfl⟩;rw[UU]at hT1 ⊢;rw[hB3]at hT1 ⊢;rw[hB2]at hT1 ⊢;obtain⟨R2,hR2⟩:=Na (((B3,Is (.cells #[.int .i64 at_,.int .i64 body.length] 161 (0,0)))::(B2,Is (.cells #[.pointer (some ⟨a,0,none⟩)] 32 (0,0)))::R0));obtain⟨R1,hR1⟩:=Na (((B6,Is (fa (.slice none 0 0)))::R2));have hT2:Turns (aq ab d A++R0) (aq ab d A++R1) w _:=hT1.to (H:=aq ab d A++R1) (by rw[hR1,hR2];exact ac);have HT:=Oz hT2 hR1 hR2;clear hT1 hT2 hR1 hR2 hB2 hB3 UU
 have HW:Hid (∀W,Turns (aq ab d A++R0) (aq ab d A++R1) w W->Calls prog 130 #[.pointer (some ⟨ab,0,none⟩),.int .i64 at_,.int .i64 ((body.length:Int)+9),.func (.func 131) #[] #[.pointer (some ⟨B3,0,none⟩),.pointer (some ⟨B2,0,none⟩),.pointer (some ⟨B6,0,none⟩)]] W (fun e w'=>e=.returned .nilIface/\J7 ab d A R0 R2 B6 body w w')):=NZ (fun W hTW=>by
  have hTW':=hTW;rw[HT.b,HT.y]at hTW'
  have hw:=CH ab d A L at_ (body.length+9) (.pointer (some ⟨B3,0,none⟩)) (.pointer (some ⟨B2,0,none⟩)) (.pointer (some ⟨B6,0,none⟩)) (aB L.now A.first A.count) rfl R1 (fun R'=>∃v,PE v body/\R'=aJ v body++((B6,Is (fa v))::R2)) W hTW.sat
   (fun x=>by have h1:=HH.b x;rw[HT.b,HT.y];rw[ao]at h1;simp only[ao];omega) HH.c HH.d HH.e HH.f (by have:=HH.g.1;rwa [fC HH.c.OU HH.e]at this)
   (fun W' B0 B1 g cv sp hok VW=>by
    have VX:=VW;rw[HT.b,HT.y]at VX;obtain⟨a2,cap2,hv2,hl2,hc2,UD,-⟩:=aP (dh VW.sat.left hok);simp only[Value.slice.injEq]at hv2;obtain⟨rfl,-,rfl⟩:=hv2;have hb6:=VX.sat.Q7 (b:=B6) (o:=fa (.slice none 0 0)) Nh;have hb3:=VX.sat.Q7 (b:=B3) (o:=.cells #[.int .i64 at_,.int .i64 body.length] 161 (0,0)) Nh
    have hne:B3≠B6:=fun e=>by
     subst e;rw[hb3]at hb6;unfold fa at hb6;simp at hb6
    have hf:=A8 (some ⟨g,0,none⟩) cv (((aB L.now A.first A.count).drop at_).take (body.length+9)) body at_ B3 B2 B6 W' UD Ny hc2 HH.g.2 hb3 hb6 hne (fun x hx=>by
     simp only[NY]at hx;subst hx;intro e;have:=VX.sat.Qh (b:=g) (by simp[aJ,bH,Value.ownBlock]);have e:g=B6:=e;exact this (by simp[e]))
    refine hf.mono ?_;rintro e w' ⟨rfl,v,hv,hTf⟩;refine⟨rfl,aJ v body++((B6,Is (fa v))::R2),⟨v,hv,rfl⟩,?_⟩;rw[HT.b]at VW;have h2:=VW.step (F:=[(B6,Is (fa (.slice none 0 0)))]) (R:=aJ (.slice (some ⟨g,0,none⟩) (((aB L.now A.first A.count).drop at_).take (body.length+9)).length cv) (((aB L.now A.first A.count).drop at_).take (body.length+9))++((B1,Is (fa (.slice (some ⟨g,0,none⟩) (((aB L.now A.first A.count).drop at_).take (body.length+9)).length cv)))::(B0,Is (.cells #[.pointer (some ⟨ab,0,none⟩)] 125 (0,0)))::(aq ab d { A with spare:=sp }++R2))) ac hTf;rw[HT.b];exact h2.to (by show Perm (((B6,Is (fa v))::aJ v body)++_) _;exact ac))
  rw[show((body.length+9:Nat):Int)=(body.length:Int)+9 by omega]at hw;refine hw.mono ?_;rintro e w' ⟨rfl,R',sp,⟨v,hv,rfl⟩,hA',hT'⟩;exact⟨rfl,v,sp,hv,hA',(hTW.trans hT').to ac⟩)
 refine cH [([0,1,2,3,4,5,6,7,8,9],10,[])] [11] HM.o Nc fun W tW=>?_
 simp only[Mix,map_cons,map_nil,nth,QG,QF];have hT:=tW HT.a;clear tW
 have key:∀{W:World} {F:HF},Sat W F->(∀x,cnt x R2<=cnt x F)->W.cell? ⟨B2,0,none⟩=some (.pointer (some ⟨a,0,none⟩))/\W.cell? ⟨a,7,none⟩=some (.pointer (some ⟨ab,0,none⟩))/\W.cell? ⟨B3,0,none⟩=some (.int .i64 (at_:Nat))/\W.cell? ⟨B3,1,none⟩=some (.int .i64 (body.length:Nat)):=fun hs hm=>by
  have h1:=hs.sub hm;rw[HT.y]at h1;have h2:=h1.sub (G:=(a,Is (aL X))::aA d L) (fun x=>by have h1:=HH.b x;rw[ao]at h1;simp only[ao];omega);refine⟨aa h1.tail.Q5 0 rfl,?_,aa h1.Q5 0 rfl,aa h1.Q5 1 rfl⟩;rw[HH.t];exact aa h2.Q5 7 rfl
 obtain⟨k1,k2,k3,k4⟩:=key hT.sat (fun x=>by rw[HT.b];simp only[ao,af];omega);repeat still_step
 still_call ((HSz.o W).mono fun e w2 ⟨h1,h2⟩=>⟨h1,h2.symm⟩);repeat still_step
 refine wpStill_nil (aO Nc (HW.o W hT) ?_);rintro e w3 ⟨rfl,v,sp,hok,hAo,Oa⟩;refine⟨_,rfl,rfl,?_⟩;simp only[Act.put,QA,QB,QC];repeat still_step
 refine wpStill_nil ?_;obtain⟨av,cv,rfl,-,-,-,-⟩:=aP (dh Oa.sat.left hok);have c6:=aa (Oa.sat.Q7 (b:=B6) (o:=fa (.slice av body.length cv)) Nh) 0 rfl;have H3:=Oz hok hAo Oa;clear key k1 k2 k3 k4 hT hok hAo Oa;go_wp2_with fail;go_ret2;refine⟨av,cv,sp,rfl,H3.a,H3.b,H3.y.drop ?_⟩;rw[HT.y];exact bR
abbrev cr(n:Int):Value:=.iface 49 (.int .i64 n)
def Fb(X:Om)(ps:List Bs)(w:World)(e:Ending)(w':World):Prop:=e=.returned (if X.closed then cr 9 else if ps.all az then .nilIface else cr 1)/\aV w w'
def Hc(ps:List Bs)(w:World)(i:Value)(wr:World):Prop:=∃k:Nat,k<=ps.length/\i=.int .i64 k/\aV w wr/\∀j (h:j<ps.length),j<k->az ps[j]=true
theorem kD(a:Nat)(X:Om)(ad:Option Addr)(cap:Nat)(ps:List Bs)(w:World)(h:w.heap[a]?=some (aL X))(hp:ak w ad (ps.map str))(hl:ps.length<=1000000):
  Calls prog 75 #[.pointer (some ⟨a,0,none⟩),.slice ad ps.length cap] w (Fb X ps w):=by
 have a10:w.cell? ⟨a,10,none⟩=some (.bool X.closed):=aa h 10 rfl;have hal:=ae h;obtain⟨cl,hcl⟩:=Na X.closed;rw[<- hcl]at a10;have HC:=Oz hcl hp h;clear hcl hp h
 cases cl with
 | true =>
  go_enter func75,ntmps75;go_wp2_with fail;go_ret;exact ⟨by rw[<- HC.a];rfl,N7.refl _ _⟩
 | false =>
  go_enter func75,ntmps75;go_wp2_with fail;go_loopw [14] (fun v wr=>Hc ps w v wr) (fun v _=>ps.length-(intOf v).toNat)
  case atStart=>exact⟨0,Nat.zero_le _,rfl,N7.refl _ _,fun j h hj=>by omega⟩
  case round =>
   obtain⟨k,hk,rfl,hs,hall⟩:=hrel;have HR:=Ob hs hall;clear hs hall;by_cases hlt:k<ps.length
   ·obtain⟨g,off,hg,hcell⟩:=HC.b.keep HR.a (fun _ _ _=>id) (by simpa using(by omega:0<ps.length));subst hg
    have hck:wr.cell? ⟨g,off+k,none⟩=some (str ps[k]):=by
     rw[hcell k (by simpa using hlt)];simp
    have HP:=NZ (fun W=>yK ps[k] W);obtain⟨p,hpe⟩:=Na (ps[k]);rw[<- hpe]at hck HP;have HPE:=NZ hpe;clear hpe hcell;go_wp2_with fail;refine(HP.o _).mono ?_;rintro e w1 ⟨rfl,hs1⟩;obtain⟨b,hb⟩:=Na (az p);rw[<- hb];have HB:=Ob hb hs1;clear hb hs1
    cases b with
    | true =>
     go_wp2_with fail;go_roundw
     case rel=>exact⟨k+1,Nb,by go_num,HR.a.trans HB.z,fun j h hj=>by
      rcases Nat.lt_or_ge j k with h'|h'
      ·exact HR.z j h h'
      ·obtain rfl:j=k:=Nb
       rw[<- HPE.o];exact HB.a.symm⟩
     case measure=>simp[intOf];omega
    | false =>
     go_wp2_with fail;go_ret;refine ⟨?_,HR.a.trans HB.z⟩;rw[<- HC.a,NQ Nh,NQ]
     ·rfl
     ·intro hh;have:=all_eq_true.1 hh p (HPE.o ▸ getElem_mem hlt);rw[<- HB.a]at this
      cases this
   ·obtain rfl:k=ps.length:=Nb
    go_wp2_with fail;refine bodyPost_end (results_tmp rfl _ _ _) rfl ⟨?_,HR.a⟩;rw[<- HC.a,NQ Nh,NR]
    ·rfl
    refine all_eq_true.2 (fun p hp=>?_);obtain⟨j,hj,rfl⟩:=mem_iff_getElem.1 hp;exact HR.z j hj hj
end
end Go.Proofs.YtdhobpbngkainaaGreatDoor
