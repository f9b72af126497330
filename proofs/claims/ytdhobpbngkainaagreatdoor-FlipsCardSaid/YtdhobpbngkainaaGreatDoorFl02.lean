/- Ours. A part of the proof, made small by a program. -/
import Derived.Test.YtdhobpbngkainaaGreatDoorFl01
set_option maxRecDepth 100000
set_option maxHeartbeats 4000000
namespace Go.Proofs.YtdhobpbngkainaaGreatDoor
open List
section
open Go.RowKit
def sV(w:World)(rb:Nat)(a:Option Addr)(n cap:Nat)(bad:Bool):Prop:=w.heap[rb]?=some (.cells #[.slice a n cap,.bool bad] 282 (0,0))
def Rd(w:World)(rb:Nat)(l:Bs)(bad:Bool):Prop:=∃a cap,sV w rb a l.length cap bad/\l.length<=cap/\al w a (l.map am)/\∀x,a=some x->x.block<rb
def nh(rb:Nat)(l:Bs)(bad:Bool)(n:Nat)(w:World)(e:Ending)(w':World):Prop :=
 (bad=true\/l.length<n->e=.returned (.slice none 0 0)/\Rd w' rb l true) /\
 (bad=false->n<=l.length->(∃a cap,e=.returned (.slice a n cap)/\n<=cap/\al w' a ((l.take n).map am)/\(∀x,a=some x->x.block<rb))/\Rd w' rb (l.drop n) false) /\
 Mods (fun k=>k=rb) w w'/\w'.heap.size=w.heap.size
theorem lF{w:World}{a:Option Addr}{l:Bs}(h:al w a (l.map am))(n:Nat)(hn:n<=l.length):al w a ((l.take n).map am):=fun hp=>by
 simp at hp
 obtain⟨g,off,ha,hc⟩:=h (by simp;omega)
 refine⟨g,off,ha,fun j hj=>?_⟩
 have hj':j<n:=by simp at hj;omega
 rw[hc j (by simp;omega)]
 simp
theorem gR{w:World}{g off:Nat}{l:Bs}(h:al w (some ⟨g,off,none⟩) (l.map am))(n:Nat)(hn:n<=l.length):al w (some ⟨g,off+n,none⟩) ((l.drop n).map am):=fun hp=>by
 simp at hp
 obtain⟨g',off',ha,hc⟩:=h (by simp;omega)
 simp only[Option.some.injEq,Addr.mk.injEq,and_true]at ha
 obtain⟨rfl,rfl⟩:=ha
 refine⟨g,off+n,rfl,fun j hj=>?_⟩
 have hj':n+j<l.length:=by simp at hj;omega
 rw[Nat.add_assoc,hc (n+j) (by simpa using hj')]
 simp
theorem zG{w:World}{a:Option Addr}{l:Bs}(h:al w a (l.map am))(n:Nat)(hn:n<=l.length):al w (a.map (·.add n)) ((l.drop n).map am):=fun hp=>by
 simp at hp
 obtain⟨g,off,rfl,hc⟩:=h (by simp;omega)
 have:=gR (fun _=>⟨g,off,rfl,hc⟩) n hn (by simpa using hp)
 simpa[Addr.add_lit]using this
theorem D9{a:Option Addr}{n rb:Nat}(h:∀x,a=some x->x.block<rb):∀x,a.map (·.add n)=some x->x.block<rb:=fun x hx=>by
 cases a with
 | none=>simp at hx
 | some y =>
  simp at hx;subst hx
  have:=h y rfl
  simpa[Addr.add,apply_ite Addr.block]using this
theorem fX(w:World)(a:Option Addr):al w a (([]:Bs).map am):=fun hp=>by simp at hp
theorem Fm(rb:Nat)(l:Bs)(bad:Bool)(n:Nat)(w:World)(h:Rd w rb l bad)(_:l.length<=1099511627776)(_:n<=1099511627776)(hb:bad=true\/l.length<n):
  Calls Tryz.prog 158 #[.pointer (some ⟨rb,0,none⟩),.int .i64 n] w (nh rb l bad n w):=by
 obtain⟨a,cap,hr,hcap,hc,hne⟩:=h;have h0:=aa hr 0 (v:=.slice a l.length cap) (by simp);have h1:=aa hr 1 (v:=.bool bad) (by simp);have f1:=bf hr 1;have hset:=bB hr 1 (.bool true);have H:=Hq4 hset hcap hc hne;clear hset hcap hc hne hr;rcases hb with rfl|hb
 ·go_enter Tryz.func158,Tryz.ntmps158;go_wp2;go_ret;obtain⟨hset,hcap,hc,hne⟩:=H.out;have hM:Mods (fun k=>k=rb) w (w.setCell ⟨rb,1,none⟩ (.bool true)):=(Mods.refl _ w).set1 _;exact⟨fun _=>⟨rfl,a,cap,by unfold sV;rw[hset];rfl,hcap,hc.keep hM (fun _ _ e=>Nat.ne_of_lt (hne _ e)),hne⟩,(fun h=>by cases h),hM,by simp⟩
 ·cases bad
  ·have hg:decide (l.length<n)=true:=by simpa using hb
   have hg2:((n:Int)<=(l.length:Int))=False:=by simp;omega
   go_enter Tryz.func158,Tryz.ntmps158;go_wp2;go_ret;obtain⟨hset,hcap,hc,hne⟩:=H.out;have hM:Mods (fun k=>k=rb) w (w.setCell ⟨rb,1,none⟩ (.bool true)):=(Mods.refl _ w).set1 _;exact⟨fun _=>⟨rfl,a,cap,by unfold sV;rw[hset];rfl,hcap,hc.keep hM (fun _ _ e=>Nat.ne_of_lt (hne _ e)),hne⟩,(fun _ h=>by omega),hM,by simp⟩
  ·go_enter Tryz.func158,Tryz.ntmps158;go_wp2;go_ret;obtain⟨hset,hcap,hc,hne⟩:=H.out;have hM:Mods (fun k=>k=rb) w (w.setCell ⟨rb,1,none⟩ (.bool true)):=(Mods.refl _ w).set1 _;exact⟨fun _=>⟨rfl,a,cap,by unfold sV;rw[hset];rfl,hcap,hc.keep hM (fun _ _ e=>Nat.ne_of_lt (hne _ e)),hne⟩,(fun h=>by cases h),hM,by simp⟩
theorem Cz(rb:Nat)(l:Bs)(n:Nat)(w:World)(h:Rd w rb l false)(_:l.length<=1099511627776)(hn:n<=l.length):
  Calls Tryz.prog 158 #[.pointer (some ⟨rb,0,none⟩),.int .i64 n] w (nh rb l false n w):=by
 obtain⟨a,cap,hr,hcap,hc,hne⟩:=h;have h0:=aa hr 0 (v:=.slice a l.length cap) (by simp);have h1:=aa hr 1 (v:=.bool false) (by simp);have f0:=bf hr 0;have hset:=fun v=>bB hr 0 v
 have H:=Hq4 hset hcap hc hne;have hg:decide (l.length<n)=false:=by simp;omega
 clear hset hc hne hr;go_enter Tryz.func158,Tryz.ntmps158;go_wp2
 all_goals
  go_ret;obtain⟨hset,hcap',hc,hne⟩:=H.out
 ·have hln:l.length=n:=by omega
  have hM:Mods (fun k=>k=rb) w (w.setCell ⟨rb,0,none⟩ (.slice a (l.length-n) 0)):=(Mods.refl _ w).set1 _;have hd:l.drop n=[]:=drop_of_length_le (by omega);refine⟨fun h=>by rcases h with h|h;cases h;omega,fun _ _=>⟨⟨a,n,rfl,Nat.le_refl _,(lF hc n hn).keep hM (fun _ _ e=>Nat.ne_of_lt (hne _ e)),hne⟩,a,0,?_,?_,by rw[hd];exact fX _ _,hne⟩,hM,by simp⟩
  ·unfold sV;rw[hset];simp
  ·simp;omega
 ·have hM:Mods (fun k=>k=rb) w (w.setCell ⟨rb,0,none⟩ (.slice (Option.map (fun x=>x.add n) a) (l.length-n) (cap-n))):=(Mods.refl _ w).set1 _;refine⟨fun h=>by rcases h with h|h;cases h;omega,fun _ _=>⟨⟨a,cap,rfl,by omega,(lF hc n hn).keep hM (fun _ _ e=>Nat.ne_of_lt (hne _ e)),hne⟩,Option.map (fun x=>x.add n) a,cap-n,?_,?_,(zG hc n hn).keep hM (fun _ _ e=>Nat.ne_of_lt (D9 hne _ e)),D9 hne⟩,hM,by simp⟩
  ·unfold sV;rw[hset];simp
  ·simp;omega
theorem rA(rb:Nat)(l:Bs)(bad:Bool)(n:Nat)(w:World)(h:Rd w rb l bad)(hl:l.length<=1099511627776)(hn:n<=1099511627776):
  Calls Tryz.prog 158 #[.pointer (some ⟨rb,0,none⟩),.int .i64 n] w (nh rb l bad n w):=by
 by_cases hb:bad=true\/l.length<n
 ·exact Fm rb l bad n w h hl hn hb
 ·have hbad:bad=false:=by cases bad<;>simp_all
  subst hbad;exact Cz rb l n w h hl (by simp at hb;exact hb)
def db(l:Bs)(bad:Bool)(n:Nat):Nat:=if bad=true\/l.length<n then 0 else bk (l.take n)
def fa(l:Bs)(bad:Bool)(n:Nat):Bool:=bad || decide (l.length<n)
def eR(l:Bs)(bad:Bool)(n:Nat):Bs:=if bad=true\/l.length<n then l else l.drop n
def iR(rb:Nat)(l:Bs)(bad:Bool)(n:Nat)(w:World)(e:Ending)(w':World):Prop :=
 e=.returned (.int .i64 (db l bad n))/\Rd w' rb (eR l bad n) (fa l bad n)/\Mods (fun k=>k=rb) w w'/\w'.heap.size=w.heap.size
theorem nW{rb:Nat}{l:Bs}{bad:Bool}{n:Nat}{w w':World}{e:Ending}(h:nh rb l bad n w e w'):
  ∃a cap bs,e=.returned (.slice a bs.length cap)/\al w' a (bs.map am)/\(∀x,a=some x->x.block<rb)/\bs=(if bad=true\/l.length<n then[]else l.take n)/\Rd w' rb (eR l bad n) (fa l bad n)/\Mods (fun k=>k=rb) w w'/\w'.heap.size=w.heap.size:=by
 obtain⟨h1,h2,h3,h4⟩:=h;by_cases hb:bad=true\/l.length<n
 ·obtain⟨he,hr⟩:=h1 hb;refine⟨none,0,[],he,fX _ _,fun _ h=>(by cases h),by rw[if_pos hb],?_,h3,h4⟩;have e2:fa l bad n=true:=by unfold fa;rcases hb with rfl|hb;rfl;simp[hb]
  rw[e2];unfold eR;rw[if_pos hb];exact hr
 ·have hbad:bad=false:=by cases bad<;>simp_all
  have hn:n<=l.length:=by simp at hb;omega
  obtain⟨⟨a,cap,he,hc,hca,hne⟩,hr⟩:=h2 hbad hn;have hl:(l.take n).length=n:=by simp;omega
  refine⟨a,cap,l.take n,by rw[hl];exact he,hca,hne,by rw[if_neg hb],?_,h3,h4⟩;have e2:fa l bad n=false:=by unfold fa;rw[hbad];simp;omega
  rw[e2];unfold eR;rw[if_neg hb];exact hr
theorem gr(a b:Nat)(ha:a*256+b<9223372036854775808)(hb:b<256):bits BinOp.or IntKind.i64 ((a:Int)*256) (b:Int)=((a*256+b:Nat):Int):=by
 have e1:(BitVec.ofInt 64 ((a:Int)*256)).toNat=a*256:=by
  rw[show((a:Int)*256)=((a*256:Nat):Int) by omega,BitVec.ofInt_natCast,BitVec.toNat_ofNat];exact Nat.mod_eq_of_lt (by omega)
 have e2:(BitVec.ofInt 64 (b:Int)).toNat=b:=by rw[BitVec.ofInt_natCast,BitVec.toNat_ofNat];exact Nat.mod_eq_of_lt (by omega)
 show IntKind.i64.wrap ((BitVec.ofInt 64 ((a:Int)*256) ||| BitVec.ofInt 64 (b:Int)).toNat:Int)=_
 have e3:a*256 ||| b=a*256+b:=by
  have:=Nat.two_pow_add_eq_or_of_lt (i:=8) hb a;rw[show(256:Nat)=2 ^ 8 from rfl,Nat.mul_comm];exact this.symm
 rw[BitVec.toNat_or,e1,e2,e3];unfold IntKind.wrap;simp[IntKind.bits,IntKind.signed];omega
theorem dd(rb:Nat)(l:Bs)(bad:Bool)(n:Nat)(w:World)(h:Rd w rb l bad)(hl:l.length<=1099511627776)(hn:n<=7):
  Calls Tryz.prog 139 #[.pointer (some ⟨rb,0,none⟩),.int .i64 n] w (iR rb l bad n w):=by
 have H:=qqH (rA rb l bad n w h hl (by omega));clear h;go_enter Tryz.func139,Tryz.ntmps139;go_wp2_with fail;refine H.out.mono ?_;rintro e w1 hp;obtain⟨a,cap,bs,rfl,hca,hne,hbs,hr,hM,hsz⟩:=nW hp;have hbl:bs.length<=7:=by rw[hbs];split<;>simp;omega
 have H1:=Hq5 hca hbs hr hM hsz;clear hp H hca hbs hr hM hsz hne;go_wp2_with fail;go_loop [5,12] (fun v i=>∃j:Nat,j<=bs.length/\i=.int .i64 j/\v=.int .i64 (bk (bs.take j))) (fun _ i=>bs.length-(intOf i).toNat)
 case atStart=>exact⟨0,Nat.zero_le _,rfl,rfl⟩
 case round =>
  obtain⟨j,hj,rfl,rfl⟩:=hrel;by_cases hlt:j<bs.length
  ·obtain⟨g,off,rfl,hc⟩:=H1.a (by simp;omega);have hcj:=hc j (by simpa using hlt);simp only[getElem_map]at hcj;unfold am at hcj;have h8:=UInt8.toNat_lt bs[j]
   have hlb:bk (bs.take j)<281474976710656:=by
    have:=fV (bs.take j);have h2:(bs.take j).length<=6:=by simp;omega
    have h3:(256:Nat) ^ (bs.take j).length<=256 ^ 6:=Nat.pow_le_pow_right (by omega) h2;omega
   have hor:=gr (bk (bs.take j)) bs[j].toNat (by omega) h8;have hnx:bk (bs.take (j+1))=bk (bs.take j)*256+bs[j].toNat:=by rw[QH hlt,oG]
   have HN:=qqH hnx;clear hc hnx;generalize bs[j].toNat=x at *
   generalize bk (bs.take j)=q at *
   go_wp2_with fail;exact⟨⟨j+1,by omega,by go_num,by rw[HN.out];congr 1⟩,by simp[intOf];omega⟩
  ·obtain rfl:j=bs.length:=by omega
   go_wp2_with fail;go_ret;obtain⟨hca,hbs,hr,hM,hsz⟩:=H1.out;refine⟨EE ?_,hr,hM,hsz⟩;rw[hbs];unfold db;split<;>rfl
def ld(w:World)(e:Ending)(w':World):Prop:=e=.returned (.tuple #[.int .u8 0,.slice none 0 0,.int .i64 0])/\aX w w'
def y8(a:Option Addr)(k:UInt8)(body:Bs)(n:Nat)(w:World)(e:Ending)(w':World):Prop :=
 ∃a',e=.returned (.tuple #[.int .u8 k.toNat,.slice a' body.length body.length,.int .i64 n])/\al w' a' (body.map am)/\(∀x,a'=some x->∃y,a=some y/\x.block=y.block)/\aX w w'
def dS(a:Option Addr)(b:Bs)(w:World)(e:Ending)(w':World):Prop :=
 match bM b with
 | none=>ld w e w'
 | some (k,body,n)=>y8 a k body n w e w'
theorem Fj(x:Nat)(h:x<256):bits BinOp.xor IntKind.u8 IntKind.u8.max (x:Int)=((255-x:Nat):Int):=by
 have:∀y:Fin 256,bits BinOp.xor IntKind.u8 IntKind.u8.max ((y.1:Nat):Int)=((255-y.1:Nat):Int):=by decide +kernel
 exact this ⟨x,h⟩
theorem fW(x y:Nat)(h:x<256)(hy:255-x=y):bits BinOp.xor IntKind.u8 (if IntKind.u8.signed=true then -1 else IntKind.u8.max) (x:Int)=(y:Int):=by
 subst hy;exact Fj x h
theorem De(a:Option Addr)(cap:Nat)(b:Bs)(w:World)(hb:b.length<9):Calls Tryz.prog 97 #[.slice a b.length cap] w (ld w):=by
 have hg:decide ((b.length:Int)<9)=true:=by simp;omega
 go_enter Tryz.func97,Tryz.ntmps97;go_wp2;go_ret3;exact⟨rfl,Mods.refl _ _⟩
theorem F8(g off:Nat)(cap:Nat)(b:Bs)(w:World)(hb:9<=b.length)(hl:b.length<=1099511627776)(h0:w.cell? ⟨g,off+0,none⟩=some (.int .u8 0)):Calls Tryz.prog 97 #[.slice (some ⟨g,off,none⟩) b.length cap] w (ld w):=by
 have hg:decide ((b.length:Int)<9)=false:=by simp;omega
 have hp:(0:Int)<b.length:=by omega
 have h0':w.cell? ⟨g,off,none⟩=some (.int .u8 0):=h0;go_enter Tryz.func97,Tryz.ntmps97;go_wp2;go_ret3;exact⟨rfl,Mods.refl _ _⟩
theorem sC{w:World}{g off cap r m n:Nat}{b:Bs}(hc:al w (some ⟨g,off,none⟩) (b.map am))(hr:r<=b.length)(hcap:b.length<=cap)(hg:g<w.heap.size)(hn:n=b.length-r):
  Rd ((w.drewN m).alloc (.cells #[.slice (some ⟨g,off+r,none⟩) n (cap-r),.bool false] 282)) w.heap.size (b.drop r) false/\aX w ((w.drewN m).alloc (.cells #[.slice (some ⟨g,off+r,none⟩) n (cap-r),.bool false] 282)):=by
 have hs:aX w ((w.drewN m).alloc (.cells #[.slice (some ⟨g,off+r,none⟩) n (cap-r),.bool false] 282)):=((Mods.refl _ w).drewN m).alloc _;have hl:(b.drop r).length=n:=by simp;omega
 refine⟨⟨_,cap-r,?_,by omega,(gR hc r hr).keep hs (fun _ _ _=>id),fun x hx=>?_⟩,hs⟩
 ·unfold sV;rw[hl];exact aK (w.drewN m) _
 ·simp at hx;subst hx;show g<_;omega
theorem IL(g off:Nat)(cap:Nat)(b:Bs)(w:World)(b0 b1 b2 b3 b4:Nat)(hb:9<=b.length)(hl:b.length<=1099511627776)(h0:w.cell? ⟨g,off,none⟩=some (.int .u8 b0))(hb0:b0≠0)(h1:w.cell? ⟨g,off+1,none⟩=some (.int .u8 b1))(h2:w.cell? ⟨g,off+2,none⟩=some (.int .u8 b2))(h3:w.cell? ⟨g,off+3,none⟩=some (.int .u8 b3))(h4:w.cell? ⟨g,off+4,none⟩=some (.int .u8 b4))(l1:b1<256)(l2:b2<256)(l3:b3<256)(l4:b4<256)(hne:b1*256+b2≠(255-b3)*256+(255-b4)):Calls Tryz.prog 97 #[.slice (some ⟨g,off,none⟩) b.length cap] w (ld w):=by
 have hg:decide ((b.length:Int)<9)=false:=by simp;omega
 have hp:(0:Int)<b.length:=by omega
 have hp1:(1:Int)<b.length:=by omega
 have hp2:(2:Int)<b.length:=by omega
 have hp3:(3:Int)<b.length:=by omega
 have hp4:(4:Int)<b.length:=by omega
 have hz:((b0:Int)==0)=false:=by simp;omega
 have o1:=gr b1 b2 (by omega) l2;obtain⟨c3,hc3⟩:∃c:Nat,255-b3=c:=⟨_,rfl⟩;obtain⟨c4,hc4⟩:∃c:Nat,255-b4=c:=⟨_,rfl⟩;have n3:=fW b3 c3 l3 hc3;have n4:=fW b4 c4 l4 hc4;have l3':c3<256:=by omega
 have l4':c4<256:=by omega
 rw[hc3,hc4]at hne;clear hc3 hc4;have o2:=gr c3 c4 (by omega) (by omega);obtain⟨mm,hmm⟩:∃mm:Nat,c3*256+c4=mm:=⟨_,rfl⟩;rw[hmm]at o2 hne;obtain⟨nn,hnn⟩:∃nn:Nat,b1*256+b2=nn:=⟨_,rfl⟩;rw[hnn]at o1 hne;have hq:((nn:Int) != (mm:Int))=true:=by simp only[bne_iff_ne];omega
 have HN:=qqH hnn;clear hmm hnn hne;go_enter Tryz.func97,Tryz.ntmps97;go_wp2_with fail;go_quiet (fail);go_wp2_with fail;have k3:(w.drewN nq).cell? ⟨g,off+3,none⟩=some (.int .u8 b3):=h3;have k4:(w.drewN nq).cell? ⟨g,off+4,none⟩=some (.int .u8 b4):=h4;clear o1 h0 h1 h2 hz hp hp1 hp2;go_quiet (fail);go_wp2_with fail;go_ret3;exact⟨rfl,((Mods.refl _ w).drewN _).drewN _⟩
theorem F7(g off:Nat)(cap:Nat)(b:Bs)(w:World)(b0 b1 b2 b3 b4:Nat)(hb:9<=b.length)(hl:b.length<=1099511627776)(h0:w.cell? ⟨g,off,none⟩=some (.int .u8 b0))(hb0:b0≠0)(h1:w.cell? ⟨g,off+1,none⟩=some (.int .u8 b1))(h2:w.cell? ⟨g,off+2,none⟩=some (.int .u8 b2))(h3:w.cell? ⟨g,off+3,none⟩=some (.int .u8 b3))(h4:w.cell? ⟨g,off+4,none⟩=some (.int .u8 b4))(l1:b1<256)(l2:b2<256)(l3:b3<256)(l4:b4<256)(hne:b1*256+b2=(255-b3)*256+(255-b4))(hsz:b.length<b1*256+b2+9):Calls Tryz.prog 97 #[.slice (some ⟨g,off,none⟩) b.length cap] w (ld w):=by
 have hg:decide ((b.length:Int)<9)=false:=by simp;omega
 have hp:(0:Int)<b.length:=by omega
 have hp1:(1:Int)<b.length:=by omega
 have hp2:(2:Int)<b.length:=by omega
 have hp3:(3:Int)<b.length:=by omega
 have hp4:(4:Int)<b.length:=by omega
 have hz:((b0:Int)==0)=false:=by simp;omega
 have o1:=gr b1 b2 (by omega) l2;obtain⟨c3,hc3⟩:∃c:Nat,255-b3=c:=⟨_,rfl⟩;obtain⟨c4,hc4⟩:∃c:Nat,255-b4=c:=⟨_,rfl⟩;have n3:=fW b3 c3 l3 hc3;have n4:=fW b4 c4 l4 hc4;have l3':c3<256:=by omega
 have l4':c4<256:=by omega
 rw[hc3,hc4]at hne;clear hc3 hc4;have o2:=gr c3 c4 (by omega) (by omega);obtain⟨mm,hmm⟩:∃mm:Nat,c3*256+c4=mm:=⟨_,rfl⟩;rw[hmm]at o2 hne;obtain⟨nn,hnn⟩:∃nn:Nat,b1*256+b2=nn:=⟨_,rfl⟩;rw[hnn]at o1 hne;rw[hnn]at hsz;subst hne;have hq:((nn:Int) != (nn:Int))=false:=by simp
 have hlt:decide ((b.length:Int)<(nn:Int)+9)=true:=by simp;omega
 have hnn16:nn<65536:=by omega
 have HN:=qqH hnn;clear hmm hnn;go_enter Tryz.func97,Tryz.ntmps97;go_wp2_with fail;go_quiet (fail);go_wp2_with fail;have k3:(w.drewN nq).cell? ⟨g,off+3,none⟩=some (.int .u8 b3):=h3;have k4:(w.drewN nq).cell? ⟨g,off+4,none⟩=some (.int .u8 b4):=h4;clear o1 h0 h1 h2 hz hp hp1 hp2;go_quiet ((go_at_call 79;exact(gP _ (by omega) (by omega) _).mono (fun e w' ⟨he,hw⟩=>⟨he,_,hw.symm⟩)));go_wp2_with fail;go_ret3;exact⟨rfl,((Mods.refl _ w).drewN _).drewN _⟩
theorem IM(g off:Nat)(cap:Nat)(b:Bs)(w:World)(b0 b1 b2 b3 b4:Nat)(hb:9<=b.length)(hl:b.length<=1099511627776)(h0:w.cell? ⟨g,off,none⟩=some (.int .u8 b0))(hb0:b0≠0)(h1:w.cell? ⟨g,off+1,none⟩=some (.int .u8 b1))(h2:w.cell? ⟨g,off+2,none⟩=some (.int .u8 b2))(h3:w.cell? ⟨g,off+3,none⟩=some (.int .u8 b3))(h4:w.cell? ⟨g,off+4,none⟩=some (.int .u8 b4))(l1:b1<256)(l2:b2<256)(l3:b3<256)(l4:b4<256)(hne:b1*256+b2=(255-b3)*256+(255-b4))(hsz:b1*256+b2+9<=b.length)(hcap:b.length<=cap)(k0:UInt8)(hk0:k0.toNat=b0)(hc:al w (some ⟨g,off,none⟩) (b.map am))(body:Bs)(hbody:body=(b.drop 5).take (b1*256+b2))(hsum:bk ((b.drop (5+(b1*256+b2))).take 4)≠cF k0 body):Calls Tryz.prog 97 #[.slice (some ⟨g,off,none⟩) b.length cap] w (ld w):=by
 have hg:decide ((b.length:Int)<9)=false:=by simp;omega
 have hp:(0:Int)<b.length:=by omega
 have hp1:(1:Int)<b.length:=by omega
 have hp2:(2:Int)<b.length:=by omega
 have hp3:(3:Int)<b.length:=by omega
 have hp4:(4:Int)<b.length:=by omega
 have hz:((b0:Int)==0)=false:=by simp;omega
 have o1:=gr b1 b2 (by omega) l2;obtain⟨c3,hc3⟩:∃c:Nat,255-b3=c:=⟨_,rfl⟩;obtain⟨c4,hc4⟩:∃c:Nat,255-b4=c:=⟨_,rfl⟩;have n3:=fW b3 c3 l3 hc3;have n4:=fW b4 c4 l4 hc4;have l3':c3<256:=by omega
 have l4':c4<256:=by omega
 rw[hc3,hc4]at hne;clear hc3 hc4;have o2:=gr c3 c4 (by omega) (by omega);obtain⟨mm,hmm⟩:∃mm:Nat,c3*256+c4=mm:=⟨_,rfl⟩;rw[hmm]at o2 hne;obtain⟨nn,hnn⟩:∃nn:Nat,b1*256+b2=nn:=⟨_,rfl⟩;rw[hnn]at o1 hne;rw[hnn]at hsz;subst hne;have hq:((nn:Int) != (nn:Int))=false:=by simp
 have hlt:decide ((b.length:Int)<(nn:Int)+9)=false:=by simp;omega
 have hnn16:nn<65536:=by omega
 rw[hnn]at hbody hsum;have hgl:g<w.heap.size:=World.block_lt_of_cell? w _ h0;have hbl:body.length=nn:=by rw[hbody];simp;omega
 have hrl:(b.drop (5+nn)).length=b.length-(5+nn):=by simp
 have hcb:=lF (gR hc 5 (by omega)) nn (by simp;omega);have hcr:=gR hc (5+nn) (by omega);rw[<- hbody]at hcb;have hr4:db (b.drop (5+nn)) false 4=bk ((b.drop (5+nn)).take 4):=by unfold db;rw[if_neg (by simp;omega)]
 have hr4l:bk ((b.drop (5+nn)).take 4)<4294967296:=by
  have:=fV ((b.drop (5+nn)).take 4);have h2:(256:Nat) ^ ((b.drop (5+nn)).take 4).length<=256 ^ 4:=Nat.pow_le_pow_right (by omega) (by simp;omega);omega
 have hsl:=j9 k0 body;have HB:=Hq7 hcb hcr hr4 hbl hc hrl hk0;clear hcb hcr hr4 hbl hc hbody hrl hk0;have HN:=qqH hnn;clear hmm hnn;go_enter Tryz.func97,Tryz.ntmps97;go_wp2_with fail;go_quiet (fail);go_wp2_with fail;have k3:(w.drewN nq).cell? ⟨g,off+3,none⟩=some (.int .u8 b3):=h3;have k4:(w.drewN nq).cell? ⟨g,off+4,none⟩=some (.int .u8 b4):=h4;clear o1 h1 h2 hz hp1 hp2;obtain⟨m1,rfl⟩:∃m,m=nq:=⟨_,rfl⟩;go_quiet ((go_at_call 79;exact(gP _ (by omega) (by omega) _).mono (fun e w' ⟨he,hw⟩=>⟨he,_,hw.symm⟩)));obtain⟨m2,rfl⟩:∃m,m=nq:=⟨_,rfl⟩;rcases Nat.eq_zero_or_pos nn with hn0|hn0
 ·subst hn0;simp only[Nat.add_zero]at *
  go_wp2_with fail;obtain⟨hrd,hs1⟩:=sC (m:=m1+m2) HB.e (r:=5) (by omega) hcap hgl rfl;generalize ((w.drewN (m1+m2)).alloc (.cells #[.slice (some ⟨g,off+5,none⟩) (b.length-5) (cap-5),.bool false] 282))=W1 at hrd hs1 ⊢;generalize hrb:w.heap.size=rb at hrd hgl ⊢;have hk1:W1.cell? ⟨g,off,none⟩=some (.int .u8 b0):=by rw[World.cell?_of_block (hs1.block g (by omega) id)];exact h0
  have hcb1:al W1 (some ⟨g,off,none⟩) (body.map am):=(by rw[eq_nil_of_length_eq_zero HB.d];exact fX _ _);have HR:=Hq4 hrd hs1 hrb hcb1;clear hrd hs1 hrb hcb1;have hw4:IntKind.u32.wrap ((bk ((b.drop 5).take 4):Nat):Int)=((bk ((b.drop 5).take 4):Nat):Int):=by rw[IntKind.wrap_u32];omega
  have hne:(((bk ((b.drop 5).take 4):Nat):Int) != ((cF k0 body:Nat):Int))=true:=by simp only[bne_iff_ne];omega
  generalize bk ((b.drop 5).take 4)=x at *
  have hp0:0<b.length:=by omega
  have HSum:Hid (∀W:World,al W (some ⟨g,off,none⟩) (body.map am)->Calls Tryz.prog 128 #[.int .u8 b0,.slice (some ⟨g,off,none⟩) 0 0] W (py k0 body W)):=qqH (fun W h=>by
   have:=jL (some ⟨g,off,none⟩) 0 k0 body W h (by have:=HB.d;omega);rwa [HB.d,HB.u]at this)
  have HNum:=qqH (fun(W:World) (h:Rd W rb (b.drop 5) false)=>(show Calls Tryz.prog 139 #[.pointer (some ⟨rb,0,none⟩),.int .i64 4] W (iR rb (b.drop 5) false 4 W)from dd rb (b.drop 5) false 4 W h (by simp;omega) (by omega)));go_region_held3 (fun w'=>w'.cell? ⟨g,off,none⟩=some (.int .u8 b0)) (first|exact hk1|exact hk2|exact hk3) (first|(go_at_call 139;refine(HNum.out _ (by exact HR.a)).mono ?_;rintro e w2 ⟨rfl,hr2,hM2,hz2⟩;rw[HB.c];have hk2:w2.cell? ⟨g,off,none⟩=some (.int .u8 b0):=(World.cell?_of_block (hM2.block g (by have:=HR.b.size;have:=HR.c;show g<W1.heap.size;omega) (by omega))).trans hk1;have H2:=Hq2 hM2 hz2;clear hr2 hM2 hz2)|(go_at_call 128;refine(HSum.out _ (al.keep (w:=W1.drew) (by exact HR.x) H2.a (fun g' off' e=>by simp at e;omega))).mono ?_;rintro e w3 ⟨rfl,hs3⟩;have hk3:w3.cell? ⟨g,off,none⟩=some (.int .u8 b0):=(World.cell?_of_block (hs3.block g (World.block_lt_of_cell? w2 _ hk2) id)).trans hk2;have H3:=qqH hs3;clear hs3));go_wp2_with fail;go_ret3;exact⟨rfl,(HR.b.trans' ((Mods.refl _ W1).drew.trans H2.a) (fun i hi=>.inr (by have:=HR.c;omega))).trans' H3.out (fun i hi=>hi.elim)⟩
 ·go_wp2_with fail;obtain⟨hrd,hs1⟩:=sC (m:=m1+m2) HB.e (r:=5+nn) (by omega) hcap hgl rfl;generalize ((w.drewN (m1+m2)).alloc (.cells #[.slice (some ⟨g,off+(5+nn),none⟩) (b.length-(5+nn)) (cap-(5+nn)),.bool false] 282))=W1 at hrd hs1 ⊢;generalize hrb:w.heap.size=rb at hrd hgl ⊢;have hk1:W1.cell? ⟨g,off,none⟩=some (.int .u8 b0):=by rw[World.cell?_of_block (hs1.block g (by omega) id)];exact h0
  have hcb1:al W1 (some ⟨g,off+5,none⟩) (body.map am):=HB.a.keep hs1 (fun _ _ _=>id);have HR:=Hq4 hrd hs1 hrb hcb1;clear hrd hs1 hrb hcb1;have hw4:IntKind.u32.wrap ((bk ((b.drop (5+nn)).take 4):Nat):Int)=((bk ((b.drop (5+nn)).take 4):Nat):Int):=by rw[IntKind.wrap_u32];omega
  have hne:(((bk ((b.drop (5+nn)).take 4):Nat):Int) != ((cF k0 body:Nat):Int))=true:=by simp only[bne_iff_ne];omega
  generalize bk ((b.drop (5+nn)).take 4)=x at *
  have hp0:0<b.length:=by omega
  have HSum:Hid (∀W:World,al W (some ⟨g,off+5,none⟩) (body.map am)->Calls Tryz.prog 128 #[.int .u8 b0,.slice (some ⟨g,off+5,none⟩) nn nn] W (py k0 body W)):=qqH (fun W h=>by
   have:=jL (some ⟨g,off+5,none⟩) nn k0 body W h (by have:=HB.d;omega);rwa [HB.d,HB.u]at this)
  have HNum:=qqH (fun(W:World) (h:Rd W rb (b.drop (5+nn)) false)=>(show Calls Tryz.prog 139 #[.pointer (some ⟨rb,0,none⟩),.int .i64 4] W (iR rb (b.drop (5+nn)) false 4 W)from dd rb (b.drop (5+nn)) false 4 W h (by simp;omega) (by omega)));go_region_held3 (fun w'=>w'.cell? ⟨g,off,none⟩=some (.int .u8 b0)) (first|exact hk1|exact hk2|exact hk3) (first|(go_at_call 139;refine(HNum.out _ (by exact HR.a)).mono ?_;rintro e w2 ⟨rfl,hr2,hM2,hz2⟩;rw[HB.c];have hk2:w2.cell? ⟨g,off,none⟩=some (.int .u8 b0):=(World.cell?_of_block (hM2.block g (by have:=HR.b.size;have:=HR.c;show g<W1.heap.size;omega) (by omega))).trans hk1;have H2:=Hq2 hM2 hz2;clear hr2 hM2 hz2)|(go_at_call 128;refine(HSum.out _ (al.keep (w:=W1.drew) (by exact HR.x) H2.a (fun g' off' e=>by simp at e;omega))).mono ?_;rintro e w3 ⟨rfl,hs3⟩;have hk3:w3.cell? ⟨g,off,none⟩=some (.int .u8 b0):=(World.cell?_of_block (hs3.block g (World.block_lt_of_cell? w2 _ hk2) id)).trans hk2;have H3:=qqH hs3;clear hs3));go_wp2_with fail;go_ret3;exact⟨rfl,(HR.b.trans' ((Mods.refl _ W1).drew.trans H2.a) (fun i hi=>.inr (by have:=HR.c;omega))).trans' H3.out (fun i hi=>hi.elim)⟩
theorem Ke(g off:Nat)(cap:Nat)(b:Bs)(w:World)(b0 b1 b2 b3 b4:Nat)(hb:9<=b.length)(hl:b.length<=1099511627776)(h0:w.cell? ⟨g,off,none⟩=some (.int .u8 b0))(hb0:b0≠0)(h1:w.cell? ⟨g,off+1,none⟩=some (.int .u8 b1))(h2:w.cell? ⟨g,off+2,none⟩=some (.int .u8 b2))(h3:w.cell? ⟨g,off+3,none⟩=some (.int .u8 b3))(h4:w.cell? ⟨g,off+4,none⟩=some (.int .u8 b4))(l1:b1<256)(l2:b2<256)(l3:b3<256)(l4:b4<256)(hne:b1*256+b2=(255-b3)*256+(255-b4))(hsz:b1*256+b2+9<=b.length)(hcap:b.length<=cap)(k0:UInt8)(hk0:k0.toNat=b0)(hc:al w (some ⟨g,off,none⟩) (b.map am))(body:Bs)(hbody:body=(b.drop 5).take (b1*256+b2))(hsum:bk ((b.drop (5+(b1*256+b2))).take 4)=cF k0 body):Calls Tryz.prog 97 #[.slice (some ⟨g,off,none⟩) b.length cap] w (y8 (some ⟨g,off,none⟩) k0 body (b1*256+b2+9) w):=by
 have hg:decide ((b.length:Int)<9)=false:=by simp;omega
 have hp:(0:Int)<b.length:=by omega
 have hp1:(1:Int)<b.length:=by omega
 have hp2:(2:Int)<b.length:=by omega
 have hp3:(3:Int)<b.length:=by omega
 have hp4:(4:Int)<b.length:=by omega
 have hz:((b0:Int)==0)=false:=by simp;omega
 have o1:=gr b1 b2 (by omega) l2;obtain⟨c3,hc3⟩:∃c:Nat,255-b3=c:=⟨_,rfl⟩;obtain⟨c4,hc4⟩:∃c:Nat,255-b4=c:=⟨_,rfl⟩;have n3:=fW b3 c3 l3 hc3;have n4:=fW b4 c4 l4 hc4;have l3':c3<256:=by omega
 have l4':c4<256:=by omega
 rw[hc3,hc4]at hne;clear hc3 hc4;have o2:=gr c3 c4 (by omega) (by omega);obtain⟨mm,hmm⟩:∃mm:Nat,c3*256+c4=mm:=⟨_,rfl⟩;rw[hmm]at o2 hne;obtain⟨nn,hnn⟩:∃nn:Nat,b1*256+b2=nn:=⟨_,rfl⟩;rw[hnn]at o1 hne;rw[hnn]at hsz;subst hne;have hq:((nn:Int) != (nn:Int))=false:=by simp
 have hlt:decide ((b.length:Int)<(nn:Int)+9)=false:=by simp;omega
 have hnn16:nn<65536:=by omega
 rw[hnn]at hbody hsum;have hgl:g<w.heap.size:=World.block_lt_of_cell? w _ h0;have hbl:body.length=nn:=by rw[hbody];simp;omega
 have hrl:(b.drop (5+nn)).length=b.length-(5+nn):=by simp
 have hcb:=lF (gR hc 5 (by omega)) nn (by simp;omega);have hcr:=gR hc (5+nn) (by omega);rw[<- hbody]at hcb;have hr4:db (b.drop (5+nn)) false 4=bk ((b.drop (5+nn)).take 4):=by unfold db;rw[if_neg (by simp;omega)]
 have hr4l:bk ((b.drop (5+nn)).take 4)<4294967296:=by
  have:=fV ((b.drop (5+nn)).take 4);have h2:(256:Nat) ^ ((b.drop (5+nn)).take 4).length<=256 ^ 4:=Nat.pow_le_pow_right (by omega) (by simp;omega);omega
 have hsl:=j9 k0 body;have HB:=Hq7 hcb hcr hr4 hbl hc hrl hk0;clear hcb hcr hr4 hbl hc hbody hrl hk0;have HN:=qqH hnn;clear hmm hnn;go_enter Tryz.func97,Tryz.ntmps97;go_wp2_with fail;go_quiet (fail);go_wp2_with fail;have k3:(w.drewN nq).cell? ⟨g,off+3,none⟩=some (.int .u8 b3):=h3;have k4:(w.drewN nq).cell? ⟨g,off+4,none⟩=some (.int .u8 b4):=h4;clear o1 h1 h2 hz hp1 hp2;obtain⟨m1,rfl⟩:∃m,m=nq:=⟨_,rfl⟩;go_quiet ((go_at_call 79;exact(gP _ (by omega) (by omega) _).mono (fun e w' ⟨he,hw⟩=>⟨he,_,hw.symm⟩)));obtain⟨m2,rfl⟩:∃m,m=nq:=⟨_,rfl⟩;rcases Nat.eq_zero_or_pos nn with hn0|hn0
 ·subst hn0;simp only[Nat.add_zero]at *
  go_wp2_with fail;obtain⟨hrd,hs1⟩:=sC (m:=m1+m2) HB.e (r:=5) (by omega) hcap hgl rfl;generalize ((w.drewN (m1+m2)).alloc (.cells #[.slice (some ⟨g,off+5,none⟩) (b.length-5) (cap-5),.bool false] 282))=W1 at hrd hs1 ⊢;generalize hrb:w.heap.size=rb at hrd hgl ⊢;have hk1:W1.cell? ⟨g,off,none⟩=some (.int .u8 b0):=by rw[World.cell?_of_block (hs1.block g (by omega) id)];exact h0
  have hcb1:al W1 (some ⟨g,off,none⟩) (body.map am):=(by rw[eq_nil_of_length_eq_zero HB.d];exact fX _ _);have HR:=Hq4 hrd hs1 hrb hcb1;clear hrd hs1 hrb hcb1;have hw4:IntKind.u32.wrap ((bk ((b.drop 5).take 4):Nat):Int)=((bk ((b.drop 5).take 4):Nat):Int):=by rw[IntKind.wrap_u32];omega
  have hne:(((bk ((b.drop 5).take 4):Nat):Int) != ((cF k0 body:Nat):Int))=false:=by rw[hsum];simp
  clear hsum;generalize bk ((b.drop 5).take 4)=x at *
  have hp0:0<b.length:=by omega
  have HSum:Hid (∀W:World,al W (some ⟨g,off,none⟩) (body.map am)->Calls Tryz.prog 128 #[.int .u8 b0,.slice (some ⟨g,off,none⟩) 0 0] W (py k0 body W)):=qqH (fun W h=>by
   have:=jL (some ⟨g,off,none⟩) 0 k0 body W h (by have:=HB.d;omega);rwa [HB.d,HB.u]at this)
  have HNum:=qqH (fun(W:World) (h:Rd W rb (b.drop 5) false)=>(show Calls Tryz.prog 139 #[.pointer (some ⟨rb,0,none⟩),.int .i64 4] W (iR rb (b.drop 5) false 4 W)from dd rb (b.drop 5) false 4 W h (by simp;omega) (by omega)));go_region_held3 (fun w'=>w'.cell? ⟨g,off,none⟩=some (.int .u8 b0)) (first|exact hk1|exact hk2|exact hk3) (first|(go_at_call 139;refine(HNum.out _ (by exact HR.a)).mono ?_;rintro e w2 ⟨rfl,hr2,hM2,hz2⟩;rw[HB.c];have hk2:w2.cell? ⟨g,off,none⟩=some (.int .u8 b0):=(World.cell?_of_block (hM2.block g (by have:=HR.b.size;have:=HR.c;show g<W1.heap.size;omega) (by omega))).trans hk1;have H2:=Hq2 hM2 hz2;clear hr2 hM2 hz2)|(go_at_call 128;refine(HSum.out _ (al.keep (w:=W1.drew) (by exact HR.x) H2.a (fun g' off' e=>by simp at e;omega))).mono ?_;rintro e w3 ⟨rfl,hs3⟩;have hk3:w3.cell? ⟨g,off,none⟩=some (.int .u8 b0):=(World.cell?_of_block (hs3.block g (World.block_lt_of_cell? w2 _ hk2) id)).trans hk2;have H3:=qqH hs3;clear hs3));go_wp2_with fail;have hsame:aX w w3:=(HR.b.trans' ((Mods.refl _ W1).drew.trans H2.a) (fun i hi=>.inr (by have:=HR.c;omega))).trans' H3.out (fun i hi=>hi.elim);have hcb3:al w3 (some ⟨g,off,none⟩) (body.map am):=by rw[eq_nil_of_length_eq_zero HB.d];exact fX _ _
  have HZ:=Hq2 hsame hcb3;clear hsame hcb3 hk1 hk2;go_quiet ((go_at_call 79;exact(gP _ (by omega) (by omega) _).mono (fun e w' ⟨he,hw⟩=>⟨he,_,hw.symm⟩)));go_wp2_with fail;go_ret3;refine⟨some ⟨g,off,none⟩,?_,HZ.z,fun x hx=>⟨_,rfl,by simp at hx;subst hx;rfl⟩,HZ.a.drewN _⟩;rw[HB.d,HB.u,HN.out];first|rfl|(congr 3)|simp
 ·go_wp2_with fail;obtain⟨hrd,hs1⟩:=sC (m:=m1+m2) HB.e (r:=5+nn) (by omega) hcap hgl rfl;generalize ((w.drewN (m1+m2)).alloc (.cells #[.slice (some ⟨g,off+(5+nn),none⟩) (b.length-(5+nn)) (cap-(5+nn)),.bool false] 282))=W1 at hrd hs1 ⊢;generalize hrb:w.heap.size=rb at hrd hgl ⊢;have hk1:W1.cell? ⟨g,off,none⟩=some (.int .u8 b0):=by rw[World.cell?_of_block (hs1.block g (by omega) id)];exact h0
  have hcb1:al W1 (some ⟨g,off+5,none⟩) (body.map am):=HB.a.keep hs1 (fun _ _ _=>id);have HR:=Hq4 hrd hs1 hrb hcb1;clear hrd hs1 hrb hcb1;have hw4:IntKind.u32.wrap ((bk ((b.drop (5+nn)).take 4):Nat):Int)=((bk ((b.drop (5+nn)).take 4):Nat):Int):=by rw[IntKind.wrap_u32];omega
  have hne:(((bk ((b.drop (5+nn)).take 4):Nat):Int) != ((cF k0 body:Nat):Int))=false:=by rw[hsum];simp
  clear hsum;generalize bk ((b.drop (5+nn)).take 4)=x at *
  have hp0:0<b.length:=by omega
  have HSum:Hid (∀W:World,al W (some ⟨g,off+5,none⟩) (body.map am)->Calls Tryz.prog 128 #[.int .u8 b0,.slice (some ⟨g,off+5,none⟩) nn nn] W (py k0 body W)):=qqH (fun W h=>by
   have:=jL (some ⟨g,off+5,none⟩) nn k0 body W h (by have:=HB.d;omega);rwa [HB.d,HB.u]at this)
  have HNum:=qqH (fun(W:World) (h:Rd W rb (b.drop (5+nn)) false)=>(show Calls Tryz.prog 139 #[.pointer (some ⟨rb,0,none⟩),.int .i64 4] W (iR rb (b.drop (5+nn)) false 4 W)from dd rb (b.drop (5+nn)) false 4 W h (by simp;omega) (by omega)));go_region_held3 (fun w'=>w'.cell? ⟨g,off,none⟩=some (.int .u8 b0)) (first|exact hk1|exact hk2|exact hk3) (first|(go_at_call 139;refine(HNum.out _ (by exact HR.a)).mono ?_;rintro e w2 ⟨rfl,hr2,hM2,hz2⟩;rw[HB.c];have hk2:w2.cell? ⟨g,off,none⟩=some (.int .u8 b0):=(World.cell?_of_block (hM2.block g (by have:=HR.b.size;have:=HR.c;show g<W1.heap.size;omega) (by omega))).trans hk1;have H2:=Hq2 hM2 hz2;clear hr2 hM2 hz2)|(go_at_call 128;refine(HSum.out _ (al.keep (w:=W1.drew) (by exact HR.x) H2.a (fun g' off' e=>by simp at e;omega))).mono ?_;rintro e w3 ⟨rfl,hs3⟩;have hk3:w3.cell? ⟨g,off,none⟩=some (.int .u8 b0):=(World.cell?_of_block (hs3.block g (World.block_lt_of_cell? w2 _ hk2) id)).trans hk2;have H3:=qqH hs3;clear hs3));go_wp2_with fail;have hsame:aX w w3:=(HR.b.trans' ((Mods.refl _ W1).drew.trans H2.a) (fun i hi=>.inr (by have:=HR.c;omega))).trans' H3.out (fun i hi=>hi.elim);have hcb3:al w3 (some ⟨g,off+5,none⟩) (body.map am):=HB.a.keep hsame (fun _ _ _=>id);have HZ:=Hq2 hsame hcb3;clear hsame hcb3 hk1 hk2;go_quiet ((go_at_call 79;exact(gP _ (by omega) (by omega) _).mono (fun e w' ⟨he,hw⟩=>⟨he,_,hw.symm⟩)));go_wp2_with fail;go_ret3;refine⟨some ⟨g,off+5,none⟩,?_,HZ.z,fun x hx=>⟨_,rfl,by simp at hx;subst hx;rfl⟩,HZ.a.drewN _⟩;rw[HB.d,HB.u,HN.out];first|rfl|(congr 3)|simp
theorem je(a:Option Addr)(cap:Nat)(b:Bs)(w:World)(h:al w a (b.map am))(hl:b.length<=1099511627776)(hcap:b.length<=cap):
  Calls Tryz.prog 97 #[.slice a b.length cap] w (dS a b w):=by
 have key:∀{R R':Ending->World->Prop},(∀e w',R e w'->R' e w')->Calls Tryz.prog 97 #[.slice a b.length cap] w R->Calls Tryz.prog 97 #[.slice a b.length cap] w R':=fun hR hc=>hc.mono hR
 by_cases h9:b.length<9
 ·have e:bM b=none:=by unfold bM;rw[if_pos h9]
  exact(De a cap b w h9).mono fun e' w' hp=>by unfold dS;rw[e];exact hp
 obtain⟨g,off,rfl,hc⟩:=h (by simp;omega)
 have cell:∀j (hj:j<b.length),w.cell? ⟨g,off+j,none⟩=some (.int .u8 (b.getD j 0).toNat):=fun j hj=>by
  rw[hc j (by simpa using hj)];simp[am,getD_eq_getElem?_getD,hj]
 by_cases hz:b.getD 0 0=0
 ·have e:bM b=none:=by unfold bM;rw[if_neg h9,if_pos hz]
  refine(F8 g off cap b w (by omega) hl ?_).mono fun e' w' hp=>by unfold dS;rw[e];exact hp
  rw[cell 0 (by omega),hz];rfl
 have hz':(b.getD 0 0).toNat≠0:=fun e=>hz (UInt8.toNat_inj.1 (by simpa using e))
 have c0:=cell 0 (by omega);have c1:=cell 1 (by omega);have c2:=cell 2 (by omega);have c3:=cell 3 (by omega);have c4:=cell 4 (by omega);have l1:=UInt8.toNat_lt (b.getD 1 0);have l2:=UInt8.toNat_lt (b.getD 2 0);have l3:=UInt8.toNat_lt (b.getD 3 0);have l4:=UInt8.toNat_lt (b.getD 4 0);by_cases hne:(b.getD 1 0).toNat*256+(b.getD 2 0).toNat≠(255-(b.getD 3 0).toNat)*256+(255-(b.getD 4 0).toNat)
 ·have e:bM b=none:=by unfold bM;rw[if_neg h9,if_neg hz];simp only;rw[if_pos hne]
  exact(IL g off cap b w _ _ _ _ _ (by omega) hl c0 hz' c1 c2 c3 c4 l1 l2 l3 l4 hne).mono fun e' w' hp=>by unfold dS;rw[e];exact hp
 by_cases hsz:b.length<(b.getD 1 0).toNat*256+(b.getD 2 0).toNat+9
 ·have e:bM b=none:=by unfold bM;rw[if_neg h9,if_neg hz];simp only;rw[if_neg hne,if_pos hsz]
  exact(F7 g off cap b w _ _ _ _ _ (by omega) hl c0 hz' c1 c2 c3 c4 l1 l2 l3 l4 (by simpa using hne) hsz).mono fun e' w' hp=>by unfold dS;rw[e];exact hp
 by_cases hsum:bk ((b.drop (5+((b.getD 1 0).toNat*256+(b.getD 2 0).toNat))).take 4)≠cF (b.getD 0 0) ((b.drop 5).take ((b.getD 1 0).toNat*256+(b.getD 2 0).toNat))
 ·have e:bM b=none:=by unfold bM;rw[if_neg h9,if_neg hz];simp only;rw[if_neg hne,if_neg hsz,if_pos hsum]
  exact(IM g off cap b w _ _ _ _ _ (by omega) hl c0 hz' c1 c2 c3 c4 l1 l2 l3 l4 (by simpa using hne) (by omega) hcap _ rfl h _ rfl hsum).mono fun e' w' hp=>by unfold dS;rw[e];exact hp
 ·have e:bM b=some (b.getD 0 0,(b.drop 5).take ((b.getD 1 0).toNat*256+(b.getD 2 0).toNat),(b.getD 1 0).toNat*256+(b.getD 2 0).toNat+9):=by unfold bM;rw[if_neg h9,if_neg hz];simp only;rw[if_neg hne,if_neg hsz,if_neg hsum]
  exact(Ke g off cap b w _ _ _ _ _ (by omega) hl c0 hz' c1 c2 c3 c4 l1 l2 l3 l4 (by simpa using hne) (by omega) hcap _ rfl h _ rfl (by simpa using hsum)).mono fun e' w' hp=>by unfold dS;rw[e];exact hp
theorem ky:bM (ak 128)=none:=by
 unfold bM;rw[if_neg (by rw[an];omega),if_pos (by simp[ak])]
def Hm(z:Bool)(w:World)(e:Ending)(w':World):Prop:=e=.returned (.tuple #[.slice none 0 0,.bool z,.nilIface])/\aX w w'
def cf(l:Bs)(k:Nat):Bool:=decide (∀j,j<k->aC l j=ak 128)
theorem qv(l:Bs):cf l 0=true:=by simp[cf]
theorem sf{l:Bs}{k:Nat}(h:aC l k=ak 128):cf l (k+1)=cf l k:=by
 unfold cf;refine decide_eq_decide.2 ⟨fun H j hj=>H j (by omega),fun H j hj=>?_⟩;rcases Nat.lt_or_ge j k with h'|h'
 ·exact H j h'
 ·obtain rfl:j=k:=by omega
  exact h
theorem vc{l:Bs}{k:Nat}(h:aC l k≠ak 128):cf l (k+1)=false:=by
 unfold cf;exact decide_eq_false (fun H=>h (H k (by omega)))
theorem GF(d:Nat)(L:DevL)(w:World)(h:Sat w (az d L))(hL:DevOk L)(hn:16<=L.n)(h01:∀k,k<2->bM (aC L.now k)=none):
  Calls Tryz.prog 50 #[.pointer (some ⟨d,0,none⟩)] w (Hm (cf L.now 2) w):=by
 have HZ:=qqH nM;have HC:Hid (∀(k:Nat) (W:World),k<2->aX w W->Calls Tryz.prog 17 #[.pointer (some ⟨d,0,none⟩),.int .i64 k] W (jU L k W)):=qqH (fun k W hk hW=>lA d L k W (h.same hW) hL (by omega));have HL:Hid (∀k,k<2->(aC L.now k).length=128):=qqH (fun k hk=>iD hL.nowL (by omega));have HO:=qqH h01;clear h hL h01;go_enter Tryz.func50,Tryz.ntmps50;go_wp2_with fail;go_loopw [2,3,16] (fun l em i wr=>∃k:Nat,k<=2/\i=.int .i64 k/\l=.slice none 0 0/\em=.bool (cf L.now k)/\aX w wr) (fun _ _ i _=>2-(intOf i).toNat)
 case atStart=>exact⟨0,by omega,rfl,rfl,by rw[qv],Mods.refl _ _⟩
 case round =>
  obtain⟨k,hk,rfl,rfl,rfl,hs⟩:=hrel;by_cases hlt:k<2
  ·have HR:=qqH (HC.out k wr hlt hs);have HS:=qqH hs;have HO':=qqH (HO.out k hlt);have HL':=qqH (HL.out k hlt);have HZ0:=qqH (sf (l:=L.now) (k:=k));have HZ1:=qqH (vc (l:=L.now) (k:=k));unfold jU at HR;obtain⟨s,hse⟩:∃s,s=aC L.now k:=⟨_,rfl⟩;obtain⟨z,hz⟩:∃z,z=cf L.now k:=⟨_,rfl⟩;obtain⟨z1,hz1⟩:∃z,z=cf L.now (k+1):=⟨_,rfl⟩;rw[<- hse]at HR HO' HL' HZ0 HZ1;rw[<- hz,<- hz1]at HZ0;rw[<- hz1]at HZ1;rw[<- hz];have H1:=qqH hz1;clear hs HC HO HL hse hz hz1;go_wp2_with fail;refine HR.out.mono ?_;rintro e w2 ⟨rfl,hs2⟩;have hb:=aK w2 (.cells (ay (ak 128)) 43);obtain⟨q1,q2⟩:=dJ hb (s:=s) (by rw[HL'.out,an]);have hs3:aX w ((w2.alloc (.cells (ay (ak 128)) 43)).setCells w2.heap.size 0 (s.map am)):=(((HS.out.trans' hs2 (fun _ h=>h.elim)).alloc _).trans' q2 (fun i hi=>.inr (by have:=(HS.out.trans' hs2 (fun _ h=>h.elim)).size;omega)));have hth:(w2.alloc (.cells (ay (ak 128)) 43)).there w2.heap.size 0 (ay s).size:=by rw[bR,HL'.out];exact fJ hb 0 128 (by rw[an];omega)
   have hrg:((w2.alloc (.cells (ay (ak 128)) 43)).setCells w2.heap.size 0 (s.map am)).rangeAt w2.heap.size 0 (s.map am):=by
    have:=et q1 0 128;rwa [drop_zero,take_of_length_le (by rw[HL'.out];omega)]at this
   have HN:=qqH (fun W=>Ev s (ak 128) HL'.out (an _) W);obtain⟨W4,hW4⟩:∃W,(w2.alloc (.cells (ay (ak 128)) 43)).setCells w2.heap.size 0 (s.map am)=W:=⟨_,rfl⟩;rw[hW4]at q1 hs3 hrg;have H3:=Hq3 q1 hs3 hrg;have HT:=qqH hth;have HW:=qqH hW4;clear q1 q2 hb hs3 hs2 hth hrg hW4;have hz:=nN;go_wp2_with (first|(refine wpList_store_mid rfl 43 (.tmp 6) (.tmp 23) rfl w2.heap.size 0 (ay s) rfl rfl HT.out (ii HL'.out) (cU _) ?_;change wpList _ _ _ _ _ (World.setCells (w2.alloc (.cells (ay (ak 128)) 43)) w2.heap.size 0 (s.map am));rw[HW.out])|(refine wpList_load_mid rfl 43 (.tmp 6) rfl w2.heap.size 0 rfl (s.map am) _ H3.y Tryz.underlying43 rfl (ig HL'.out) ?_)|(refine bU rfl 43 #[] rfl (ay (ak 128)) HZ.out ?_)|(refine mi rfl .neq 43 (.tmp 28) (.tmp 29) _ rfl ll _ _ (.bool (!decide (s=ak 128))) (HN.out _) rfl rfl ?_))
   all_goals
    have hb:=H3.a
    have hop:Calls Tryz.prog 97 #[.slice (some ⟨w2.heap.size,0,none⟩) 128 128] W4 (dS (some ⟨w2.heap.size,0,none⟩) s W4):=by
     have:=je (some ⟨w2.heap.size,0,none⟩) 128 s W4 (fun hp=>⟨w2.heap.size,0,rfl,fun j hj=>by rw[Nat.zero_add];exact aa hb j (by rw[j8 s j (by simpa using hj)];simp)⟩) (by rw[HL'.out];omega) (by rw[HL'.out];omega);rwa [HL'.out]at this
    unfold dS at hop;rw[HO'.out]at hop;have HP:=qqH hop;clear hb hop;first
    | (
     have hne:s≠ak 128:=by
      have:(!decide (s=ak 128))=true:=by assumption
      simpa using this
     have HE:=qqH (HZ1.out hne))
    | (
     have hne:s=ak 128:=by
      have:(!decide (s=ak 128))=false:=by assumption
      simpa using this
     have HE:=qqH (HZ0.out hne))
    clear hne;refine HP.out.mono ?_;rintro e w5 ⟨rfl,hs5⟩;have H5:=qqH (H3.b.trans hs5);clear hs5;go_wp2_with fail;go_roundw
    case rel=>exact⟨k+1,by omega,by go_num,rfl,by rw[<- H1.out,HE.out],H5.out⟩
    case measure=>simp[intOf];omega
  ·obtain rfl:k=2:=by omega
   have HS:=qqH hs;clear hs HC HO HL;go_wp2_with fail;go_quiet (fail);go_wp2_with fail;go_ret3;exact⟨rfl,HS.out.drewN _⟩
end
section
theorem Sat.Q7{w:World}{F:HF}(h:Sat w F){b:Nat}{o:Obj}(hm:(b,Is o)∈F):w.heap[b]?=some o:=by
 obtain⟨o',ho,hi⟩:=h.sat _ hm;have hi:o'=o:=hi;subst hi;exact ho
open Classical in
noncomputable def cnt(a:Nat×(Obj->Prop))(F:HF):Nat:=F.countP (fun b=>decide (b=a))
open Classical in
noncomputable def Id(a b:Nat×(Obj->Prop)):Nat:=if b=a then 1 else 0
theorem fd(a:Nat×(Obj->Prop)):cnt a []=0:=rfl
theorem ao(a b:Nat×(Obj->Prop))(F:HF):cnt a (b::F)=Id a b+cnt a F:=by
 unfold cnt Id;rw[countP_cons];by_cases h:b=a<;>simp[h,Nat.add_comm]
theorem ah(a:Nat×(Obj->Prop))(F G:HF):cnt a (F++G)=cnt a F+cnt a G:=countP_append
open Classical in
theorem AP{F G:HF}(h:∀a,cnt a F=cnt a G):F.Perm G:=by
 rw[perm_iff_count];intro a;have:=h a;unfold cnt at this
 have e:(fun b:Nat×(Obj->Prop)=>decide (b=a))=(fun b=>b==a):=by
  funext b;by_cases hb:b=a
  ·subst hb;simp
  ·simp[hb]
 rw[e]at this;exact this
theorem ae{F G:HF}(h:∀a,cnt a F=cnt a G:=by intro _;simp only[ao,ah,fd]<;>omega):F.Perm G:=AP h
theorem bS{F G:HF}(h:∀a,cnt a F<=cnt a G:=by intro _;simp only[ao,ah,fd]<;>omega):∀a,cnt a F<=cnt a G:=h
theorem pj{G:HF}:∀{F:HF},(∀a,cnt a G<=cnt a F)->∃R,F.Perm (G++R):=by
 induction G with
 | nil=>intro F _;exact⟨F,Perm.refl _⟩
 | cons g G ih =>
  intro F h
  have hg:g∈F:=by
   have:=h g;rw[ao]at this;have h1:Id g g=1:=by unfold Id;simp
   have h2:0<cnt g F:=by omega
   unfold cnt at h2;rw[countP_pos_iff]at h2;obtain⟨b,hb,he⟩:=h2;have he:b=g:=by simpa using he
   exact he ▸ hb
  obtain⟨s,t,rfl⟩:=append_of_mem hg;obtain⟨R,hR⟩:=ih (F:=s++t) (fun a=>by have:=h a;simp only[ao,ah]at this ⊢;omega);exact⟨R,perm_middle.trans (hR.cons g)⟩
theorem Sat.sub{w:World}{F G:HF}(h:Sat w F)(hp:∀a,cnt a G<=cnt a F):Sat w G:=by
 obtain⟨R,hR⟩:=pj hp;exact(h.perm hR).left
theorem Turns.step{a b c:World}{F0 G F F' R:HF}(h:Turns F0 G a b)(hp:G.Perm (F++R))(k:Turns F F' b c):Turns F0 (F'++R) a c :=
 (h.perm (Perm.refl _) hp).trans (k.frame (h.sat.perm hp))
theorem Turns.to{a b:World}{F G H:HF}(h:Turns F G a b)(hp:G.Perm H):Turns F H a b:=h.perm (Perm.refl _) hp
theorem Turns.drop{a b:World}{F G H:HF}(h:Turns F G a b)(hp:∀x,cnt x H<=cnt x G):Turns F H a b:=by
 obtain⟨R,hR⟩:=pj hp;exact(h.to hR).left
theorem Turns.Qb{a b c:World}{F G H:HF}(h:Turns F G a b)(k:Turns [] H b c):Turns F (H++G) a c:=by
 have:=k.frame (R:=G) (by simpa using h.sat);simp only[nil_append]at this;exact h.trans this
theorem m9{P:Program}{o:Oper}{a:Act}{w w':World}{v:Value}{K:Act->World->Prop}{Q:Exit->Act->World->Prop}(h:(execOp a.eval o).run P w=.ok (.value v) w')(hk:K (a.put o.dst v) w'):o.wp P a w K Q:=by
 unfold Oper.wp;rw[h];exact hk
theorem bw{P:Program}{o:Oper}{a:Act}{w:World}{f:FuncId}{args:Array Value}{R:Ending->World->Prop}{K:Act->World->Prop}{Q:Exit->Act->World->Prop}(h:(execOp a.eval o).run P w=.ok (.enter f args) w)(hc:Calls P f args w R)(hk:∀e w',R e w'->∃v,e=.returned v/\K (a.put o.dst v) w'):o.wp P a w K Q:=by
 unfold Oper.wp;rw[h];refine hc.mono (fun e w' hr=>?_);obtain⟨v,rfl,hv⟩:=hk e w' hr;exact hv
def kw:TypeDesc->Bool
 | .struct _|.array _ _=>false
 | _=>true
end
section
section
variable {P:Program} {ops:Array Oper} {N:Nat->Bool} {D:Nat->Nat->Bool} {Q:Act->World->Prop}
def noQ:Exit->Act->World->Prop:=fun _ _ _=>False
def zb(P:Program)(ops:Array Oper)(w:World)(a:Act)(q:Nat):Prop:=∃o v,ops[q]?=some o/\YieldsAt P ops w o v a/\a.put o.dst v=a
def Seq(P:Program)(ops:Array Oper)(N:Nat->Bool)(D:Nat->Nat->Bool)(Q:Act->World->Prop):List Nat->List Nat->Act->World->Prop
 | [],_,a,w=>Q a w
 | i::r,f,a,w=>if N i=true then ∃o,ops[i]?=some o/\o.guard=none/\o.wp P a w (fun c v=>(∀q∈f,D i q=false->zb P ops v c q)/\Seq P ops N D Q r f c v) noQ
  else stOp P ops w i (fun c=>Seq P ops N D Q r (i::f) c w) a
theorem Seq.mono:∀{s f g:List Nat} {a:Act} {w:World},(∀q∈g,q∈f)->Seq P ops N D Q s f a w->Seq P ops N D Q s g a w
 | [],_,_,_,_,_,h=>h
 | i::r,f,g,a,w,hg,h=>by
  unfold Seq at h ⊢
  split
  ·rename_i hn
   rw[if_pos hn]at h
   obtain⟨o,h1,h2,h3⟩:=h
   exact⟨o,h1,h2,Oper.wp_mono (fun c v hc=>⟨fun q hq=>hc.1 q (hg q hq),hc.2.mono hg⟩) h3⟩
  ·rename_i hn
   rw[if_neg hn]at h
   exact stOp_mono (fun c hc=>hc.mono (by simp only[mem_cons];rintro q (hq|hq)<;>simp[hq,hg])) h
theorem IY{a:Act}{x y:Option Tmp}{u v:Value}(hne:∀d,x=some d->y≠some d)(h:(a.put x v).put y u=a.put x v):a.put y u=a:=by
 cases y with
 | none=>rfl
 | some e =>
  cases x with
  | none=>exact h
  | some d =>
   have hde:d≠e:=fun he=>hne d rfl (by rw[he])
   obtain⟨t,df⟩:=a;simp only[Act.put,Act.mk.injEq,and_true]at h ⊢;refine Array.ext_getElem? fun k=>?_
   by_cases hk:e=k
   ·subst hk;have h1:=congrArg (·[e]?) h;simp only[Array.getElem?_setIfInBounds_ne hde]at h1;rw[<- h1];rcases Nat.lt_or_ge e t.size with h2|h2
    ·simp[h2]
    ·simp[Nat.not_lt.2 h2]
   ·rw[Array.getElem?_setIfInBounds_ne hk]
theorem Kz{oj:Oper}{x:Option Tmp}{v:Value}{K:Act->World->Prop}{a:Act}{w:World}(hs:∀cs b,oj.op ≠ .select cs b)(h1:∀d,x=some d->d∉oj.looksAt ops)(h2:∀d,x=some d->oj.dst≠some d)(h:oj.wp P (a.put x v) w K noQ):oj.wp P a w (fun c u=>K (c.put x v) u) noQ:=by
 unfold Oper.wp at *
 rw[execOp_put oj hs a x v h1]at h;generalize (execOp a.eval oj).run P w=r at *
 cases r with
 | ok n w' =>
  cases n<;>simp only[Oper.upon]at h ⊢
  case value u=>rw[<- Act.put_comm a v u h2];exact h
  case skip=>rw[<- Act.put_comm a v undef h2];exact h
  case defer d=>rw[<- Act.put_comm _ v undef h2,<- Act.put_defers];exact h
  case enter f args =>
   refine Calls.mono h fun e w'' he=>?_
   cases e with
   | returned u=>have he:K ((a.put x v).put oj.dst u) w'':=he;rw[Act.put_comm a v u h2]at he;exact he
   | panicked c=>exact he
   | outgrown=>exact he
  case row row args=>exact Rows.mono h fun u w'' he=>by rw[<- Act.put_comm a v u h2];exact he
 | halt x w'=>cases x<;>simp only[Oper.upon]at h ⊢;exact h.elim
structure MixOk (ops:Array Oper) (D:Nat->Nat->Bool) (E:Nat->Bool):Prop where
 sel:Region.noSelect ops=true
 lt:∀i k,Region.waitsFor .any ops i k=true->k<i
 dst:∀(i k:Nat) (oi ok:Oper) (d:Tmp),i≠k->ops[i]?=some oi->ops[k]?=some ok->oi.dst=some d->ok.dst≠some d
 look:∀(i k:Nat) (oi ok:Oper) (d:Tmp),ops[i]?=some oi->ops[k]?=some ok->oi.dst=some d->d∈ok.looksAt ops->Region.waitsFor .any ops k i=true\/(Region.waitsFor .any ops i k=true/\E i=true)
 dep:∀i q,D i q=true->∃k,Region.waitsFor .any ops i k=true/\(k=q\/D k q=true)
variable {E:Nat->Bool} (H:MixOk ops D E)
include H
theorem MixOk.away{i k:Nat}{oi ok:Oper}(hi:ops[i]?=some oi)(hk:ops[k]?=some ok)(hw:Region.waitsFor .any ops k i=false)(h2:Region.waitsFor .any ops i k=false\/E i=false)(d:Tmp)(hd:oi.dst=some d):d∉ok.looksAt ops:=fun hm=>by
 rcases H.look i k oi ok d hi hk hd hm with h|⟨h,h'⟩
 ·rw[h]at hw;cases hw
 ·rw[h,h']at h2;simp at h2
theorem MixOk.self(i:Nat):Region.waitsFor .any ops i i=false:=by
 cases h:Region.waitsFor .any ops i i with
 | false=>rfl
 | true=>exact absurd (H.lt i i h) (Nat.lt_irrefl _)
theorem MixOk.keep{w:World}{i k:Nat}{oi ok:Oper}{a:Act}{v u:Value}(hi:ops[i]?=some oi)(hk:ops[k]?=some ok)(hw:Region.waitsFor .any ops k i=false)(h2:Region.waitsFor .any ops i k=false\/E i=false):
  YieldsAt P ops w ok u (a.put oi.dst v)↔YieldsAt P ops w ok u a:=by
 have h3:=H.away hi hk hw h2;have hs:=fun cs b=>Region.noSelect_spec H.sel k ok cs b hk
 have e1:=execOp_put ok hs a oi.dst v h3;have e2:=wanted_put ok a oi.dst v h3;exact⟨fun h=>h.of_same e1.symm e2.symm,fun h=>h.of_same e1 e2⟩
theorem MixOk.ahead{s:List Nat}(hc:∀i k,Region.waitsFor .any ops i k=true->i∉s->k∉s):∀(i:Nat),(∀k,Region.waitsFor .any ops i k=true->k∉s)->∀q,D i q=true->q∉s:=by
 intro i;induction i using Nat.strongRecOn with
 | _ i ih =>
  intro hi q hq;obtain⟨k,hk,h⟩:=H.dep i q hq;rcases h with rfl|h
  ·exact hi k hk
  ·exact ih k (H.lt i k hk) (fun k' hk'=>hc k k' hk' (hi k hk)) q h
omit H
def row(R:Nat->Nat->Prop):List Nat->Prop
 | []=>True
 | x::r=>(∀j∈r,R x j)/\row R r
theorem row.cut{R:Nat->Nat->Prop}:∀{s1:List Nat} {j:Nat} {s2:List Nat},row R (s1++j::s2)->row R (s1++s2)
 | [],_,_,h=>h.2
 | x::s1,j,s2,h=>by
  have h:row R (x::(s1++j::s2)):=h
  refine⟨fun k hk=>h.1 k ?_,row.cut (s1:=s1) h.2⟩
  rcases mem_append.1 hk with hk|hk<;>simp[hk]
def Far(ops:Array Oper)(x j:Nat):Prop:=x≠j/\Region.waitsFor .any ops x j=false
include H
theorem Seq.move{j:Nat}{s2:List Nat}:∀(s1 f:List Nat) (a:Act) (w:World),(∀i∈s1++j::s2,i<ops.size)->row (Far ops) (s1++j::s2)->(∀x∈s1,N x=false)->(N j=true->∀x∈s1,E x=false)->(∀q,Region.waitsFor .any ops j q=true\/D j q=true->q∉s1) ->
  (∀q∈f,∀x∈s1++j::s2,q≠x/\Region.waitsFor .any ops q x=false)->Seq P ops N D Q (s1++j::s2) f a w ->
  if N j=true then ∃o,ops[j]?=some o/\o.guard=none/\o.wp P a w (fun c v=>(∀q∈f,D j q=false->zb P ops v c q)/\Seq P ops N D Q (s1++s2) f c v) noQ
  else stOp P ops w j (fun c=>Seq P ops N D Q (s1++s2) f c w) a
 | [],f,a,w,_,_,_,_,_,_,h=>by
  rw[nil_append]at h
  unfold Seq at h
  split
  ·rename_i hn;rw[if_pos hn]at h;exact h
  ·rename_i hn;rw[if_neg hn]at h
   exact stOp_mono (fun c hc=>hc.mono (fun q hq=>mem_cons_of_mem _ hq)) h
 | x::s1,f,a,w,hlt,hr,hfi,hE,hd,hf,h=>by
  have hjm:j∈s1++j::s2:=by simp
  have hx:=hr.1 j hjm
  have hxn:¬N x=true:=by rw[hfi x (by simp)];simp
  rw[cons_append]at h
  unfold Seq at h
  rw[if_neg hxn]at h
  obtain⟨ox,hox⟩:∃o,ops[x]?=some o:=⟨_,Array.getElem?_eq_getElem (hlt x (by simp))⟩
  obtain⟨oj,hoj⟩:∃o,ops[j]?=some o:=⟨_,Array.getElem?_eq_getElem (hlt j (by simp))⟩
  obtain⟨v,hy,h⟩:=yieldsAt_of_stOp hox h
  have hjx:Region.waitsFor .any ops j x=false:=by
   cases hw:Region.waitsFor .any ops j x with
   | false=>rfl
   | true=>exact(hd x (.inl hw) (by simp)).elim
  have hdx:D j x=false:=by
   cases hw:D j x with
   | false=>rfl
   | true=>exact(hd x (.inr hw) (by simp)).elim
  have hsel:=fun i o hi cs b=>Region.noSelect_spec H.sel i o cs b hi
  have a1:=H.away hox hoj hjx (.inl hx.2);have a2:=fun d hd=>H.dst x j ox oj d hx.1 hox hoj hd
  have a3:=H.away hoj hox hx.2 (.inl hjx)
  have hf':∀q∈x::f,∀y∈s1++j::s2,q≠y/\Region.waitsFor .any ops q y=false:=by
   intro q hq y hy;rcases mem_cons.1 hq with rfl|hq
   ·exact hr.1 y hy
   ·exact hf q hq y (mem_cons_of_mem _ hy)
  have ih:=Seq.move s1 (x::f) (a.put ox.dst v) w (fun i hi=>hlt i (mem_cons_of_mem _ hi)) hr.2 (fun y hy=>hfi y (mem_cons_of_mem _ hy)) (fun hn y hy=>hE hn y (mem_cons_of_mem _ hy)) (fun q hq hm=>hd q hq (mem_cons_of_mem _ hm)) hf' h;by_cases hn:N j=true
  ·rw[if_pos hn]at ih ⊢;obtain⟨o,ho,hg,ih⟩:=ih;obtain rfl:=Option.some.inj (hoj.symm.trans ho);refine⟨oj,ho,hg,Oper.wp_mono ?_ (Kz (hsel j oj hoj) a1 a2 ih)⟩;rintro c u ⟨hst,hsq⟩;refine⟨fun q hq hdq=>?_,?_⟩
   ·obtain⟨oq,vq,hoq,hyq,hpq⟩:=hst q (mem_cons_of_mem _ hq) hdq;have:=hf q hq x (by simp);exact⟨oq,vq,hoq,(H.keep hox hoq this.2 (.inr (hE hn x (by simp)))).1 hyq,IY (fun d hd=>H.dst x q ox oq d (Ne.symm this.1) hox hoq hd) hpq⟩
   ·obtain⟨o',v',ho',hy',hp'⟩:=hst x (by simp) hdx;obtain rfl:=Option.some.inj (hox.symm.trans ho');rw[cons_append];unfold Seq;rw[if_neg hxn];refine((H.keep hox hox (H.self x) (.inl (H.self x))).1 hy').stOp hox ?_
    have e:c.put ox.dst v'=c.put ox.dst v:=by
     have:(c.put ox.dst v).put ox.dst v'=c.put ox.dst v':=by cases ox.dst<;>simp[Act.put]
     rw[<- this];exact hp'
    rw[e];exact hsq
  ·rw[if_neg hn]at ih ⊢
   refine stOp_mono (fun c hc=>?_) (stOp_put hoj (by
    simp only[Oper.apart,Bool.and_eq_true];constructor
    ·cases hd:ox.dst with
     | none=>rfl
     | some d=>simp[a1 d hd,a2 d hd]
    ·cases hd:oj.dst with
     | none=>rfl
     | some d=>simp[a3 d hd]) (hsel x ox hox) (hsel j oj hoj) hy ih)
   rw[cons_append];unfold Seq;rw[if_neg hxn];exact hc.1.stOp hox hc.2
omit H
structure Un (ops:Array Oper) (L:Array Bool) (s:List Nat):Prop where
 un:∀i,L.getD i true=false↔i∈s
 lt:∀i∈s,i<ops.size
 sz:L.size=ops.size
 cl:∀i k,Region.waitsFor .any ops i k=true->i∉s->k∉s
theorem Un.congr{L:Array Bool}{s t:List Nat}(h:Un ops L s)(e:∀i,i∈s↔i∈t):Un ops L t :=
 ⟨fun i=>(h.un i).trans (e i),fun i hi=>h.lt i ((e i).2 hi),h.sz,fun i k hw hi hk=>h.cl i k hw (fun m=>hi ((e i).1 m)) ((e k).2 hk)⟩
include H
theorem Un.ready{L:Array Bool}{s:List Nat}(h:Un ops L s){j:Nat}(hj:j∈s)(hk:∀k,Region.waitsFor .any ops j k=true->k∉s):j∈Region.ready .any ops L:=by
 obtain⟨o,ho⟩:∃o,ops[j]?=some o:=⟨_,Array.getElem?_eq_getElem (h.lt j hj)⟩;refine mem_ready.2 ⟨(h.un j).2 hj,_,ho,fun e he hb=>?_⟩
 have hw:Region.waitsFor .any ops j e.on=true:=by
  unfold Region.waitsFor;rw[ho];exact Array.any_eq_true'.2 ⟨e,he,by simp[hb]⟩
 have h1:=hk e.on hw;have h2:=H.lt j e.on hw;have h3:=h.lt j hj;have h4:=h.sz
 cases hl:L.getD e.on false with
 | true=>rfl
 | false =>
  refine absurd ((h.un e.on).1 ?_) h1;simp only[Array.getD_eq_getD_getElem?,Array.getElem?_eq_getElem (show e.on<L.size by omega),Option.getD_some]at hl ⊢;exact hl
theorem Un.head{L:Array Bool}{x:Nat}{r:List Nat}(h:Un ops L (x::r))(hr:row (Far ops) (x::r)):Region.ready .any ops L≠[]:=fun h0=>by
 have:=h.ready H (j:=x) (by simp) (fun k hk hm=>by
  rcases mem_cons.1 hm with rfl|hm
  ·rw[H.self]at hk;cases hk
  ·rw[(hr.1 k hm).2]at hk;cases hk)
 rw[h0]at this;cases this
omit H
theorem Un.waits{L:Array Bool}{s:List Nat}(h:Un ops L s){j:Nat}(hj:j∈Region.ready .any ops L):j∈s/\∀k,Region.waitsFor .any ops j k=true->k∉s:=by
 obtain⟨hj1,oj,hoj,hj2⟩:=mem_ready.1 hj;refine⟨(h.un j).1 hj1,fun k hk hm=>?_⟩;obtain⟨o',ho',e,he,hb,rfl⟩:=Region.waitsFor_spec hk;obtain rfl:=Option.some.inj (hoj.symm.trans ho');have h1:=hj2 e he hb;have h2:=(h.un e.on).2 hm;have h3:=h.lt _ hm;have h4:=h.sz;simp only[Array.getD_eq_getD_getElem?,Array.getElem?_eq_getElem (show e.on<L.size by omega),Option.getD_some]at h1 h2;rw[h1]at h2;cases h2
theorem Un.step{L:Array Bool}{s1 s2:List Nat}{j:Nat}(h:Un ops L (s1++j::s2))(hr:row (Far ops) (s1++j::s2))(hw:∀k,Region.waitsFor .any ops j k=true->k∉s1++j::s2):Un ops (L.setIfInBounds j true) (s1++s2):=by
 have hnd:∀i,i∈s1++s2->i≠j:=by
  have:∀(s1:List Nat),row (Far ops) (s1++j::s2)->∀i,i∈s1++s2->i≠j:=by
   intro s1;induction s1 with
   | nil=>intro hr i hi he;exact(hr.1 i hi).1 he.symm
   | cons x s1 ih2 =>
    intro hr i hi;rcases mem_cons.1 hi with rfl|hi
    ·exact(hr.1 j (by simp)).1
    ·exact ih2 hr.2 i hi
  exact this s1 hr
 have hsub:∀i,i∈s1++s2->i∈s1++j::s2:=fun i hi=>by
  rcases mem_append.1 hi with hi|hi<;>simp[hi]
 refine⟨fun i=>?_,fun i hi=>h.lt i (hsub i hi),by simp[h.sz],fun i k hik hi hk=>?_⟩
 ·by_cases hij:j=i
  ·subst hij;have:j<L.size:=by rw[h.sz];exact h.lt j (by simp)
   exact⟨fun h=>by simp[this]at h,fun h=>absurd rfl (hnd j h)⟩
  ·rw[getD_set_ne true hij,h.un i];simp only[mem_append,mem_cons];exact⟨fun h=>by rcases h with h|h|h<;>simp_all,fun h=>by rcases h with h|h<;>simp[h]⟩
 ·by_cases hij:i=j
  ·subst hij;exact hw k hik (hsub k hk)
  ·exact h.cl i k hik (fun hm=>hi (by simp only[mem_append,mem_cons]at hm ⊢;rcases hm with h|h|h<;>simp_all)) (hsub k hk)
theorem KN{Q':Exit->Act->World->Prop}{j:Nat}{f:List Nat}{R:Act->World->Prop}{a:Act}{w:World}(hm:if N j=true then ∃o,ops[j]?=some o/\o.guard=none/\o.wp P a w (fun c v=>(∀q∈f,D j q=false->zb P ops v c q)/\R c v) noQ else stOp P ops w j (fun c=>R c w) a){K:Act->World->Prop}(nx:∀c v,R c v->K c v):wpOp P ops Q' j K a w:=by
 split at hm
 ·obtain⟨o,ho,hg,hm⟩:=hm;unfold wpOp;simp only[ho];rw[if_pos (by simp[Region.wanted,hg])];refine .inl ?_;unfold Oper.wp at *
  generalize (execOp a.eval o).run P w=r at *
  cases r with
  | ok n w' =>
   cases n<;>simp only[Oper.upon]at hm ⊢ <;>
    first
     | exact nx _ _ hm.2
     | exact Calls.mono hm (fun e w'' he=>by cases e<;>first|exact nx _ _ he.2|exact False.elim he|exact(show LetsOut noQ from he).elim fun _ h=>h.elim fun _ h=>False.elim h)
     | exact Rows.mono hm (fun _ _ he=>nx _ _ he.2)
  | halt x w'=>cases x<;>simp only[Oper.upon]at hm ⊢<;>exact hm.elim
 ·exact wpOp_of_stOp (fun c hc=>nx c w hc) hm
theorem yD{t F:List Nat}{Z:Act->World->Prop}(hZ:∀a w,Z a w->Seq P ops N D Q t F a w):∀{q f g:List Nat} {a:Act} {w:World},(∀i∈q,N i=false)->(∀i,i∈q\/i∈f->i∈F)->Seq P ops N D Z q g a w->Seq P ops N D Q (q++t) f a w
 | [],f,g,a,w,_,hf,h=>(hZ a w h).mono (fun i hi=>hf i (.inr hi))
 | i::q,f,g,a,w,hq,hf,h=>by
  have hn:¬N i=true:=by rw[hq i (by simp)];simp
  rw[cons_append]
  unfold Seq at h ⊢
  rw[if_neg hn]at h ⊢
  exact stOp_mono (fun c hc=>yD hZ (fun k hk=>hq k (by simp[hk])) (fun k hk=>hf k (hk.elim (fun hk=>.inl (mem_cons_of_mem _ hk)) (fun hk=>(mem_cons.1 hk).elim (fun e=>.inl (e ▸ mem_cons_self)) .inr))) hc) h
inductive Tree where
 | fin
 | one (i:Nat) (f q:List Nat) (t:Tree)
 | two (i:Nat) (f q:List Nat) (t:Tree) (j:Nat) (g r:List Nat) (u:Tree)
def GU(P:Program)(ops:Array Oper)(D:Nat->Nat->Bool)(i:Nat)(F:List Nat)(Z:Act->World->Prop)(a:Act)(w:World):Prop :=
 ∃o,ops[i]?=some o/\o.guard=none/\o.wp P a w (fun c v=>(∀q∈F,D i q=false->zb P ops v c q)/\Z c v) noQ
def Pre(P:Program)(ops:Array Oper)(N:Nat->Bool)(D:Nat->Nat->Bool)(Q:Act->World->Prop):Tree->List Nat->Act->World->Prop
 | .fin,_,a,w=>Q a w
 | .one i _ q t,F,a,w=>GU P ops D i F (Seq P ops N D (Pre P ops N D Q t (q++F)) q F) a w
 | .two i _ q t j _ r u,F,a,w=>GU P ops D i F (Seq P ops N D (Pre P ops N D Q t (q++F)) q F) a w/\GU P ops D j F (Seq P ops N D (Pre P ops N D Q u (r++F)) r F) a w
def Tree.flat:Tree->List Nat
 | .fin=>[]
 | .one i _ q t=>i::(q++t.flat)
 | .two i _ q t _ _ _ _=>i::(q++t.flat)
def sI(_:Array Oper)(N:Nat->Bool)(E:Nat->Bool)(i:Nat)(q:List Nat)(t:Tree):Prop :=
 N i=true/\(∀x∈q,N x=false)/\((∀x∈q,E x=false)\/t=.fin)
def Tree.Ok(ops:Array Oper)(N E:Nat->Bool):Tree->Prop
 | .fin=>True
 | .one i _ q t=>sI ops N E i q t/\(∀k∈q++t.flat,∃m∈i::(q++t.flat),Region.waitsFor .any ops k m=true)/\t.Ok ops N E
 | .two i _ q t j _ r u=>sI ops N E i q t/\sI ops N E j r u/\(∀k∈i::(q++t.flat),k=i\/k=j\/∃m∈i::(q++t.flat),Region.waitsFor .any ops k m=true)/\(∀k,k∈i::(q++t.flat)↔k∈j::(r++u.flat))/\(i::(q++t.flat)).length=(j::(r++u.flat)).length/\t.Ok ops N E/\u.Ok ops N E
def Tree.Rows(ops:Array Oper):Tree->List Nat->Prop
 | .fin,U=>row (Far ops) U
 | .one i _ q t,U=>t.Rows ops (U++i::q)
 | .two i _ q t j _ r u,U=>t.Rows ops (U++i::q)/\u.Rows ops (U++j::r)
theorem Tree.Rows.cut:∀{t:Tree} {s1:List Nat} {j:Nat} {s2:List Nat},t.Rows ops (s1++j::s2)->t.Rows ops (s1++s2)
 | .fin,_,_,_,h=>row.cut h
 | .one i f q t,s1,j,s2,h=>by
  have h:t.Rows ops (s1++j::(s2++i::q)):=by simpa[Tree.Rows]using h
  have:=h.cut
  show t.Rows ops _
  rwa [append_assoc]
 | .two i f q t j' g r u,s1,j,s2,h=>by
  have h1:t.Rows ops (s1++j::(s2++i::q)):=by simpa using h.1
  have h2:u.Rows ops (s1++j::(s2++j'::r)):=by simpa using h.2
  refine⟨?_,?_⟩
  ·have:=h1.cut;rwa [append_assoc]
  ·have:=h2.cut;rwa [append_assoc]
theorem row.left{R:Nat->Nat->Prop}:∀{l r:List Nat},row R (l++r)->row R l
 | [],_,_=>trivial
 | _::_,_,h=>⟨fun k hk=>h.1 k (by simp[hk]),row.left h.2⟩
theorem Tree.Rows.flat:∀{t:Tree} {U:List Nat},t.Rows ops U->row (Far ops) (U++t.flat)
 | .fin,U,h=>by rw[Tree.flat,append_nil];exact h
 | .one i f q t,U,h=>by have:=Tree.Rows.flat (t:=t) h;simpa[Tree.flat]using this
 | .two i f q t j g r u,U,h=>by have:=Tree.Rows.flat (t:=t) h.1;simpa[Tree.flat]using this
theorem Tree.Rows.head1{t:Tree}{U q:List Nat}{i:Nat}(h:t.Rows ops (U++i::q)):row (Far ops) (U++[i]):=by
 have:=h.flat;have e:U++i::q++t.flat=(U++[i])++(q++t.flat):=by simp
 rw[e]at this;exact this.left
include H
theorem Ho{Q':Exit->Act->World->Prop}(hQ:∀a w,Q a w->Q' .normal a w):∀(n:Nat) (T:Tree) (U F:List Nat) (L:Array Bool) (a:Act) (w:World),(U++T.flat).length=n->Un ops L (U++T.flat)->(∀i∈U,N i=false/\i∈F)->((∀i∈U,E i=false)\/T=.fin) ->
  T.Ok ops N E->T.Rows ops U->Seq P ops N D (Pre P ops N D Q T F) U [] a w->wpAny P .any ops Q' n L a w:=by
 intro n;induction n with
 | zero =>
  intro T U F L a w hn hL _ _ _ _ h;rw[length_append]at hn;obtain rfl:U=[]:=length_eq_zero_iff.1 (by omega)
  have ht:T=.fin:=by
   cases T with
   | fin=>rfl
   | one=>simp[Tree.flat]at hn
   | two=>simp[Tree.flat]at hn
  subst ht;exact⟨eq_nil_iff_forall_not_mem.2 fun i hi=>(by have:=(hL.waits hi).1;simp[Tree.flat]at this),hQ _ _ h⟩
 | succ n ih =>
  intro T U F L a w hn hL hU hE hok hrw h;have hr:=hrw.flat;refine⟨fun h0=>?_,fun j hj=>?_⟩
  ·cases hs:U++T.flat with
   | nil=>rw[hs]at hn;cases hn
   | cons x r=>rw[hs]at hL hr;exact absurd h0 (hL.head H hr)
  ·obtain⟨hjs,hw⟩:=hL.waits hj;have hD:=H.ahead hL.cl j hw;rcases mem_append.1 hjs with hjq|hjT
   ·obtain⟨s1,s2,rfl⟩:=append_of_mem hjq;have hn1:¬N j=true:=by rw[(hU j hjq).1];simp
    have hm:=Seq.move H s1 [] a w (fun i hi=>hL.lt i (by simp only[mem_append]at hi ⊢;exact .inl hi)) hr.left (fun x hx=>(hU x (by simp[hx])).1) (fun hn=>absurd hn hn1) (fun k hk hk1=>by
     rcases hk with hk|hk
     ·exact hw k hk (by simp[hk1])
     ·exact hD k hk (by simp[hk1])) (fun _ h=>(nomatch h)) h
    have e:s1++j::s2++T.flat=s1++j::(s2++T.flat):=by simp
    rw[e]at hL hr hw hn
    refine KN hm fun c v hs=>ih T (s1++s2) F _ c v (by simp at hn ⊢;omega) (by rw[append_assoc];exact hL.step hr hw) (fun i hi=>hU i (by rcases mem_append.1 hi with hi|hi<;>simp[hi]))
     (hE.imp (fun h i hi=>h i (by rcases mem_append.1 hi with hi|hi<;>simp[hi])) id) hok hrw.cut hs
   ·have branch:∀{i:Nat} {q:List Nat} {t:Tree},i=j->(∀k,k∈U++T.flat↔k∈U++i::(q++t.flat))->(U++T.flat).length=(U++i::(q++t.flat)).length->sI ops N E i q t->(∀x∈U,E x=false)->t.Ok ops N E->t.Rows ops (U++i::q) ->
      (∀a w,Pre P ops N D Q T F a w->GU P ops D i F (Seq P ops N D (Pre P ops N D Q t (q++F)) q F) a w)->wpOp P ops Q' j (wpAny P .any ops Q' n (L.setIfInBounds j true)) a w:=by
     intro i q t hij hmem hlen hb hEU hokt hrt hpre;subst hij
     have h1:Seq P ops N D (Seq P ops N D (Pre P ops N D Q t (q++F)) q F) (U++[i]) [] a w:=yD (t:=[i]) (F:=F) (fun a w hz=>by
      obtain⟨o,h1,h2,h3⟩:=hpre a w hz;unfold Seq;rw[if_pos hb.1];exact⟨o,h1,h2,h3⟩) (fun x hx=>(hU x hx).1) (fun x hx=>hx.elim (fun hx=>(hU x hx).2) (fun hx=>nomatch hx)) h
     have hm:=Seq.move H U [] a w (fun x hx=>hL.lt x ((hmem x).2 (by simp only[mem_append,mem_cons,not_mem_nil,or_false]at hx ⊢;rcases hx with hx|hx<;>simp[hx]))) hrt.head1 (fun x hx=>(hU x hx).1) (fun _=>hEU) (fun k hk hk1=>by
      rcases hk with hk|hk
      ·exact hw k hk (by simp[hk1])
      ·exact hD k hk (by simp[hk1])) (fun _ h=>(nomatch h)) h1
     have hr2:=hrt.flat;have e2:U++i::q++t.flat=U++i::(q++t.flat):=by simp
     rw[e2]at hr2;have hst:=(hL.congr hmem).step hr2 (fun k hk hm=>hw k hk ((hmem k).2 hm));refine KN hm fun c v hs=>ih t (U++q) (q++F) _ c v (by rw[hlen]at hn;simp at hn ⊢;omega) (by rw[append_assoc];exact hst) (fun x hx=>?_) ?_ hokt hrt.cut ?_
     ·rcases mem_append.1 hx with hx|hx
      ·exact⟨(hU x hx).1,by simp[(hU x hx).2]⟩
      ·exact⟨hb.2.1 x hx,by simp[hx]⟩
     ·refine hb.2.2.imp (fun h x hx=>?_) id;rcases mem_append.1 hx with hx|hx
      ·exact hEU x hx
      ·exact h x hx
     ·rw[append_nil]at hs;exact yD (t:=q) (F:=F) (fun a w hz=>hz) (fun x hx=>(hU x hx).1) (fun x hx=>hx.elim (fun hx=>(hU x hx).2) (fun hx=>nomatch hx)) hs
    cases T with
    | fin=>cases hjT
    | one i f q t =>
     have hEU:=hE.resolve_right (by simp);rcases mem_cons.1 hjT with rfl|hj2
     ·exact branch rfl (fun _=>Iff.rfl) rfl hok.1 hEU hok.2.2 hrw (fun _ _ h=>h)
     ·obtain⟨m,hm1,hm2⟩:=hok.2.1 j hj2;exact absurd (mem_append_right U hm1) (hw m hm2)
    | two i f q t i2 g r u =>
     have hEU:=hE.resolve_right (by simp);obtain⟨b1,b2,hh,hmem,hlen,o1,o2⟩:=hok;rcases hh j hjT with rfl|rfl|⟨m,hm1,hm2⟩
     ·exact branch rfl (fun _=>Iff.rfl) rfl b1 hEU o1 hrw.1 (fun _ _ h=>h.1)
     ·exact branch rfl (fun k=>by simp only[mem_append];exact or_congr Iff.rfl (hmem k)) (by rw[length_append,length_append];exact congrArg _ hlen) b2 hEU o2 hrw.2 (fun _ _ h=>h.2)
     ·exact absurd (mem_append_right U hm1) (hw m hm2)
omit H
def nth(l:List Oper)(i:Nat):Oper:=l.getD i default
def waits(ops:Array Oper)(n:Nat):List Nat:=(range n).map fun i=>(range i).foldl (fun m k=>if Region.waitsFor .any ops i k then m ||| (1 <<< k)else m) 0
def bit(t:List Nat)(i k:Nat):Bool:=(t.getD i 0).testBit k
def JU(ws:List Nat)(n:Nat):List Nat:=(range n).foldl (fun t i=>t++[(range i).foldl (fun m k=>if bit ws i k then m ||| t.getD k 0 else m) (ws.getD i 0)]) []
def Kb(ops:Array Oper)(i k:Nat):Bool:=decide (i<ops.size)&&decide (k<ops.size)&&bit (JU (waits ops ops.size) ops.size) i k
def okB(ops:Array Oper)(D:Nat->Nat->Bool)(E:Nat->Bool):Bool :=
 Region.noSelect ops&&(range ops.size).all fun k=>match ops[k]? with
  | none=>true
  | some ok=>(ok.after.all fun e => !Region.binds .any e || decide (e.on<k))&&(range ops.size).all fun i=>match ops[i]? with
   | none=>true
   | some oi=>(match oi.dst with|none=>true|some d=>(i==k || ok.dst != some d)&&(!(ok.looksAt ops).contains d || (Region.waitsFor .any ops k i || (Region.waitsFor .any ops i k&&E i)))) &&
     (!D k i || (range k).any fun m=>Region.waitsFor .any ops k m&&(m==i || D m i))
def Kl(ops:Array Oper):List Nat->Bool
 | []=>true
 | x::r=>(r.all fun j=>x != j && !Region.waitsFor .any ops x j)&&Kl ops r
def yj:List Nat->Bool
 | []=>true
 | x::r => !r.contains x&&yj r
def Tree.noisy:Tree->List Nat
 | .fin=>[]
 | .one i _ _ t=>i::t.noisy
 | .two i _ _ t _ _ _ _=>i::t.noisy
def Tree.last:Tree->List Nat->List Nat
 | .fin,q=>q
 | .one _ _ q t,_=>t.last q
 | .two _ _ q t _ _ r u,_=>t.last q++u.last r
def Tree.isFin:Tree->Bool
 | .fin=>true
 | _=>false
section
variable (l:List Oper) (D:Nat->Nat->Bool) (N E:Nat->Bool)
def nz(i:Nat)(f q:List Nat)(t:Tree)(F:List Nat):Bool :=
 N i&&decide (i<l.length)&&(nth l i).guard.isNone&&yj f&&(f.all fun x=>decide (x<l.length))&&(F.all fun x=>D i x || f.contains x)&&(q.all fun x => !N x&&decide (x<l.length))&&((q.all fun x => !E x) || t.isFin)
def oy:Tree->List Nat->Bool
 | .fin,_=>true
 | .one i f q t,F=>nz l D N E i f q t F&&((q++t.flat).all fun k=>(i::(q++t.flat)).any fun m=>Region.waitsFor .any l.toArray k m)&&oy t (q++F)
 | .two i f q t j g r u,F=>nz l D N E i f q t F&&nz l D N E j g r u F&&((i::(q++t.flat)).all fun k=>k==i || (k==j || (i::(q++t.flat)).any fun m=>Region.waitsFor .any l.toArray k m)) &&
   ((i::(q++t.flat)).all fun k=>(j::(r++u.flat)).contains k)&&((j::(r++u.flat)).all fun k=>(i::(q++t.flat)).contains k)&&((i::(q++t.flat)).length==(j::(r++u.flat)).length)&&oy t (q++F)&&oy u (r++F)
end
def wZ(ops:Array Oper):Tree->List Nat->Bool
 | .fin,U=>Kl ops U
 | .one i _ q t,U=>wZ ops t (U++i::q)
 | .two i _ q t j _ r u,U=>wZ ops t (U++i::q)&&wZ ops u (U++j::r)
def II(l:List Oper)(q:List Nat)(T:Tree):Bool :=
 let D:=Kb l.toArray
 let N:=fun i=>T.noisy.contains i
 let E:=fun i=>(T.last q).contains i
 okB l.toArray D E&&oy l D N E T q&&wZ l.toArray T q&&(q.all fun x => !N x&&decide (x<l.length))&&((q.all fun x => !E x) || T.isFin)&&((q++T.flat).all fun i=>decide (i<l.length))&&((q++T.flat).length==l.length)&&(range l.length).all fun i=>(q++T.flat).contains i
theorem AJ:∀{l:List Nat},yj l=true->l.Nodup
 | [],_=>nodup_nil
 | x::r,h=>by
  simp only[yj,Bool.and_eq_true,Bool.not_eq_true',contains_eq_mem,decide_eq_false_iff_not]at h
  exact nodup_cons.2 ⟨h.1,AJ h.2⟩
theorem lP{l:List Oper}{i:Nat}(h:i<l.length):l.toArray[i]?=some (nth l i):=by simp[nth,h]
theorem vS{n:Nat}{p:Nat->Bool}(h:(range n).all p=true){i:Nat}(hi:i<n):p i=true:=all_eq_true.1 h i (mem_range.2 hi)
theorem LW{D:Nat->Nat->Bool}{E:Nat->Bool}(h:okB ops D E=true)(hD:∀i q,D i q=true->i<ops.size/\q<ops.size):MixOk ops D E:=by
 simp only[okB,Bool.and_eq_true]at h
 have H:∀{k i:Nat} {ok oi:Oper},ops[k]?=some ok->ops[i]?=some oi->_:=fun {k i ok oi} hk hi=>by
  have h1:=vS h.2 (Array.getElem?_eq_some_iff.1 hk).1;rw[hk]at h1;simp only[Bool.and_eq_true]at h1;have h2:=vS h1.2 (Array.getElem?_eq_some_iff.1 hi).1;rw[hi]at h2;simp only[Bool.and_eq_true]at h2;exact And.intro h1.1 h2
 refine⟨h.1,fun i k hw=>?_,fun i k oi ok d hne hi hk hd=>?_,fun i k oi ok d hi hk hd hm=>?_,fun i q hq=>?_⟩
 ·obtain⟨oi,hoi,e,he,hb,rfl⟩:=Region.waitsFor_spec hw;have:=Array.all_eq_true_iff_forall_mem.1 (H hoi hoi).1 e he;simpa[hb]using this
 ·have:=(H hk hi).2.1;simp only[hd,Bool.and_eq_true,Bool.or_eq_true,beq_iff_eq,bne_iff_ne]at this;exact this.1.resolve_left hne
 ·have:=(H hk hi).2.1;simp only[hd,Bool.and_eq_true,Bool.or_eq_true,Bool.not_eq_true',contains_eq_mem,decide_eq_false_iff_not]at this;exact this.2.resolve_left (fun h=>h hm)
 ·obtain⟨h1,h2⟩:=hD i q hq;have:=(H (Array.getElem?_eq_getElem h1) (Array.getElem?_eq_getElem h2)).2.2;rw[hq]at this;simp only[Bool.not_true,Bool.false_or,any_eq_true,Bool.and_eq_true,Bool.or_eq_true,beq_iff_eq]at this;obtain⟨m,-,hw,hm⟩:=this;exact⟨m,hw,hm⟩
theorem I9:∀{s:List Nat},Kl ops s=true->row (Far ops) s
 | [],_=>trivial
 | x::r,h=>by
  simp only[Kl,Bool.and_eq_true,all_eq_true,bne_iff_ne,Bool.not_eq_true']at h
  exact⟨fun j hj=>h.1 j hj,I9 h.2⟩
theorem sE:∀{T:Tree} {U:List Nat},wZ ops T U=true->T.Rows ops U
 | .fin,_,h=>I9 h
 | .one _ _ _ t,_,h=>sE (T:=t) h
 | .two _ _ _ t _ _ _ u,_,h=>by
  simp only[wZ,Bool.and_eq_true]at h
  exact⟨sE (T:=t) h.1,sE (T:=u) h.2⟩
theorem Ar{t:Tree}(h:t.isFin=true):t=.fin:=by cases t<;>simp[Tree.isFin]at h ⊢
end
section
variable {P:Program} {l:List Oper} {N:Nat->Bool} {D:Nat->Nat->Bool} {E:Nat->Bool} {Q:Act->World->Prop} {w:World}
theorem nA{i:Nat}{f q F:List Nat}{t:Tree}(h:nz l D N E i f q t F=true):sI l.toArray N E i q t/\i<l.length/\(nth l i).guard=none/\f.Nodup/\(∀x∈f,x<l.length)/\(∀x∈F,D i x=false->x∈f)/\∀x∈q,N x=false/\x<l.length:=by
 simp only[nz,Bool.and_eq_true,Bool.or_eq_true,all_eq_true,decide_eq_true_eq,Bool.not_eq_true',Option.isNone_iff_eq_none,contains_eq_mem]at h;obtain⟨⟨⟨⟨⟨⟨⟨h1,h2⟩,h3⟩,h4⟩,h5⟩,h6⟩,h7⟩,h8⟩:=h;exact⟨⟨h1,fun x hx=>(h7 x hx).1,h8.imp id Ar⟩,h2,h3,AJ h4,h5,fun x hx hd=>(h6 x hx).resolve_left (by rw[hd];simp),h7⟩
theorem sF:∀{T:Tree} {F:List Nat},oy l D N E T F=true->T.Ok l.toArray N E
 | .fin,_,_=>trivial
 | .one i f q t,F,h=>by
  simp only[oy,Bool.and_eq_true,all_eq_true,any_eq_true]at h
  exact⟨(nA h.1.1).1,h.1.2,sF h.2⟩
 | .two i f q t j g r u,F,h=>by
  simp only[oy,Bool.and_eq_true]at h
  obtain⟨⟨⟨⟨⟨⟨⟨h1,h2⟩,h3⟩,h4⟩,h5⟩,h6⟩,h7⟩,h8⟩:=h
  simp only[all_eq_true,any_eq_true,Bool.or_eq_true,beq_iff_eq,contains_iff_mem]at h3 h4 h5 h6
  exact⟨(nA h1).1,(nA h2).1,h3,fun k=>⟨h4 k,h5 k⟩,h6,sF h7,sF h8⟩
theorem qt{K K':Act->Prop}(hk:∀a,K a->K' a):∀{s:List Oper} {a:Act},wpStill P l.toArray w K s a->wpStill P l.toArray w K' s a
 | [],_,h=>hk _ h
 | o::s,a,h=>by
  unfold wpStill at h ⊢
  split
  ·rename_i hw;rw[if_pos hw]at h;exact Oper.still_mono (fun _=>qt hk) h
  ·rename_i hw;rw[if_neg hw]at h;exact qt hk h
theorem rh{r:List Nat}:∀{q f:List Nat} {a:Act},(∀i∈q,N i=false/\i<l.length)->wpStill P l.toArray w (fun b=>Seq P l.toArray N D Q r (q.reverse++f) b w) (q.map (nth l)) a->Seq P l.toArray N D Q (q++r) f a w
 | [],f,a,_,h=>h
 | i::q,f,a,hq,h=>by
  have hi:=hq i (by simp)
  rw[cons_append]
  unfold Seq
  rw[if_neg (by rw[hi.1];simp)]
  unfold stOp
  rw[lP hi.2]
  have h2:wpStill P l.toArray w (fun b=>Seq P l.toArray N D Q r (q.reverse++(i::f)) b w) (nth l i::q.map (nth l)) a:=by
   simpa using h
  have nx:∀c,wpStill P l.toArray w (fun b=>Seq P l.toArray N D Q r (q.reverse++(i::f)) b w) (q.map (nth l)) c->Seq P l.toArray N D Q (q++r) (i::f) c w :=
   fun c hc=>rh (fun i hi=>hq i (by simp[hi])) hc
  unfold wpStill at h2;simp only;split
  ·rename_i hw;rw[if_pos hw]at h2;exact Oper.still_mono nx h2
  ·rename_i hw;rw[if_neg hw]at h2;exact nx _ h2
theorem uN{c:Act}:∀{q:List Nat} {b:Act},(∀i∈q,i<l.length)->wpStill P l.toArray w (fun d=>d=c) (q.map (nth l)) b->b.defers=c.defers/\∀t,(∀k∈q,(nth l k).dst≠some t)->b.tmps[t]?=c.tmps[t]?
 | [],b,_,h=>by
  have:b=c:=h
  subst this;exact⟨rfl,fun _ _=>rfl⟩
 | i::q,b,hq,h=>by
  have hs:stOp P l.toArray w i (wpStill P l.toArray w (fun d=>d=c) (q.map (nth l))) b:=by unfold stOp;rw[lP (hq i (by simp))];exact h
  obtain⟨v,-,h2⟩:=yieldsAt_of_stOp (lP (hq i (by simp))) hs
  obtain⟨e1,e2⟩:=uN (fun i hi=>hq i (by simp[hi])) h2
  refine⟨?_,fun t ht=>?_⟩
  ·rw[<- e1];cases (nth l i).dst<;>rfl
  ·rw[<- e2 t (fun k hk=>ht k (by simp[hk]))]
   cases hd:(nth l i).dst with
   | none=>rfl
   | some d=>simp only[Act.put];rw[Array.getElem?_setIfInBounds_ne (fun e=>ht i (by simp) (by rw[hd,e]))]
theorem wP(hd:∀i k t,i≠k->i<l.length->k<l.length->(nth l i).dst=some t->(nth l k).dst≠some t){c:Act}:∀{q:List Nat},q.Nodup->(∀i∈q,i<l.length)->wpStill P l.toArray w (fun d=>d=c) (q.map (nth l)) c->∀i∈q,zb P l.toArray w c i
 | [],_,_,_,i,hi=>nomatch hi
 | x::q,hn,hq,h,i,hi=>by
  have hx:=hq x (by simp)
  have hq':=fun i hi=>hq i (mem_cons_of_mem x hi)
  have hs:stOp P l.toArray w x (wpStill P l.toArray w (fun d=>d=c) (q.map (nth l))) c:=by unfold stOp;rw[lP hx];exact h
  obtain⟨v,hy,h2⟩:=yieldsAt_of_stOp (lP hx) hs
  have e:c.put (nth l x).dst v=c:=by
   obtain⟨e1,e2⟩:=uN hq' h2
   cases ht:(nth l x).dst with
   | none=>rfl
   | some t =>
    rw[ht]at e1 e2;have:=e2 t (fun k hk hk2=>hd x k t (fun e=>(nodup_cons.1 hn).1 (e ▸ hk)) hx (hq' k hk) ht hk2);obtain⟨tm,df⟩:=c;simp only[Act.put,Act.mk.injEq,and_true]at this ⊢;refine Array.ext_getElem? fun k=>?_
    by_cases hk:t=k
    ·subst hk;exact this
    ·rw[Array.getElem?_setIfInBounds_ne hk]
  rcases mem_cons.1 hi with rfl|hi
  ·exact⟨_,v,lP hx,hy,e⟩
  ·rw[e]at h2;exact wP hd (nodup_cons.1 hn).2 hq' h2 i hi
def sP(P:Program)(l:List Oper)(Q:Act->World->Prop):Tree->Act->World->Prop
 | .fin,a,w=>Q a w
 | .one i f q t,a,w=>(nth l i).wp P a w (fun c v=>wpStill P l.toArray v (fun d=>d=c) (f.map (nth l)) c/\wpStill P l.toArray v (fun b=>sP P l Q t b v) (q.map (nth l)) c) noQ
 | .two i f q t j g r u,a,w=>(nth l i).wp P a w (fun c v=>wpStill P l.toArray v (fun d=>d=c) (f.map (nth l)) c/\wpStill P l.toArray v (fun b=>sP P l Q t b v) (q.map (nth l)) c) noQ /\
   (nth l j).wp P a w (fun c v=>wpStill P l.toArray v (fun d=>d=c) (g.map (nth l)) c/\wpStill P l.toArray v (fun b=>sP P l Q u b v) (r.map (nth l)) c) noQ
theorem IJ(hd:∀i k t,i≠k->i<l.length->k<l.length->(nth l i).dst=some t->(nth l k).dst≠some t):∀{T:Tree} {F:List Nat} {a:Act} {w:World},oy l D N E T F=true->sP P l Q T a w->Pre P l.toArray N D Q T F a w:=by
 have one:∀{i:Nat} {f q F:List Nat} {t:Tree} {a:Act} {w:World} {Z:Act->World->Prop},nz l D N E i f q t F=true->(∀a w,sP P l Q t a w->Z a w) ->
   (nth l i).wp P a w (fun c v=>wpStill P l.toArray v (fun d=>d=c) (f.map (nth l)) c/\wpStill P l.toArray v (fun b=>sP P l Q t b v) (q.map (nth l)) c) noQ->GU P l.toArray D i F (Seq P l.toArray N D Z q F) a w:=by
  intro i f q F t a w Z hb hZ h;obtain⟨-,h1,h2,h3,h4,h5,h6⟩:=nA hb;refine⟨_,lP h1,h2,Oper.wp_mono (fun c v hc=>⟨fun x hx hdx=>wP hd h3 h4 hc.1 x (h5 x hx hdx),?_⟩) h⟩;have:=rh (P:=P) (N:=N) (D:=D) (Q:=Z) (r:=[]) (q:=q) (f:=F) (a:=c) (w:=v) h6 (qt (fun b hb=>hZ b v hb) hc.2);rwa [append_nil]at this
 intro T;induction T with
 | fin=>intro F a w _ h;exact h
 | one i f q t ih =>
  intro F a w hB h;simp only[oy,Bool.and_eq_true]at hB;exact one hB.1.1 (fun a w=>ih hB.2) h
 | two i f q t j g r u ih1 ih2 =>
  intro F a w hB h;simp only[oy,Bool.and_eq_true]at hB;exact⟨one hB.1.1.1.1.1.1.1 (fun a w=>ih1 hB.1.2) h.1,one hB.1.1.1.1.1.1.2 (fun a w=>ih2 hB.2) h.2⟩
theorem Ea{Q':Exit->Act->World->Prop}(q:List Nat)(T:Tree)(hB:II l q T=true){a:Act}(h:wpStill P l.toArray w (fun b=>sP P l (fun a w=>Q' .normal a w) T b w) (q.map (nth l)) a):
  wpAny P .any l.toArray Q' l.toArray.size (Array.replicate l.toArray.size false) a w:=by
 simp only[II,Bool.and_eq_true]at hB;obtain⟨⟨⟨⟨⟨⟨⟨h1,h2⟩,h3⟩,h4⟩,h5⟩,h6⟩,h7⟩,h8⟩:=hB;simp only[all_eq_true,decide_eq_true_eq,beq_iff_eq,Bool.not_eq_true',Bool.or_eq_true,Bool.and_eq_true,contains_iff_mem]at h4 h5 h6 h7 h8;have H:=LW h1 (fun i q h=>by simp only[Kb,Bool.and_eq_true,decide_eq_true_eq]at h;exact h.1)
 have hs:=rh (P:=P) (l:=l) (w:=w) (N:=fun i=>T.noisy.contains i) (D:=Kb l.toArray) (Q:=Pre P l.toArray (fun i=>T.noisy.contains i) (Kb l.toArray) (fun a w=>Q' .normal a w) T q) (r:=[]) (q:=q) (f:=[]) (a:=a) h4
  (qt (fun b hb=>IJ (fun i k t hne hi hk hd=>H.dst i k _ _ t hne (lP hi) (lP hk) hd) h2 hb) h)
 rw[append_nil]at hs;refine Ho H (Q:=fun a w=>Q' .normal a w) (fun _ _ h=>h) _ T q q _ a w (by rw[size_toArray];exact h7) ⟨fun i=>?_,by simpa using h6,by simp,fun i k hw hi hk=>hi (h8 i (mem_range.2 ?_))⟩ (fun i hi=>⟨(h4 i hi).1,hi⟩) (h5.imp id Ar) (sF h2) (sE h3) hs
 ·rcases Nat.lt_or_ge i l.length with hi|hi
  ·have:=h8 i (mem_range.2 hi);simp[hi,mem_append.1 this]
  ·have:¬i∈q++T.flat:=fun hm=>Nat.not_lt.2 hi (h6 i hm)
   rw[mem_append]at this;simp[Nat.not_lt.2 hi,this]
 ·obtain⟨o,ho,_⟩:=Region.waitsFor_spec hw;simpa using(Array.getElem?_eq_some_iff.1 ho).1
theorem yO{id:Nat}{Q:Exit->Act->World->Prop}{a:Act}(q:List Nat)(T:Tree)(hm:P.follows .mixedOrders=true)(hB:II l q T=true)(h:∀W,(∀{F G:HF} {b:World},Turns F G b w->Turns F G b W)->wpStill P l.toArray W (fun b=>sP P l (fun a w=>Q .normal a w) T b W) (q.map (nth l)) a):(Code.region id l.toArray true).wp P Q a w :=
 wp_region_any hm (Ea q T hB (h _ fun h=>h.drew))
def Mix(P:Program)(l:List Oper)(Q:Act->World->Prop):List (List Nat×Nat×List Nat)->List Nat->Act->World->Prop
 | [],e,a,w=>wpStill P l.toArray w (fun b=>Q b w) (e.map (nth l)) a
 | (q,i,f)::r,e,a,w=>wpStill P l.toArray w (fun b=>(nth l i).wp P b w (fun c v=>wpStill P l.toArray v (fun d=>d=c) (f.map (nth l)) c/\Mix P l Q r e c v) noQ) (q.map (nth l)) a
def lin:List (List Nat×Nat×List Nat)->List Nat->List Nat×Tree
 | [],e=>(e,.fin)
 | (q,i,f)::r,e=>(q,.one i f (lin r e).1 (lin r e).2)
theorem yi:∀{pl:List (List Nat×Nat×List Nat)} {e:List Nat} {a:Act} {w:World},Mix P l Q pl e a w->wpStill P l.toArray w (fun b=>sP P l Q (lin pl e).2 b w) ((lin pl e).1.map (nth l)) a
 | [],_,_,_,h=>h
 | (_,_,_)::_,_,_,_,h=>qt (fun _ hb=>Oper.wp_mono (fun _ _ hc=>⟨hc.1,yi hc.2⟩) hb) h
theorem cL{id:Nat}{Q:Exit->Act->World->Prop}{a:Act}(pl:List (List Nat×Nat×List Nat))(e:List Nat)(hm:P.follows .mixedOrders=true)(hB:II l (lin pl e).1 (lin pl e).2=true)(h:∀W,(∀{F G:HF} {b:World},Turns F G b w->Turns F G b W)->Mix P l (fun a w=>Q .normal a w) pl e a W):(Code.region id l.toArray true).wp P Q a w :=
 yO _ _ hm hB fun W tW=>yi (h W tW)
theorem qu{ops:Array Oper}{Q:Act->Prop}{o:Oper}{r:List Oper}{a:Act}{v:Value}(hg:Region.wanted o (yielded ops a.tmps)=true)(h:(execOp a.eval o).run P w=.ok (.value v) w)(hk:wpStill P ops w Q r (a.put o.dst v)):wpStill P ops w Q (o::r) a:=by
 unfold wpStill;rw[if_pos hg];unfold Oper.still;rw[h];exact⟨rfl,hk⟩
theorem cD{ops:Array Oper}{Q:Act->Prop}{o:Oper}{r:List Oper}{a:Act}{v:Value}(hg:o.guard=none)(h:(execOp a.eval o).run P w=.ok (.value v) w)(hk:wpStill P ops w Q r (a.put o.dst v)):wpStill P ops w Q (o::r) a :=
 qu (by simp[Region.wanted,hg]) h hk
end
end
section
open Go.RowKit
def nG(o:Oper):Bool:=match o.op with|.defer _=>false|_=>true
theorem zE{l n:Nat}{P:Program}{f:FuncId}{args:Array Value}{w:World}{R:Ending->World->Prop}(h:Calls P f args w R):CallsIn (Fence.wide.inRound l) n P f args w R :=
 ⟨trivial,fun cs _=>(callsIn_wide (n:=n).2 h).2 cs (room_wide _)⟩
theorem Kn{l n:Nat}{P:Program}{r:String}{args:Array Value}{w:World}{R:Value->World->Prop}(h:Rows P r args w R):RowsIn (Fence.wide.inRound l) n P r args w R :=
 fun c cs _=>let ⟨v,w',r,s⟩:=h c cs;⟨v,w',r,stepsIn_wide.2 s⟩
theorem Ex{l n:Nat}{P:Program}{o:Oper}{a:Act}{w:World}{K:Act->World->Prop}{Q:Exit->Act->World->Prop}(hd:nG o=true)(h:o.wp P a w K Q):o.wpIn (Fence.wide.inRound l) n P a w K Q:=by
 refine⟨fun _ _=>trivial,?_⟩;have e:Oper.semAt (Fence.wide.inRound l).round a.eval o=execOp a.eval o:=Oper.semAt_eq _ _ _ (fun c hc=>by simp[nG,hc]at hd);rw[e];unfold Oper.wp at h;generalize (execOp a.eval o).run P w=r at h ⊢;have hdp:(Fence.wide.inRound l).depth.isSome=true->1<=n:=fun hx=>by simp[Fence.wide]at hx
 cases r with
 | ok x w' =>
  cases x with
  | enter f args=>exact⟨hdp,(zE h).mono (fun e w'' he=>by cases e<;>exact he)⟩
  | row r args=>exact⟨hdp,(Kn h).mono (fun _ _ he=>he)⟩
  | value v=>exact h
  | skip=>exact h
  | defer d=>exact h
  | _=>exact h.elim
 | halt x w' =>
  cases x with
  | panic v=>exact h
  | _=>exact h.elim
theorem m8{l n:Nat}{P:Program}{ops:Array Oper}{rest:List Oper}{o:Oper}{a:Act}{w:World}{Q:Exit->Act->World->Prop}(hg:o.guard=none)(hd:nG o=true)(h:o.wp P a w (wpListIn (Fence.wide.inRound l) n P ops Q rest) Q):
  wpListIn (Fence.wide.inRound l) n P ops Q (o::rest) a w:=wpListIn_plain hg fun _ hK=>Oper.wpIn_mono hK (Ex hd h)
theorem Jn{l n:Nat}{P:Program}{md:Region.Mode}{ops:Array Oper}{Q:Exit->Act->World->Prop}(hn:ops.all nG=true)(hQ:¬LetsOut Q):
  ∀(fuel:Nat) (listed:Array Bool) (a:Act) (w:World),wpAny P md ops Q fuel listed a w->wpAnyIn (Fence.wide.inRound l) n P md ops Q fuel listed a w:=by
 intro fuel;induction fuel with
 | zero=>exact fun _ _ _ h=>h
 | succ fuel ih =>
  intro listed a w h;refine⟨h.1,fun i hi=>?_⟩;have h2:=h.2 i hi;unfold wpOp at h2;unfold wpOpIn
  cases ho:ops[i]? with
  | none=>rw[ho]at h2;exact ih _ _ _ h2
  | some o =>
   rw[ho]at h2;simp only at h2 ⊢
   have hd:nG o=true:=by
    obtain⟨hlt,rfl⟩:=Array.getElem?_eq_some_iff.1 ho;exact Array.all_eq_true.1 hn i hlt
   split
   ·rename_i hw;rw[if_pos hw]at h2;rcases h2 with h2|⟨_,h2⟩
    ·exact Oper.wpIn_mono (fun a w h=>ih _ _ _ h) (Ex hd h2)
    ·exact absurd h2 hQ
   ·rename_i hw;rw[if_neg hw]at h2;exact⟨fun _ _=>trivial,ih _ _ _ h2⟩
theorem uV{b n id:Nat}{P:Program}{l:List Oper}{Q:Exit->Act->World->Prop}{a:Act}{w:World}(pl:List (List Nat×Nat×List Nat))(e:List Nat)(hm:P.follows .mixedOrders=true)(hn:l.toArray.all nG=true)(hQ:¬LetsOut Q)(hB:II l (lin pl e).1 (lin pl e).2=true)(h:∀W,(∀{F G:HF} {b:World},Turns F G b w->Turns F G b W)->Mix P l (fun a w=>Q .normal a w) pl e a W):(Code.region id l.toArray true).wpIn (Fence.wide.inRound b) n P Q a w :=
 wpIn_region_any hm (Jn hn hQ _ _ _ _ (Ea _ _ hB (yi (h _ fun h=>h.drew))))
theorem aP{w:World}{b e n:Nat}{v:Value}{xs:List Value}(h:w.ownsRow b e 1 v n xs):∃a cap,v=.slice a n cap/\xs.length=n/\n<=cap/\al w a xs/\∀x,a=some x->v.ownBlock=some x.block:=by
 have hl:xs.length=n:=by simpa using h.1
 rcases h.2 with⟨rfl,rfl⟩|⟨g,cap,cur,rfl,hb,hg,hnc,hcm,hcs,htk⟩
 ·exact⟨none,0,rfl,hl,Nat.le_refl _,fun hp=>by omega,fun x hx=>by cases hx⟩
 ·refine⟨_,cap,rfl,hl,hnc,fun _=>⟨g,0,rfl,fun j hj=>?_⟩,fun x hx=>by simp at hx;subst hx;rfl⟩;rw[Nat.zero_add];refine aa hg j ?_;have:(cur.toList.take (n*1))[j]?=some xs[j]:=by rw[htk];simp[hj]
  rw[getElem?_take]at this;split at this
  ·simpa using this
  ·cases this
theorem uD{P:Program}{w:World}(t ty e:TypeId)(i:TypeInfo)(z:Value)(size bytes:Nat)(ht:P.underlying t=some (.slice e))(hi:P.info? e=some i)(hz:i.zero=some z)(hsize:i.size=size)(hby:i.bytes=bytes)(hzs:z.cells.size=size)(hs0:0<size)(v:Value)(n:Nat)(xs:List Value)(hown:w.ownsRow 0 e size v n xs)(sa:Option Addr)(m c:Nat)(news:List Value)(hnl:news.length=m*size)(hnews:0<m->∃ad,sa=some ad/\∀j u,news[j]?=some u->w.cell? (ad.add j)=some u)(h1:∀u∈news,u.oneCell'=true)(h63:n+m<=maxLen)(hbytes:(n+m)*bytes<=140737488355328):
  ∃v' w',(Builtin.append_ #[t,t] ty #[v,.slice sa m c]).run P w=.ok v' w'/\w'.ownsRow 0 e size v' (n+m) (xs++news)/\w.grownBy w' v.ownBlock/\(∀g,v'.ownBlock=some g->v.ownBlock=some g\/w.heap.size<=g)/\(v'=.slice none 0 0↔v=.slice none 0 0/\m=0):=by
 rcases Nat.eq_zero_or_pos m with rfl|hp
 ·obtain rfl:news=[]:=eq_nil_of_length_eq_zero (by omega);exact⟨v,w,mt (P:=P) w t ty e i size ht hi v n xs hown sa c,by simpa using hown,⟨rfl,rfl,rfl,Nat.le_refl _,fun _ _ _=>rfl⟩,fun g h=>.inl h,by simp⟩
 ·obtain⟨ad,rfl,hc⟩:=hnews hp;obtain⟨v',w',r,r1,r2,r3,r4⟩:=jg (P:=P) w t ty e i z size bytes ht hi hz hsize hby hzs hs0 v n xs hown ad m c news hnl hc h1 h63 hbytes;exact⟨v',w',r,r1,r2,r4,r3⟩
theorem cI{P:Program}{o:Oper}{a:Act}{w a0:World}{K:Act->World->Prop}{Q:Exit->Act->World->Prop}{F G:HF}(s x:Operand)(t e:TypeId)(i:TypeInfo)(z:Value)(size bytes:Nat)(hop:o.op=.call { callee:=.builtin .append,args:=#[s,x],argTypes:=#[t,t] })(ht:P.underlying t=some (.slice e))(hi:P.info? e=some i)(hz:i.zero=some z)(hsize:i.size=size)(hby:i.bytes=bytes)(hzs:z.cells.size=size)(hs0:0<size)(v:Value)(n:Nat)(xs:List Value)(hs:a.eval s=v)(hT:Turns F (bN e size v n xs++G) a0 w)(hok:eE size v n xs)(sa:Option Addr)(m c:Nat)(hx:a.eval x=.slice sa m c)(news:List Value)(hnl:news.length=m*size)(hnews:0<m->∃ad,sa=some ad/\∀j u,news[j]?=some u->w.cell? (ad.add j)=some u)(h1:∀u∈news,u.oneCell'=true)(h63:n+m<=maxLen)(hbytes:(n+m)*bytes<=140737488355328)(hk:∀v' w',eE size v' (n+m) (xs++news)->Turns F (bN e size v' (n+m) (xs++news)++G) a0 w'->(v'=.slice none 0 0↔v=.slice none 0 0/\m=0)->K (a.put o.dst v') w'):o.wp P a w K Q:=by
 obtain⟨v',w',hr,r1,r2,r3,r4⟩:=uD (P:=P) t o.type e i z size bytes ht hi hz hsize hby hzs hs0 v n xs (aR hT.sat.left hok) sa m c news hnl hnews h1 h63 hbytes;unfold Oper.wp execOp;simp only[hop,resolve,invoke,builtin,Sem.run_bind,Sem.run_pure,Result.andThen_ok,map_toArray,map_cons,map_nil,hs,hx,hr];exact hk v' w' (gl r1).2 (hT.grow r1 r2 r3) r4
theorem go{o:Oper}{a:Act}{w a0:World}{K:Act->World->Prop}{Q:Exit->Act->World->Prop}{F G:HF}(s x:Operand)(hop:o.op=.call { callee:=.builtin .append,args:=#[s,x],argTypes:=#[38,38] })(v:Value)(l:Bs)(hs:a.eval s=v)(hT:Turns F (aI v l++G) a0 w)(hok:bOk v l)(sa:Option Addr)(m c:Nat)(hx:a.eval x=.slice sa m c)(r:Bs)(hm:m=r.length)(hc:al w sa (r.map am))(hb:l.length+r.length<=137438953472)(hk:∀av cv w',bOk (.slice av (l++r).length cv) (l++r)->Turns F (aI (.slice av (l++r).length cv) (l++r)++G) a0 w'->(av=none->v=.slice none 0 0/\m=0)->K (a.put o.dst (.slice av (l++r).length cv)) w'):o.wp Tryz.prog a w K Q:=by
 obtain⟨i0,hi0,hz1,hz2,hz3⟩:=info_parts j5;refine cI s x 38 5 i0 (.int .u8 0) 1 1 hop Tryz.underlying38 hi0 hz1 hz2 hz3 rfl (by decide) v l.length (l.map am) hs hT hok sa m c hx (r.map am) (by simp[hm]) (fun hp=>?_) (dA _) (by unfold maxLen;omega) (by omega) (fun v' w' h1 h2 h3=>?_)
 ·obtain⟨g,off,e,hcc⟩:=hc (by simp;omega);exact⟨_,e,fun j u hu=>by obtain⟨hj,rfl⟩:=List.getElem?_eq_some_iff.1 hu;rw[Addr.add_lit];exact hcc j hj⟩
 ·have k1:bOk v' (l++r):=by unfold bOk;rw[length_append,map_append,<- hm];exact h1
  have k2:Turns F (aI v' (l++r)++G) a0 w':=by unfold aI;rw[length_append,map_append,<- hm];exact h2
  obtain⟨av,cv,rfl,-,-,-,-⟩:=aP (dr k2.sat.left k1)
  exact hk av cv w' k1 k2 (fun hn=>by
   subst hn;refine h3.1 ?_;have:=k1.2 rfl;exact this.1)
theorem ai{P:Program}{ops:Array Oper}{rest:List Oper}{o:Oper}{a:Act}{w:World}{Q:Exit->Act->World->Prop}(hg:o.guard=none)(h:o.wp P a w (wpList P ops Q rest) Q):wpList P ops Q (o::rest) a w:=by
 unfold wpList;rw[if_pos (by simp[Region.wanted,hg])];exact .inl h
theorem Turns.old{F G:HF}{a w:World}(h:Turns F G a w){b:Nat}{o:Obj}(hb:a.heap[b]?=some o)(hn:b∉dom F):w.heap[b]?=some o:=h.mods.at hb hn
theorem al.Qc{F G:HF}{w w':World}{a:Option Addr}{xs:List Value}(h:al w a xs)(hT:Turns F G w w')(hn:∀x,a=some x->x.block∉dom F):al w' a xs:=h.keep hT.mods (fun g off e=>hn ⟨g,off,none⟩ e)
abbrev str(l:List UInt8):Value:=.string ⟨l.toArray⟩
def Dj(c:UInt8):Bool:=(97<=c.toNat&&c.toNat<=122) || (48<=c.toNat&&c.toNat<=57) || c.toNat==46 || c.toNat==45 || c.toNat==95
def kS(x:Nat):Bool:=(decide (97<=x)&&decide (x<=122)) || (decide (48<=x)&&decide (x<=57)) || x==46 || x==45 || x==95
theorem uu(c:UInt8):Dj c=kS c.toNat:=rfl
def ej:Nat->List UInt8->Bool
 | m,[]=>decide (0<m)
 | m,c::r=>if c.toNat=47/\0<m then ej 0 r else if Dj c then ej (m+1) r else false
def aw(l:List UInt8):Bool:=decide (l≠[])&&decide (l.length<=20)&&ej 0 l
theorem yB{P:Program}(w:World)(s:ByteArray)(pos:Nat)(ty:TypeId)(h:pos<s.size):
  (Instr.next (.pointer (some ⟨w.heap.size,0,none⟩)) true ty).run P (w.iter s pos) =
   .ok (.tuple #[.bool true,.int .i64 pos,.int .i32 ((Utf8.decode s pos).1:Nat)]) (w.iter s (pos+(Utf8.decode s pos).2)):=by
 simp only[Instr.next,getObj,setObj,Sem.run_bind,Sem.run,World.iter_heap,Result.andThen,h,if_true,World.iter_set];simp[goInt]
theorem zS(s:ByteArray)(pos:Nat)(h:pos<s.size)(ha:¬(s[pos]'h).toNat<128):128<=(Utf8.decode s pos).1:=by
 have e:s.get! (pos+0)=s[pos]'h:=by
  show s.get! pos=_;simp[ByteArray.get!,getElem!_pos,h];rfl
 unfold Utf8.decode;simp only[e];rw[if_neg ha];split
 ·split
  ·simp only;omega
  ·simp[Utf8.runeError]
 split
 ·split
  ·rename_i h1;simp only[Bool.and_eq_true,decide_eq_true_eq,ge_iff_le]at h1;simp only;omega
  ·simp[Utf8.runeError]
 split
 ·split
  ·rename_i h1;simp only[Bool.and_eq_true,decide_eq_true_eq,ge_iff_le]at h1;simp only;omega
  ·simp[Utf8.runeError]
 ·simp[Utf8.runeError]
def fU(b:Bool)(w:World)(e:Ending)(w':World):Prop:=e=.returned (.bool b)/\aX w w'
theorem yg(s:ByteArray)(w:World)(h:s.toList=[]):Calls Tryz.prog 122 #[.string s] w (fU false w):=by
 have h2:s.toList.isEmpty=true:=by rw[h];rfl
 go_enter Tryz.func122,Tryz.ntmps122;go_wp2_with fail;go_ret;exact ⟨rfl,Mods.refl _ _⟩
theorem Au(s:ByteArray)(w:World)(h:¬s.toList=[])(hl:¬(s.size:Int)<=20):Calls Tryz.prog 122 #[.string s] w (fU false w):=by
 have h2:s.toList.isEmpty=false:=by cases h':s.toList;exact absurd h' h;rfl
 have h3:(20:Int)<(s.size:Int):=by omega
 go_enter Tryz.func122,Tryz.ntmps122;go_wp2_with fail;go_ret;exact ⟨rfl,Mods.refl _ _⟩
theorem nF{w a:World}(h:aX a w)(s:ByteArray)(p:Nat):aX a (w.iter s p):=h.alloc _
def Jz(s:ByteArray)(w:World)(B:Bool)(v:Value)(wr:World):Prop :=
 ∃k m:Nat,k<=s.size/\m<=k/\v=.int .i64 m/\wr=w.iter s k/\ej m (s.data.toList.drop k)=B
theorem C6(s:ByteArray)(w:World)(h:¬s.toList=[])(hl:(s.size:Int)<=20):Calls Tryz.prog 122 #[.string s] w (fU (ej 0 s.data.toList) w):=by
 have h2:s.toList.isEmpty=false:=by cases h':s.toList;exact absurd h' h;rfl
 have h3:¬(20:Int)<(s.size:Int):=by omega
 go_enter Tryz.func122,Tryz.ntmps122;go_wp2_with fail;go_loopw [3] (fun v wr=>Jz s w (ej 0 s.data.toList) v wr) (fun _ wr=>s.size-wr.iterPos w.heap.size)
 case atStart=>exact⟨0,0,Nat.zero_le _,Nat.le_refl _,rfl,rfl,by simp⟩
 case round =>
  obtain⟨k,m,hk,hm,rfl,rfl,hB⟩:=hrel;have HB:=qqH hB;clear hB h h2 h3;by_cases hlt:k<s.size
  ·have hnx:=fun ty=>yB (P:=Tryz.prog) w s k ty hlt
   have hsl:s.data.toList.length=s.size:=by simp
   have hdr:s.data.toList.drop k=s[k]::s.data.toList.drop (k+1):=by
    rw[drop_eq_getElem_cons (by omega)];rfl
   have HD:=qqH hdr;clear hdr;by_cases ha:s[k].toNat<128
   ·have hdc:=decode_ascii s k hlt ha;obtain⟨x,hx⟩:∃x,s[k].toNat=x:=⟨_,rfl⟩;simp only[hdc,hx]at hnx;have HX:=qqH hx;rw[hx]at ha;clear hdc hx hsl
    have hB2:(if x=47/\0<m then ej 0 (s.data.toList.drop (k+1))else if kS x then ej (m+1) (s.data.toList.drop (k+1))else false)=ej 0 s.data.toList:=by
     have:=HB.out;rw[HD.out,ej,HX.out,uu,HX.out]at this;exact this
    have HB2:=qqH hB2;clear hB2 HB;have hm1:(m:Int)<=9223372036854775806:=by omega
    by_cases c1:x=47
    ·subst c1;by_cases hm0:0<m
     ·have HB3:=qqH HB2.out;have hm2:(0:Int)<(m:Int):=by omega
      go_wp2_with fail;go_roundw
      case rel=>exact⟨k+1,0,by omega,by omega,rfl,rfl,by have:=HB3.out;rwa [if_pos ⟨rfl,hm0⟩]at this⟩
      case measure=>simp;omega
     ·obtain rfl:m=0:=by omega
      have HB3:=qqH HB2.out;go_wp2_with fail;go_ret;refine ⟨?_,nF (Mods.refl _ w) _ _⟩;have:=HB3.out;rw[if_neg (by omega),if_neg (by decide)]at this;rw[<- this];rfl
    ·by_cases c2:kS x=true
     ·have HC2:=qqH c2;have hne:¬(x:Int)=47:=by omega
      have hp:(97<=x/\x<=122)\/(48<=x/\x<=57)\/x=46\/x=45\/x=95:=by
       unfold kS at c2;simp only[Bool.or_eq_true,Bool.and_eq_true,decide_eq_true_eq,beq_iff_eq]at c2;omega
      clear c2;rcases hp with hp|hp|hp|hp|hp
      all_goals first|subst hp|(obtain⟨hp1,hp2⟩:=hp;have hp3:(x:Int)<=122:=by omega)
      all_goals go_wp2_with fail
      all_goals
       go_roundw
       case rel=>exact⟨k+1,m+1,by omega,by omega,by go_num,rfl,by have:=HB2.out;rwa [if_neg (by omega),if_pos HC2.out]at this⟩
       case measure=>simp;omega
     ·have HC2:=qqH c2
      have hp:¬(97<=x/\x<=122)/\¬(48<=x/\x<=57)/\¬x=46/\¬x=45/\¬x=95:=by
       unfold kS at c2;simp only[Bool.or_eq_true,Bool.and_eq_true,decide_eq_true_eq,beq_iff_eq]at c2;omega
      obtain⟨hp1,hp2,hp3,hp4,hp5⟩:=hp;clear c2;go_wp2_with fail;go_ways
      all_goals
       go_ret;refine ⟨?_,nF (Mods.refl _ w) _ _⟩;have:=HB2.out;rw[if_neg (by omega),if_neg HC2.out]at this;rw[<- this];rfl
   ·have hdc:=zS s k hlt ha;generalize hc:(Utf8.decode s k).1=c at hdc hnx
    have hB2:false=ej 0 s.data.toList:=by
     have:=HB.out;rw[HD.out]at this;simp only[ej]at this;rw[if_neg (fun h=>ha (by omega))]at this
     have hp:Dj s[k]=false:=by
      rw[uu];unfold kS;generalize s[k].toNat=y at ha;simp only[Bool.or_eq_false_iff,Bool.and_eq_false_iff,decide_eq_false_iff_not,beq_eq_false_iff_ne];omega
     rw[hp]at this;exact this
    have HB2:=qqH hB2;clear hB2 HB HD ha;have e47:¬(c:Int)=47:=by omega
    have e1:(97:Int)<=c:=by omega
    have e2:¬(c:Int)<=122:=by omega
    have e3:(48:Int)<=c:=by omega
    have e4:¬(c:Int)<=57:=by omega
    have e5:¬(c:Int)=46:=by omega
    have e6:¬(c:Int)=45:=by omega
    have e7:¬(c:Int)=95:=by omega
    go_wp2_with fail;go_ways
    all_goals
     go_ret;refine ⟨?_,nF (Mods.refl _ w) _ _⟩;rw[<- HB2.out];rfl
  ·obtain rfl:k=s.size:=by omega
   have hnx:=fun ty=>run_next_end (P:=Tryz.prog) w s s.size ty hlt
   have hB3:decide (0<m)=ej 0 s.data.toList:=by
    have:=HB.out;rw[drop_of_length_le (by simp)]at this;exact this
   have HB3:=qqH hB3;clear hB3 HB;go_wp2_with fail;refine bodyPost_end (results_tmp rfl _ _ _) rfl ⟨?_,nF (Mods.refl _ w) _ _⟩;rw[<- HB3.out];simp
theorem yf(l:List UInt8)(w:World):Calls Tryz.prog 122 #[str l] w (fU (aw l) w):=by
 unfold aw;by_cases h0:l=[]
 ·subst h0;exact yg _ w ((toList_nil_iff_emptyBytes _).2 rfl)
 have hne:¬(⟨l.toArray⟩:ByteArray).toList=[]:=by
  intro h;apply h0;have:=congrArg (fun b:ByteArray=>b.data.toList) ((toList_nil_iff_emptyBytes _).1 h);simpa using this
 have hsz:(⟨l.toArray⟩:ByteArray).size=l.length:=by simp[ByteArray.size]
 by_cases h1:l.length<=20
 ·have:=C6 ⟨l.toArray⟩ w hne (by rw[hsz];omega);simpa[h0,h1]using this
 ·have:=Au ⟨l.toArray⟩ w hne (by rw[hsz];omega);simpa[h0,h1]using this
def EX(ob:Nat)(body:Bs)(w:World)(e:Ending)(w':World):Prop :=
 e=.returned .nilIface/\∃v,bOk v body/\Turns [(ob,Is (.cells #[.slice none 0 0] 38 (0,0)))] ((ob,Is (.cells #[v] 38 (0,0)))::aI v body) w w'
theorem AE(a:Option Addr)(cap:Nat)(b body:Bs)(at_ pb xb ob:Nat)(w:World)(h:al w a (b.map am))(hl:b.length<=1099511627776)(hcap:b.length<=cap)(ho:bM b=some (1,body,body.length+9))(hp:w.heap[pb]?=some (.cells #[.int .i64 at_,.int .i64 body.length] 161 (0,0)))(hob:w.heap[ob]?=some (.cells #[.slice none 0 0] 38 (0,0)))(hpo:pb≠ob)(hao:∀x,a=some x->x.block≠ob):
  Calls Tryz.prog 131 #[.slice a b.length cap,.pointer (some ⟨pb,0,none⟩),.pointer (some ⟨xb,0,none⟩),.pointer (some ⟨ob,0,none⟩)] w (EX ob body w):=by
 have hop:=je a cap b w h hl hcap;unfold dS at hop;rw[ho]at hop;have hbl:body.length<65536:=(dx ho).2.2.2.2;have HO:=qqH hop;have HH:=Hq4 hp hob hpo hao;clear h hl hcap hop hp hob hpo hao;go_enter Tryz.func131,Tryz.ntmps131;go_wp2_with fail;refine HO.out.mono ?_;rintro e w1 ⟨a',rfl,hca,hab,hs1⟩;have p1:=aa (hs1.at HH.a id) 1 rfl;have o0:=aa (hs1.at HH.b id) 0 rfl;have of:=bf (hs1.at HH.b id) 0;have hT1:Turns [(ob,Is (.cells #[.slice none 0 0] 38 (0,0)))] (aI (.slice none 0 0) []++[(ob,Is (.cells #[.slice none 0 0] 38 (0,0)))]) w w1:=(Turns.refl (Sat.one HH.b Is.rfl)).Q9 hs1;have H1:=Hq2 hT1 hca;clear hs1 hca hab hT1;go_wp2_with ((refine ai rfl (go (.tmp 38) (.tmp 39) rfl (.slice none 0 0) [] rfl H1.a jy a' body.length body.length rfl body rfl H1.z (by simp;omega) ?_));intro av cv w2 hok2 hT2 _;rw[nil_append]at hok2 hT2 ⊢;have o2:=aa (hT2.sat.right.Q5) 0 rfl;have of2:=bf (hT2.sat.right.Q5) 0;have H2:=Hq2 hok2 hT2;clear hok2 hT2);go_ret;refine⟨rfl,.slice av body.length cv,H2.a,?_⟩;have h3:=H2.z.to (H:=(ob,Is (.cells #[.slice none 0 0] 38 (0,0)))::aI (.slice av body.length cv) body) ae;exact h3.Qa ((Mods.refl (fun k=>k=ob) w2).set1 (i:=0) _) (bB h3.sat.Q5 0 _)
end
section
open Go.RowKit Go.Maps
structure Ent (κ:Type) where
 key:κ
 val:Value
 born:Nat
section
variable {κ:Type} [DecidableEq κ]
set_option linter.unusedSectionVars false
def dG(enc:κ->Value)(e:Ent κ):MapEntry:=⟨enc e.key,e.val,e.born⟩
def aQ(enc:κ->Value)(l:List (Ent κ))(c:Nat):Obj:=.map (l.map (dG enc)).toArray c
def dB(l:List (Ent κ))(k:κ):Option Value:=(l.find? (fun e=>decide (e.key=k))).map (·.val)
def ix(l:List (Ent κ))(k:κ):Bool:=l.any (fun e=>decide (e.key=k))
def q8(l:List (Ent κ))(k:κ)(v:Value):List (Ent κ):=l.map (fun e=>if e.key=k then { e with val:=v } else e)
def gA(l:List (Ent κ))(c:Nat)(k:κ)(v:Value):List (Ent κ):=if ix l k then q8 l k v else l++[⟨k,v,c⟩]
def cw(l:List (Ent κ))(c:Nat)(k:κ):Nat:=if ix l k then c else c+1
def xS(l:List (Ent κ))(k:κ):List (Ent κ):=l.filter (fun e => !decide (e.key=k))
structure MapOk (Ok:κ->Prop) (l:List (Ent κ)) (c:Nat):Prop where
 nodup:(l.map (·.key)).Nodup
 borns:(l.map (·.born)).Nodup
 lt:∀e∈l,e.born<c
 ok:∀e∈l,Ok e.key
structure EncOk (P:Program) (k:TypeId) (enc:κ->Value) (Ok:κ->Prop):Prop where
 keyed:Keyed P k
 inj:∀a b,enc a=enc b->a=b
 key:∀a,Ok a->∃l,keyOf P k (enc a)=some l
theorem lk{l:List (Ent κ)}{k:κ}{v:Value}(h:dB l k=some v):∃e∈l,e.key=k/\e.val=v:=by
 unfold dB at h
 cases hf:l.find? (fun e=>decide (e.key=k))with
 | none=>rw[hf]at h;simp at h
 | some e =>
  rw[hf]at h;have h1:=find?_some hf;exact⟨e,mem_of_find?_eq_some hf,by simpa using h1,by simpa using h⟩
theorem gw{l:List (Ent κ)}{k:κ}:dB l k=none↔∀e∈l,e.key≠k:=by
 unfold dB;simp
theorem iy{l:List (Ent κ)}{k:κ}:ix l k=true↔∃e∈l,e.key=k:=by simp[ix]
theorem gI{l:List (Ent κ)}{k:κ}:ix l k=(dB l k).isSome:=by
 cases h:dB l k with
 | none=>rw[gw]at h;simp[ix];exact h
 | some v=>obtain⟨e,h1,h2,_⟩:=lk h;simp[ix];exact⟨e,h1,h2⟩
theorem qK{l:List (Ent κ)}(h:(l.map (·.key)).Nodup){i j:Nat}{a b:Ent κ}(ha:l[i]?=some a)(hb:l[j]?=some b)(hk:a.key=b.key):i=j:=by
 obtain⟨hi,rfl⟩:=List.getElem?_eq_some_iff.1 ha;obtain⟨hj,rfl⟩:=List.getElem?_eq_some_iff.1 hb;have hp:=pairwise_iff_getElem.1 h;rcases Nat.lt_trichotomy i j with hl|hl|hl
 ·exact absurd (by rw[getElem_map,getElem_map];exact hk) (hp i j (by simpa using hi) (by simpa using hj) hl)
 ·exact hl
 ·exact absurd (by rw[getElem_map,getElem_map];exact hk.symm) (hp j i (by simpa using hj) (by simpa using hi) hl)
theorem pV{l:List (Ent κ)}(h:(l.map (·.key)).Nodup){e:Ent κ}(he:e∈l):dB l e.key=some e.val:=by
 cases hg:dB l e.key with
 | none=>exact absurd rfl (gw.1 hg e he)
 | some v =>
  obtain⟨e',h1,h2,h3⟩:=lk hg;obtain⟨i,hi⟩:=mem_iff_getElem?.1 he;obtain⟨j,hj⟩:=mem_iff_getElem?.1 h1;have:=qK h hj hi h2;subst this;rw[hi]at hj
  cases hj
  rw[<- h3]
theorem mL{P:Program}{k:TypeId}{enc:κ->Value}{Ok:κ->Prop}(E:EncOk P k enc Ok){l:List (Ent κ)}{c:Nat}(hm:MapOk Ok l c){x:κ}(hx:Ok x)(w:World):
  ((Instr.findKey k (enc x) (l.map (dG enc))).run P w=.ok none w/\∀e∈l,e.key≠x) \/
  ∃i e,(Instr.findKey k (enc x) (l.map (dG enc))).run P w=.ok (some (i,e.val)) w/\l[i]?=some e/\e.key=x:=by
 obtain⟨lx,hlx⟩:=E.key x hx
 rcases E.keyed.find w hlx (l.map (dG enc)) (fun e he=>by
  obtain⟨e',h1,rfl⟩:=mem_map.1 he;exact E.key e'.key (hm.ok e' h1))with⟨h1,h2⟩|⟨j,e,h1,h2,h3⟩
 ·exact .inl ⟨h1,fun e he hk=>h2 (dG enc e) (mem_map.2 ⟨e,he,rfl⟩) (by rw[<- hk];rfl)⟩
 ·rw[getElem?_map]at h2
  cases hl:l[j]? with
  | none=>rw[hl]at h2;simp at h2
  | some e' =>
   rw[hl]at h2;simp only[Option.map_some,Option.some.injEq]at h2;subst h2;exact .inr ⟨j,e',h1,hl,E.inj _ _ h3⟩
variable {P:Program} {k t ev:TypeId} {enc:κ->Value} {Ok:κ->Prop}
theorem uH(E:EncOk P k enc Ok)(ht:P.underlying t=some (.map k ev)){w:World}{b:Nat}{l:List (Ent κ)}{c:Nat}(hb:w.heap[b]?=some (aQ enc l c))(hm:MapOk Ok l c){z:Value}(hz:(zeroValue ev).run P w=.ok z w){x:κ}(hx:Ok x):
  (Instr.lookup t (.map (some b)) (enc x) false).run P w=.ok ((dB l x).getD z) w:=by
 obtain⟨lx,hlx⟩:=E.key x hx;rcases mL E hm hx w with⟨h1,h2⟩|⟨i,e,h1,h2,h3⟩
 ·rw[gw.2 h2];simp[Instr.lookup,run_underlying ht,MapKept.run_getObj_map hb,E.keyed.check w _ hlx,h1,hz,Result.andThen]
 ·subst h3;rw[pV hm.nodup (mem_of_getElem? h2)];simp[Instr.lookup,run_underlying ht,MapKept.run_getObj_map hb,E.keyed.check w _ hlx,h1,Result.andThen]
theorem uI(E:EncOk P k enc Ok)(ht:P.underlying t=some (.map k ev)){w:World}{b:Nat}{l:List (Ent κ)}{c:Nat}(hb:w.heap[b]?=some (aQ enc l c))(hm:MapOk Ok l c){z:Value}(hz:(zeroValue ev).run P w=.ok z w){x:κ}(hx:Ok x):
  (Instr.lookup t (.map (some b)) (enc x) true).run P w=.ok (.tuple #[(dB l x).getD z,.bool (ix l x)]) w:=by
 obtain⟨lx,hlx⟩:=E.key x hx;rw[gI];rcases mL E hm hx w with⟨h1,h2⟩|⟨i,e,h1,h2,h3⟩
 ·rw[gw.2 h2];simp[Instr.lookup,run_underlying ht,MapKept.run_getObj_map hb,E.keyed.check w _ hlx,h1,hz,Result.andThen]
 ·subst h3;rw[pV hm.nodup (mem_of_getElem? h2)];simp[Instr.lookup,run_underlying ht,MapKept.run_getObj_map hb,E.keyed.check w _ hlx,h1,Result.andThen]
open Go.ChangeMaps (setBlock modify_eq_set)
theorem EI{l:List (Ent κ)}(h:(l.map (·.key)).Nodup){i:Nat}{e:Ent κ}(hi:l[i]?=some e)(v:Value):l.set i { e with val:=v }=q8 l e.key v:=by
 apply ext_getElem?;intro j;unfold q8;rw[getElem?_set,getElem?_map];by_cases hj:i=j
 ·subst hj;obtain⟨hlt,he⟩:=List.getElem?_eq_some_iff.1 hi;simp[hlt,he]
 ·rw[if_neg hj]
  cases hl:l[j]? with
  | none=>rfl
  | some e' =>
   have:e'.key≠e.key:=fun hk=>hj (qK h hi hl hk.symm)
   simp[this]
theorem Gj(E:EncOk P k enc Ok)(ht:P.underlying t=some (.map k ev)){w:World}{b:Nat}{l:List (Ent κ)}{c:Nat}(hb:w.heap[b]?=some (aQ enc l c))(hm:MapOk Ok l c){x:κ}(hx:Ok x)(v:Value):
  (Instr.mapUpdate t (.map (some b)) (enc x) v).run P w=.ok () (setBlock w b (aQ enc (gA l c x v) (cw l c x))):=by
 obtain⟨lx,hlx⟩:=E.key x hx;unfold gA cw;rcases mL E hm hx w with⟨h1,h2⟩|⟨i,e,h1,h2,h3⟩
 ·have hh:ix l x=false:=by rw[gI,gw.2 h2];rfl
  simp[hh,Instr.mapUpdate,run_underlying ht,MapKept.run_getObj_map hb,E.keyed.check w false hlx,h1,MapKept.run_setObj_map _ hb,Result.andThen,setBlock,aQ,dG]
 ·subst h3;have hh:ix l e.key=true:=iy.2 ⟨e,mem_of_getElem? h2,rfl⟩;have hj:(l.map (dG enc)).toArray[i]?=some (dG enc e):=by simp[h2]
  have hlist:(l.map (dG enc)).modify i (fun e'=>{ e' with key:=enc e.key,val:=v })=(q8 l e.key v).map (dG enc):=by
   rw[modify_eq_set _ _ _ (dG enc e) (by simp[h2]),<- EI hm.nodup h2 v,map_set];rfl
  simp[hh,Instr.mapUpdate,run_underlying ht,MapKept.run_getObj_map hb,E.keyed.check w false hlx,h1,h2,dG,E.keyed.stays w hlx,MapKept.run_setObj_map _ hb,Result.andThen,setBlock,aQ];rw[<- hlist]
theorem EG{ty:TypeId}(E:EncOk P k enc Ok)(ht:P.underlying t=some (.map k ev)){w:World}{b:Nat}{l:List (Ent κ)}{c:Nat}(hb:w.heap[b]?=some (aQ enc l c))(hm:MapOk Ok l c){x:κ}(hx:Ok x):
  (Builtin.delete_ #[t,k] ty #[.map (some b),enc x]).run P w=.ok (.tuple #[]) (setBlock w b (aQ enc (xS l x) c)):=by
 obtain⟨lx,hlx⟩:=E.key x hx;unfold xS;rcases mL E hm hx w with⟨h1,h2⟩|⟨i,e,h1,h2,h3⟩
 ·have:l.filter (fun e => !decide (e.key=x))=l:=filter_eq_self.2 (fun e he=>by simp[h2 e he]);rw[this];simp[Builtin.delete_,run_underlying ht,MapKept.run_getObj_map hb,E.keyed.check w _ hlx,h1,MapKept.run_setObj_map _ hb,Result.andThen,setBlock,aQ]
 ·subst h3;have hil:i<l.length:=(List.getElem?_eq_some_iff.1 h2).1
  have hlist:(l.map (dG enc)).eraseIdx i=(l.filter (fun e' => !decide (e'.key=e.key))).map (dG enc):=by
   have e1:l.filter (fun e' => !decide (e'.key=e.key))=l.eraseIdx i:=by
    have:=ChangeMaps.filter_eq_eraseIdx (fun e':Ent κ=>decide (e'.key=e.key)) l i e h2 (by simp) (by
     refine(pairwise_map.1 hm.nodup).imp ?_;intro a b hab hk;simp only[decide_eq_true_eq]at hk;exact hab (hk.1.trans hk.2.symm))
    exact this
   rw[e1,ChangeMaps.map_eraseIdx]
  simp[Builtin.delete_,run_underlying ht,MapKept.run_getObj_map hb,E.keyed.check w _ hlx,h1,MapKept.run_setObj_map _ hb,Result.andThen,setBlock,aQ];rw[<- hlist]
theorem vT(P:Program)(w:World)(k:IntKind)(n:Int):(asInt (.int k n)).run P w=.ok n w:=rfl
def AH(l:List (Ent κ))(c:Nat)(k:κ)(z:Value):List (Ent κ):=if ix l k then l else l++[⟨k,z,c⟩]
theorem pQ{l:List (Ent κ)}(h:(l.map (·.born)).Nodup)(enc:κ->Value){i:Nat}{e:Ent κ}(hi:l[i]?=some e):(l.map (dG enc)).findIdx? (fun e'=>(e'.born:Int)==(e.born:Int))=some i:=by
 obtain⟨hlt,he⟩:=List.getElem?_eq_some_iff.1 hi;rw[findIdx?_eq_some_iff_getElem];refine⟨by simpa using hlt,by simp[dG,he],?_⟩;intro j hj;simp only[getElem_map,dG,beq_iff_eq,Int.natCast_inj];intro hb;have hp:=pairwise_iff_getElem.1 h j i (by simp;omega) (by simpa using hlt) hj;exact hp (by simp[hb,he])
def pG(l:List (Ent κ))(c:Nat)(k:κ):Nat:=match l.find? (fun e=>decide (e.key=k))with|some e=>e.born|none=>c
theorem Cv{l:List (Ent κ)}{c:Nat}{k:κ}(h:∀e∈l,e.key≠k):pG l c k=c:=by
 unfold pG;have:l.find? (fun e=>decide (e.key=k))=none:=by rw[find?_eq_none];intro e he;simpa using h e he
 rw[this]
theorem Cw{l:List (Ent κ)}{c:Nat}(h:(l.map (·.key)).Nodup){i:Nat}{e:Ent κ}(hi:l[i]?=some e):pG l c e.key=e.born:=by
 unfold pG
 cases hf:l.find? (fun e'=>decide (e'.key=e.key))with
 | none=>rw[find?_eq_none]at hf;exact absurd (hf e (mem_of_getElem? hi)) (by simp)
 | some e' =>
  obtain⟨j,hj⟩:=mem_iff_getElem?.1 (mem_of_find?_eq_some hf);have hk:e'.key=e.key:=by simpa using find?_some hf
  have:=qK h hj hi hk;subst this;rw[hi]at hj
  cases hj
  rfl
theorem xe(E:EncOk P k enc Ok)(ht:P.underlying t=some (.map k ev)){w:World}{b:Nat}{l:List (Ent κ)}{c:Nat}(hb:w.heap[b]?=some (aQ enc l c))(hm:MapOk Ok l c){z:Value}(hz:(zeroValue ev).run P w=.ok z w){x:κ}(hx:Ok x):
  (Instr.mapEntry t (.map (some b)) (enc x)).run P w=.ok (.tuple #[(dB l x).getD z,.int .i64 (pG l c x)]) (setBlock w b (aQ enc (AH l c x z) (cw l c x))) /\
   ∀(W:World) (v:Value),W.heap[b]?=some (aQ enc (AH l c x z) (cw l c x))->(Instr.entryStore t (.map (some b)) (.int .i64 (pG l c x)) v).run P W=.ok () (setBlock W b (aQ enc (gA l c x v) (cw l c x))):=by
 obtain⟨lx,hlx⟩:=E.key x hx;unfold gA cw AH;rcases mL E hm hx w with⟨h1,h2⟩|⟨i,e,h1,h2,h3⟩
 ·have hh:ix l x=false:=by rw[gI,gw.2 h2];rfl
  rw[gw.2 h2,Cv h2];refine⟨?_,?_⟩
  ·simp[hh,Instr.mapEntry,run_underlying ht,MapKept.run_getObj_map hb,E.keyed.check w false hlx,h1,hz,MapKept.run_setObj_map _ hb,Result.andThen,setBlock,aQ,dG,goInt]
  ·intro W v hW;simp only[hh]at hW ⊢
   have hn:((l++[(⟨x,z,c⟩:Ent κ)]).map (·.born)).Nodup:=by
    rw[map_append,nodup_append];refine⟨hm.borns,by simp,?_⟩;intro a ha b hb;obtain⟨e,he,rfl⟩:=mem_map.1 ha;simp only[map_cons,map_nil,mem_singleton]at hb;have:=hm.lt e he;omega
   have hf:=pQ hn enc (i:=l.length) (e:=⟨x,z,c⟩) (by simp);have hf2:((l++[(⟨x,z,c⟩:Ent κ)]).map (dG enc)).toArray.findIdx? (fun e'=>(e'.born:Int)==(c:Int))=some l.length:=by simpa using hf
   have hmod:((l++[(⟨x,z,c⟩:Ent κ)]).map (dG enc)).modify l.length (fun e'=>{ e' with val:=v })=(l++[(⟨x,v,c⟩:Ent κ)]).map (dG enc):=by
    rw[modify_eq_set _ _ _ (dG enc ⟨x,z,c⟩) (by simp)];simp[dG]
   have hW2:W.heap[b]?=some (.map ((l++[(⟨x,z,c⟩:Ent κ)]).map (dG enc)).toArray (c+1)):=hW;unfold aQ;simp only[Bool.false_eq_true,if_false];rw[<- hmod];unfold Instr.entryStore;simp only[Sem.run_bind,MapKept.run_getObj_map hW2,Result.andThen,vT,hf2];rw[MapKept.run_setObj_map _ hW2];simp[setBlock]
 ·subst h3;have hh:ix l e.key=true:=iy.2 ⟨e,mem_of_getElem? h2,rfl⟩;rw[pV hm.nodup (mem_of_getElem? h2),Cw hm.nodup h2];refine⟨?_,?_⟩
  ·have hlist:(l.map (dG enc)).modify i (fun e'=>{ e' with key:=enc e.key })=l.map (dG enc):=by
    rw[modify_eq_set _ _ _ (dG enc e) (by simp[h2])];have:({ dG enc e with key:=enc e.key }:MapEntry)=dG enc e:=rfl;rw[this];apply ext_getElem?;intro j;rw[getElem?_set];by_cases hj:i=j
    ·subst hj;obtain⟨hlt,he⟩:=List.getElem?_eq_some_iff.1 h2;simp[hlt,he]
    ·simp[hj]
   simp[hh,Instr.mapEntry,run_underlying ht,MapKept.run_getObj_map hb,E.keyed.check w false hlx,h1,h2,dG,E.keyed.stays w hlx,MapKept.run_setObj_map _ hb,Result.andThen,setBlock,aQ,goInt];rw[hlist]
  ·intro W v hW;simp only[hh,if_true]at hW ⊢;have hf:=pQ hm.borns enc h2;have hf2:(l.map (dG enc)).toArray.findIdx? (fun e'=>(e'.born:Int)==(e.born:Int))=some i:=by simpa using hf
   have hmod:(l.map (dG enc)).modify i (fun e'=>{ e' with val:=v })=(q8 l e.key v).map (dG enc):=by
    rw[modify_eq_set _ _ _ (dG enc e) (by simp[h2]),<- EI hm.nodup h2 v,map_set];rfl
   have hW2:W.heap[b]?=some (.map (l.map (dG enc)).toArray c):=hW;unfold aQ;rw[<- hmod];unfold Instr.entryStore;simp only[Sem.run_bind,MapKept.run_getObj_map hW2,Result.andThen,vT,hf2];rw[MapKept.run_setObj_map _ hW2];simp[setBlock]
theorem MapOk.put{l:List (Ent κ)}{c:Nat}(h:MapOk Ok l c){x:κ}(hx:Ok x)(v:Value):MapOk Ok (gA l c x v) (cw l c x):=by
 unfold gA cw
 cases hh:ix l x with
 | true =>
  simp only[if_true]
  have hb:(q8 l x v).map (·.born)=l.map (·.born):=by
   unfold q8;rw[map_map];apply map_congr_left;intro e _;simp only[Function.comp];split<;>rfl
  have hk:(q8 l x v).map (·.key)=l.map (·.key):=by
   unfold q8;rw[map_map];apply map_congr_left;intro e _;simp only[Function.comp];split<;>rfl
  refine⟨hk ▸ h.nodup,hb ▸ h.borns,?_,?_⟩
  ·intro e he;obtain⟨e',h1,rfl⟩:=mem_map.1 he;have:=h.lt e' h1;split<;>exact this
  ·intro e he;obtain⟨e',h1,rfl⟩:=mem_map.1 he;have:=h.ok e' h1;split<;>exact this
 | false =>
  simp only[Bool.false_eq_true,if_false]
  have hn:∀e∈l,e.key≠x:=fun e he hk=>by
   have:=iy.2 ⟨e,he,hk⟩;rw[hh]at this
   cases this
  refine⟨?_,?_,?_,?_⟩
  ·rw[map_append,nodup_append];refine⟨h.nodup,by simp,?_⟩;intro a ha b hb;obtain⟨e,he,rfl⟩:=mem_map.1 ha;simp only[map_cons,map_nil,mem_singleton]at hb;exact hb ▸ hn e he
  ·rw[map_append,nodup_append];refine⟨h.borns,by simp,?_⟩;intro a ha b hb;obtain⟨e,he,rfl⟩:=mem_map.1 ha;simp only[map_cons,map_nil,mem_singleton]at hb;have:=h.lt e he;omega
  ·intro e he;rcases mem_append.1 he with h'|h'
   ·have:=h.lt e h';omega
   ·simp only[mem_singleton]at h';subst h';simp
  ·intro e he;rcases mem_append.1 he with h'|h'
   ·exact h.ok e h'
   ·simp only[mem_singleton]at h';subst h';exact hx
theorem MapOk.del{l:List (Ent κ)}{c:Nat}(h:MapOk Ok l c)(x:κ):MapOk Ok (xS l x) c :=
 ⟨h.nodup.sublist (filter_sublist.map _),h.borns.sublist (filter_sublist.map _),fun e he=>h.lt e (mem_filter.1 he).1,fun e he=>h.ok e (mem_filter.1 he).1⟩
theorem Ai{l m:List (Ent κ)}{k:κ}:dB (l++m) k=(dB l k).or (dB m k):=by
 unfold dB;rw[find?_append]
 cases l.find? (fun e=>decide (e.key=k))<;>simp
theorem FB{l:List (Ent κ)}{c:Nat}{x y:κ}{v:Value}:dB (gA l c x v) y=if y=x then some v else dB l y:=by
 unfold gA
 cases hh:ix l x with
 | true =>
  simp only[if_true]
  have:∀l:List (Ent κ),dB (q8 l x v) y=if y=x then(dB l x).map (fun _=>v)else dB l y:=by
   intro l;induction l with
   | nil=>simp[dB,q8]
   | cons e r ih =>
    simp only[dB,q8,map_cons,find?_cons]at ih ⊢;by_cases h1:e.key=x
    ·by_cases h2:y=x
     ·subst h2;simp[h1]
     ·simp only[h1,if_true,h2,if_false];have h3:decide (x=y)=false:=by simp;exact fun h=>h2 h.symm
      rw[h3];simp only[h2,if_false]at ih;exact ih
    ·simp only[h1,if_false];by_cases h4:e.key=y
     ·have h2:¬y=x:=fun h=>h1 (h4.trans h)
      simp[h4,h2]
     ·simp only[h4,decide_false];rw[ih]
  rw[this];rw[gI]at hh;by_cases h2:y=x
  ·subst h2;rw[if_pos rfl,if_pos rfl]
   cases hg:dB l y with
   | none=>rw[hg]at hh;cases hh
   | some u=>rfl
  ·rw[if_neg h2,if_neg h2]
 | false =>
  simp only[Bool.false_eq_true,if_false];rw[Ai];have hn:dB l x=none:=by rw[gI]at hh;cases hg:dB l x<;>simp_all
  by_cases h2:y=x
  ·subst h2;rw[hn];simp[dB]
  ·rw[if_neg h2];have:dB [(⟨x,v,c⟩:Ent κ)] y=none:=gw.2 (by simp;exact fun h=>h2 h.symm);rw[this];simp
theorem de(w:World)(b:Nat)(o:Obj):Mods (fun k=>k=b) w (setBlock w b o):=by
 have:=(Mods.refl (fun k=>k=b) w).putObj (r:=b) (.inl rfl) o;exact this
theorem ew{w:World}{b:Nat}{o o':Obj}(h:w.heap[b]?=some o):(setBlock w b o').heap[b]?=some o':=by
 have:=ac h;simp[setBlock,this]
end
structure GE (γ:Type) where
 key:Bs
 born:Nat
 val:Value
 g:γ
def aO{γ:Type}(p:GE γ):Ent Bs:=⟨p.key,p.val,p.born⟩
def gm{γ:Type}(R:Value->γ->HF)(ps:List (GE γ)):HF:=ps.flatMap (fun p=>R p.val p.g)
def gOf{γ:Type}(d:γ)(ps:List (GE γ))(l:Bs):γ:=match ps.find? (fun p=>decide (p.key=l))with|some p=>p.g|none=>d
def eH{γ:Type}(z:Value)(ps:List (GE γ))(l:Bs):Value:=match ps.find? (fun p=>decide (p.key=l))with|some p=>p.val|none=>z
def gJ{γ:Type}(ps:List (GE γ))(l:Bs):Bool:=ps.any (fun p=>decide (p.key=l))
def bH{γ:Type}(ps:List (GE γ))(l:Bs):List (GE γ):=ps.filter (fun p => !decide (p.key=l))
def ef{γ:Type}(ps:List (GE γ))(c:Nat)(l:Bs)(v:Value)(g:γ):List (GE γ) :=
 if gJ ps l then ps.map (fun p=>if p.key=l then { p with val:=v,g:=g } else p)else ps++[⟨l,c,v,g⟩]
theorem cY{γ:Type}(z:Value)(ps:List (GE γ))(l:Bs):(dB (ps.map aO) l).getD z=eH z ps l:=by
 unfold eH;induction ps with
 | nil=>rfl
 | cons p r ih =>
  unfold dB at ih ⊢;simp only[map_cons,find?_cons];by_cases h:p.key=l
  ·simp[aO,h]
  ·simp only[aO,h,decide_false];exact ih
theorem pZ{γ:Type}(ps:List (GE γ))(l:Bs):ix (ps.map aO) l=gJ ps l:=by
 unfold ix gJ;rw[any_map];rfl
theorem iE{γ:Type}(ps:List (GE γ))(c:Nat)(l:Bs)(v:Value)(g:γ):(ef ps c l v g).map aO=gA (ps.map aO) c l v:=by
 unfold ef gA;rw[pZ];split
 ·unfold q8;rw[map_map,map_map];apply map_congr_left;intro p _;simp only[Function.comp];by_cases h:p.key=l
  ·simp[h,aO]
  ·rw[if_neg h,if_neg (by exact h)]
 ·simp[aO]
theorem mG{γ:Type}(ps:List (GE γ))(l:Bs):(bH ps l).map aO=xS (ps.map aO) l:=by
 unfold bH xS;rw[filter_map];rfl
theorem uC{γ:Type}(R:Value->γ->HF)(z:Value)(d:γ)(hR:R z d=[]):∀(ps:List (GE γ)) (l:Bs),(ps.map (·.key)).Nodup->(gm R ps).Perm (R (eH z ps l) (gOf d ps l)++gm R (bH ps l)):=by
 intro ps l;induction ps with
 | nil=>intro _;simp[gm,eH,gOf,bH,hR]
 | cons p r ih =>
  intro hn;simp only[map_cons,nodup_cons]at hn;obtain⟨h1,h2⟩:=hn;have ih:=ih h2;simp only[gm,eH,gOf,bH,flatMap_cons,find?_cons,filter_cons]at ih ⊢;by_cases h:p.key=l
  ·have hf:r.filter (fun p => !decide (p.key=l))=r:=filter_eq_self.2 (fun q hq=>by
    simp only[Bool.not_eq_true',decide_eq_false_iff_not];intro hk;exact h1 (mem_map.2 ⟨q,hq,hk.trans h.symm⟩))
   simp only[h,decide_true,Bool.not_true,Bool.false_eq_true,if_false,hf];exact Perm.refl _
  ·simp only[h,decide_false,Bool.not_false,if_true,flatMap_cons];refine(Perm.append_left _ ih).trans ?_;rw[<- append_assoc,<- append_assoc];exact Perm.append_right _ perm_append_comm
theorem uB{γ:Type}(R:Value->γ->HF):∀(ps:List (GE γ)) (c:Nat) (l:Bs) (v:Value) (g:γ),(ps.map (·.key)).Nodup->(gm R (ef ps c l v g)).Perm (R v g++gm R (bH ps l)):=by
 intro ps c l v g hn;unfold ef;split
 ·rename_i hh
  have key:∀(ps:List (GE γ)),(ps.map (·.key)).Nodup->gJ ps l=true->(gm R (ps.map (fun p=>if p.key=l then { p with val:=v,g:=g } else p))).Perm (R v g++gm R (bH ps l)):=by
   intro ps;induction ps with
   | nil=>intro _ h;simp[gJ]at h
   | cons p r ih =>
    intro hn hh;simp only[map_cons,nodup_cons]at hn;obtain⟨h1,h2⟩:=hn;by_cases h:p.key=l
    ·have hne:∀q∈r,q.key≠l:=fun q hq hk=>h1 (mem_map.2 ⟨q,hq,hk.trans h.symm⟩)
     have hf:r.filter (fun p => !decide (p.key=l))=r:=filter_eq_self.2 (fun q hq=>by simp[hne q hq])
     have hm:r.map (fun p=>if p.key=l then { p with val:=v,g:=g } else p)=r:=by
      conv=>rhs;rw[<- map_id r]
      exact map_congr_left (fun q hq=>by simp[hne q hq])
     simp only[gm,bH,map_cons,flatMap_cons,filter_cons,h,if_true,decide_true,Bool.not_true,Bool.false_eq_true,if_false,hf,hm];exact Perm.refl _
    ·have hh2:gJ r l=true:=by simpa[gJ,h]using hh
     have ih:=ih h2 hh2;simp only[gm,bH,map_cons,flatMap_cons,filter_cons,h,if_false,decide_false,Bool.not_false,if_true]at ih ⊢;refine(Perm.append_left _ ih).trans ?_;rw[<- append_assoc,<- append_assoc];exact Perm.append_right _ perm_append_comm
  exact key ps hn hh
 ·rename_i hh
  have hf:bH ps l=ps:=filter_eq_self.2 (fun q hq=>by
   simp only[Bool.not_eq_true',decide_eq_false_iff_not];intro hk;apply hh;simp only[gJ,any_eq_true,decide_eq_true_eq];exact⟨q,hq,hk⟩)
  rw[hf];unfold gm;rw[flatMap_append];simpa using perm_append_comm
theorem cE{γ:Type}(ps:List (GE γ)):(ps.map aO).map (·.key)=ps.map (·.key):=by rw[map_map];rfl
theorem fx{γ:Type}{ps:List (GE γ)}{c:Nat}{l:Bs}{v:Value}{g:γ}{p:GE γ}(h:p∈ef ps c l v g):(p∈ps/\p.key≠l)\/(p.key=l/\p.val=v/\p.g=g):=by
 unfold ef at h;split at h
 ·obtain⟨q,hq,rfl⟩:=mem_map.1 h;by_cases hk:q.key=l
  ·exact .inr (by simp[hk])
  ·rw[if_neg hk];exact .inl ⟨hq,hk⟩
 ·rename_i hh;rcases mem_append.1 h with h'|h'
  ·refine .inl ⟨h',fun hk=>hh ?_⟩;simp only[gJ,any_eq_true,decide_eq_true_eq];exact⟨p,h',hk⟩
  ·simp only[mem_singleton]at h';subst h';exact .inr ⟨rfl,rfl,rfl⟩
theorem pU{γ:Type}(d:γ)(ps:List (GE γ))(c:Nat)(l m:Bs)(v:Value)(g:γ):gOf d (ef ps c l v g) m=if m=l then g else gOf d ps m:=by
 unfold ef;split
 ·rename_i hh
  have key:∀ps:List (GE γ),gOf d (ps.map (fun p=>if p.key=l then { p with val:=v,g:=g } else p)) m=if m=l/\gJ ps l=true then g else gOf d ps m:=by
   intro ps;unfold gOf;induction ps with
   | nil=>simp[gJ]
   | cons p r ih =>
    simp only[map_cons,find?_cons];by_cases h:p.key=l
    ·by_cases h2:m=l
     ·subst h2;simp[h,gJ]
     ·have h3:¬l=m:=fun e=>h2 e.symm
      simp only[h,if_true,h3,decide_false,h2,false_and,if_false];simpa[h2]using ih
    ·by_cases h4:p.key=m
     ·have h2:¬m=l:=fun e=>h (h4.trans e)
      simp[h4,h2]
     ·simp only[h,if_false,h4,decide_false];rw[ih];simp[gJ,h]
  rw[key,hh];simp
 ·rename_i hh;unfold gOf;rw[find?_append];by_cases h:m=l
  ·subst h
   have hn:ps.find? (fun p=>decide (p.key=m))=none:=by
    rw[find?_eq_none];intro q hq hk;apply hh;simp only[gJ,any_eq_true];exact⟨q,hq,hk⟩
   simp[hn]
  ·have h2:¬l=m:=fun e=>h e.symm
   simp only[find?_cons,h2,decide_false,find?_nil,Option.or_none,h,if_false]
end
section
open Go.RowKit Go.Maps
open Go.ChangeMaps (setBlock)
theorem AF{κ:Type}[DecidableEq κ]{P:Program}{k t ev:TypeId}{enc:κ->Value}{Ok:κ->Prop}(E:EncOk P k enc Ok){w:World}{o:Oper}{a:Act}(m x:Operand)(hop:o.op=.lookup t m x false)(ht:P.underlying t=some (.map k ev)){b:Nat}{l:List (Ent κ)}{c:Nat}(hb:w.heap[b]?=some (aQ enc l c))(hm:MapOk Ok l c){z:Value}(hz:(zeroValue ev).run P w=.ok z w)(key:κ)(hmv:a.eval m=.map (some b))(hx:a.eval x=enc key)(hk:Ok key):(execOp a.eval o).run P w=.ok (.value ((dB l key).getD z)) w:=by
 simp[execOp,hop,hmv,hx,uH E ht hb hm hz hk,Result.andThen]
theorem i6{P:Program}{o:Oper}{a:Act}{w a0:World}{K:Act->World->Prop}{Q:Exit->Act->World->Prop}{F G:HF}(O:Obj)(f:Nat->Value)(hr:(execOp a.eval o).run P w=.ok (.value (f w.heap.size)) (w.alloc O))(hT:Turns F G a0 w)(hk:∀n w',Turns F ((n,Is O)::G) a0 w'->K (a.put o.dst (f n)) w'):o.wp P a w K Q:=m9 hr (hk _ _ (hT.Q8 O))
theorem Ky{κ:Type}[DecidableEq κ]{P:Program}{k t ev:TypeId}{enc:κ->Value}{Ok:κ->Prop}(E:EncOk P k enc Ok){w:World}{o:Oper}{a:Act}{K:Act->World->Prop}{Q:Exit->Act->World->Prop}(m x y:Operand)(hop:o.op=.mapUpdate t m x y)(ht:P.underlying t=some (.map k ev)){b:Nat}{l:List (Ent κ)}{c:Nat}(hb:w.heap[b]?=some (aQ enc l c))(hm:MapOk Ok l c)(key:κ)(v:Value)(hmv:a.eval m=.map (some b))(hx:a.eval x=enc key)(hy:a.eval y=v)(hk:Ok key)(hK:K (a.put o.dst undef) (setBlock w b (aQ enc (gA l c key v) (cw l c key)))):o.wp P a w K Q:=by
 unfold Oper.wp execOp;simp only[hop,hmv,hx,hy,Sem.run_bind,Gj E ht hb hm hk v,Result.andThen_ok,Sem.run_pure];exact hK
theorem Jm{P:Program}{o:Oper}{a:Act}{w:World}{K:Act->World->Prop}{Q:Exit->Act->World->Prop}{ty:TypeId}(x y:Operand)(hs:(P.info? ty).map (·.size)=some 1)(ho:o.op=.store ty x y){b i:Nat}{C:Array Value}{t:TypeId}{v u:Value}(hb:w.heap[b]?=some (.cells C t (0,0)))(hi:C[i]?=some u)(hx:a.eval x=.pointer (some ⟨b,i,none⟩))(hy:a.eval y=v)(h1:v.oneCell'=true)(hvc:v.cells=#[v])(hK:K (a.put o.dst undef) (w.setCell ⟨b,i,none⟩ v)):o.wp P a w K Q:=by
 have hc:w.cell? ⟨b,i,none⟩=some u:=aa hb i hi;have hf:=bf hb i
 have hst:=run_storeCells_cells (P:=P) b i [v] 0 w (fun j hj=>by
  obtain rfl:j=0:=by simp at hj;omega
  simp[hc]) (fun j hj=>by
   obtain rfl:j=0:=by simp at hj;omega
   simpa using hf) (fun q hq=>by simp at hq;subst hq;exact h1)
 have hsv:(storeVar ty ⟨b,i,none⟩ v).run P w=.ok () (w.setCell ⟨b,i,none⟩ v):=by
  cases hq:P.info? ty with
  | none=>simp[hq]at hs
  | some j =>
   have hj:j.size=1:=by simpa[hq]using hs
   simp only[Nat.add_zero]at hst;simp[storeVar,sizeOf,typeInfo,hq,hvc,hj,hst,World.setCells]
 unfold Oper.wp execOp;simp only[ho,hx,hy,Instr.storeAt,Instr.sureAddr,Sem.run_bind,Sem.run_pure,Result.andThen_ok,hsv];exact hK
section
variable {P:Program} {o:Oper} {a:Act} {w:World} {K:Act->World->Prop} {Q:Exit->Act->World->Prop} {F G:HF} {a0:World}
theorem qq(ty:TypeId)(x y:Operand)(ho:o.op=.store ty x y)(b:Nat)(old cells:Array Value)(t:TypeId)(hT:Turns F ((b,Is (.cells old t (0,0)))::G) a0 w)(hx:a.eval x=.pointer (some ⟨b,0,none⟩))(hy:a.eval y=.agg cells)(hsz:cells.size=old.size)(hi:(P.info? ty).map (·.size)=some cells.size)(h1:cells.all (·.oneCell')=true)(hk:∀w',Turns F ((b,Is (.cells cells t (0,0)))::G) a0 w'->K (a.put o.dst undef) w'):o.wp P a w K Q:=by
 have hb:=hT.sat.Q5;obtain⟨q1,q2⟩:=dI hb cells.toList (by simpa using hsz);refine wp_store_mid ty x y ho b 0 cells hx hy (dm hb 0 _ (by omega)) hi h1 (hk _ (hT.Qa q2 (by simpa using q1)))
theorem bu(ty:TypeId)(x y:Operand)(ho:o.op=.store ty x y)(b i:Nat)(C:Array Value)(t:TypeId)(v:Value)(hT:Turns F ((b,Is (.cells C t (0,0)))::G) a0 w)(hx:a.eval x=.pointer (some ⟨b,i,none⟩))(hy:a.eval y=v)(hiC:i<C.size)(hi:(P.info? ty).map (·.size)=some 1)(h1:v.oneCell'=true)(hvc:v.cells=#[v])(hk:∀w',Turns F ((b,Is (.cells (C.setIfInBounds i v) t (0,0)))::G) a0 w'->K (a.put o.dst undef) w'):o.wp P a w K Q:=by
 have hb:=hT.sat.Q5;exact Jm x y hi ho hb (Array.getElem?_eq_getElem hiC) hx hy h1 hvc (hk _ (hT.Qa ((Mods.refl (fun k=>k=b) w).set1 v) (bB hb i v)))
theorem lw{κ:Type}[DecidableEq κ]{k t ev:TypeId}{enc:κ->Value}{Ok:κ->Prop}(E:EncOk P k enc Ok)(m x y:Operand)(ho:o.op=.mapUpdate t m x y)(ht:P.underlying t=some (.map k ev))(b:Nat)(l:List (Ent κ))(c:Nat)(hT:Turns F ((b,Is (aQ enc l c))::G) a0 w)(hm:MapOk Ok l c)(key:κ)(v:Value)(hmv:a.eval m=.map (some b))(hx:a.eval x=enc key)(hy:a.eval y=v)(hk:Ok key)(hK:∀w',Turns F ((b,Is (aQ enc (gA l c key v) (cw l c key)))::G) a0 w'->K (a.put o.dst undef) w'):o.wp P a w K Q:=by
 have hb:=hT.sat.Q5;refine Ky E m x y ho ht hb hm key v hmv hx hy hk ?_;exact hK _ (hT.Qa (de _ _ _) (ew hb))
theorem uT(t:TypeId)(ho:o.op=.makeMap t none)(hT:Turns F G a0 w)(hk:∀n w',Turns F ((n,Is (.map #[] 0))::G) a0 w'->K (a.put o.dst (.map (some n))) w'):o.wp P a w K Q:=by
 refine m9 (v:=.map (some w.heap.size)) (w':=w.alloc (.map #[] 0)) ?_ (hk _ _ (hT.Q8 _));simp[execOp,ho,run_makeMap,Result.andThen]
theorem Jl{κ:Type}[DecidableEq κ]{k t ev:TypeId}{enc:κ->Value}{Ok:κ->Prop}(E:EncOk P k enc Ok)(m x:Operand)(ho:o.op=.mapEntry t m x)(ht:P.underlying t=some (.map k ev))(b:Nat)(l:List (Ent κ))(c:Nat)(hT:Turns F ((b,Is (aQ enc l c))::G) a0 w)(hm:MapOk Ok l c){z:Value}(hz:(zeroValue ev).run P w=.ok z w)(key:κ)(hmv:a.eval m=.map (some b))(hx:a.eval x=enc key)(hk:Ok key)(hK:∀w',Turns F ((b,Is (aQ enc (AH l c key z) (cw l c key)))::G) a0 w'->K (a.put o.dst (.tuple #[(dB l key).getD z,.int .i64 (pG l c key)])) w'):o.wp P a w K Q:=by
 have hb:=hT.sat.Q5;refine m9 (v:=.tuple #[(dB l key).getD z,.int .i64 (pG l c key)]) (w':=setBlock w b (aQ enc (AH l c key z) (cw l c key))) ?_ (hK _ (hT.Qa (de _ _ _) (ew hb)));simp[execOp,ho,hmv,hx,(xe E ht hb hm hz hk).1,Result.andThen]
theorem vJ{κ:Type}[DecidableEq κ]{k t ev:TypeId}{enc:κ->Value}{Ok:κ->Prop}(E:EncOk P k enc Ok){w0:World}(m s x:Operand)(ho:o.op=.entryStore t m s x)(ht:P.underlying t=some (.map k ev))(b:Nat)(l:List (Ent κ))(c:Nat)(hb0:w0.heap[b]?=some (aQ enc l c))(hm:MapOk Ok l c){z:Value}(hz:(zeroValue ev).run P w0=.ok z w0)(key:κ)(hk:Ok key)(hT:Turns F ((b,Is (aQ enc (AH l c key z) (cw l c key)))::G) a0 w)(v:Value)(hmv:a.eval m=.map (some b))(hs:a.eval s=.int .i64 (pG l c key))(hx:a.eval x=v)(hK:∀w',Turns F ((b,Is (aQ enc (gA l c key v) (cw l c key)))::G) a0 w'->K (a.put o.dst undef) w'):o.wp P a w K Q:=by
 have hb:=hT.sat.Q5;have hr:=hK _ (hT.Qa (o:=aQ enc (gA l c key v) (cw l c key)) (de _ _ _) (ew hb));unfold Oper.wp execOp;simp only[ho,hmv,hs,hx,Sem.run_bind,(xe E ht hb0 hm hz hk).2 w v hb,Result.andThen_ok,Sem.run_pure];exact hr
theorem iL{ops:Array Oper}{R:Act->Prop}{r:List Oper}(ty:TypeId)(x:Operand)(hg:o.guard=none)(ho:o.op=.load ty x)(b i:Nat)(hx:a.eval x=.pointer (some ⟨b,i,none⟩))(cs:List Value)(d:TypeDesc)(hc:w.rangeAt b i cs)(hu:P.underlying ty=some d)(hd:d.isRow=true)(hi:(P.info? ty).map (·.size)=some cs.length)(hk:wpStill P ops w R r (a.put o.dst (.agg cs.toArray))):wpStill P ops w R (o::r) a:=by
 refine cD hg ?_ hk;unfold execOp;simp only[ho,hx,Instr.loadAt,Instr.sureAddr,Sem.run_bind,Sem.run_pure,Result.andThen_ok,run_loadVar_mid w b i ty cs d hc hu hd hi]
end
end
section
open Go.RowKit
theorem uP{P:Program}{main:Bool}{b:Frame}{a:Act}{k:List Item}{cs:List Frame}{w w':World}{ops:Array Oper}{i:Nat}{rest:List Nat}{o:Oper}{cases:Array CommCase}{blocking:Bool}{shape:CommShape}(ho:ops[i]?=some o)(hw:Region.wanted o (yielded ops a.tmps)=true)(hr:(execOp a.eval o).run P w=.ok (.comm cases blocking shape) w'):
  ∃es,stepG P main (Conc.G (b.at a (.inRegion ops (i::rest)::k)) cs) w=.comm (Conc.G (b.at a (.inRegion ops (i::rest)::k)) cs) cases blocking shape w' es:=by
 rw[Conc.stepG_oper ho hw]
 cases main<;>simp[stepG.apply,hr,Conc.G,Frame.at,GStep.after]
theorem iK{P:Program}{id n:Nat}{ops:Array Oper}{Q:Exit->Act->World->Prop}{a:Act}{w w1 w':World}{o:Oper}{cases:Array CommCase}{v:Value}(hsz:ops.size=n+1)(ho:ops[0]?=some o)(hg:o.guard=none)(hr:(execOp a.eval o).run P w=.ok (.comm cases false .select) w1)(hstep:∀fr cs es,stepG P true (Conc.G fr cs) w=.comm (Conc.G fr cs) cases false .select w1 es->step P (Conc.solo (Conc.G fr cs) w)=.next (Conc.solo (Conc.G (fr.finish v) cs) w'))(h:wpList P ops Q (ops.toList.drop 1) (a.put o.dst v) w'):(Code.region id ops false).wp P Q a w:=by
 intro b k cs;have hl:range ops.size=0::range' 1 n:=by rw[hsz,range_eq_range',range'_succ]
 have h2:wpOps P ops Q (range' 1 n) (a.put o.dst v) w':=by
  have e:=wpOps_eq_wpList (P:=P) (ops:=ops) (Q:=Q) (ops.toList.drop 1) 1 (fun j=>by rw[getElem?_drop];simp);have hn:(ops.toList.drop 1).length=n:=by simp;omega
  rw[hn]at e;rw[e];exact h
 obtain⟨e,a',w'',hq,harr⟩:=wp_ops _ _ _ h2 b k cs;refine⟨e,a',w'',hq,.of_steps (.head step_region (.one ?_)) harr⟩;rw[hl];obtain⟨es,hes⟩:=uP (P:=P) (main:=true) (b:=b) (a:=a) (k:=k) (cs:=cs) (w:=w) (rest:=range' 1 n) ho (by simp[Region.wanted,hg]) hr;have:=hstep _ _ _ hes;rw[Frame.finish_at,ho]at this;exact this
theorem uY{P:Program}{id n:Nat}{ops:Array Oper}{Q:Exit->Act->World->Prop}{a:Act}{w:World}{o:Oper}{c cap s r:Nat}{buf:Array Value}{closed tm:Bool}{z:Value}(hsz:ops.size=n+1)(ho:ops[0]?=some o)(hg:o.guard=none)(hr:(execOp a.eval o).run P w=.ok (.comm #[Conc.rcase c z] false .select) w)(hc:w.heap[c]?=some (.chan cap buf closed s r tm))(hb:0<buf.size)(h:wpList P ops Q (ops.toList.drop 1) (a.put o.dst (.tuple #[goInt 0,.bool true,buf.getD 0 undef])) (w.setChan c cap (buf.extract 1 buf.size) closed s (r+1) tm)):(Code.region id ops false).wp P Q a w :=
 iK hsz ho hg hr (fun _ _ _ hs=>Conc.step_lone_select_recv_buf hs hc hb) h
theorem uX{P:Program}{id n:Nat}{ops:Array Oper}{Q:Exit->Act->World->Prop}{a:Act}{w:World}{o:Oper}{c cap s r:Nat}{tm:Bool}{z:Value}(hsz:ops.size=n+1)(ho:ops[0]?=some o)(hg:o.guard=none)(hr:(execOp a.eval o).run P w=.ok (.comm #[Conc.rcase c z] false .select) w)(hc:w.heap[c]?=some (.chan cap #[] false s r tm))(h:wpList P ops Q (ops.toList.drop 1) (a.put o.dst (.tuple #[goInt (-1),.bool false,z])) w):(Code.region id ops false).wp P Q a w :=
 iK hsz ho hg hr (fun _ _ _ hs=>Conc.step_lone_select_default hs hc) h
theorem uZ{P:Program}{id n:Nat}{ops:Array Oper}{Q:Exit->Act->World->Prop}{a:Act}{w:World}{o:Oper}{c cap s r:Nat}{buf:Array Value}{tm:Bool}{v z:Value}(hsz:ops.size=n+1)(ho:ops[0]?=some o)(hg:o.guard=none)(hr:(execOp a.eval o).run P w=.ok (.comm #[Conc.scase c v z] false .select) w)(hc:w.heap[c]?=some (.chan cap buf false s r tm))(hb:buf.size<cap)(h:wpList P ops Q (ops.toList.drop 1) (a.put o.dst (.tuple #[goInt 0,.bool false])) (w.setChan c cap (buf.push v) false (s+1) r tm)):(Code.region id ops false).wp P Q a w :=
 iK hsz ho hg hr (fun _ _ _ hs=>Conc.step_lone_select_send_room hs hc hb) h
theorem uW{P:Program}{id n:Nat}{ops:Array Oper}{Q:Exit->Act->World->Prop}{a:Act}{w:World}{o:Oper}{c cap s r:Nat}{buf:Array Value}{tm:Bool}{v z:Value}(hsz:ops.size=n+1)(ho:ops[0]?=some o)(hg:o.guard=none)(hr:(execOp a.eval o).run P w=.ok (.comm #[Conc.scase c v z] false .select) w)(hc:w.heap[c]?=some (.chan cap buf false s r tm))(hb:cap<=buf.size)(h:wpList P ops Q (ops.toList.drop 1) (a.put o.dst (.tuple #[goInt (-1),.bool false])) w):(Code.region id ops false).wp P Q a w :=
 iK hsz ho hg hr (fun _ _ _ hs=>Conc.step_lone_select_send_full hs hc hb) h
theorem qk(w:World)(c cap:Nat)(buf:Array Value)(cl:Bool)(s r:Nat)(tm:Bool):Mods (fun k=>k=c) w (w.setChan c cap buf cl s r tm) :=
 ⟨rfl,rfl,rfl,by simp[World.setChan],fun k _ hk=>by simp only[World.setChan];rw[Array.getElem?_setIfInBounds_ne (Ne.symm hk)]⟩
theorem Turns.Qq{F G:HF}{a w:World}{b:Nat}{φ ψ:Obj->Prop}(h:Turns F ((b,φ)::G) a w)(hw:∀o,φ o->ψ o):Turns F ((b,ψ)::G) a w :=
 ⟨h.mods,h.sat.weak hw,fun k hk=>h.fresh k (by simpa using hk)⟩
theorem zo(d:Nat)(A:AreaL)(h:A.tail.length=128):(aE d A)[132]?=some (.chan (some A.ch)):=by
 have e:(aE d A)[132]?=(aE d A).toList[132]?:=by simp
 rw[e];simp only[aE,Array.toList_append,ay,append_assoc];rw[getElem?_append_right (by simp),getElem?_append_right (by simp[h])];simp[h]
theorem Cr(w:World)(cur:Array Value)(cap:Nat)(hc:cur.size=cap)(hm:cap<=maxLen):Turns [] (aI (.slice (some ⟨w.heap.size,0,none⟩) 0 cap) []) w (w.alloc (.cells cur 5)):=by
 have:=(Turns.refl (Sat.nil w)).Qd (φ:=fun o=>∃cap' cur,Value.slice (some ⟨w.heap.size,0,none⟩) 0 cap=.slice (some ⟨w.heap.size,0,none⟩) 0 cap'/\o=.cells cur 5 (0,0)/\0<=cap'/\cap'<=maxLen/\cur.size=cap'*1/\cur.toList.take (0*1)=[]) (o:=.cells cur 5) ⟨cap,cur,rfl,rfl,Nat.zero_le _,hm,by omega,by simp⟩;exact this
theorem vZ(g cap:Nat):bOk (.slice (some ⟨g,0,none⟩) 0 cap) []:=⟨rfl,fun h=>by simp[Value.ownBlock]at h⟩
def sJ(ab d:Nat)(A:AreaL)(w:World)(e:Ending)(w':World):Prop :=
 ∃bg cv sp,e=.returned (.slice (some ⟨bg,0,none⟩) 0 cv)/\bOk (.slice (some ⟨bg,0,none⟩) 0 cv) []/\Turns (aq ab d A) (aI (.slice (some ⟨bg,0,none⟩) 0 cv) []++aq ab d { A with spare:=sp }) w w'/\AreaOk { A with spare:=sp }/\sp.length<=A.spare.length/\sp.length<=1
theorem xL(ab d:Nat)(A:AreaL)(w:World)(h:Sat w (aq ab d A))(hA:AreaOk A):
  Calls Tryz.prog 151 #[.pointer (some ⟨ab,0,none⟩)] w (sJ ab d A w):=by
 have hab:=h.Q5;have a5:w.cell? ⟨ab,132,none⟩=some (.chan (some A.ch)):=aa hab 132 (zo d A hA.tail);obtain⟨o,hch,s,r,rfl⟩:=h.tail.head;have HH:=Hq2 h hA;clear h hA hab
 cases hs:A.spare with
 | nil =>
  rw[hs]at hch;have HC:=qqH hch;have HS:=qqH hs;clear hch hs
  obtain⟨cur,hsz,hmk⟩:∃cur:Array Value,cur.size=256/\∀w:World,(Instr.makeSlice 38 (.int .i64 0) (.int .i64 256)).run Tryz.prog w=.ok (.slice (some ⟨w.heap.size,0,none⟩) 0 256) (w.alloc (.cells cur 5)) :=
   ⟨ay (replicate 256 0),by rw[bR,length_replicate],fun _=>by kernel_rfl⟩
  have HSZ:=qqH hsz;clear hsz;go_enter Tryz.func151,Tryz.ntmps151;go_upto_region 2 with(fail);refine uX (n:=2) (z:=.slice none 0 0) rfl rfl rfl (by kernel_rfl) HC.out ?_;simp only[QD,drop_zero,Act.put,QA];go_wp2_with fail;go_ret;exact⟨_,_,A.spare,rfl,vZ _ _,Turns.Qb (Turns.refl HH.a) (Cr w cur 256 HSZ.out (by unfold maxLen;omega)),HH.z,Nat.le_refl _,by rw[HS.out];simp⟩
 | cons x sp =>
  rw[hs]at hch;have HC:=qqH hch;have HS:=qqH hs;clear hch hs;have hx:=HH.z.caps x (by rw[HS.out];simp);have hx1:(0:Int)<=(x.2.2:Int):=by omega
  have hx2:(x.2.2:Int)<=9223372036854775807:=by have:=hx.2;unfold maxLen at this;omega
  obtain⟨bx,lx,cx⟩:=x;simp only at hx hx1 hx2;go_enter Tryz.func151,Tryz.ntmps151;go_upto_region 2 with(fail);refine uY (n:=2) (z:=.slice none 0 0) rfl rfl rfl (by kernel_rfl) HC.out (by simp) ?_;rw[show(List.map fp ((bx,lx,cx)::sp)).toArray.getD 0 undef=.slice (some ⟨bx,0,none⟩) lx cx from rfl];have hm:=qk w A.ch 2 ((List.map fp ((bx,lx,cx)::sp)).toArray.extract 1 (List.map fp ((bx,lx,cx)::sp)).toArray.size) false s (r+1) false;have hc2:=Conc.heap_setChan w A.ch 2 ((List.map fp ((bx,lx,cx)::sp)).toArray.extract 1 (List.map fp ((bx,lx,cx)::sp)).toArray.size) false s (r+1) false (ac HC.out);generalize w.setChan A.ch 2 ((List.map fp ((bx,lx,cx)::sp)).toArray.extract 1 (List.map fp ((bx,lx,cx)::sp)).toArray.size) false s (r+1) false=W2 at hm hc2 ⊢;have HM:=Hq2 hm hc2;clear hm hc2;simp only[QD,drop_zero,Act.put,QA];go_wp2_with fail;go_ret;have hb:=HH.a;simp only[aq,HS.out,l5,map_cons]at hb;have h1:=(Turns.refl hb).to (H:=(A.ch,fun o=>∃s r,o=.chan 2 (List.map fp ((bx,lx,cx)::sp)).toArray false s r false)::(ab,Is (.cells (aE d A) 157 (0,0)))::(bx,fun o=>∃cur:Array Value,o=.cells cur 5 (0,0)/\cur.size=cx)::l5 sp) (Perm.swap _ _ _);have h2:=h1.put (ψ:=fun o=>∃s r,o=.chan 2 (sp.map fp).toArray false s r false) HM.a HM.z ⟨s,r+1,by simp;exact take_of_length_le (by simp)⟩;refine⟨_,_,sp,rfl,vZ _ _,?_,⟨HH.z.tail,?_,?_⟩,?_,?_⟩
  ·have e:aq ab d A=(ab,Is (.cells (aE d A) 157 (0,0)))::(A.ch,fun o=>∃s r,o=.chan 2 (List.map fp ((bx,lx,cx)::sp)).toArray false s r false)::(bx,fun o=>∃cur:Array Value,o=.cells cur 5 (0,0)/\cur.size=cx)::l5 sp:=by
    simp only[aq,HS.out,l5,map_cons]
   have h4:=(h2.to (H:=(bx,fun o=>∃cur:Array Value,o=.cells cur 5 (0,0)/\cur.size=cx)::(ab,Is (.cells (aE d A) 157 (0,0)))::(A.ch,fun o=>∃s r,o=.chan 2 (sp.map fp).toArray false s r false)::l5 sp) ae).Qq (ψ:=fun o=>∃cap' cur,Value.slice (some ⟨bx,0,none⟩) 0 cx=.slice (some ⟨bx,0,none⟩) 0 cap'/\o=.cells cur 5 (0,0)/\0<=cap'/\cap'<=maxLen/\cur.size=cap'*1/\cur.toList.take (0*1)=[]) (fun o ⟨cur,h1,h2⟩=>⟨cx,cur,rfl,h1,Nat.zero_le _,hx.2,by omega,by simp⟩);rw[e];exact h4
  ·have:=HH.z.few;rw[HS.out]at this;simp at this ⊢;omega
  ·intro x hx;exact HH.z.caps x (by rw[HS.out];exact mem_cons_of_mem _ hx)
  ·rw[HS.out];simp
  ·have:=HH.z.few;rw[HS.out]at this;simp at this;omega
theorem Jo(w:World):(zeroValue 5).run Tryz.prog w=.ok (.int .u8 0) w:=by kernel_rfl
theorem Fq{w:World}{g n cap:Nat}{cur:Array Value}(hg:w.heap[g]?=some (.cells cur 5 (0,0)))(hn:n<=cap)(hc:cur.size=cap):
  ∃W1:World,(∀ty,(Builtin.clear_ #[38] ty #[.slice (some ⟨g,0,none⟩) n cap]).run Tryz.prog w=.ok (.tuple #[]) W1)/\Mods (fun k=>k=g) w W1/\∃cur':Array Value,W1.heap[g]?=some (.cells cur' 5 (0,0))/\cur'.size=cap:=by
 rcases Nat.eq_zero_or_pos n with rfl|hp
 ·exact⟨w,fun ty=>by simp[Builtin.clear_,run_underlying Tryz.underlying38],Mods.refl _ _,cur,hg,hc⟩
 ·have hth:=dm hg 0 n (by omega);have h1:=fun ty=>Lib.run_clear_slice (P:=Tryz.prog) w 38 5 ty (.int .u8 0) Tryz.underlying38 Jo rfl rfl g 0 n cap hp (fun j hj=>(hth j hj).1) (fun j hj=>(hth j hj).2)
  obtain⟨h2,h3⟩:=fm (C:=cur.toList) (by simpa using hg) 0 (replicate n (.int .u8 0)) (by simp;omega);exact⟨_,h1,h3,_,h2,by simp[spl];omega⟩
def GM(ab d:Nat)(A:AreaL)(v:Value)(l:Bs)(w:World)(e:Ending)(w':World):Prop :=
 e=.returned (.tuple #[])/\∃sp,Turns (aI v l++aq ab d A) (aq ab d { A with spare:=sp }) w w'/\AreaOk { A with spare:=sp }
theorem Cs(ab d:Nat)(A:AreaL)(g cap:Nat)(l:Bs)(w:World)(h:Sat w (aI (.slice (some ⟨g,0,none⟩) l.length cap) l++aq ab d A))(hA:AreaOk A):
  Calls Tryz.prog 153 #[.pointer (some ⟨ab,0,none⟩),.slice (some ⟨g,0,none⟩) l.length cap] w (GM ab d A (.slice (some ⟨g,0,none⟩) l.length cap) l w):=by
 obtain⟨o,hgo,cap',cur,hv,rfl,hn,hcm,hcs,htk⟩:=(show Sat w ((g,_)::aq ab d A)from h).head;obtain rfl:cap=cap':=by simpa using hv
 obtain⟨W1,hcl,hm1,cur1,hg1,hs1⟩:=Fq hgo hn (by omega);have hT1:Turns (aI (.slice (some ⟨g,0,none⟩) l.length cap) l++aq ab d A) ((g,fun o=>∃cur:Array Value,o=.cells cur 5 (0,0)/\cur.size=cap)::aq ab d A) w W1:=(Turns.refl h).put (φ:=_) (ψ:=fun o=>∃cur:Array Value,o=.cells cur 5 (0,0)/\cur.size=cap) hm1 hg1 ⟨cur1,rfl,hs1⟩;have hab:=hT1.sat.tail.Q5;have a5:W1.cell? ⟨ab,132,none⟩=some (.chan (some A.ch)):=aa hab 132 (zo d A hA.tail);obtain⟨o,hch,s,r,rfl⟩:=hT1.sat.tail.tail.head;have HH:=Hq4 hT1 hA hn hcm;clear h hA hab hgo hn hcm hcs htk hm1 hg1 hs1 hT1 hv;have HC:=qqH hch;clear hch;go_enter Tryz.func153,Tryz.ntmps153;go_upto_region 3 with(simp only[hcl]);by_cases hlt:A.spare.length<2
 ·refine uZ (n:=2) (v:=.slice (some ⟨g,0,none⟩) l.length cap) (z:=.slice none 0 0) rfl rfl rfl (by kernel_rfl) HC.out (by simpa using hlt) ?_;have hm:=qk W1 A.ch 2 ((A.spare.map fp).toArray.push (.slice (some ⟨g,0,none⟩) l.length cap)) false (s+1) r false;have hc2:=Conc.heap_setChan W1 A.ch 2 ((A.spare.map fp).toArray.push (.slice (some ⟨g,0,none⟩) l.length cap)) false (s+1) r false (ac HC.out);generalize W1.setChan A.ch 2 ((A.spare.map fp).toArray.push (.slice (some ⟨g,0,none⟩) l.length cap)) false (s+1) r false=W2 at hm hc2 ⊢;have HM:=Hq2 hm hc2;clear hm hc2 hcl;simp only[QD,drop_zero,Act.put,QA];go_wp2_with fail;go_end0;have h1:=HH.a.to (H:=(A.ch,fun o=>∃s r,o=.chan 2 (A.spare.map fp).toArray false s r false)::(ab,Is (.cells (aE d A) 157 (0,0)))::(l5 A.spare++[(g,fun o=>∃cur:Array Value,o=.cells cur 5 (0,0)/\cur.size=cap)])) (by unfold aq;exact ae);have h2:=h1.put (ψ:=fun o=>∃s r,o=.chan 2 ((A.spare++[(g,l.length,cap)]).map fp).toArray false s r false) HM.a HM.z ⟨s+1,r,by simp[fp]⟩;refine⟨rfl,A.spare++[(g,l.length,cap)],?_,⟨HH.b.tail,by simp;omega,?_⟩⟩
  ·have e:aq ab d { A with spare:=A.spare++[(g,l.length,cap)] }=(ab,Is (.cells (aE d A) 157 (0,0)))::(A.ch,fun o=>∃s r,o=.chan 2 ((A.spare++[(g,l.length,cap)]).map fp).toArray false s r false)::(l5 A.spare++[(g,fun o=>∃cur:Array Value,o=.cells cur 5 (0,0)/\cur.size=cap)]):=by
    unfold aq l5;simp only[map_append,map_cons,map_nil];rfl
   rw[e];exact h2.to ae
  ·intro x hx;rcases mem_append.1 hx with hx|hx
   ·exact HH.b.caps x hx
   ·simp at hx;subst hx;exact HH.y
 ·refine uW (n:=2) (v:=.slice (some ⟨g,0,none⟩) l.length cap) (z:=.slice none 0 0) rfl rfl rfl (by kernel_rfl) HC.out (by simp;omega) ?_;clear hcl;simp only[QD,drop_zero,Act.put,QA];go_wp2_with fail;go_end0;exact⟨rfl,A.spare,Turns.drop (H:=aq ab d A) HH.a bS,HH.b⟩
theorem vG{l:Bs}{first count k:Nat}(h:k<count):aC (au l first count) k=aC l (first+k):=by
 unfold aC au;rw[drop_take,drop_drop,take_take];congr 1
 ·omega
 ·congr 1;omega
def dK(H:Bs)(at_ n i:Nat):Bs:=(H.take (min (128*i) (at_+n))).drop at_
theorem rH(H:Bs)(at_ n:Nat):dK H at_ n (at_ / 128)=[]:=by
 unfold dK;exact drop_of_length_le (by rw[length_take];omega)
theorem CY{H:Bs}{at_ n i:Nat}(hi:128*i<at_+n)(_:at_ / 128<=i)(hH:at_+n<=H.length):
  dK H at_ n (i+1)=dK H at_ n i++((aC H i).take (min 128 (at_+n-128*i))).drop (at_-128*i):=by
 unfold dK aC;rw[Nat.min_eq_left (show 128*i<=at_+n by omega),take_take,show min (min 128 (at_+n-128*i)) 128=min 128 (at_+n-128*i) by omega];have e:min (128*(i+1)) (at_+n)=128*i+min 128 (at_+n-128*i):=by omega
 rw[e,take_add,drop_append];congr 2;rw[length_take];omega
theorem FF{H:Bs}{at_ n i:Nat}(hi:¬128*i<at_+n):dK H at_ n i=(H.drop at_).take n:=by
 unfold dK;rw[Nat.min_eq_right (by omega),drop_take,Nat.add_sub_cancel_left]
theorem yc{H:Bs}{at_ n i:Nat}:(dK H at_ n i).length<=n:=by
 unfold dK;rw[length_drop,length_take];omega
def ER(ab d:Nat)(A:AreaL)(g cap:Nat)(l:Bs)(_ _:Nat)(w:World)(e:Ending)(w':World):Prop :=
 e=.returned (.tuple #[])/\∃sp,Turns (aI (.slice (some ⟨g,0,none⟩) l.length cap) l++aq ab d A) (aq ab d { A with spare:=sp }) w w'/\AreaOk { A with spare:=sp }
theorem LN(ab d:Nat)(A:AreaL)(g cap:Nat)(l:Bs)(B0 B1:Nat)(u:FrameMode)(w:World)(h:Sat w (aI (.slice (some ⟨g,0,none⟩) l.length cap) l++aq ab d A))(hA:AreaOk A)(h0:w.cell? ⟨B0,0,none⟩=some (.pointer (some ⟨ab,0,none⟩)))(h1:w.cell? ⟨B1,0,none⟩=some (.slice (some ⟨g,0,none⟩) l.length cap)):
  CallsD Tryz.prog 152 #[.pointer (some ⟨B0,0,none⟩),.pointer (some ⟨B1,0,none⟩)] u w (fun e u' w'=>u'=u/\ER ab d A g cap l B0 B1 w e w'):=by
 have HB:=qqH (Cs ab d A g cap l w h hA);clear h hA;go_enter_d Tryz.func152,Tryz.ntmps152;go_wp2_with fail;refine HB.out.mono ?_;rintro e w' ⟨rfl,hb⟩;have H:=qqH hb;clear hb;go_wp2_with fail;go_end0;exact⟨rfl,H.out⟩
def e8(v:Value):Obj:=.cells #[v] 38 (0,0)
def D8(ab d:Nat)(A:AreaL)(H:Bs)(at_ n B0 B1:Nat)(R:HF)(w:World)(i:Value)(wr:World):Prop :=
 ∃k g cv sp,at_ / 128<=k/\128*k<=at_+n+127/\i=.int .i64 ((k:Nat):Int)/\bOk (.slice (some ⟨g,0,none⟩) (dK H at_ n k).length cv) (dK H at_ n k)/\AreaOk { A with spare:=sp } /\
  Turns (aq ab d A++R) (aI (.slice (some ⟨g,0,none⟩) (dK H at_ n k).length cv) (dK H at_ n k)++((B1,Is (e8 (.slice (some ⟨g,0,none⟩) (dK H at_ n k).length cv)))::(B0,Is (.cells #[.pointer (some ⟨ab,0,none⟩)] 125 (0,0)))::(aq ab d { A with spare:=sp }++R))) w wr
def Hn(ab d:Nat)(A:AreaL)(R0:HF)(Pf:HF->Prop)(w:World)(e:Ending)(w':World):Prop :=
 e=.returned .nilIface/\∃R1 sp,Pf R1/\AreaOk { A with spare:=sp }/\Turns (aq ab d A++R0) (aq ab d { A with spare:=sp }++R1) w w'
def EV(ab d:Nat)(A:AreaL)(R0:HF)(Pf:HF->Prop)(B0 B1 g cv:Nat)(sp:List (Nat×Nat×Nat))(data:Bs)(w:World)(e:Ending)(w':World):Prop :=
 e=.returned .nilIface/\∃R1,Pf R1/\Turns (aq ab d A++R0) (aI (.slice (some ⟨g,0,none⟩) data.length cv) data++((B1,Is (e8 (.slice (some ⟨g,0,none⟩) data.length cv)))::(B0,Is (.cells #[.pointer (some ⟨ab,0,none⟩)] 125 (0,0)))::(aq ab d { A with spare:=sp }++R1))) w w'
theorem Ch(ab d:Nat)(A:AreaL)(L:DevL)(at_ n:Nat)(p0 p1 p2:Value)(H:Bs)(hH:H=au L.now A.first A.count)(R0:HF)(Pf:HF->Prop)(w:World)(h:Sat w (aq ab d A++R0))(hsub:∀a,cnt a (az d L)<=cnt a R0)(hL:DevOk L)(hA:AreaOk A)(hAn:A.first+A.count<=L.n)(hn:L.n<=1073741824)(hfit:at_+n<=128*A.count)(hf:∀(W:World) (B0 B1 g cv:Nat) sp,bOk (.slice (some ⟨g,0,none⟩) ((H.drop at_).take n).length cv) ((H.drop at_).take n)->Turns (aq ab d A++R0) (aI (.slice (some ⟨g,0,none⟩) ((H.drop at_).take n).length cv) ((H.drop at_).take n)++((B1,Is (e8 (.slice (some ⟨g,0,none⟩) ((H.drop at_).take n).length cv)))::(B0,Is (.cells #[.pointer (some ⟨ab,0,none⟩)] 125 (0,0)))::(aq ab d { A with spare:=sp }++R0))) w W ->
   Calls Tryz.prog 131 #[.slice (some ⟨g,0,none⟩) ((H.drop at_).take n).length cv,p0,p1,p2] W (EV ab d A R0 Pf B0 B1 g cv sp ((H.drop at_).take n) w)):
  Calls Tryz.prog 130 #[.pointer (some ⟨ab,0,none⟩),.int .i64 at_,.int .i64 n,.func (.func 131) #[] #[p0,p1,p2]] w (Hn ab d A R0 Pf w):=by
 have hmf:∀(fn:Fn) (first cap:Array Value) (w:World),(Instr.makeFunc fn first cap).run Tryz.prog w=.ok (.func fn first cap) w:=fun _ _ _ _=>rfl
 have HB:Hid (∀W,Sat W (aq ab d A)->Calls Tryz.prog 151 #[.pointer (some ⟨ab,0,none⟩)] W (sJ ab d A W)):=qqH (fun W hW=>xL ab d A W hW hA);have hb1:(at_:Int)+n<=1099511627776:=by omega
 have hb2:(at_:Int)<=1099511627776:=by omega
 have hc1:A.count<=1073741824:=by omega
 have hHl:H.length=128*A.count:=by rw[hH];exact fG hL.nowL (by omega)
 have HH:=qqH (And.intro h (And.intro hL (And.intro hA (And.intro hAn (And.intro hn (And.intro hfit (And.intro hsub (And.intro hHl (And.intro hH hc1)))))))));have HIn:=qqH hf;clear h hL hA hAn hn hfit hf hsub hHl hH hc1;go_enter_defers Tryz.func130,Tryz.ntmps130;go_wp2_with fail;refine(HB.out _ ((HH.a.left).same ((Mods.refl _ w).alloc _))).mono ?_;rintro e w1 ⟨bg,cv,sp,rfl,hok,hT,hAok,-⟩;have hT0:Turns (aq ab d A++R0) ((w.heap.size,Is (.cells #[.pointer (some ⟨ab,0,none⟩)] 125 (0,0)))::(aq ab d A++R0)) w _:=(Turns.refl HH.a).Q8 (.cells #[.pointer (some ⟨ab,0,none⟩)] 125);have hT1:=hT0.step (F:=aq ab d A) (R:=(w.heap.size,Is (.cells #[.pointer (some ⟨ab,0,none⟩)] 125 (0,0)))::R0) ae hT;have b0:=aa (hT1.sat.Q7 (b:=w.heap.size) (o:=.cells #[.pointer (some ⟨ab,0,none⟩)] 125 (0,0)) (by simp)) 0 rfl;have hB0':w.heap.size<w1.heap.size:=World.block_lt_of_cell? w1 _ b0;have hst:=hT1.Q8 (e8 (.slice (some ⟨bg,0,none⟩) 0 cv))
 have hst2:D8 ab d A H at_ n w.heap.size w1.heap.size R0 w (.int .i64 ((at_ / 128:Nat):Int)) (w1.alloc (e8 (.slice (some ⟨bg,0,none⟩) 0 cv))):=by
  refine⟨at_ / 128,bg,cv,sp,Nat.le_refl _,by omega,rfl,?_,hAok,?_⟩
  ·rw[rH];exact hok
  ·rw[rH,length_nil];exact hst.to ae
 have H1:=qqH hst2;clear hT0 hT1 hst hok hAok hT hst2;obtain⟨B0,hB0⟩:∃B0,w.heap.size=B0:=⟨_,rfl⟩;obtain⟨B1,hB1⟩:∃B1,w1.heap.size=B1:=⟨_,rfl⟩;rw[hB0,hB1]at H1;have e128:((at_ / 128:Nat):Int)=(at_:Int) / 128:=by omega
 rw[e128]at H1;clear e128;go_wp2_with fail;go_loopw [10] (fun i wr=>D8 ab d A H at_ n B0 B1 R0 w i wr) (fun i _=>at_+n+128-128*(intOf i).toNat)
 case atStart=>exact H1.out
 case round =>
  obtain⟨k,g,cv2,sp2,hk1,hk2,rfl,hok,hAo,hT⟩:=hrel;by_cases hlt:128*k<at_+n
  ·have hkc:k<A.count:=by have:=HH.f;omega
   have hnn:=HH.out.2.2.2.2.2.2.2.2.2;obtain⟨s,hs⟩:∃s,s=aC H k:=⟨_,rfl⟩;have hsL:aC L.now (A.first+k)=s:=by rw[hs,HH.out.2.2.2.2.2.2.2.2.1,vG hkc]
   have hsl:s.length=128:=by rw[hs];exact iD HH.h hkc
   have HSL:=qqH hsl
   have HRd:Hid (∀W,Sat W (az d L)->Calls Tryz.prog 17 #[.pointer (some ⟨d,0,none⟩),.int .i64 ((A.first:Int)+(k:Nat))] W (fun e w'=>e=.returned (.tuple #[.agg (ay s),.nilIface])/\aX W w')):=qqH (fun W hW=>by
    have:=lA d L (A.first+k) W hW HH.b (by have:=HH.d;omega);unfold jU at this;rw[hsL]at this;exact this)
   have HSUM:=qqH (show IntKind.i64.wrap ((A.first:Int)+(k:Nat))=(A.first:Int)+(k:Nat)from IntWalk.i64_in _ (by have:=HH.d;have:=HH.e;omega));have HR:=Hq5 hok hAo hT hs hkc;have hlt':(128:Int)*k<at_+n:=by omega
   clear hok hAo hT hs hkc hsl hsL;go_upto_region 6 with(fail);refine yO [0,1,2,3,4,5,6,7,8,9] (.two 10 [] [11,12,13] (.one 14 [0,1,2,3,4,5,6,7,8,9,11,12,13] [] (.one 15 [13] [16] .fin)) 14 [0,1,2,3,4,5,6,7,8,9] [] (.one 10 [] [11,12,13] (.one 15 [13] [16] .fin))) HM.out (by kernel_rfl) fun W tW=>?_
   simp only[sP,map_cons,map_nil,nth,QG,QF];have hT:=tW HR.c;clear tW
   have key:∀{W:World} {F:HF},Sat W F->(∀a,cnt a ((B0,Is (.cells #[.pointer (some ⟨ab,0,none⟩)] 125 (0,0)))::(aq ab d { A with spare:=sp2 }++R0))<=cnt a F)->W.cell? ⟨B0,0,none⟩=some (.pointer (some ⟨ab,0,none⟩))/\W.cell? ⟨ab,0,none⟩=some (.pointer (some ⟨d,0,none⟩))/\W.cell? ⟨ab,1,none⟩=some (.int .i64 A.first)/\Sat W (az d L):=fun hs hm=>by
    have h1:=hs.sub hm;exact⟨aa h1.Q5 0 rfl,aa (iq h1.tail) 0 (lB d _),aa (iq h1.tail) 1 (lC d _),h1.sub (fun a=>by have:=HH.g a;simp only[ao,ah];omega)⟩
   have g9:=HSUM.out;obtain⟨k1,k2,k3,k4⟩:=key hT.sat bS;repeat still_step
   refine wpStill_nil ⟨bw (by kernel_rfl) (HRd.out W k4) ?A,i6 (.cells (ay (ak 128)) 43 (0,0)) (fun n=>.pointer (some ⟨n,0,none⟩)) (by kernel_rfl) hT fun g14 W1 hT1=>⟨by(obtain⟨k1,k2,k3,k4⟩:=key hT1.sat bS;(repeat still_step);exact rfl),wpStill_nil (bw (by kernel_rfl) (HRd.out W1 (key hT1.sat bS).2.2.2) ?B)⟩⟩
   case' A =>
    rintro e W1 ⟨rfl,hs⟩;have hT1:=hT.Q9 hs;refine⟨_,rfl,rfl,?_⟩;simp only[Act.put,QA,QB,QC];repeat still_step
    refine wpStill_nil (i6 (.cells (ay (ak 128)) 43 (0,0)) (fun n=>.pointer (some ⟨n,0,none⟩)) (by kernel_rfl) hT1 fun g14 W2 hT2=>⟨by(obtain⟨k1,k2,k3,k4⟩:=key hT2.sat bS;(repeat still_step);exact rfl),wpStill_nil ?_⟩)
   case' B =>
    rintro e W2 ⟨rfl,hs⟩;have hT2:=hT1.Q9 hs;refine⟨_,rfl,rfl,?_⟩;simp only[Act.put,QA,QB,QC];repeat still_step
    refine wpStill_nil ?_
   all_goals
    refine qq 43 (.tmp 11) (.tmp 40) rfl g14 (ay (ak 128)) (ay s) _ hT2 rfl rfl (by rw[bR,bR,HSL.out,an]) (ii HSL.out) (cU _) fun W3 hT3=>⟨by(repeat still_step);exact rfl,?_⟩
    simp only[Act.put,QA,QB,QC];repeat still_step
    refine wpStill_nil ?_;clear key hT1 g9 k1 k2 k3 k4;have b1:=aa (hT3.sat.Q7 (b:=B1) (o:=e8 (.slice (some ⟨g,0,none⟩) (dK H at_ n k).length cv2)) (by simp)) 0 rfl;have f1:=bf (hT3.sat.Q7 (b:=B1) (o:=e8 (.slice (some ⟨g,0,none⟩) (dK H at_ n k).length cv2)) (by simp)) 0;have H3:=qqH hT3;clear hT3 hT2 hT;obtain⟨lo,hlo⟩:∃lo,lo=at_-128*k:=⟨_,rfl⟩;obtain⟨hi,hhi⟩:∃hi,hi=min 128 (at_+n-128*k):=⟨_,rfl⟩;have m1:max (0:Int) ((at_:Int)-(k:Nat)*128)=(lo:Int):=by omega
    have m2:min (128:Int) ((at_:Int)+n-(k:Nat)*128)=(hi:Int):=by omega
    have m3:(lo:Int)<=hi:=by omega
    have m4:(hi:Int)<=128:=by omega
    have HLH:=Hq2 hlo hhi;clear hlo hhi;go_upto_region 11 with(fail);have m5:¬lo=128:=by have:=HLH.a;omega
    have m7:¬128=lo:=by omega
    have m6:(lo:Int)<=128:=by omega
    obtain⟨r,hr⟩:∃r,r=(s.take hi).drop lo:=⟨_,rfl⟩;have hrl:r.length=hi-lo:=by rw[hr,length_drop,length_take,HSL.out];omega
    have hgn:dK H at_ n (k+1)=dK H at_ n k++r:=by
     rw[hr,HR.d,HLH.a,HLH.z];exact CY (by omega) hk1 (by rw[HH.h];exact HH.f)
    have hcr:al W3 (some ⟨g14,lo,none⟩) (r.map am):=fun _=>⟨g14,lo,rfl,fun j hj=>by
     have hj':j<hi-lo:=by simpa[hrl]using hj
     have hx:=H3.out.sat.Q5;refine aa hx (lo+j) ?_;rw[j8 s (lo+j) (by rw[HSL.out];omega)];simp[hr]⟩
    have hgl:=yc (H:=H) (at_:=at_) (n:=n) (i:=k+1);have H4:=Hq4 hrl hgn hcr hgl;clear hr hrl hgn hcr hgl;refine wp_region_still_tail 4 HM.out (by kernel_rfl) ?_;simp only[QE,take_zero,QD,drop_zero];iterate 4 still_step
    refine wpStill_nil ?_;change wpList _ _ _ _ _ W3.drew;have hTd:=H3.out.drew.to (H:=aI (.slice (some ⟨g,0,none⟩) (dK H at_ n k).length cv2) (dK H at_ n k)++((g14,Is (.cells (ay s) 43 (0,0)))::((B1,Is (e8 (.slice (some ⟨g,0,none⟩) (dK H at_ n k).length cv2)))::(B0,Is (.cells #[.pointer (some ⟨ab,0,none⟩)] 125 (0,0)))::(aq ab d { A with spare:=sp2 }++R0)))) ae;refine ai rfl (go (.tmp 57) (.tmp 60) rfl (.slice (some ⟨g,0,none⟩) (dK H at_ n k).length cv2) (dK H at_ n k) rfl hTd HR.a (some ⟨g14,lo,none⟩) (hi-lo) _ rfl r H4.a.symm (al.of_heap rfl H4.c) (by have h1:=H4.x;rw[H4.b,length_append]at h1;have:=HH.f;have:=HH.out.2.2.2.2.2.2.2.2.2;omega) ?_);intro av cv3 w4 hok4 hT4 hav
    obtain⟨gx,cx,rfl⟩:∃gx:Nat,∃_:Unit,av=some ⟨gx,0,none⟩:=by
     cases av with
     | none=>exact absurd (hav rfl).1 (by simp)
     | some ad =>
      have hO:=dr hT4.sat.left hok4;rcases hO.2 with⟨hv,_⟩|⟨gg,cap,cur,hv,_⟩
      ·cases hv
      ·simp only[Value.slice.injEq,Option.some.injEq]at hv;exact⟨gg,(),by rw[hv.1]⟩
    rw[<- H4.b]at hok4 hT4 ⊢;have hb1:=hT4.sat.Q7 (b:=B1) (o:=e8 (.slice (some ⟨g,0,none⟩) (dK H at_ n k).length cv2)) (by simp);have c1:=aa hb1 0 rfl;have d1:=bf hb1 0;have hT5:=(hT4.to (H:=(B1,Is (e8 (.slice (some ⟨g,0,none⟩) (dK H at_ n k).length cv2)))::(aI (.slice (some ⟨gx,0,none⟩) (dK H at_ n (k+1)).length cv3) (dK H at_ n (k+1))++((g14,Is (.cells (ay s) 43 (0,0)))::((B0,Is (.cells #[.pointer (some ⟨ab,0,none⟩)] 125 (0,0)))::(aq ab d { A with spare:=sp2 }++R0))))) ae).Qa ((Mods.refl (fun k=>k=B1) w4).set1 (i:=0) (.slice (some ⟨gx,0,none⟩) (dK H at_ n (k+1)).length cv3)) (bB hb1 0 _);have hT6:=hT5.drop (H:=aI (.slice (some ⟨gx,0,none⟩) (dK H at_ n (k+1)).length cv3) (dK H at_ n (k+1))++((B1,Is (e8 (.slice (some ⟨gx,0,none⟩) (dK H at_ n (k+1)).length cv3)))::(B0,Is (.cells #[.pointer (some ⟨ab,0,none⟩)] 125 (0,0)))::(aq ab d { A with spare:=sp2 }++R0))) (fun _=>by simp only[ao,ah];show _<=Id _ (B1,Is (e8 (.slice (some ⟨gx,0,none⟩) (dK H at_ n (k+1)).length cv3)))+_;omega);have H6:=Hq2 hok4 hT6;clear hok4 hT4 hT5 hT6 hb1 hav hTd b1 f1;go_wp2_with fail;go_roundw
    case rel=>exact⟨k+1,gx,cv3,sp2,by omega,by omega,by go_num,H6.a,HR.b,H6.z⟩
    case measure=>simp[intOf];omega
  ·have hge:=FF (H:=H) (at_:=at_) (n:=n) (i:=k) hlt;rw[hge]at hok hT;obtain⟨data,hd⟩:∃data,data=(H.drop at_).take n:=⟨_,rfl⟩;have HIn2:=qqH (HIn.out wr B0 B1 g cv2 sp2);rw[<- hd]at hok hT HIn2;have b1:=aa (hT.sat.Q7 (b:=B1) (o:=e8 (.slice (some ⟨g,0,none⟩) data.length cv2)) (by simp)) 0 rfl;have HR:=Hq3 hok hAo hT;have hlt':¬(128:Int)*k<at_+n:=by omega
   clear hok hAo hT hge hd HIn;go_wp2_with fail;refine(HIn2.out HR.a HR.y).mono ?_;rintro e w3 ⟨rfl,R1,hP,hT3⟩;have H3:=Hq2 hP hT3;clear hP hT3;go_wp2_with fail;have hsat:=H3.z.sat;have hb0:=hsat.Q7 (b:=B0) (o:=.cells #[.pointer (some ⟨ab,0,none⟩)] 125 (0,0)) (by simp);have hb1:=hsat.Q7 (b:=B1) (o:=e8 (.slice (some ⟨g,0,none⟩) data.length cv2)) (by simp);refine leaves_cons (f:=152) (args:=#[.pointer (some ⟨B0,0,none⟩),.pointer (some ⟨B1,0,none⟩)]) (by simp) (by simp[go_sem]) ?_;refine(LN ab d { A with spare:=sp2 } g cv2 data B0 B1 .returning _ (hsat.sub bS) HR.b (aa hb0 0 rfl) (aa hb1 0 rfl)).mono ?_;rintro e u' w4 ⟨rfl,rfl,sp3,hT4,hA4⟩;have hT5:=H3.z.step (F:=aI (.slice (some ⟨g,0,none⟩) data.length cv2) data++aq ab d { A with spare:=sp2 }) (R:=(B1,Is (e8 (.slice (some ⟨g,0,none⟩) data.length cv2)))::(B0,Is (.cells #[.pointer (some ⟨ab,0,none⟩)] 125 (0,0)))::R1) ae hT4;exact⟨_,results_tmp rfl _ _ _,rfl,R1,sp3,H3.a,hA4,hT5.drop bS⟩
def ap(n:Nat):Nat:=(n-2) / 2
theorem oW(d:Nat)(L:DevL)(ep:Nat)(w:World)(h:Sat w (az d L))(hn:2<=L.n)(hn2:L.n<=1073741824)(hep:ep<4294967296):
  Calls Tryz.prog 53 #[.pointer (some ⟨d,0,none⟩),.int .u32 ep] w (mz d (2+ep%2*ap L.n) (ap L.n) w):=by
 have HS:=qqH (kI d L w h);obtain⟨m,hm⟩:∃m,m=ap L.n:=⟨_,rfl⟩;have e1:((L.n:Int)-2) / 2=(m:Int):=by rw[hm];unfold ap;omega
 have hml:m<=1073741824:=by rw[hm];unfold ap;omega
 obtain⟨b,hb⟩:∃b,b=ep%2:=⟨_,rfl⟩;have e2:((ep:Int))%2=(b:Int):=by omega
 have hb2:b=0\/b=1:=by omega
 have e3:wrap64 (2+wrap64 ((b:Int)*(m:Int)))=((2+b*m:Nat):Int):=by
  have hbm:(b:Int)*(m:Int)=((b*m:Nat):Int):=by simp
  have hle:b*m<=1*m:=Nat.mul_le_mul_right _ (by omega);have i1:wrap64 ((b*m:Nat):Int)=((b*m:Nat):Int):=IntWalk.wrap64_in _ ⟨by omega,by omega⟩;rw[hbm,i1,IntWalk.wrap64_in _ ⟨by omega,by omega⟩];omega
 rw[<- hm,<- hb];have HM:=Hq2 hm hb;clear h hm hb;go_enter Tryz.func53,Tryz.ntmps53;go_wp2_with fail;refine HS.out.mono ?_;rintro e w1 ⟨rfl,rfl⟩;have E3:=qqH e3;clear e3;go_wp2_with fail;rw[E3.out];refine(vh d (2+b*m) m w).mono ?_;rintro e w1 ⟨ab,ch,rfl,hT⟩;have HT:=qqH hT;clear hT;go_wp2_with fail;go_ret;exact⟨ab,ch,rfl,HT.out⟩
def dP(pm tm cm:Nat)(sc sb used:Int):Array Value:=#[.map (some pm),.map (some tm),.map (some cm),.int .i64 sc,.int .i64 sb,.int .i64 used]
def sQ(w:World)(e:Ending)(w':World):Prop :=
 ∃pm tm cm:Nat,e=.returned (.agg (dP pm tm cm 0 0 0))/\Turns [] [(cm,Is (.map #[] 0)),(tm,Is (.map #[] 0)),(pm,Is (.map #[] 0))] w w'
theorem iY(w:World):Calls Tryz.prog 52 #[] w (sQ w):=by
 have hmm:=@run_makeMap Tryz.prog;go_enter Tryz.func52,Tryz.ntmps52;go_wp2_with fail;have h:=((((Turns.refl (Sat.nil w)).alloc (.cells (dP (w.heap.size+1) (w.heap.size+1+1) (w.heap.size+1+1+1) 0 0 0) 123)).Q8 (.map #[] 0)).Q8 (.map #[] 0)).Q8 (.map #[] 0);simp only[World.size_alloc]at h
 have hc:((((w.alloc (.cells (dP (w.heap.size+1) (w.heap.size+1+1) (w.heap.size+1+1+1) 0 0 0) 123)).alloc (.map #[] 0)).alloc (.map #[] 0)).alloc (.map #[] 0)).heap[w.heap.size]?=some (.cells (dP (w.heap.size+1) (w.heap.size+1+1) (w.heap.size+1+1+1) 0 0 0) 123 (0,0)):=by
  rw[dN (by simp;omega),dN (by simp;omega),dN (by simp)];exact aK w _
 exact bodyPost_ret (results_cell_row rfl _ _ w.heap.size 123 _ (0,0) _ rfl hc Tryz.underlying123 rfl (by kernel_rfl)) rfl ⟨_,_,_,rfl,h⟩
structure ArchL where
 pm:Nat
 tm:Nat
 cm:Nat
 sc:Int
 sb:Int
 used:Int
 d:Nat
 ab:Nat
 ep:Nat
 quota:Int
 closed:Bool
 broken:Value
def bb(X:ArchL):Array Value:=#[.map (some X.pm),.map (some X.tm),.map (some X.cm),.int .i64 X.sc,.int .i64 X.sb,.int .i64 X.used,.pointer (some ⟨X.d,0,none⟩),.pointer (some ⟨X.ab,0,none⟩),.int .u32 X.ep,.int .i64 X.quota,.bool X.closed,X.broken]
def aH(X:ArchL):Obj:=.cells (bb X) 128 (0,0)
theorem lW{l:Bs}{first count k:Nat}(h:k<count):aC (au l first count) k=aC l (first+k):=by
 unfold aC au;rw[drop_take,drop_drop,take_take];congr 1
 ·omega
 ·congr 1;omega
theorem o9{w:World}{b e n:Nat}{v:Value}{xs:List Value}(h:w.ownsRow b e 1 v n xs):∃a cap,v=.slice a n cap/\xs.length=n/\n<=cap/\cap<=9223372036854775807/\al w a xs/\∀x,a=some x->v.ownBlock=some x.block:=by
 obtain⟨a,cap,rfl,h1,h2,h3,h4⟩:=qR h;refine⟨a,cap,rfl,h1,h2,?_,h3,h4⟩;rcases h.2 with⟨hv,_⟩|⟨g,c,cur,hv,_,_,_,hc,_⟩
 ·simp only[Value.slice.injEq]at hv;omega
 ·simp only[Value.slice.injEq]at hv;unfold maxLen at hc;omega
def c9(q:Int):Int:=if(0:Int)>q then 0 else q
def qy(d:Nat)(L:DevL)(q:Int)(w:World)(e:Ending)(w':World):Prop :=
 ∃a ab pm tm cm ch L',e=.returned (.tuple #[.pointer (some ⟨a,0,none⟩),.nilIface]) /\
  Turns (az d L) ((a,Is (aH ⟨pm,tm,cm,0,0,0,d,ab,1,c9 q,false,.nilIface⟩))::(pm,Is (.map #[] 0))::(tm,Is (.map #[] 0))::(cm,Is (.map #[] 0))::(aq ab d ⟨2+ap L.n,ap L.n,0,ak 128,ch,[]⟩++az d L')) w w' /\
  DevOk L'/\L'.n=L.n/\L'.now=aV (fZ L.now (2+ap L.n) 0 (ak 128) (ap L.n)) 128 (bi 1 0)/\L'.safe=L'.now/\L'.chs=[]
theorem Ab(d:Nat)(L:DevL)(q:Int)(w:World)(h:Sat w (az d L))(hL:DevOk L)(hn:16<=L.n)(hn2:L.n<=1073741824)(hch:L.chs.length<=137438953472):
  Calls Tryz.prog 51 #[.pointer (some ⟨d,0,none⟩),.int .i64 q] w (qy d L q w):=by
 have HNC:=qqH iY
 have HH:Hid (∀W,Sat W (az d L)->Calls Tryz.prog 53 #[.pointer (some ⟨d,0,none⟩),.int .u32 1] W (mz d (2+ap L.n) (ap L.n) W)):=qqH (fun W hW=>by
  have:=oW d L 1 W hW (by omega) hn2 (by omega);simpa using this)
 have HS:=Hq5 h hL hn hn2 hch;clear h hL hn hn2 hch;go_enter Tryz.func51,Tryz.ntmps51;go_wp2_with fail;obtain⟨w1,hw1⟩:∃w1,w1=w.alloc (.cells #[.int .u32 1,.int .u32 0] 118):=⟨_,rfl⟩;have hT1:Turns (az d L) ((w.heap.size,Is (.cells #[.int .u32 1,.int .u32 0] 118 (0,0)))::az d L) w w1:=by rw[hw1];exact(Turns.refl HS.a).Q8 _
 rw[<- hw1];have a0:=aa hT1.sat.Q5 0 rfl;obtain⟨u,hu⟩:∃u,u=w.heap.size:=⟨_,rfl⟩;rw[<- hu]at hT1 a0 ⊢;have HT:=qqH hT1;have hs1:aX w w1:=by rw[hw1];exact(Mods.refl _ w).alloc _
 have HS1:=qqH hs1;clear hw1 hu hT1 hs1;refine cL [([1,2,3,4,6,7,8,9],0,[1,2,3,4,6,7,8,9]),([],5,[1,6,7,8,9]),([10],11,[])] [12] HM.out (by kernel_rfl) fun W tW=>?_
 simp only[Mix,map_cons,map_nil,nth,QG,QF];have hT0:=tW HT.out;clear tW;have u0:∀{W:World} {F:HF},Sat W F->(u,Is (.cells #[.int .u32 1,.int .u32 0] 118 (0,0)))∈F->W.cell? ⟨u,0,none⟩=some (.int .u32 1):=fun hs hm=>aa (hs.Q7 hm) 0 rfl
 have c0:=u0 hT0.sat (by simp);iterate 7 still_step
 refine cD rfl (v:=.int .i64 (c9 q)) (by kernel_rfl) ?_;simp only[Act.put,QA,QB,QC];refine wpStill_nil (bw (by kernel_rfl) (HNC.out _) ?_);rintro e W1 ⟨pm,tm,cm,rfl,hT3⟩;have hT1:=Turns.Qb hT0 hT3;refine⟨_,rfl,by(have c1:=u0 hT1.sat (by simp);(iterate 7 still_step);exact cD rfl (v:=.int .i64 (c9 q)) (by kernel_rfl) rfl),wpStill_nil (bw (by kernel_rfl) (HH.out _ hT1.sat.right.tail) ?_)⟩;rintro e W2 ⟨ab,ch,rfl,hT3⟩;have hT2:=Turns.Qb hT1 hT3;refine⟨_,rfl,by(have c1:=u0 hT2.sat (by simp);(iterate 4 still_step);exact cD rfl (v:=.int .i64 (c9 q)) (by kernel_rfl) rfl),?_⟩;simp only[Act.put,QA,QB,QC];refine cD rfl (v:=.agg (bb ⟨pm,tm,cm,0,0,0,d,ab,1,c9 q,false,.nilIface⟩)) (by kernel_rfl) ?_;simp only[Act.put,QA,QB,QC];refine wpStill_nil (i6 (aH ⟨pm,tm,cm,0,0,0,d,ab,1,c9 q,false,.nilIface⟩) (fun g=>.pointer (some ⟨g,0,none⟩)) (by kernel_rfl) hT2 fun g w2 hT=>⟨rfl,?_⟩);simp only[Act.put,QA,QB,QC];repeat still_step
 refine wpStill_nil ?_;have g7:=aa hT.sat.Q5 7 (show(bb ⟨pm,tm,cm,0,0,0,d,ab,1,c9 q,false,.nilIface⟩)[7]?=some (.pointer (some ⟨ab,0,none⟩))from rfl);have HAll:=qqH (qw ab d ⟨2+ap L.n,ap L.n,0,ak 128,ch,[]⟩ L w2 (hT.sat.sub bS) HS.b (by simp only;unfold ap;have:=HS.c;omega) HS.d);have HT2:=qqH hT;clear hT0 hT1 hT2 hT c0 u0;go_wp2_with fail;refine HAll.out.mono ?_;rintro e w3 ⟨v,rfl,hok,hT3⟩;have hwl:=fG HS.b.nowL (first:=2+ap L.n) (k:=ap L.n) (by unfold ap;have:=HS.c;omega);obtain⟨ws,hws⟩:∃ws,ws=au L.now (2+ap L.n) (ap L.n):=⟨_,rfl⟩;try simp only at hok hT3
 rw[<- hws]at hok hT3 hwl;obtain⟨av,cv,rfl,hlv,hcv,hcv2,hca,hav⟩:=o9 (dr hT3.sat hok);have hT4:=Turns.Qb HT2.out hT3
 have hcut:=qx ab d ⟨2+ap L.n,ap L.n,0,ak 128,ch,[]⟩ L 0 av cv ws w3 (hT4.sat.sub bS) HS.b (by simp only;unfold ap;have:=HS.c;omega) HS.d ⟨an _,by simp,fun _ h=>by simp at h⟩ hca
  (fun x hx hin=>hT4.sat.Qh (b:=x.block) ((ff _ _ _ _ _ _).2 (hav x hx)) (by simp only[cJ,gF,mem_append,mem_cons]at hin ⊢;rcases hin with h|h<;>simp[h])) hwl hcv hcv2 (by simp only;unfold ap;have:=HS.c;omega) (Nat.zero_le _) HS.w
  (fun m hm he=>by simp only at hm ⊢;rw[hws,lW (by omega)]at he;exact he)
 have g7:=aa (hT4.sat.right.Q5) 7 (show(bb ⟨pm,tm,cm,0,0,0,d,ab,1,c9 q,false,.nilIface⟩)[7]?=some (.pointer (some ⟨ab,0,none⟩))from rfl);have HC:=qqH hcut;have H4:=Hq2 hT4 hwl;clear hcut hT4 hca hav hT3 hok hws hlv hwl hcv hcv2;go_wp2_with fail;refine HC.out.mono ?_;rintro e w4 ⟨rfl,L',hT5,hL',hn',hnow',hsafe',hch'⟩;have eA:(drop (128*(0 / 128)) (take 0 ws)++ak (128-0%128))=ak 128:=by simp
 simp only[eA]at hT5 hnow';clear eA;have hT6:=H4.a.step (F:=aq ab d ⟨2+ap L.n,ap L.n,0,ak 128,ch,[]⟩++az d L) (R:=aI (.slice av ws.length cv) ws++((g,Is (aH ⟨pm,tm,cm,0,0,0,d,ab,1,c9 q,false,.nilIface⟩))::([(cm,Is (.map #[] 0)),(tm,Is (.map #[] 0)),(pm,Is (.map #[] 0))]++[(u,Is (.cells #[.int .u32 1,.int .u32 0] 118 (0,0)))]))) ae hT5;have hu:=(hT6.sat.sub (G:=[(u,Is (.cells #[.int .u32 1,.int .u32 0] 118 (0,0)))]) bS).Q5;have u0:=aa hu 0 rfl;have u1:=aa hu 1 rfl;have HSec:=qqH (lX 1 0 (by omega) (by omega) w4)
 have HWr:Hid (∀W,Sat W (az d L')->Calls Tryz.prog 18 #[.pointer (some ⟨d,0,none⟩),.int .i64 1,.agg (ay (bi 1 0))] W (jM d L' 1 (bi 1 0) W)):=qqH (fun W hW=>by
  have:=jj d L' 1 (bi 1 0) W hW hL' (by rw[hn'];have:=HS.c;omega) (bZ 1 0) (by rw[hch'];simp);exact this)
 have H6:=Hq6 hT6 hL' hn' hnow' hsafe' hch';clear hT5 hT6 hL' hn' hnow' hsafe' hch' hu g7;go_wp2_with fail;refine HSec.out.mono ?_;rintro e w5 ⟨rfl,hs5⟩;have hT7:=H6.a.Q9 hs5;have H7:=qqH hT7;clear hs5 hT7 u0 u1;go_wp2_with fail;refine(HWr.out _ (H7.out.sat.sub bS)).mono ?_;rintro e w6 ⟨rfl,L2,hT8,hL2,hn2,hnow2,hch2⟩;have hT9:=H7.out.step (F:=az d L') (R:=(aq ab d ⟨2+ap L.n,ap L.n,0,ak 128,ch,[]⟩)++((g,Is (aH ⟨pm,tm,cm,0,0,0,d,ab,1,c9 q,false,.nilIface⟩))::([(cm,Is (.map #[] 0)),(tm,Is (.map #[] 0)),(pm,Is (.map #[] 0))]++([(u,Is (.cells #[.int .u32 1,.int .u32 0] 118 (0,0)))]++aI (.slice av ws.length cv) ws)))) ae hT8;have HFl:Hid (∀W,Sat W (az d L2)->Calls Tryz.prog 20 #[.pointer (some ⟨d,0,none⟩)] W (kZ d L2 W)):=qqH (fun W hW=>ji d L2 W hW hL2 (by rw[hch2,H6.v];simp));have H9:=Hq4 hT9 hL2 hn2 hnow2;clear hT8 hT9 hL2 hn2 hnow2 hch2;go_wp2_with fail;refine(HFl.out _ (H9.a.sat.sub bS)).mono ?_;rintro e w7 ⟨rfl,L3,hT10,hL3,hn3,hnow3,hsafe3,hch3⟩;have hT11:=H9.a.step (F:=az d L2) (R:=(aq ab d ⟨2+ap L.n,ap L.n,0,ak 128,ch,[]⟩)++((g,Is (aH ⟨pm,tm,cm,0,0,0,d,ab,1,c9 q,false,.nilIface⟩))::([(cm,Is (.map #[] 0)),(tm,Is (.map #[] 0)),(pm,Is (.map #[] 0))]++([(u,Is (.cells #[.int .u32 1,.int .u32 0] 118 (0,0)))]++aI (.slice av ws.length cv) ws)))) ae hT10;have hT12:=hT11.drop (H:=(g,Is (aH ⟨pm,tm,cm,0,0,0,d,ab,1,c9 q,false,.nilIface⟩))::(pm,Is (.map #[] 0))::(tm,Is (.map #[] 0))::(cm,Is (.map #[] 0))::(aq ab d ⟨2+ap L.n,ap L.n,0,ak 128,ch,[]⟩++az d L3)) bS;have H12:=Hq6 hT12 hL3 hn3 hnow3 hsafe3 hch3;clear hT10 hT11 hT12 hL3 hn3 hnow3 hsafe3 hch3;go_wp2_with fail;go_ret2;refine⟨g,ab,pm,tm,cm,ch,L3,rfl,H12.a,H12.b,by rw[H12.c,H9.c,H6.c],?_,by rw[H12.e,H12.d],H12.v⟩;rw[H12.d,H9.x,H6.d];simp only[Nat.zero_div,Nat.sub_zero,Nat.mul_one]
def ly(H:Bs)(at_:Nat)(body:Bs):Prop:=at_+(body.length+9)<=H.length/\bM ((H.drop at_).take (body.length+9))=some (1,body,body.length+9)
def Jw(ab d:Nat)(A:AreaL)(R0 R2:HF)(ob:Nat)(body:Bs)(w w':World):Prop :=
 ∃v sp,bOk v body/\AreaOk { A with spare:=sp }/\Turns (aq ab d A++R0) (aI v body++((ob,Is (e8 v))::(aq ab d { A with spare:=sp }++R2))) w w'
def GZ(ab d:Nat)(A:AreaL)(R0:HF)(body:Bs)(w:World)(e:Ending)(w':World):Prop :=
 ∃av cv sp,e=.returned (.tuple #[.slice av body.length cv,.nilIface])/\bOk (.slice av body.length cv) body/\AreaOk { A with spare:=sp }/\Turns (aq ab d A++R0) (aI (.slice av body.length cv) body++(aq ab d { A with spare:=sp }++R0)) w w'
theorem oZ(a:Nat)(X:ArchL)(ab d:Nat)(hab:ab=X.ab)(A:AreaL)(L:DevL)(at_:Nat)(body:Bs)(R0:HF)(w:World)(h:Sat w (aq ab d A++R0))(hsub:∀x,cnt x ((a,Is (aH X))::az d L)<=cnt x R0)(hL:DevOk L)(hA:AreaOk A)(hAn:A.first+A.count<=L.n)(hn:L.n<=1073741824)(hc:ly (au L.now A.first A.count) at_ body):
  Calls Tryz.prog 86 #[.pointer (some ⟨a,0,none⟩),.agg #[.int .i64 at_,.int .i64 body.length]] w (GZ ab d A R0 body w):=by
 have hmf:∀(fn:Fn) (first cap:Array Value) (w:World),(Instr.makeFunc fn first cap).run Tryz.prog w=.ok (.func fn first cap) w:=fun _ _ _ _=>rfl
 have hbl:body.length<65536:=(dx hc.2).2.2.2.2;have HSz:=qqH (fun W=>gP (body.length:Int) (by omega) (by omega) W);have HH:=Hq8 h hsub hL hA hAn hn hc hab;clear h hsub hL hA hAn hn hc hab;go_enter Tryz.func86,Tryz.ntmps86;go_wp2_with fail;obtain⟨B2,hB2⟩:∃B,w.heap.size=B:=⟨_,rfl⟩;have hT1:=(((Turns.refl HH.a).Q8 (.cells #[.pointer (some ⟨a,0,none⟩)] 32)).Q8 (.cells #[.int .i64 at_,.int .i64 body.length] 161)).Q8 (e8 (.slice none 0 0));simp only[World.size_alloc]at hT1;obtain⟨B3,hB3⟩:∃B,w.heap.size+1=B:=⟨_,rfl⟩;obtain⟨B6,hB6⟩:∃B,w.heap.size+1+1=B:=⟨_,rfl⟩;rw[hB6]at hT1 ⊢;rw[hB3]at hT1 ⊢;rw[hB2]at hT1 ⊢;obtain⟨R2,hR2⟩:∃R2,R2=((B3,Is (.cells #[.int .i64 at_,.int .i64 body.length] 161 (0,0)))::(B2,Is (.cells #[.pointer (some ⟨a,0,none⟩)] 32 (0,0)))::R0):=⟨_,rfl⟩;obtain⟨R1,hR1⟩:∃R1,R1=((B6,Is (e8 (.slice none 0 0)))::R2):=⟨_,rfl⟩;have hT2:Turns (aq ab d A++R0) (aq ab d A++R1) w _:=hT1.to (H:=aq ab d A++R1) (by rw[hR1,hR2];exact ae);have HT:=Hq3 hT2 hR1 hR2;clear hT1 hT2 hR1 hR2 hB2 hB3 hB6
 have HW:Hid (∀W,Turns (aq ab d A++R0) (aq ab d A++R1) w W->Calls Tryz.prog 130 #[.pointer (some ⟨ab,0,none⟩),.int .i64 at_,.int .i64 ((body.length:Int)+9),.func (.func 131) #[] #[.pointer (some ⟨B3,0,none⟩),.pointer (some ⟨B2,0,none⟩),.pointer (some ⟨B6,0,none⟩)]] W (fun e w'=>e=.returned .nilIface/\Jw ab d A R0 R2 B6 body w w')):=qqH (fun W hTW=>by
  have hTW':=hTW;rw[HT.b,HT.y]at hTW'
  have hw:=Ch ab d A L at_ (body.length+9) (.pointer (some ⟨B3,0,none⟩)) (.pointer (some ⟨B2,0,none⟩)) (.pointer (some ⟨B6,0,none⟩)) (au L.now A.first A.count) rfl R1 (fun R'=>∃v,bOk v body/\R'=aI v body++((B6,Is (e8 v))::R2)) W hTW.sat
   (fun x=>by have h1:=HH.b x;rw[HT.b,HT.y];rw[ao]at h1;simp only[ao];omega) HH.c HH.d HH.e HH.f (by have:=HH.g.1;rwa [fG HH.c.nowL HH.e]at this)
   (fun W' B0 B1 g cv sp hok hTW2=>by
    have hTW3:=hTW2;rw[HT.b,HT.y]at hTW3;obtain⟨a2,cap2,hv2,hl2,hc2,hca2,-⟩:=aP (dr hTW2.sat.left hok);simp only[Value.slice.injEq]at hv2;obtain⟨rfl,-,rfl⟩:=hv2;have hb6:=hTW3.sat.Q7 (b:=B6) (o:=e8 (.slice none 0 0)) (by simp);have hb3:=hTW3.sat.Q7 (b:=B3) (o:=.cells #[.int .i64 at_,.int .i64 body.length] 161 (0,0)) (by simp)
    have hne:B3≠B6:=fun e=>by
     subst e;rw[hb3]at hb6;unfold e8 at hb6;simp at hb6
    have hf:=AE (some ⟨g,0,none⟩) cv (((au L.now A.first A.count).drop at_).take (body.length+9)) body at_ B3 B2 B6 W' hca2 (by rw[length_take];omega) hc2 HH.g.2 hb3 hb6 hne (fun x hx=>by
     simp only[Option.some.injEq]at hx;subst hx;intro e;have:=hTW3.sat.Qh (b:=g) (by simp[aI,bN,Value.ownBlock]);have e:g=B6:=e;exact this (by simp[e]))
    refine hf.mono ?_;rintro e w' ⟨rfl,v,hv,hTf⟩;refine⟨rfl,aI v body++((B6,Is (e8 v))::R2),⟨v,hv,rfl⟩,?_⟩;rw[HT.b]at hTW2;have h2:=hTW2.step (F:=[(B6,Is (e8 (.slice none 0 0)))]) (R:=aI (.slice (some ⟨g,0,none⟩) (((au L.now A.first A.count).drop at_).take (body.length+9)).length cv) (((au L.now A.first A.count).drop at_).take (body.length+9))++((B1,Is (e8 (.slice (some ⟨g,0,none⟩) (((au L.now A.first A.count).drop at_).take (body.length+9)).length cv)))::(B0,Is (.cells #[.pointer (some ⟨ab,0,none⟩)] 125 (0,0)))::(aq ab d { A with spare:=sp }++R2))) ae hTf;rw[HT.b];exact h2.to (by show Perm (((B6,Is (e8 v))::aI v body)++_) _;exact ae))
  rw[show((body.length+9:Nat):Int)=(body.length:Int)+9 by omega]at hw;refine hw.mono ?_;rintro e w' ⟨rfl,R',sp,⟨v,hv,rfl⟩,hA',hT'⟩;exact⟨rfl,v,sp,hv,hA',(hTW.trans hT').to ae⟩)
 refine cL [([0,1,2,3,4,5,6,7,8,9],10,[])] [11] HM.out (by kernel_rfl) fun W tW=>?_
 simp only[Mix,map_cons,map_nil,nth,QG,QF];have hT:=tW HT.a;clear tW
 have key:∀{W:World} {F:HF},Sat W F->(∀x,cnt x R2<=cnt x F)->W.cell? ⟨B2,0,none⟩=some (.pointer (some ⟨a,0,none⟩))/\W.cell? ⟨a,7,none⟩=some (.pointer (some ⟨ab,0,none⟩))/\W.cell? ⟨B3,0,none⟩=some (.int .i64 (at_:Nat))/\W.cell? ⟨B3,1,none⟩=some (.int .i64 (body.length:Nat)):=fun hs hm=>by
  have h1:=hs.sub hm;rw[HT.y]at h1;have h2:=h1.sub (G:=(a,Is (aH X))::az d L) (fun x=>by have h1:=HH.b x;rw[ao]at h1;simp only[ao];omega);refine⟨aa h1.tail.Q5 0 rfl,?_,aa h1.Q5 0 rfl,aa h1.Q5 1 rfl⟩;rw[HH.t];exact aa h2.Q5 7 rfl
 obtain⟨k1,k2,k3,k4⟩:=key hT.sat (fun x=>by rw[HT.b];simp only[ao,ah];omega);repeat still_step
 still_call ((HSz.out W).mono fun e w2 ⟨h1,h2⟩=>⟨h1,h2.symm⟩);repeat still_step
 refine wpStill_nil (bw (by kernel_rfl) (HW.out W hT) ?_);rintro e w3 ⟨rfl,v,sp,hok,hAo,hT3⟩;refine⟨_,rfl,rfl,?_⟩;simp only[Act.put,QA,QB,QC];repeat still_step
 refine wpStill_nil ?_;obtain⟨av,cv,rfl,-,-,-,-⟩:=aP (dr hT3.sat.left hok);have c6:=aa (hT3.sat.Q7 (b:=B6) (o:=e8 (.slice av body.length cv)) (by simp)) 0 rfl;have H3:=Hq3 hok hAo hT3;clear key k1 k2 k3 k4 hT hok hAo hT3;go_wp2_with fail;go_ret2;refine⟨av,cv,sp,rfl,H3.a,H3.b,H3.y.drop ?_⟩;rw[HT.y];exact bS
abbrev cO(n:Int):Value:=.iface 49 (.int .i64 n)
def ES(X:ArchL)(ps:List Bs)(w:World)(e:Ending)(w':World):Prop:=e=.returned (if X.closed then cO 9 else if ps.all aw then .nilIface else cO 1)/\aX w w'
def GN(ps:List Bs)(w:World)(i:Value)(wr:World):Prop:=∃k:Nat,k<=ps.length/\i=.int .i64 k/\aX w wr/\∀j (h:j<ps.length),j<k->aw ps[j]=true
theorem ko(a:Nat)(X:ArchL)(ad:Option Addr)(cap:Nat)(ps:List Bs)(w:World)(h:w.heap[a]?=some (aH X))(hp:al w ad (ps.map str))(hl:ps.length<=1000000):
  Calls Tryz.prog 75 #[.pointer (some ⟨a,0,none⟩),.slice ad ps.length cap] w (ES X ps w):=by
 have a10:w.cell? ⟨a,10,none⟩=some (.bool X.closed):=aa h 10 rfl;have hal:=ac h;obtain⟨cl,hcl⟩:∃cl,cl=X.closed:=⟨_,rfl⟩;rw[<- hcl]at a10;have HC:=Hq3 hcl hp h;clear hcl hp h
 cases cl with
 | true =>
  go_enter Tryz.func75,Tryz.ntmps75;go_wp2_with fail;go_ret;exact ⟨by rw[<- HC.a];rfl,Mods.refl _ _⟩
 | false =>
  go_enter Tryz.func75,Tryz.ntmps75;go_wp2_with fail;go_loopw [14] (fun v wr=>GN ps w v wr) (fun v _=>ps.length-(intOf v).toNat)
  case atStart=>exact⟨0,Nat.zero_le _,rfl,Mods.refl _ _,fun j h hj=>by omega⟩
  case round =>
   obtain⟨k,hk,rfl,hs,hall⟩:=hrel;have HR:=Hq2 hs hall;clear hs hall;by_cases hlt:k<ps.length
   ·obtain⟨g,off,hg,hcell⟩:=HC.b.keep HR.a (fun _ _ _=>id) (by simpa using(by omega:0<ps.length));subst hg
    have hck:wr.cell? ⟨g,off+k,none⟩=some (str ps[k]):=by
     rw[hcell k (by simpa using hlt)];simp
    have HP:=qqH (fun W=>yf ps[k] W);obtain⟨p,hpe⟩:∃p,p=ps[k]:=⟨_,rfl⟩;rw[<- hpe]at hck HP;have HPE:=qqH hpe;clear hpe hcell;go_wp2_with fail;refine(HP.out _).mono ?_;rintro e w1 ⟨rfl,hs1⟩;obtain⟨b,hb⟩:∃b,b=aw p:=⟨_,rfl⟩;rw[<- hb];have HB:=Hq2 hb hs1;clear hb hs1
    cases b with
    | true =>
     go_wp2_with fail;go_roundw
     case rel=>exact⟨k+1,by omega,by go_num,HR.a.trans HB.z,fun j h hj=>by
      rcases Nat.lt_or_ge j k with h'|h'
      ·exact HR.z j h h'
      ·obtain rfl:j=k:=by omega
       rw[<- HPE.out];exact HB.a.symm⟩
     case measure=>simp[intOf];omega
    | false =>
     go_wp2_with fail;go_ret;refine ⟨?_,HR.a.trans HB.z⟩;rw[<- HC.a,if_neg (by simp),if_neg]
     ·rfl
     ·intro hh;have:=all_eq_true.1 hh p (HPE.out ▸ getElem_mem hlt);rw[<- HB.a]at this
      cases this
   ·obtain rfl:k=ps.length:=by omega
    go_wp2_with fail;refine bodyPost_end (results_tmp rfl _ _ _) rfl ⟨?_,HR.a⟩;rw[<- HC.a,if_neg (by simp),if_pos]
    ·rfl
    refine all_eq_true.2 (fun p hp=>?_);obtain⟨j,hj,rfl⟩:=mem_iff_getElem.1 hp;exact HR.z j hj hj
end
end Go.Proofs.YtdhobpbngkainaaGreatDoor
