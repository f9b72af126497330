/- Ours. A part of the proof, made small by a program. -/
import Derived.Test.YtdhobpbngkainaaGreatDoorKq01
set_option maxRecDepth 100000
set_option maxHeartbeats 4000000
namespace Go.Proofs.YtdhobpbngkainaaGreatDoor
section
open Go.RowKit
def rV(w:World)(rb:Nat)(a:Option Addr)(n cap:Nat)(bad:Bool):Prop:=w.heap[rb]?=some (.cells #[.slice a n cap,.bool bad] 282 (0,0))
def Rd(w:World)(rb:Nat)(l:Bs)(bad:Bool):Prop:=∃a cap,rV w rb a l.length cap bad/\l.length<=cap/\ak w a (l.map ao)/\∀x,a=some x->x.block<rb
def m9(rb:Nat)(l:Bs)(bad:Bool)(n:Nat)(w:World)(e:Ending)(w':World):Prop :=
 (bad=true\/l.length<n->e=.returned (.slice none 0 0)/\Rd w' rb l true) /\
 (bad=false->n<=l.length->(∃a cap,e=.returned (.slice a n cap)/\n<=cap/\ak w' a ((l.take n).map ao)/\(∀x,a=some x->x.block<rb))/\Rd w' rb (l.drop n) false) /\
 Mods (fun k=>k=rb) w w'/\w'.heap.size=w.heap.size
theorem jT{w:World}{a:Option Addr}{l:Bs}(h:ak w a (l.map ao))(n:Nat)(hn:n<=l.length):ak w a ((l.take n).map ao):=fun hp=>by
 simp at hp
 obtain⟨g,off,ha,hc⟩:=h (by simp;omega)
 refine⟨g,off,ha,fun j hj=>?_⟩
 have hj':j<n:=by simp at hj;omega
 rw[hc j (by simp;omega)]
 simp
theorem fI{w:World}{g off:Nat}{l:Bs}(h:ak w (some ⟨g,off,none⟩) (l.map ao))(n:Nat)(hn:n<=l.length):ak w (some ⟨g,off+n,none⟩) ((l.drop n).map ao):=fun hp=>by
 simp at hp
 obtain⟨g',off',ha,hc⟩:=h (by simp;omega)
 simp only[Option.some.injEq,Addr.mk.injEq,and_true]at ha
 obtain⟨rfl,rfl⟩:=ha
 refine⟨g,off+n,rfl,fun j hj=>?_⟩
 have hj':n+j<l.length:=by simp at hj;omega
 rw[Nat.add_assoc,hc (n+j) (by simpa using hj')]
 simp
theorem yL{w:World}{a:Option Addr}{l:Bs}(h:ak w a (l.map ao))(n:Nat)(hn:n<=l.length):ak w (a.map (·.add n)) ((l.drop n).map ao):=fun hp=>by
 simp at hp
 obtain⟨g,off,rfl,hc⟩:=h (by simp;omega)
 have:=fI (fun _=>⟨g,off,rfl,hc⟩) n hn (by simpa using hp)
 simpa[Addr.add_lit]using this
theorem C2{a:Option Addr}{n rb:Nat}(h:∀x,a=some x->x.block<rb):∀x,a.map (·.add n)=some x->x.block<rb:=fun x hx=>by
 cases a with
 | none=>simp at hx
 | some y =>
  simp at hx;subst hx
  have:=h y rfl
  simpa[Addr.add,apply_ite Addr.block]using this
theorem eh(w:World)(a:Option Addr):ak w a (([]:Bs).map ao):=fun hp=>by simp at hp
theorem Ec(rb:Nat)(l:Bs)(bad:Bool)(n:Nat)(w:World)(h:Rd w rb l bad)(_:l.length<=1099511627776)(_:n<=1099511627776)(hb:bad=true\/l.length<n):
  Calls Tryz.prog 158 #[.pointer (some ⟨rb,0,none⟩),.int .i64 n] w (m9 rb l bad n w):=by
 obtain⟨a,cap,hr,hcap,hc,hne⟩:=h;have h0:=aa hr 0 (v:=.slice a l.length cap) (by simp);have h1:=aa hr 1 (v:=.bool bad) (by simp);have f1:=aZ hr 1;have hset:=bt hr 1 (.bool true);have H:=Hq4 hset hcap hc hne;clear hset hcap hc hne hr;rcases hb with rfl|hb
 ·go_enter Tryz.func158,Tryz.ntmps158;go_wp2;go_ret;obtain⟨hset,hcap,hc,hne⟩:=H.out;have hM:Mods (fun k=>k=rb) w (w.setCell ⟨rb,1,none⟩ (.bool true)):=(Mods.refl _ w).set1 _;exact⟨fun _=>⟨rfl,a,cap,by unfold rV;rw[hset];rfl,hcap,hc.keep hM (fun _ _ e=>Nat.ne_of_lt (hne _ e)),hne⟩,(fun h=>by cases h),hM,by simp⟩
 ·cases bad
  ·have hg:decide (l.length<n)=true:=by simpa using hb
   have hg2:((n:Int)<=(l.length:Int))=False:=by simp;omega
   go_enter Tryz.func158,Tryz.ntmps158;go_wp2;go_ret;obtain⟨hset,hcap,hc,hne⟩:=H.out;have hM:Mods (fun k=>k=rb) w (w.setCell ⟨rb,1,none⟩ (.bool true)):=(Mods.refl _ w).set1 _;exact⟨fun _=>⟨rfl,a,cap,by unfold rV;rw[hset];rfl,hcap,hc.keep hM (fun _ _ e=>Nat.ne_of_lt (hne _ e)),hne⟩,(fun _ h=>by omega),hM,by simp⟩
  ·go_enter Tryz.func158,Tryz.ntmps158;go_wp2;go_ret;obtain⟨hset,hcap,hc,hne⟩:=H.out;have hM:Mods (fun k=>k=rb) w (w.setCell ⟨rb,1,none⟩ (.bool true)):=(Mods.refl _ w).set1 _;exact⟨fun _=>⟨rfl,a,cap,by unfold rV;rw[hset];rfl,hcap,hc.keep hM (fun _ _ e=>Nat.ne_of_lt (hne _ e)),hne⟩,(fun h=>by cases h),hM,by simp⟩
theorem Bl(rb:Nat)(l:Bs)(n:Nat)(w:World)(h:Rd w rb l false)(_:l.length<=1099511627776)(hn:n<=l.length):
  Calls Tryz.prog 158 #[.pointer (some ⟨rb,0,none⟩),.int .i64 n] w (m9 rb l false n w):=by
 obtain⟨a,cap,hr,hcap,hc,hne⟩:=h;have h0:=aa hr 0 (v:=.slice a l.length cap) (by simp);have h1:=aa hr 1 (v:=.bool false) (by simp);have f0:=aZ hr 0;have hset:=fun v=>bt hr 0 v
 have H:=Hq4 hset hcap hc hne;have hg:decide (l.length<n)=false:=by simp;omega
 clear hset hc hne hr;go_enter Tryz.func158,Tryz.ntmps158;go_wp2
 all_goals
  go_ret;obtain⟨hset,hcap',hc,hne⟩:=H.out
 ·have hln:l.length=n:=by omega
  have hM:Mods (fun k=>k=rb) w (w.setCell ⟨rb,0,none⟩ (.slice a (l.length-n) 0)):=(Mods.refl _ w).set1 _;have hd:l.drop n=[]:=List.drop_of_length_le (by omega);refine⟨fun h=>by rcases h with h|h;cases h;omega,fun _ _=>⟨⟨a,n,rfl,Nat.le_refl _,(jT hc n hn).keep hM (fun _ _ e=>Nat.ne_of_lt (hne _ e)),hne⟩,a,0,?_,?_,by rw[hd];exact eh _ _,hne⟩,hM,by simp⟩
  ·unfold rV;rw[hset];simp
  ·simp;omega
 ·have hM:Mods (fun k=>k=rb) w (w.setCell ⟨rb,0,none⟩ (.slice (Option.map (fun x=>x.add n) a) (l.length-n) (cap-n))):=(Mods.refl _ w).set1 _;refine⟨fun h=>by rcases h with h|h;cases h;omega,fun _ _=>⟨⟨a,cap,rfl,by omega,(jT hc n hn).keep hM (fun _ _ e=>Nat.ne_of_lt (hne _ e)),hne⟩,Option.map (fun x=>x.add n) a,cap-n,?_,?_,(yL hc n hn).keep hM (fun _ _ e=>Nat.ne_of_lt (C2 hne _ e)),C2 hne⟩,hM,by simp⟩
  ·unfold rV;rw[hset];simp
  ·simp;omega
theorem qT(rb:Nat)(l:Bs)(bad:Bool)(n:Nat)(w:World)(h:Rd w rb l bad)(hl:l.length<=1099511627776)(hn:n<=1099511627776):
  Calls Tryz.prog 158 #[.pointer (some ⟨rb,0,none⟩),.int .i64 n] w (m9 rb l bad n w):=by
 by_cases hb:bad=true\/l.length<n
 ·exact Ec rb l bad n w h hl hn hb
 ·have hbad:bad=false:=by cases bad<;>simp_all
  subst hbad;exact Bl rb l n w h hl (by simp at hb;exact hb)
def da(l:Bs)(bad:Bool)(n:Nat):Nat:=if bad=true\/l.length<n then 0 else bG (l.take n)
def iC(l:Bs)(bad:Bool)(n:Nat):Bool:=bad || decide (l.length<n)
def fw(l:Bs)(bad:Bool)(n:Nat):Bs:=if bad=true\/l.length<n then l else l.drop n
def iH(rb:Nat)(l:Bs)(bad:Bool)(n:Nat)(w:World)(e:Ending)(w':World):Prop :=
 e=.returned (.int .i64 (da l bad n))/\Rd w' rb (fw l bad n) (iC l bad n)/\Mods (fun k=>k=rb) w w'/\w'.heap.size=w.heap.size
theorem nO{rb:Nat}{l:Bs}{bad:Bool}{n:Nat}{w w':World}{e:Ending}(h:m9 rb l bad n w e w'):
  ∃a cap bs,e=.returned (.slice a bs.length cap)/\ak w' a (bs.map ao)/\(∀x,a=some x->x.block<rb)/\bs=(if bad=true\/l.length<n then[]else l.take n)/\Rd w' rb (fw l bad n) (iC l bad n)/\Mods (fun k=>k=rb) w w'/\w'.heap.size=w.heap.size:=by
 obtain⟨h1,h2,h3,h4⟩:=h;by_cases hb:bad=true\/l.length<n
 ·obtain⟨he,hr⟩:=h1 hb;refine⟨none,0,[],he,eh _ _,fun _ h=>(by cases h),by rw[if_pos hb],?_,h3,h4⟩;have e2:iC l bad n=true:=by unfold iC;rcases hb with rfl|hb;rfl;simp[hb]
  rw[e2];unfold fw;rw[if_pos hb];exact hr
 ·have hbad:bad=false:=by cases bad<;>simp_all
  have hn:n<=l.length:=by simp at hb;omega
  obtain⟨⟨a,cap,he,hc,hca,hne⟩,hr⟩:=h2 hbad hn;have hl:(l.take n).length=n:=by simp;omega
  refine⟨a,cap,l.take n,by rw[hl];exact he,hca,hne,by rw[if_neg hb],?_,h3,h4⟩;have e2:iC l bad n=false:=by unfold iC;rw[hbad];simp;omega
  rw[e2];unfold fw;rw[if_neg hb];exact hr
theorem fY(a b:Nat)(ha:a*256+b<9223372036854775808)(hb:b<256):bits BinOp.or IntKind.i64 ((a:Int)*256) (b:Int)=((a*256+b:Nat):Int):=by
 have e1:(BitVec.ofInt 64 ((a:Int)*256)).toNat=a*256:=by
  rw[show((a:Int)*256)=((a*256:Nat):Int) by omega,BitVec.ofInt_natCast,BitVec.toNat_ofNat];exact Nat.mod_eq_of_lt (by omega)
 have e2:(BitVec.ofInt 64 (b:Int)).toNat=b:=by rw[BitVec.ofInt_natCast,BitVec.toNat_ofNat];exact Nat.mod_eq_of_lt (by omega)
 show IntKind.i64.wrap ((BitVec.ofInt 64 ((a:Int)*256) ||| BitVec.ofInt 64 (b:Int)).toNat:Int)=_
 have e3:a*256 ||| b=a*256+b:=by
  have:=Nat.two_pow_add_eq_or_of_lt (i:=8) hb a;rw[show(256:Nat)=2 ^ 8 from rfl,Nat.mul_comm];exact this.symm
 rw[BitVec.toNat_or,e1,e2,e3];unfold IntKind.wrap;simp[IntKind.bits,IntKind.signed];omega
theorem dt(rb:Nat)(l:Bs)(bad:Bool)(n:Nat)(w:World)(h:Rd w rb l bad)(hl:l.length<=1099511627776)(hn:n<=7):
  Calls Tryz.prog 139 #[.pointer (some ⟨rb,0,none⟩),.int .i64 n] w (iH rb l bad n w):=by
 have H:=qqH (qT rb l bad n w h hl (by omega));clear h;go_enter Tryz.func139,Tryz.ntmps139;go_wp2_with fail;refine H.out.mono ?_;rintro e w1 hp;obtain⟨a,cap,bs,rfl,hca,hne,hbs,hr,hM,hsz⟩:=nO hp;have hbl:bs.length<=7:=by rw[hbs];split<;>simp;omega
 have H1:=Hq5 hca hbs hr hM hsz;clear hp H hca hbs hr hM hsz hne;go_wp2_with fail;go_loop [5,12] (fun v i=>∃j:Nat,j<=bs.length/\i=.int .i64 j/\v=.int .i64 (bG (bs.take j))) (fun _ i=>bs.length-(intOf i).toNat)
 case atStart=>exact⟨0,Nat.zero_le _,rfl,rfl⟩
 case round =>
  obtain⟨j,hj,rfl,rfl⟩:=hrel;by_cases hlt:j<bs.length
  ·obtain⟨g,off,rfl,hc⟩:=H1.a (by simp;omega);have hcj:=hc j (by simpa using hlt);simp only[List.getElem_map]at hcj;unfold ao at hcj;have h8:=UInt8.toNat_lt bs[j]
   have hlb:bG (bs.take j)<281474976710656:=by
    have:=jh (bs.take j);have h2:(bs.take j).length<=6:=by simp;omega
    have h3:(256:Nat) ^ (bs.take j).length<=256 ^ 6:=Nat.pow_le_pow_right (by omega) h2;omega
   have hor:=fY (bG (bs.take j)) bs[j].toNat (by omega) h8;have hnx:bG (bs.take (j+1))=bG (bs.take j)*256+bs[j].toNat:=by rw[List.take_succ_eq_append_getElem hlt,og]
   have HN:=qqH hnx;clear hc hnx;generalize bs[j].toNat=x at *
   generalize bG (bs.take j)=q at *
   go_wp2_with fail;exact⟨⟨j+1,by omega,by go_num,by rw[HN.out];congr 1⟩,by simp[intOf];omega⟩
  ·obtain rfl:j=bs.length:=by omega
   go_wp2_with fail;go_ret;obtain⟨hca,hbs,hr,hM,hsz⟩:=H1.out;refine⟨Dv ?_,hr,hM,hsz⟩;rw[hbs];unfold da;split<;>rfl
def kR(w:World)(e:Ending)(w':World):Prop:=e=.returned (.tuple #[.int .u8 0,.slice none 0 0,.int .i64 0])/\aX w w'
def yb(a:Option Addr)(k:UInt8)(body:Bs)(n:Nat)(w:World)(e:Ending)(w':World):Prop :=
 ∃a',e=.returned (.tuple #[.int .u8 k.toNat,.slice a' body.length body.length,.int .i64 n])/\ak w' a' (body.map ao)/\(∀x,a'=some x->∃y,a=some y/\x.block=y.block)/\aX w w'
def ef(a:Option Addr)(b:Bs)(w:World)(e:Ending)(w':World):Prop :=
 match cG b with
 | none=>kR w e w'
 | some (k,body,n)=>yb a k body n w e w'
theorem D9(x:Nat)(h:x<256):bits BinOp.xor IntKind.u8 IntKind.u8.max (x:Int)=((255-x:Nat):Int):=by
 have:∀y:Fin 256,bits BinOp.xor IntKind.u8 IntKind.u8.max ((y.1:Nat):Int)=((255-y.1:Nat):Int):=by decide +kernel
 exact this ⟨x,h⟩
theorem fH(x y:Nat)(h:x<256)(hy:255-x=y):bits BinOp.xor IntKind.u8 (if IntKind.u8.signed=true then -1 else IntKind.u8.max) (x:Int)=(y:Int):=by
 subst hy;exact D9 x h
theorem Cb(a:Option Addr)(cap:Nat)(b:Bs)(w:World)(hb:b.length<9):Calls Tryz.prog 97 #[.slice a b.length cap] w (kR w):=by
 have hg:decide ((b.length:Int)<9)=true:=by simp;omega
 go_enter Tryz.func97,Tryz.ntmps97;go_wp2;go_ret3;exact⟨rfl,Mods.refl _ _⟩
theorem EM(g off:Nat)(cap:Nat)(b:Bs)(w:World)(hb:9<=b.length)(hl:b.length<=1099511627776)(h0:w.cell? ⟨g,off+0,none⟩=some (.int .u8 0)):Calls Tryz.prog 97 #[.slice (some ⟨g,off,none⟩) b.length cap] w (kR w):=by
 have hg:decide ((b.length:Int)<9)=false:=by simp;omega
 have hp:(0:Int)<b.length:=by omega
 have h0':w.cell? ⟨g,off,none⟩=some (.int .u8 0):=h0;go_enter Tryz.func97,Tryz.ntmps97;go_wp2;go_ret3;exact⟨rfl,Mods.refl _ _⟩
theorem rK{w:World}{g off cap r m n:Nat}{b:Bs}(hc:ak w (some ⟨g,off,none⟩) (b.map ao))(hr:r<=b.length)(hcap:b.length<=cap)(hg:g<w.heap.size)(hn:n=b.length-r):
  Rd ((w.drewN m).alloc (.cells #[.slice (some ⟨g,off+r,none⟩) n (cap-r),.bool false] 282)) w.heap.size (b.drop r) false/\aX w ((w.drewN m).alloc (.cells #[.slice (some ⟨g,off+r,none⟩) n (cap-r),.bool false] 282)):=by
 have hs:aX w ((w.drewN m).alloc (.cells #[.slice (some ⟨g,off+r,none⟩) n (cap-r),.bool false] 282)):=((Mods.refl _ w).drewN m).alloc _;have hl:(b.drop r).length=n:=by simp;omega
 refine⟨⟨_,cap-r,?_,by omega,(fI hc r hr).keep hs (fun _ _ _=>id),fun x hx=>?_⟩,hs⟩
 ·unfold rV;rw[hl];exact aM (w.drewN m) _
 ·simp at hx;subst hx;show g<_;omega
theorem GO(g off:Nat)(cap:Nat)(b:Bs)(w:World)(b0 b1 b2 b3 b4:Nat)(hb:9<=b.length)(hl:b.length<=1099511627776)(h0:w.cell? ⟨g,off,none⟩=some (.int .u8 b0))(hb0:b0≠0)(h1:w.cell? ⟨g,off+1,none⟩=some (.int .u8 b1))(h2:w.cell? ⟨g,off+2,none⟩=some (.int .u8 b2))(h3:w.cell? ⟨g,off+3,none⟩=some (.int .u8 b3))(h4:w.cell? ⟨g,off+4,none⟩=some (.int .u8 b4))(l1:b1<256)(l2:b2<256)(l3:b3<256)(l4:b4<256)(hne:b1*256+b2≠(255-b3)*256+(255-b4)):Calls Tryz.prog 97 #[.slice (some ⟨g,off,none⟩) b.length cap] w (kR w):=by
 have hg:decide ((b.length:Int)<9)=false:=by simp;omega
 have hp:(0:Int)<b.length:=by omega
 have hp1:(1:Int)<b.length:=by omega
 have hp2:(2:Int)<b.length:=by omega
 have hp3:(3:Int)<b.length:=by omega
 have hp4:(4:Int)<b.length:=by omega
 have hz:((b0:Int)==0)=false:=by simp;omega
 have o1:=fY b1 b2 (by omega) l2;obtain⟨c3,hc3⟩:∃c:Nat,255-b3=c:=⟨_,rfl⟩;obtain⟨c4,hc4⟩:∃c:Nat,255-b4=c:=⟨_,rfl⟩;have n3:=fH b3 c3 l3 hc3;have n4:=fH b4 c4 l4 hc4;have l3':c3<256:=by omega
 have l4':c4<256:=by omega
 rw[hc3,hc4]at hne;clear hc3 hc4;have o2:=fY c3 c4 (by omega) (by omega);obtain⟨mm,hmm⟩:∃mm:Nat,c3*256+c4=mm:=⟨_,rfl⟩;rw[hmm]at o2 hne;obtain⟨nn,hnn⟩:∃nn:Nat,b1*256+b2=nn:=⟨_,rfl⟩;rw[hnn]at o1 hne;have hq:((nn:Int) != (mm:Int))=true:=by simp only[bne_iff_ne];omega
 have HN:=qqH hnn;clear hmm hnn hne;go_enter Tryz.func97,Tryz.ntmps97;go_wp2_with fail;go_quiet (fail);go_wp2_with fail;have k3:(w.drewN nq).cell? ⟨g,off+3,none⟩=some (.int .u8 b3):=h3;have k4:(w.drewN nq).cell? ⟨g,off+4,none⟩=some (.int .u8 b4):=h4;clear o1 h0 h1 h2 hz hp hp1 hp2;go_quiet (fail);go_wp2_with fail;go_ret3;exact⟨rfl,((Mods.refl _ w).drewN _).drewN _⟩
theorem EL(g off:Nat)(cap:Nat)(b:Bs)(w:World)(b0 b1 b2 b3 b4:Nat)(hb:9<=b.length)(hl:b.length<=1099511627776)(h0:w.cell? ⟨g,off,none⟩=some (.int .u8 b0))(hb0:b0≠0)(h1:w.cell? ⟨g,off+1,none⟩=some (.int .u8 b1))(h2:w.cell? ⟨g,off+2,none⟩=some (.int .u8 b2))(h3:w.cell? ⟨g,off+3,none⟩=some (.int .u8 b3))(h4:w.cell? ⟨g,off+4,none⟩=some (.int .u8 b4))(l1:b1<256)(l2:b2<256)(l3:b3<256)(l4:b4<256)(hne:b1*256+b2=(255-b3)*256+(255-b4))(hsz:b.length<b1*256+b2+9):Calls Tryz.prog 97 #[.slice (some ⟨g,off,none⟩) b.length cap] w (kR w):=by
 have hg:decide ((b.length:Int)<9)=false:=by simp;omega
 have hp:(0:Int)<b.length:=by omega
 have hp1:(1:Int)<b.length:=by omega
 have hp2:(2:Int)<b.length:=by omega
 have hp3:(3:Int)<b.length:=by omega
 have hp4:(4:Int)<b.length:=by omega
 have hz:((b0:Int)==0)=false:=by simp;omega
 have o1:=fY b1 b2 (by omega) l2;obtain⟨c3,hc3⟩:∃c:Nat,255-b3=c:=⟨_,rfl⟩;obtain⟨c4,hc4⟩:∃c:Nat,255-b4=c:=⟨_,rfl⟩;have n3:=fH b3 c3 l3 hc3;have n4:=fH b4 c4 l4 hc4;have l3':c3<256:=by omega
 have l4':c4<256:=by omega
 rw[hc3,hc4]at hne;clear hc3 hc4;have o2:=fY c3 c4 (by omega) (by omega);obtain⟨mm,hmm⟩:∃mm:Nat,c3*256+c4=mm:=⟨_,rfl⟩;rw[hmm]at o2 hne;obtain⟨nn,hnn⟩:∃nn:Nat,b1*256+b2=nn:=⟨_,rfl⟩;rw[hnn]at o1 hne;rw[hnn]at hsz;subst hne;have hq:((nn:Int) != (nn:Int))=false:=by simp
 have hlt:decide ((b.length:Int)<(nn:Int)+9)=true:=by simp;omega
 have hnn16:nn<65536:=by omega
 have HN:=qqH hnn;clear hmm hnn;go_enter Tryz.func97,Tryz.ntmps97;go_wp2_with fail;go_quiet (fail);go_wp2_with fail;have k3:(w.drewN nq).cell? ⟨g,off+3,none⟩=some (.int .u8 b3):=h3;have k4:(w.drewN nq).cell? ⟨g,off+4,none⟩=some (.int .u8 b4):=h4;clear o1 h0 h1 h2 hz hp hp1 hp2;go_quiet ((go_at_call 79;exact(gH _ (by omega) (by omega) _).mono (fun e w' ⟨he,hw⟩=>⟨he,_,hw.symm⟩)));go_wp2_with fail;go_ret3;exact⟨rfl,((Mods.refl _ w).drewN _).drewN _⟩
theorem GP(g off:Nat)(cap:Nat)(b:Bs)(w:World)(b0 b1 b2 b3 b4:Nat)(hb:9<=b.length)(hl:b.length<=1099511627776)(h0:w.cell? ⟨g,off,none⟩=some (.int .u8 b0))(hb0:b0≠0)(h1:w.cell? ⟨g,off+1,none⟩=some (.int .u8 b1))(h2:w.cell? ⟨g,off+2,none⟩=some (.int .u8 b2))(h3:w.cell? ⟨g,off+3,none⟩=some (.int .u8 b3))(h4:w.cell? ⟨g,off+4,none⟩=some (.int .u8 b4))(l1:b1<256)(l2:b2<256)(l3:b3<256)(l4:b4<256)(hne:b1*256+b2=(255-b3)*256+(255-b4))(hsz:b1*256+b2+9<=b.length)(hcap:b.length<=cap)(k0:UInt8)(hk0:k0.toNat=b0)(hc:ak w (some ⟨g,off,none⟩) (b.map ao))(body:Bs)(hbody:body=(b.drop 5).take (b1*256+b2))(hsum:bG ((b.drop (5+(b1*256+b2))).take 4)≠cJ k0 body):Calls Tryz.prog 97 #[.slice (some ⟨g,off,none⟩) b.length cap] w (kR w):=by
 have hg:decide ((b.length:Int)<9)=false:=by simp;omega
 have hp:(0:Int)<b.length:=by omega
 have hp1:(1:Int)<b.length:=by omega
 have hp2:(2:Int)<b.length:=by omega
 have hp3:(3:Int)<b.length:=by omega
 have hp4:(4:Int)<b.length:=by omega
 have hz:((b0:Int)==0)=false:=by simp;omega
 have o1:=fY b1 b2 (by omega) l2;obtain⟨c3,hc3⟩:∃c:Nat,255-b3=c:=⟨_,rfl⟩;obtain⟨c4,hc4⟩:∃c:Nat,255-b4=c:=⟨_,rfl⟩;have n3:=fH b3 c3 l3 hc3;have n4:=fH b4 c4 l4 hc4;have l3':c3<256:=by omega
 have l4':c4<256:=by omega
 rw[hc3,hc4]at hne;clear hc3 hc4;have o2:=fY c3 c4 (by omega) (by omega);obtain⟨mm,hmm⟩:∃mm:Nat,c3*256+c4=mm:=⟨_,rfl⟩;rw[hmm]at o2 hne;obtain⟨nn,hnn⟩:∃nn:Nat,b1*256+b2=nn:=⟨_,rfl⟩;rw[hnn]at o1 hne;rw[hnn]at hsz;subst hne;have hq:((nn:Int) != (nn:Int))=false:=by simp
 have hlt:decide ((b.length:Int)<(nn:Int)+9)=false:=by simp;omega
 have hnn16:nn<65536:=by omega
 rw[hnn]at hbody hsum;have hgl:g<w.heap.size:=World.block_lt_of_cell? w _ h0;have hbl:body.length=nn:=by rw[hbody];simp;omega
 have hrl:(b.drop (5+nn)).length=b.length-(5+nn):=by simp
 have hcb:=jT (fI hc 5 (by omega)) nn (by simp;omega);have hcr:=fI hc (5+nn) (by omega);rw[<- hbody]at hcb;have hr4:da (b.drop (5+nn)) false 4=bG ((b.drop (5+nn)).take 4):=by unfold da;rw[if_neg (by simp;omega)]
 have hr4l:bG ((b.drop (5+nn)).take 4)<4294967296:=by
  have:=jh ((b.drop (5+nn)).take 4);have h2:(256:Nat) ^ ((b.drop (5+nn)).take 4).length<=256 ^ 4:=Nat.pow_le_pow_right (by omega) (by simp;omega);omega
 have hsl:=mT k0 body;have HB:=Hq7 hcb hcr hr4 hbl hc hrl hk0;clear hcb hcr hr4 hbl hc hbody hrl hk0;have HN:=qqH hnn;clear hmm hnn;go_enter Tryz.func97,Tryz.ntmps97;go_wp2_with fail;go_quiet (fail);go_wp2_with fail;have k3:(w.drewN nq).cell? ⟨g,off+3,none⟩=some (.int .u8 b3):=h3;have k4:(w.drewN nq).cell? ⟨g,off+4,none⟩=some (.int .u8 b4):=h4;clear o1 h1 h2 hz hp1 hp2;obtain⟨m1,rfl⟩:∃m,m=nq:=⟨_,rfl⟩;go_quiet ((go_at_call 79;exact(gH _ (by omega) (by omega) _).mono (fun e w' ⟨he,hw⟩=>⟨he,_,hw.symm⟩)));obtain⟨m2,rfl⟩:∃m,m=nq:=⟨_,rfl⟩;rcases Nat.eq_zero_or_pos nn with hn0|hn0
 ·subst hn0;simp only[Nat.add_zero]at *
  go_wp2_with fail;obtain⟨hrd,hs1⟩:=rK (m:=m1+m2) HB.e (r:=5) (by omega) hcap hgl rfl;generalize ((w.drewN (m1+m2)).alloc (.cells #[.slice (some ⟨g,off+5,none⟩) (b.length-5) (cap-5),.bool false] 282))=W1 at hrd hs1 ⊢;generalize hrb:w.heap.size=rb at hrd hgl ⊢;have hk1:W1.cell? ⟨g,off,none⟩=some (.int .u8 b0):=by rw[World.cell?_of_block (hs1.block g (by omega) id)];exact h0
  have hcb1:ak W1 (some ⟨g,off,none⟩) (body.map ao):=(by rw[List.eq_nil_of_length_eq_zero HB.d];exact eh _ _);have HR:=Hq4 hrd hs1 hrb hcb1;clear hrd hs1 hrb hcb1;have hw4:IntKind.u32.wrap ((bG ((b.drop 5).take 4):Nat):Int)=((bG ((b.drop 5).take 4):Nat):Int):=by rw[IntKind.wrap_u32];omega
  have hne:(((bG ((b.drop 5).take 4):Nat):Int) != ((cJ k0 body:Nat):Int))=true:=by simp only[bne_iff_ne];omega
  generalize bG ((b.drop 5).take 4)=x at *
  have hp0:0<b.length:=by omega
  have HSum:Hid (∀W:World,ak W (some ⟨g,off,none⟩) (body.map ao)->Calls Tryz.prog 128 #[.int .u8 b0,.slice (some ⟨g,off,none⟩) 0 0] W (pa k0 body W)):=qqH (fun W h=>by
   have:=jB (some ⟨g,off,none⟩) 0 k0 body W h (by have:=HB.d;omega);rwa [HB.d,HB.u]at this)
  have HNum:=qqH (fun(W:World) (h:Rd W rb (b.drop 5) false)=>(show Calls Tryz.prog 139 #[.pointer (some ⟨rb,0,none⟩),.int .i64 4] W (iH rb (b.drop 5) false 4 W)from dt rb (b.drop 5) false 4 W h (by simp;omega) (by omega)));go_region_held3 (fun w'=>w'.cell? ⟨g,off,none⟩=some (.int .u8 b0)) (first|exact hk1|exact hk2|exact hk3) (first|(go_at_call 139;refine(HNum.out _ (by exact HR.a)).mono ?_;rintro e w2 ⟨rfl,hr2,hM2,hz2⟩;rw[HB.c];have hk2:w2.cell? ⟨g,off,none⟩=some (.int .u8 b0):=(World.cell?_of_block (hM2.block g (by have:=HR.b.size;have:=HR.c;show g<W1.heap.size;omega) (by omega))).trans hk1;have H2:=Hq2 hM2 hz2;clear hr2 hM2 hz2)|(go_at_call 128;refine(HSum.out _ (ak.keep (w:=W1.drew) (by exact HR.x) H2.a (fun g' off' e=>by simp at e;omega))).mono ?_;rintro e w3 ⟨rfl,hs3⟩;have hk3:w3.cell? ⟨g,off,none⟩=some (.int .u8 b0):=(World.cell?_of_block (hs3.block g (World.block_lt_of_cell? w2 _ hk2) id)).trans hk2;have H3:=qqH hs3;clear hs3));go_wp2_with fail;go_ret3;exact⟨rfl,(HR.b.trans' ((Mods.refl _ W1).drew.trans H2.a) (fun i hi=>.inr (by have:=HR.c;omega))).trans' H3.out (fun i hi=>hi.elim)⟩
 ·go_wp2_with fail;obtain⟨hrd,hs1⟩:=rK (m:=m1+m2) HB.e (r:=5+nn) (by omega) hcap hgl rfl;generalize ((w.drewN (m1+m2)).alloc (.cells #[.slice (some ⟨g,off+(5+nn),none⟩) (b.length-(5+nn)) (cap-(5+nn)),.bool false] 282))=W1 at hrd hs1 ⊢;generalize hrb:w.heap.size=rb at hrd hgl ⊢;have hk1:W1.cell? ⟨g,off,none⟩=some (.int .u8 b0):=by rw[World.cell?_of_block (hs1.block g (by omega) id)];exact h0
  have hcb1:ak W1 (some ⟨g,off+5,none⟩) (body.map ao):=HB.a.keep hs1 (fun _ _ _=>id);have HR:=Hq4 hrd hs1 hrb hcb1;clear hrd hs1 hrb hcb1;have hw4:IntKind.u32.wrap ((bG ((b.drop (5+nn)).take 4):Nat):Int)=((bG ((b.drop (5+nn)).take 4):Nat):Int):=by rw[IntKind.wrap_u32];omega
  have hne:(((bG ((b.drop (5+nn)).take 4):Nat):Int) != ((cJ k0 body:Nat):Int))=true:=by simp only[bne_iff_ne];omega
  generalize bG ((b.drop (5+nn)).take 4)=x at *
  have hp0:0<b.length:=by omega
  have HSum:Hid (∀W:World,ak W (some ⟨g,off+5,none⟩) (body.map ao)->Calls Tryz.prog 128 #[.int .u8 b0,.slice (some ⟨g,off+5,none⟩) nn nn] W (pa k0 body W)):=qqH (fun W h=>by
   have:=jB (some ⟨g,off+5,none⟩) nn k0 body W h (by have:=HB.d;omega);rwa [HB.d,HB.u]at this)
  have HNum:=qqH (fun(W:World) (h:Rd W rb (b.drop (5+nn)) false)=>(show Calls Tryz.prog 139 #[.pointer (some ⟨rb,0,none⟩),.int .i64 4] W (iH rb (b.drop (5+nn)) false 4 W)from dt rb (b.drop (5+nn)) false 4 W h (by simp;omega) (by omega)));go_region_held3 (fun w'=>w'.cell? ⟨g,off,none⟩=some (.int .u8 b0)) (first|exact hk1|exact hk2|exact hk3) (first|(go_at_call 139;refine(HNum.out _ (by exact HR.a)).mono ?_;rintro e w2 ⟨rfl,hr2,hM2,hz2⟩;rw[HB.c];have hk2:w2.cell? ⟨g,off,none⟩=some (.int .u8 b0):=(World.cell?_of_block (hM2.block g (by have:=HR.b.size;have:=HR.c;show g<W1.heap.size;omega) (by omega))).trans hk1;have H2:=Hq2 hM2 hz2;clear hr2 hM2 hz2)|(go_at_call 128;refine(HSum.out _ (ak.keep (w:=W1.drew) (by exact HR.x) H2.a (fun g' off' e=>by simp at e;omega))).mono ?_;rintro e w3 ⟨rfl,hs3⟩;have hk3:w3.cell? ⟨g,off,none⟩=some (.int .u8 b0):=(World.cell?_of_block (hs3.block g (World.block_lt_of_cell? w2 _ hk2) id)).trans hk2;have H3:=qqH hs3;clear hs3));go_wp2_with fail;go_ret3;exact⟨rfl,(HR.b.trans' ((Mods.refl _ W1).drew.trans H2.a) (fun i hi=>.inr (by have:=HR.c;omega))).trans' H3.out (fun i hi=>hi.elim)⟩
theorem IU(g off:Nat)(cap:Nat)(b:Bs)(w:World)(b0 b1 b2 b3 b4:Nat)(hb:9<=b.length)(hl:b.length<=1099511627776)(h0:w.cell? ⟨g,off,none⟩=some (.int .u8 b0))(hb0:b0≠0)(h1:w.cell? ⟨g,off+1,none⟩=some (.int .u8 b1))(h2:w.cell? ⟨g,off+2,none⟩=some (.int .u8 b2))(h3:w.cell? ⟨g,off+3,none⟩=some (.int .u8 b3))(h4:w.cell? ⟨g,off+4,none⟩=some (.int .u8 b4))(l1:b1<256)(l2:b2<256)(l3:b3<256)(l4:b4<256)(hne:b1*256+b2=(255-b3)*256+(255-b4))(hsz:b1*256+b2+9<=b.length)(hcap:b.length<=cap)(k0:UInt8)(hk0:k0.toNat=b0)(hc:ak w (some ⟨g,off,none⟩) (b.map ao))(body:Bs)(hbody:body=(b.drop 5).take (b1*256+b2))(hsum:bG ((b.drop (5+(b1*256+b2))).take 4)=cJ k0 body):Calls Tryz.prog 97 #[.slice (some ⟨g,off,none⟩) b.length cap] w (yb (some ⟨g,off,none⟩) k0 body (b1*256+b2+9) w):=by
 have hg:decide ((b.length:Int)<9)=false:=by simp;omega
 have hp:(0:Int)<b.length:=by omega
 have hp1:(1:Int)<b.length:=by omega
 have hp2:(2:Int)<b.length:=by omega
 have hp3:(3:Int)<b.length:=by omega
 have hp4:(4:Int)<b.length:=by omega
 have hz:((b0:Int)==0)=false:=by simp;omega
 have o1:=fY b1 b2 (by omega) l2;obtain⟨c3,hc3⟩:∃c:Nat,255-b3=c:=⟨_,rfl⟩;obtain⟨c4,hc4⟩:∃c:Nat,255-b4=c:=⟨_,rfl⟩;have n3:=fH b3 c3 l3 hc3;have n4:=fH b4 c4 l4 hc4;have l3':c3<256:=by omega
 have l4':c4<256:=by omega
 rw[hc3,hc4]at hne;clear hc3 hc4;have o2:=fY c3 c4 (by omega) (by omega);obtain⟨mm,hmm⟩:∃mm:Nat,c3*256+c4=mm:=⟨_,rfl⟩;rw[hmm]at o2 hne;obtain⟨nn,hnn⟩:∃nn:Nat,b1*256+b2=nn:=⟨_,rfl⟩;rw[hnn]at o1 hne;rw[hnn]at hsz;subst hne;have hq:((nn:Int) != (nn:Int))=false:=by simp
 have hlt:decide ((b.length:Int)<(nn:Int)+9)=false:=by simp;omega
 have hnn16:nn<65536:=by omega
 rw[hnn]at hbody hsum;have hgl:g<w.heap.size:=World.block_lt_of_cell? w _ h0;have hbl:body.length=nn:=by rw[hbody];simp;omega
 have hrl:(b.drop (5+nn)).length=b.length-(5+nn):=by simp
 have hcb:=jT (fI hc 5 (by omega)) nn (by simp;omega);have hcr:=fI hc (5+nn) (by omega);rw[<- hbody]at hcb;have hr4:da (b.drop (5+nn)) false 4=bG ((b.drop (5+nn)).take 4):=by unfold da;rw[if_neg (by simp;omega)]
 have hr4l:bG ((b.drop (5+nn)).take 4)<4294967296:=by
  have:=jh ((b.drop (5+nn)).take 4);have h2:(256:Nat) ^ ((b.drop (5+nn)).take 4).length<=256 ^ 4:=Nat.pow_le_pow_right (by omega) (by simp;omega);omega
 have hsl:=mT k0 body;have HB:=Hq7 hcb hcr hr4 hbl hc hrl hk0;clear hcb hcr hr4 hbl hc hbody hrl hk0;have HN:=qqH hnn;clear hmm hnn;go_enter Tryz.func97,Tryz.ntmps97;go_wp2_with fail;go_quiet (fail);go_wp2_with fail;have k3:(w.drewN nq).cell? ⟨g,off+3,none⟩=some (.int .u8 b3):=h3;have k4:(w.drewN nq).cell? ⟨g,off+4,none⟩=some (.int .u8 b4):=h4;clear o1 h1 h2 hz hp1 hp2;obtain⟨m1,rfl⟩:∃m,m=nq:=⟨_,rfl⟩;go_quiet ((go_at_call 79;exact(gH _ (by omega) (by omega) _).mono (fun e w' ⟨he,hw⟩=>⟨he,_,hw.symm⟩)));obtain⟨m2,rfl⟩:∃m,m=nq:=⟨_,rfl⟩;rcases Nat.eq_zero_or_pos nn with hn0|hn0
 ·subst hn0;simp only[Nat.add_zero]at *
  go_wp2_with fail;obtain⟨hrd,hs1⟩:=rK (m:=m1+m2) HB.e (r:=5) (by omega) hcap hgl rfl;generalize ((w.drewN (m1+m2)).alloc (.cells #[.slice (some ⟨g,off+5,none⟩) (b.length-5) (cap-5),.bool false] 282))=W1 at hrd hs1 ⊢;generalize hrb:w.heap.size=rb at hrd hgl ⊢;have hk1:W1.cell? ⟨g,off,none⟩=some (.int .u8 b0):=by rw[World.cell?_of_block (hs1.block g (by omega) id)];exact h0
  have hcb1:ak W1 (some ⟨g,off,none⟩) (body.map ao):=(by rw[List.eq_nil_of_length_eq_zero HB.d];exact eh _ _);have HR:=Hq4 hrd hs1 hrb hcb1;clear hrd hs1 hrb hcb1;have hw4:IntKind.u32.wrap ((bG ((b.drop 5).take 4):Nat):Int)=((bG ((b.drop 5).take 4):Nat):Int):=by rw[IntKind.wrap_u32];omega
  have hne:(((bG ((b.drop 5).take 4):Nat):Int) != ((cJ k0 body:Nat):Int))=false:=by rw[hsum];simp
  clear hsum;generalize bG ((b.drop 5).take 4)=x at *
  have hp0:0<b.length:=by omega
  have HSum:Hid (∀W:World,ak W (some ⟨g,off,none⟩) (body.map ao)->Calls Tryz.prog 128 #[.int .u8 b0,.slice (some ⟨g,off,none⟩) 0 0] W (pa k0 body W)):=qqH (fun W h=>by
   have:=jB (some ⟨g,off,none⟩) 0 k0 body W h (by have:=HB.d;omega);rwa [HB.d,HB.u]at this)
  have HNum:=qqH (fun(W:World) (h:Rd W rb (b.drop 5) false)=>(show Calls Tryz.prog 139 #[.pointer (some ⟨rb,0,none⟩),.int .i64 4] W (iH rb (b.drop 5) false 4 W)from dt rb (b.drop 5) false 4 W h (by simp;omega) (by omega)));go_region_held3 (fun w'=>w'.cell? ⟨g,off,none⟩=some (.int .u8 b0)) (first|exact hk1|exact hk2|exact hk3) (first|(go_at_call 139;refine(HNum.out _ (by exact HR.a)).mono ?_;rintro e w2 ⟨rfl,hr2,hM2,hz2⟩;rw[HB.c];have hk2:w2.cell? ⟨g,off,none⟩=some (.int .u8 b0):=(World.cell?_of_block (hM2.block g (by have:=HR.b.size;have:=HR.c;show g<W1.heap.size;omega) (by omega))).trans hk1;have H2:=Hq2 hM2 hz2;clear hr2 hM2 hz2)|(go_at_call 128;refine(HSum.out _ (ak.keep (w:=W1.drew) (by exact HR.x) H2.a (fun g' off' e=>by simp at e;omega))).mono ?_;rintro e w3 ⟨rfl,hs3⟩;have hk3:w3.cell? ⟨g,off,none⟩=some (.int .u8 b0):=(World.cell?_of_block (hs3.block g (World.block_lt_of_cell? w2 _ hk2) id)).trans hk2;have H3:=qqH hs3;clear hs3));go_wp2_with fail;have hsame:aX w w3:=(HR.b.trans' ((Mods.refl _ W1).drew.trans H2.a) (fun i hi=>.inr (by have:=HR.c;omega))).trans' H3.out (fun i hi=>hi.elim);have hcb3:ak w3 (some ⟨g,off,none⟩) (body.map ao):=by rw[List.eq_nil_of_length_eq_zero HB.d];exact eh _ _
  have HZ:=Hq2 hsame hcb3;clear hsame hcb3 hk1 hk2;go_quiet ((go_at_call 79;exact(gH _ (by omega) (by omega) _).mono (fun e w' ⟨he,hw⟩=>⟨he,_,hw.symm⟩)));go_wp2_with fail;go_ret3;refine⟨some ⟨g,off,none⟩,?_,HZ.z,fun x hx=>⟨_,rfl,by simp at hx;subst hx;rfl⟩,HZ.a.drewN _⟩;rw[HB.d,HB.u,HN.out];first|rfl|(congr 3)|simp
 ·go_wp2_with fail;obtain⟨hrd,hs1⟩:=rK (m:=m1+m2) HB.e (r:=5+nn) (by omega) hcap hgl rfl;generalize ((w.drewN (m1+m2)).alloc (.cells #[.slice (some ⟨g,off+(5+nn),none⟩) (b.length-(5+nn)) (cap-(5+nn)),.bool false] 282))=W1 at hrd hs1 ⊢;generalize hrb:w.heap.size=rb at hrd hgl ⊢;have hk1:W1.cell? ⟨g,off,none⟩=some (.int .u8 b0):=by rw[World.cell?_of_block (hs1.block g (by omega) id)];exact h0
  have hcb1:ak W1 (some ⟨g,off+5,none⟩) (body.map ao):=HB.a.keep hs1 (fun _ _ _=>id);have HR:=Hq4 hrd hs1 hrb hcb1;clear hrd hs1 hrb hcb1;have hw4:IntKind.u32.wrap ((bG ((b.drop (5+nn)).take 4):Nat):Int)=((bG ((b.drop (5+nn)).take 4):Nat):Int):=by rw[IntKind.wrap_u32];omega
  have hne:(((bG ((b.drop (5+nn)).take 4):Nat):Int) != ((cJ k0 body:Nat):Int))=false:=by rw[hsum];simp
  clear hsum;generalize bG ((b.drop (5+nn)).take 4)=x at *
  have hp0:0<b.length:=by omega
  have HSum:Hid (∀W:World,ak W (some ⟨g,off+5,none⟩) (body.map ao)->Calls Tryz.prog 128 #[.int .u8 b0,.slice (some ⟨g,off+5,none⟩) nn nn] W (pa k0 body W)):=qqH (fun W h=>by
   have:=jB (some ⟨g,off+5,none⟩) nn k0 body W h (by have:=HB.d;omega);rwa [HB.d,HB.u]at this)
  have HNum:=qqH (fun(W:World) (h:Rd W rb (b.drop (5+nn)) false)=>(show Calls Tryz.prog 139 #[.pointer (some ⟨rb,0,none⟩),.int .i64 4] W (iH rb (b.drop (5+nn)) false 4 W)from dt rb (b.drop (5+nn)) false 4 W h (by simp;omega) (by omega)));go_region_held3 (fun w'=>w'.cell? ⟨g,off,none⟩=some (.int .u8 b0)) (first|exact hk1|exact hk2|exact hk3) (first|(go_at_call 139;refine(HNum.out _ (by exact HR.a)).mono ?_;rintro e w2 ⟨rfl,hr2,hM2,hz2⟩;rw[HB.c];have hk2:w2.cell? ⟨g,off,none⟩=some (.int .u8 b0):=(World.cell?_of_block (hM2.block g (by have:=HR.b.size;have:=HR.c;show g<W1.heap.size;omega) (by omega))).trans hk1;have H2:=Hq2 hM2 hz2;clear hr2 hM2 hz2)|(go_at_call 128;refine(HSum.out _ (ak.keep (w:=W1.drew) (by exact HR.x) H2.a (fun g' off' e=>by simp at e;omega))).mono ?_;rintro e w3 ⟨rfl,hs3⟩;have hk3:w3.cell? ⟨g,off,none⟩=some (.int .u8 b0):=(World.cell?_of_block (hs3.block g (World.block_lt_of_cell? w2 _ hk2) id)).trans hk2;have H3:=qqH hs3;clear hs3));go_wp2_with fail;have hsame:aX w w3:=(HR.b.trans' ((Mods.refl _ W1).drew.trans H2.a) (fun i hi=>.inr (by have:=HR.c;omega))).trans' H3.out (fun i hi=>hi.elim);have hcb3:ak w3 (some ⟨g,off+5,none⟩) (body.map ao):=HB.a.keep hsame (fun _ _ _=>id);have HZ:=Hq2 hsame hcb3;clear hsame hcb3 hk1 hk2;go_quiet ((go_at_call 79;exact(gH _ (by omega) (by omega) _).mono (fun e w' ⟨he,hw⟩=>⟨he,_,hw.symm⟩)));go_wp2_with fail;go_ret3;refine⟨some ⟨g,off+5,none⟩,?_,HZ.z,fun x hx=>⟨_,rfl,by simp at hx;subst hx;rfl⟩,HZ.a.drewN _⟩;rw[HB.d,HB.u,HN.out];first|rfl|(congr 3)|simp
theorem ja(a:Option Addr)(cap:Nat)(b:Bs)(w:World)(h:ak w a (b.map ao))(hl:b.length<=1099511627776)(hcap:b.length<=cap):
  Calls Tryz.prog 97 #[.slice a b.length cap] w (ef a b w):=by
 have key:∀{R R':Ending->World->Prop},(∀e w',R e w'->R' e w')->Calls Tryz.prog 97 #[.slice a b.length cap] w R->Calls Tryz.prog 97 #[.slice a b.length cap] w R':=fun hR hc=>hc.mono hR
 by_cases h9:b.length<9
 ·have e:cG b=none:=by unfold cG;rw[if_pos h9]
  exact(Cb a cap b w h9).mono fun e' w' hp=>by unfold ef;rw[e];exact hp
 obtain⟨g,off,rfl,hc⟩:=h (by simp;omega)
 have cell:∀j (hj:j<b.length),w.cell? ⟨g,off+j,none⟩=some (.int .u8 (b.getD j 0).toNat):=fun j hj=>by
  rw[hc j (by simpa using hj)];simp[ao,List.getD_eq_getElem?_getD,hj]
 by_cases hz:b.getD 0 0=0
 ·have e:cG b=none:=by unfold cG;rw[if_neg h9,if_pos hz]
  refine(EM g off cap b w (by omega) hl ?_).mono fun e' w' hp=>by unfold ef;rw[e];exact hp
  rw[cell 0 (by omega),hz];rfl
 have hz':(b.getD 0 0).toNat≠0:=fun e=>hz (UInt8.toNat_inj.1 (by simpa using e))
 have c0:=cell 0 (by omega);have c1:=cell 1 (by omega);have c2:=cell 2 (by omega);have c3:=cell 3 (by omega);have c4:=cell 4 (by omega);have l1:=UInt8.toNat_lt (b.getD 1 0);have l2:=UInt8.toNat_lt (b.getD 2 0);have l3:=UInt8.toNat_lt (b.getD 3 0);have l4:=UInt8.toNat_lt (b.getD 4 0);by_cases hne:(b.getD 1 0).toNat*256+(b.getD 2 0).toNat≠(255-(b.getD 3 0).toNat)*256+(255-(b.getD 4 0).toNat)
 ·have e:cG b=none:=by unfold cG;rw[if_neg h9,if_neg hz];simp only;rw[if_pos hne]
  exact(GO g off cap b w _ _ _ _ _ (by omega) hl c0 hz' c1 c2 c3 c4 l1 l2 l3 l4 hne).mono fun e' w' hp=>by unfold ef;rw[e];exact hp
 by_cases hsz:b.length<(b.getD 1 0).toNat*256+(b.getD 2 0).toNat+9
 ·have e:cG b=none:=by unfold cG;rw[if_neg h9,if_neg hz];simp only;rw[if_neg hne,if_pos hsz]
  exact(EL g off cap b w _ _ _ _ _ (by omega) hl c0 hz' c1 c2 c3 c4 l1 l2 l3 l4 (by simpa using hne) hsz).mono fun e' w' hp=>by unfold ef;rw[e];exact hp
 by_cases hsum:bG ((b.drop (5+((b.getD 1 0).toNat*256+(b.getD 2 0).toNat))).take 4)≠cJ (b.getD 0 0) ((b.drop 5).take ((b.getD 1 0).toNat*256+(b.getD 2 0).toNat))
 ·have e:cG b=none:=by unfold cG;rw[if_neg h9,if_neg hz];simp only;rw[if_neg hne,if_neg hsz,if_pos hsum]
  exact(GP g off cap b w _ _ _ _ _ (by omega) hl c0 hz' c1 c2 c3 c4 l1 l2 l3 l4 (by simpa using hne) (by omega) hcap _ rfl h _ rfl hsum).mono fun e' w' hp=>by unfold ef;rw[e];exact hp
 ·have e:cG b=some (b.getD 0 0,(b.drop 5).take ((b.getD 1 0).toNat*256+(b.getD 2 0).toNat),(b.getD 1 0).toNat*256+(b.getD 2 0).toNat+9):=by unfold cG;rw[if_neg h9,if_neg hz];simp only;rw[if_neg hne,if_neg hsz,if_neg hsum]
  exact(IU g off cap b w _ _ _ _ _ (by omega) hl c0 hz' c1 c2 c3 c4 l1 l2 l3 l4 (by simpa using hne) (by omega) hcap _ rfl h _ rfl (by simpa using hsum)).mono fun e' w' hp=>by unfold ef;rw[e];exact hp
theorem q7:cG (aq 128)=none:=by
 unfold cG;rw[if_neg (by rw[ap];omega),if_pos (by simp[aq])]
def F9(z:Bool)(w:World)(e:Ending)(w':World):Prop:=e=.returned (.tuple #[.slice none 0 0,.bool z,.nilIface])/\aX w w'
def dQ(l:Bs)(k:Nat):Bool:=decide (∀j,j<k->ba l j=aq 128)
theorem p9(l:Bs):dQ l 0=true:=by simp[dQ]
theorem rp{l:Bs}{k:Nat}(h:ba l k=aq 128):dQ l (k+1)=dQ l k:=by
 unfold dQ;refine decide_eq_decide.2 ⟨fun H j hj=>H j (by omega),fun H j hj=>?_⟩;rcases Nat.lt_or_ge j k with h'|h'
 ·exact H j h'
 ·obtain rfl:j=k:=by omega
  exact h
theorem uh{l:Bs}{k:Nat}(h:ba l k≠aq 128):dQ l (k+1)=false:=by
 unfold dQ;exact decide_eq_false (fun H=>h (H k (by omega)))
theorem Fj(d:Nat)(L:DevL)(w:World)(h:Sat w (aE d L))(hL:DevOk L)(hn:16<=L.n)(h01:∀k,k<2->cG (ba L.now k)=none):
  Calls Tryz.prog 50 #[.pointer (some ⟨d,0,none⟩)] w (F9 (dQ L.now 2) w):=by
 have HZ:=qqH nB;have HC:Hid (∀(k:Nat) (W:World),k<2->aX w W->Calls Tryz.prog 17 #[.pointer (some ⟨d,0,none⟩),.int .i64 k] W (jO L k W)):=qqH (fun k W hk hW=>lp d L k W (h.same hW) hL (by omega));have HL:Hid (∀k,k<2->(ba L.now k).length=128):=qqH (fun k hk=>it hL.nowL (by omega));have HO:=qqH h01;clear h hL h01;go_enter Tryz.func50,Tryz.ntmps50;go_wp2_with fail;go_loopw [2,3,16] (fun l em i wr=>∃k:Nat,k<=2/\i=.int .i64 k/\l=.slice none 0 0/\em=.bool (dQ L.now k)/\aX w wr) (fun _ _ i _=>2-(intOf i).toNat)
 case atStart=>exact⟨0,by omega,rfl,rfl,by rw[p9],Mods.refl _ _⟩
 case round =>
  obtain⟨k,hk,rfl,rfl,rfl,hs⟩:=hrel;by_cases hlt:k<2
  ·have HR:=qqH (HC.out k wr hlt hs);have HS:=qqH hs;have HO':=qqH (HO.out k hlt);have HL':=qqH (HL.out k hlt);have HZ0:=qqH (rp (l:=L.now) (k:=k));have HZ1:=qqH (uh (l:=L.now) (k:=k));unfold jO at HR;obtain⟨s,hse⟩:∃s,s=ba L.now k:=⟨_,rfl⟩;obtain⟨z,hz⟩:∃z,z=dQ L.now k:=⟨_,rfl⟩;obtain⟨z1,hz1⟩:∃z,z=dQ L.now (k+1):=⟨_,rfl⟩;rw[<- hse]at HR HO' HL' HZ0 HZ1;rw[<- hz,<- hz1]at HZ0;rw[<- hz1]at HZ1;rw[<- hz];have H1:=qqH hz1;clear hs HC HO HL hse hz hz1;go_wp2_with fail;refine HR.out.mono ?_;rintro e w2 ⟨rfl,hs2⟩;have hb:=aM w2 (.cells (az (aq 128)) 43);obtain⟨q1,q2⟩:=dw hb (s:=s) (by rw[HL'.out,ap]);have hs3:aX w ((w2.alloc (.cells (az (aq 128)) 43)).setCells w2.heap.size 0 (s.map ao)):=(((HS.out.trans' hs2 (fun _ h=>h.elim)).alloc _).trans' q2 (fun i hi=>.inr (by have:=(HS.out.trans' hs2 (fun _ h=>h.elim)).size;omega)));have hth:(w2.alloc (.cells (az (aq 128)) 43)).there w2.heap.size 0 (az s).size:=by rw[bU,HL'.out];exact eP hb 0 128 (by rw[ap];omega)
   have hrg:((w2.alloc (.cells (az (aq 128)) 43)).setCells w2.heap.size 0 (s.map ao)).rangeAt w2.heap.size 0 (s.map ao):=by
    have:=eu q1 0 128;rwa [List.drop_zero,List.take_of_length_le (by rw[HL'.out];omega)]at this
   have HN:=qqH (fun W=>Dn s (aq 128) HL'.out (ap _) W);obtain⟨W4,hW4⟩:∃W,(w2.alloc (.cells (az (aq 128)) 43)).setCells w2.heap.size 0 (s.map ao)=W:=⟨_,rfl⟩;rw[hW4]at q1 hs3 hrg;have H3:=Hq3 q1 hs3 hrg;have HT:=qqH hth;have HW:=qqH hW4;clear q1 q2 hb hs3 hs2 hth hrg hW4;have hz:=nC;go_wp2_with (first|(refine wpList_store_mid rfl 43 (.tmp 6) (.tmp 23) rfl w2.heap.size 0 (az s) rfl rfl HT.out (ir HL'.out) (db _) ?_;change wpList _ _ _ _ _ (World.setCells (w2.alloc (.cells (az (aq 128)) 43)) w2.heap.size 0 (s.map ao));rw[HW.out])|(refine wpList_load_mid rfl 43 (.tmp 6) rfl w2.heap.size 0 rfl (s.map ao) _ H3.y Tryz.underlying43 rfl (iE HL'.out) ?_)|(refine b5 rfl 43 #[] rfl (az (aq 128)) HZ.out ?_)|(refine oV rfl .neq 43 (.tmp 28) (.tmp 29) _ rfl pC _ _ (.bool (!decide (s=aq 128))) (HN.out _) rfl rfl ?_))
   all_goals
    have hb:=H3.a
    have hop:Calls Tryz.prog 97 #[.slice (some ⟨w2.heap.size,0,none⟩) 128 128] W4 (ef (some ⟨w2.heap.size,0,none⟩) s W4):=by
     have:=ja (some ⟨w2.heap.size,0,none⟩) 128 s W4 (fun hp=>⟨w2.heap.size,0,rfl,fun j hj=>by rw[Nat.zero_add];exact aa hb j (by rw[fS s j (by simpa using hj)];simp)⟩) (by rw[HL'.out];omega) (by rw[HL'.out];omega);rwa [HL'.out]at this
    unfold ef at hop;rw[HO'.out]at hop;have HP:=qqH hop;clear hb hop;first
    | (
     have hne:s≠aq 128:=by
      have:(!decide (s=aq 128))=true:=by assumption
      simpa using this
     have HE:=qqH (HZ1.out hne))
    | (
     have hne:s=aq 128:=by
      have:(!decide (s=aq 128))=false:=by assumption
      simpa using this
     have HE:=qqH (HZ0.out hne))
    clear hne;refine HP.out.mono ?_;rintro e w5 ⟨rfl,hs5⟩;have H5:=qqH (H3.b.trans hs5);clear hs5;go_wp2_with fail;go_roundw
    case rel=>exact⟨k+1,by omega,by go_num,rfl,by rw[<- H1.out,HE.out],H5.out⟩
    case measure=>simp[intOf];omega
  ·obtain rfl:k=2:=by omega
   have HS:=qqH hs;clear hs HC HO HL;go_wp2_with fail;go_quiet (fail);go_wp2_with fail;go_ret3;exact⟨rfl,HS.out.drewN _⟩
end
section
theorem Sat.Q7{w:World}{F:HF}(h:Sat w F){b:Nat}{o:Obj}(hm:(b,Is o)∈F):w.heap[b]?=some o:=by
 obtain⟨o',ho,hi⟩:=h.sat _ hm;have hi:o'=o:=hi;subst hi;exact ho
open Classical in
noncomputable def cnt(a:Nat×(Obj->Prop))(F:HF):Nat:=F.countP (fun b=>decide (b=a))
open Classical in
noncomputable def Gn(a b:Nat×(Obj->Prop)):Nat:=if b=a then 1 else 0
theorem gC(a:Nat×(Obj->Prop)):cnt a []=0:=rfl
theorem aB(a b:Nat×(Obj->Prop))(F:HF):cnt a (b::F)=Gn a b+cnt a F:=by
 unfold cnt Gn;rw[List.countP_cons];by_cases h:b=a<;>simp[h,Nat.add_comm]
theorem an(a:Nat×(Obj->Prop))(F G:HF):cnt a (F++G)=cnt a F+cnt a G:=List.countP_append
open Classical in
theorem zH{F G:HF}(h:∀a,cnt a F=cnt a G):F.Perm G:=by
 rw[List.perm_iff_count];intro a;have:=h a;unfold cnt at this
 have e:(fun b:Nat×(Obj->Prop)=>decide (b=a))=(fun b=>b==a):=by
  funext b;by_cases hb:b=a
  ·subst hb;simp
  ·simp[hb]
 rw[e]at this;exact this
theorem af{F G:HF}(h:∀a,cnt a F=cnt a G:=by intro _;simp only[aB,an,gC]<;>omega):F.Perm G:=zH h
theorem bw{F G:HF}(h:∀a,cnt a F<=cnt a G:=by intro _;simp only[aB,an,gC]<;>omega):∀a,cnt a F<=cnt a G:=h
theorem oS{G:HF}:∀{F:HF},(∀a,cnt a G<=cnt a F)->∃R,F.Perm (G++R):=by
 induction G with
 | nil=>intro F _;exact⟨F,List.Perm.refl _⟩
 | cons g G ih =>
  intro F h
  have hg:g∈F:=by
   have:=h g;rw[aB]at this;have h1:Gn g g=1:=by unfold Gn;simp
   have h2:0<cnt g F:=by omega
   unfold cnt at h2;rw[List.countP_pos_iff]at h2;obtain⟨b,hb,he⟩:=h2;have he:b=g:=by simpa using he
   exact he ▸ hb
  obtain⟨s,t,rfl⟩:=List.append_of_mem hg;obtain⟨R,hR⟩:=ih (F:=s++t) (fun a=>by have:=h a;simp only[aB,an]at this ⊢;omega);exact⟨R,List.perm_middle.trans (hR.cons g)⟩
theorem Sat.sub{w:World}{F G:HF}(h:Sat w F)(hp:∀a,cnt a G<=cnt a F):Sat w G:=by
 obtain⟨R,hR⟩:=oS hp;exact(h.perm hR).left
theorem Turns.step{a b c:World}{F0 G F F' R:HF}(h:Turns F0 G a b)(hp:G.Perm (F++R))(k:Turns F F' b c):Turns F0 (F'++R) a c :=
 (h.perm (List.Perm.refl _) hp).trans (k.frame (h.sat.perm hp))
theorem Turns.to{a b:World}{F G H:HF}(h:Turns F G a b)(hp:G.Perm H):Turns F H a b:=h.perm (List.Perm.refl _) hp
theorem Turns.drop{a b:World}{F G H:HF}(h:Turns F G a b)(hp:∀x,cnt x H<=cnt x G):Turns F H a b:=by
 obtain⟨R,hR⟩:=oS hp;exact(h.to hR).left
theorem Turns.Qb{a b c:World}{F G H:HF}(h:Turns F G a b)(k:Turns [] H b c):Turns F (H++G) a c:=by
 have:=k.frame (R:=G) (by simpa using h.sat);simp only[List.nil_append]at this;exact h.trans this
def aw(x:Nat->Value):Nat->List Oper->Act->Act
 | _,[],a=>a
 | k,o::r,a=>aw x (k+1) r (a.put o.dst (x k))
def kG(φ:Nat->Value->Prop)(x:Nat->Value)(s:Nat->Option Value)(noisy:List Nat):List Edge->Prop
 | []=>True
 | e::r=>(if Region.binds .any e then φ e.on (x e.on)/\(if noisy.contains e.on then s e.on=some (x e.on)else True)else True)/\kG φ x s noisy r
def fy(s:Nat->Option Value)(i:Nat)(v:Value):Nat->Option Value:=fun k=>if k=i then some v else s k
def tT(P:Program)(Q:Exit->Act->World->Prop)(ops:Array Oper)(a0:Act)(φ:Nat->Value->Prop)(J:(Nat->Option Value)->World->Prop)(noisy:List Nat)(i:Nat)(o:Oper):Prop :=
 ∀(x:Nat->Value) (s:Nat->Option Value) (w:World),kG φ x s noisy o.after.toList->(∀k v,s k=some v->x k=v)->s i=none->J s w ->
  if Region.wanted o (yielded ops (aw x 0 ops.toList a0).tmps)then
   ∀K:Act->World->Prop,(∀v w',φ i v->J (if noisy.contains i then fy s i v else s) w'->K ((aw x 0 ops.toList a0).put o.dst v) w')->o.wp P (aw x 0 ops.toList a0) w K Q
  else φ i undef/\J (if noisy.contains i then fy s i undef else s) w
def gZ(P:Program)(Q:Exit->Act->World->Prop)(ops:Array Oper)(a0:Act)(φ:Nat->Value->Prop)(J:(Nat->Option Value)->World->Prop)(noisy:List Nat):Nat->List Oper->Prop
 | _,[]=>True
 | i,o::r=>tT P Q ops a0 φ J noisy i o/\gZ P Q ops a0 φ J noisy (i+1) r
def fF(φ:Nat->Value->Prop)(x:Nat->Value):Nat->Nat->Prop
 | _,0=>True
 | i,n+1=>φ i (x i)/\fF φ x (i+1) n
def dB(n:Nat):Nat->List Oper->List Nat->Bool
 | _,[],_=>true
 | i,o::r,ds=>(o.after.toList.all fun e => !Region.binds .any e || decide (e.on<i)) &&
   (match o.dst with|some d=>decide (d<n) && !ds.contains d&&dB n (i+1) r (d::ds)|none=>dB n (i+1) r ds)
theorem I2(a:Act)(d:Option Tmp)(v u:Value):(a.put d v).put d u=a.put d u:=by
 cases d<;>simp[Act.put]
theorem mB{x y:Nat->Value}:∀(l:List Oper) (k:Nat) (a:Act),(∀j,k<=j->j<k+l.length->x j=y j)->aw x k l a=aw y k l a:=by
 intro l;induction l with
 | nil=>intro k a _;rfl
 | cons o r ih =>
  intro k a h;simp only[aw];rw[h k (Nat.le_refl _) (by simp)];exact ih (k+1) _ (fun j hj hj2=>h j (by omega) (by simp at hj2 ⊢;omega))
def kP(l:List Oper):List Tmp:=l.filterMap (·.dst)
theorem xa{x:Nat->Value}:∀(l:List Oper) (k:Nat) (a:Act) (d:Option Tmp) (v:Value),(∀t,d=some t->t∉kP l)->(aw x k l a).put d v=aw x k l (a.put d v):=by
 intro l;induction l with
 | nil=>intro k a d v _;rfl
 | cons o r ih =>
  intro k a d v h;simp only[aw];rw[ih (k+1) _ d v (fun t ht hm=>h t ht (by simp only[kP,List.filterMap_cons];cases o.dst<;>simp_all[kP]))];rw[Act.put_comm a (x:=o.dst) (y:=d)];intro t ht hd;refine h t hd ?_;simp[kP,ht]
theorem lA{n:Nat}:∀(l:List Oper) (i:Nat) (ds:List Nat),dB n i l ds=true->(kP l).Nodup/\(∀d∈kP l,d∉ds/\d<n):=by
 intro l;induction l with
 | nil=>intro i ds _;exact⟨List.nodup_nil,fun d h=>by simp[kP]at h⟩
 | cons o r ih =>
  intro i ds h;simp only[dB,Bool.and_eq_true]at h;obtain⟨_,h⟩:=h
  cases hd:o.dst with
  | none =>
   rw[hd]at h;have:=ih _ _ h;simpa[kP,List.filterMap_cons,hd]using this
  | some d =>
   rw[hd]at h;simp only[Bool.and_eq_true,Bool.not_eq_true',decide_eq_true_eq]at h;obtain⟨⟨h1,h2⟩,h3⟩:=h;have:=ih _ _ h3;have e:kP (o::r)=d::kP r:=by simp[kP,hd]
   rw[e];refine⟨List.nodup_cons.2 ⟨fun hm=>(this.2 d hm).1 (by simp),this.1⟩,fun t ht=>?_⟩;rcases List.mem_cons.1 ht with rfl|ht
   ·exact⟨fun hc=>by simp[hc]at h2,h1⟩
   ·exact⟨fun hc=>(this.2 t ht).1 (by simp[hc]),(this.2 t ht).2⟩
theorem wZ{n:Nat}:∀(l:List Oper) (i:Nat) (ds:List Nat),dB n i l ds=true->∀(j:Nat) (o:Oper),l[j]?=some o->∀e∈o.after.toList,Region.binds .any e=true->e.on<i+j:=by
 intro l;induction l with
 | nil=>intro i ds _ j o h;simp at h
 | cons o r ih =>
  intro i ds h j o' hj e he hb;simp only[dB,Bool.and_eq_true,List.all_eq_true]at h;obtain⟨h1,h⟩:=h
  cases j with
  | zero =>
   simp only[List.getElem?_cons_zero,Option.some.injEq]at hj;subst hj;have:=h1 e he;simp[hb]at this;omega
  | succ j =>
   simp only[List.getElem?_cons_succ]at hj
   have:e.on<i+1+j:=by
    cases hd:o.dst with
    | none=>rw[hd]at h;exact ih _ _ h j o' hj e he hb
    | some d =>
     rw[hd]at h;simp only[Bool.and_eq_true]at h;exact ih _ _ h.2 j o' hj e he hb
   omega
theorem sH{x:Nat->Value}(i:Nat)(v:Value):∀(l:List Oper) (k:Nat) (a:Act) (o:Oper),(kP l).Nodup->k<=i->l[i-k]?=some o ->
  (aw x k l a).put o.dst v=aw (fun j=>if j=i then v else x j) k l a:=by
 intro l;induction l with
 | nil=>intro k a o _ _ h;simp at h
 | cons o' r ih =>
  intro k a o hn hk h;simp only[aw];rcases Nat.eq_or_lt_of_le hk with rfl|hlt
  ·rw[Nat.sub_self]at h;simp only[List.getElem?_cons_zero,Option.some.injEq]at h;subst h;rw[if_pos rfl,xa _ _ _ _ _ (fun t ht hm=>?_),I2]
   ·exact mB _ _ _ (fun j hj _=>by rw[if_neg (by omega)])
   ·have:kP (o'::r)=t::kP r:=by simp[kP,ht]
    rw[this]at hn;exact(List.nodup_cons.1 hn).1 hm
  ·rw[if_neg (by omega)]
   have hn':(kP r).Nodup:=by
    cases hd:o'.dst with
    | none=>simpa[kP,List.filterMap_cons,hd]using hn
    | some d =>
     have e:kP (o'::r)=d::kP r:=by simp[kP,hd]
     rw[e]at hn;exact(List.nodup_cons.1 hn).2
   exact ih (k+1) _ o hn' (by omega) (by rw[show i-k=(i-(k+1))+1 by omega]at h;simpa using h)
theorem xK{P:Program}{Q:Exit->Act->World->Prop}{ops:Array Oper}{a0:Act}{φ:Nat->Value->Prop}{J:(Nat->Option Value)->World->Prop}{noisy:List Nat}:
  ∀(l:List Oper) (i:Nat),gZ P Q ops a0 φ J noisy i l->∀(j:Nat) (o:Oper),l[j]?=some o->tT P Q ops a0 φ J noisy (i+j) o:=by
 intro l;induction l with
 | nil=>intro i _ j o h;simp at h
 | cons o' r ih =>
  intro i h j o hj
  cases j with
  | zero=>simp only[List.getElem?_cons_zero,Option.some.injEq]at hj;subst hj;exact h.1
  | succ j=>have:=ih _ h.2 j o (by simpa using hj);rwa [Nat.add_right_comm,Nat.add_assoc]at this
theorem qc{φ:Nat->Value->Prop}{x:Nat->Value}:∀(n i:Nat),(∀k,i<=k->k<i+n->φ k (x k))->fF φ x i n:=by
 intro n;induction n with
 | zero=>intro i _;trivial
 | succ n ih=>intro i h;exact⟨h i (Nat.le_refl _) (by omega),ih (i+1) (fun k h1 h2=>h k (by omega) (by omega))⟩
theorem qn{φ:Nat->Value->Prop}{x:Nat->Value}{s:Nat->Option Value}{noisy:List Nat}:∀(l:List Edge),(∀e∈l,Region.binds .any e=true->φ e.on (x e.on)/\(noisy.contains e.on=true->s e.on=some (x e.on)))->kG φ x s noisy l:=by
 intro l;induction l with
 | nil=>intro _;trivial
 | cons e r ih =>
  intro h;refine⟨?_,ih (fun e' he=>h e' (List.mem_cons_of_mem _ he))⟩;split
  ·rename_i hb;obtain⟨h1,h2⟩:=h e (by simp) hb;refine⟨h1,?_⟩;split
   ·rename_i hc;exact h2 hc
   ·trivial
  ·trivial
theorem jJ{ops:Array Oper}{listed:Array Bool}{i:Nat}(h:i∈Region.ready .any ops listed):
  i<ops.size/\listed.getD i true=false/\∃o,ops[i]?=some o/\∀e∈o.after.toList,Region.binds .any e=true->listed.getD e.on false=true:=by
 unfold Region.ready at h;rw[List.mem_filter]at h;obtain⟨h1,h2⟩:=h;have hi:i<ops.size:=by simpa using h1
 simp only[Bool.and_eq_true,Bool.not_eq_true']at h2;obtain⟨h2,h3⟩:=h2;refine⟨hi,h2,ops[i],Array.getElem?_eq_getElem hi,fun e he hb=>?_⟩;rw[Array.getElem?_eq_getElem hi]at h3;simp only[Option.map_some,Option.getD_some,Array.all_eq_true_iff_forall_mem]at h3;have:=h3 e (by simpa using he);simpa[hb]using this
theorem tC{ops:Array Oper}{listed:Array Bool}{n:Nat}(hok:dB n 0 ops.toList []=true)(hs:listed.size=ops.size){i:Nat}(hi:i<ops.size)(hl:listed.getD i true=false):Region.ready .any ops listed≠[]:=by
 induction i using Nat.strongRecOn with
 | _ i ih =>
  by_cases hd:∀e∈(ops[i]).after.toList,Region.binds .any e=true->listed.getD e.on false=true
  ·intro hnil
   have hm:i∈Region.ready .any ops listed:=by
    unfold Region.ready;rw[List.mem_filter];refine⟨by simpa using hi,?_⟩;rw[Array.getElem?_eq_getElem hi];simp only[Bool.and_eq_true,Bool.not_eq_true',Option.map_some,Option.getD_some,Array.all_eq_true_iff_forall_mem];refine⟨hl,fun e he=>?_⟩;by_cases hb:Region.binds .any e=true
    ·simp[hb,hd e (by simpa using he) hb]
    ·simp[hb]
   rw[hnil]at hm;simp at hm
  ·have:∃e,e∈(ops[i]).after.toList/\Region.binds .any e=true/\¬listed.getD e.on false=true:=by
    apply Classical.byContradiction;intro hn;exact hd (fun e he hb=>Classical.byContradiction fun hc=>hn ⟨e,he,hb,hc⟩)
   obtain⟨e,he,hb,hc⟩:=this;have hlt:=wZ ops.toList 0 [] hok i ops[i] (by simp[hi]) e he hb;have hlt':e.on<i:=by omega
   refine ih e.on hlt' (by omega) ?_;have hsz:e.on<listed.size:=by omega
   simp only[Array.getD_eq_getD_getElem?,Array.getElem?_eq_getElem hsz,Option.getD_some]at hc ⊢;simpa using hc
def cX(listed:Array Bool):Nat:=listed.toList.countP (·==false)
theorem lU{listed:Array Bool}{i:Nat}(h:listed.getD i true=false):cX (listed.setIfInBounds i true)+1=cX listed:=by
 have hi:i<listed.size:=by
  rcases Nat.lt_or_ge i listed.size with h'|h'
  ·exact h'
  ·simp[Array.getD_eq_getD_getElem?,Array.getElem?_eq_none h']at h
 obtain⟨l⟩:=listed;simp only[Array.getD_eq_getD_getElem?]at h;simp only[List.size_toArray]at hi;simp only[cX,List.setIfInBounds_toArray];have he:l[i]=false:=by simpa[hi]using h
 clear h;induction l generalizing i with
 | nil=>simp at hi
 | cons b r ih =>
  cases i with
  | zero=>simp at he;subst he;simp[]
  | succ i =>
   simp only[List.getElem_cons_succ]at he;simp only[List.set_cons_succ,List.countP_cons];have:=ih (i:=i) (by simpa using hi) he;omega
theorem lT{listed:Array Bool}(h:0<cX listed):∃i,i<listed.size/\listed.getD i true=false:=by
 unfold cX at h;rw[List.countP_pos_iff]at h;obtain⟨b,hb,hf⟩:=h;obtain⟨i,hi,rfl⟩:=List.mem_iff_getElem.1 hb;refine⟨i,by simpa using hi,?_⟩;simp only[Array.getD_eq_getD_getElem?];have hi':i<listed.size:=by simpa using hi
 rw[Array.getElem?_eq_getElem hi'];simpa using hf
theorem ft{listed:Array Bool}(h:cX listed=0){i:Nat}(hi:i<listed.size):listed.getD i true=true:=by
 cases hc:listed.getD i true with
 | true=>rfl
 | false =>
  exfalso
  have:0<cX listed:=by
   unfold cX;rw[List.countP_pos_iff];refine⟨listed[i],by simp,?_⟩;simp only[Array.getD_eq_getD_getElem?]at hc;rw[Array.getElem?_eq_getElem hi]at hc;simpa using hc
  omega
theorem j7(n:Nat):cX (Array.replicate n false)=n:=by
 simp[cX,List.countP_replicate]
def a8(noisy:List Nat)(listed:Array Bool)(x:Nat->Value):Nat->Option Value:=fun k=>if listed.getD k false=true/\noisy.contains k=true then some (x k)else none
theorem CM{P:Program}{Q:Exit->Act->World->Prop}{ops:Array Oper}{a0:Act}(φ:Nat->Value->Prop)(J:(Nat->Option Value)->World->Prop)(noisy:List Nat)(hok:dB a0.tmps.size 0 ops.toList []=true)(hsteps:gZ P Q ops a0 φ J noisy 0 ops.toList)(hend:∀x w,fF φ x 0 ops.size->J (fun k=>if k<ops.size/\noisy.contains k=true then some (x k)else none) w->Q .normal (aw x 0 ops.toList a0) w):
  ∀(fuel:Nat) (listed:Array Bool) (x:Nat->Value) (w:World),listed.size=ops.size->cX listed=fuel->(∀k,listed.getD k false=true->φ k (x k))->J (a8 noisy listed x) w ->
   wpAny P .any ops Q fuel listed (aw x 0 ops.toList a0) w:=by
 have hn:=(lA ops.toList 0 [] hok).1
 have fin:∀(listed:Array Bool) (x:Nat->Value) (w:World),listed.size=ops.size->cX listed=0->(∀k,listed.getD k false=true->φ k (x k))->J (a8 noisy listed x) w->Q .normal (aw x 0 ops.toList a0) w:=by
  intro listed x w hs hu hφ hJ
  have hall:∀k,listed.getD k false=true↔k<ops.size:=fun k=>by
   rcases Nat.lt_or_ge k listed.size with h'|h'
   ·have:=ft hu h';simp only[Array.getD_eq_getD_getElem?,Array.getElem?_eq_getElem h',Option.getD_some]at this ⊢;exact⟨fun _=>by omega,fun _=>this⟩
   ·simp only[Array.getD_eq_getD_getElem?,Array.getElem?_eq_none h',Option.getD_none];exact⟨fun h=>Bool.noConfusion h,fun h=>by omega⟩
  refine hend x w (qc _ _ (fun k _ h2=>hφ k ((hall k).2 (by omega)))) ?_
  have e:a8 noisy listed x=fun k=>if k<ops.size/\noisy.contains k=true then some (x k)else none:=by
   funext k;unfold a8;simp only[hall k]
  rw[<- e];exact hJ
 intro fuel;induction fuel with
 | zero =>
  intro listed x w hs hu hφ hJ;refine⟨?_,fin listed x w hs hu hφ hJ⟩;apply Classical.byContradiction;intro hne;obtain⟨i,hi⟩:=List.exists_mem_of_ne_nil _ hne;obtain⟨h1,h2,_⟩:=jJ hi;have:=ft hu (i:=i) (by omega);rw[this]at h2;cases h2
 | succ fuel ih =>
  intro listed x w hs hu hφ hJ;refine⟨fun hnil=>?_,fun i hi=>?_⟩
  ·obtain⟨i,hi,hl⟩:=lT (listed:=listed) (by omega);exact absurd hnil (tC hok hs (by omega) hl)
  ·obtain⟨h1,h2,o,ho,hdeps⟩:=jJ hi;have hlt:i<listed.size:=by omega
   have hf:listed.getD i false=false:=by
    simp only[Array.getD_eq_getD_getElem?,Array.getElem?_eq_getElem hlt,Option.getD_some]at h2 ⊢;exact h2
   have hol:ops.toList[i]?=some o:=by simpa using ho
   have hst:=xK ops.toList 0 hsteps i o hol;rw[Nat.zero_add]at hst;have hst:=hst x (a8 noisy listed x) w (qn _ (fun e he hb=>⟨hφ _ (hdeps e he hb),fun hc=>by unfold a8;rw[if_pos ⟨hdeps e he hb,hc⟩]⟩)) (fun k v hk=>by unfold a8 at hk;split at hk<;>simp_all) (by unfold a8;rw[if_neg (by simp[hf])]) hJ;have hsz':(listed.setIfInBounds i true).size=ops.size:=by simpa using hs
   have hu':cX (listed.setIfInBounds i true)=fuel:=by have:=lU h2;omega
   have next:∀v w',φ i v->J (if noisy.contains i then fy (a8 noisy listed x) i v else a8 noisy listed x) w'->wpAny P .any ops Q fuel (listed.setIfInBounds i true) ((aw x 0 ops.toList a0).put o.dst v) w':=by
    intro v w' hv hJ';rw[sH i v ops.toList 0 a0 o hn (Nat.zero_le _) (by simpa using hol)]
    have hgd:∀k,(listed.setIfInBounds i true).getD k false=if k=i then true else listed.getD k false:=fun k=>by
     simp only[Array.getD_eq_getD_getElem?,Array.getElem?_setIfInBounds];by_cases hk:k=i
     ·subst hk;simp[hlt]
     ·rw[if_neg (Ne.symm hk),if_neg hk]
    refine ih _ _ w' hsz' hu' (fun k hk=>?_) ?_
    ·rw[hgd k]at hk;by_cases hki:k=i
     ·subst hki;rw[if_pos rfl];exact hv
     ·rw[if_neg hki]at hk ⊢;exact hφ k hk
    ·have e:a8 noisy (listed.setIfInBounds i true) (fun j=>if j=i then v else x j)=(if noisy.contains i then fy (a8 noisy listed x) i v else a8 noisy listed x):=by
      funext k;unfold a8;rw[hgd k];by_cases hki:k=i
      ·subst hki
       cases hc:noisy.contains k with
       | true=>simp only[and_self,fy,↓reduceIte]
       | false=>simp only[Bool.false_eq_true,and_false,↓reduceIte,hc]
      ·simp only[if_neg hki]
       cases hc:noisy.contains i with
       | true=>simp only[fy,if_neg hki,↓reduceIte]
       | false=>simp only[Bool.false_eq_true,↓reduceIte]
     rw[e];exact hJ'
   unfold wpOp;rw[ho];simp only;split
   ·rename_i hw;rw[if_pos hw]at hst;exact .inl (hst _ next)
   ·rename_i hw;rw[if_neg hw]at hst;exact next undef w hst.1 hst.2
theorem lY{P:Program}{Q:Exit->Act->World->Prop}{ops:Array Oper}{a0:Act}{w:World}(φ:Nat->Value->Prop)(J:(Nat->Option Value)->World->Prop)(noisy:List Nat)(hok:dB a0.tmps.size 0 ops.toList []=true)(h0:J (fun _=>none) w.drew)(hsteps:gZ P Q ops a0 φ J noisy 0 ops.toList)(hend:∀x w,fF φ x 0 ops.size->J (fun k=>if k<ops.size/\noisy.contains k=true then some (x k)else none) w->Q .normal (aw x 0 ops.toList a0) w):
  wpAny P .any ops Q ops.size (Array.replicate ops.size false) a0 w.drew:=by
 have hx:∃x:Nat->Value,aw x 0 ops.toList a0=a0:=by
  have key:∀(l:List Oper) (k:Nat) (x:Nat->Value),(∀j o d,l[j]?=some o->o.dst=some d->d<a0.tmps.size->x (k+j)=a0.tmps.getD d undef)->aw x k l a0=a0:=by
   intro l;induction l with
   | nil=>intro k x _;rfl
   | cons o r ih =>
    intro k x h;simp only[aw]
    have e:a0.put o.dst (x k)=a0:=by
     cases hd:o.dst with
     | none=>rfl
     | some d =>
      simp only[Act.put];by_cases hlt:d<a0.tmps.size
      ·have:=h 0 o d (by simp) hd hlt;rw[Nat.add_zero]at this;rw[this];obtain⟨t,df⟩:=a0;simp only[Act.mk.injEq,and_true];have hlt':d<t.size:=hlt;apply Array.ext_getElem?;intro j;rw[Array.getElem?_setIfInBounds];by_cases hj:d=j
       ·subst hj;simp[hlt']
       ·rw[if_neg hj]
      ·obtain⟨t,df⟩:=a0;simp only[Act.mk.injEq,and_true];have hle:t.size<=d:=Nat.le_of_not_lt hlt;exact Array.setIfInBounds_eq_of_size_le hle
    rw[e];exact ih (k+1) x (fun j o' d hj hd hl=>by have:=h (j+1) o' d (by simpa using hj) hd hl;rwa [show k+(j+1)=k+1+j by omega]at this)
  refine⟨fun j=>((ops.toList[j]?).bind (·.dst)).elim undef (fun d=>a0.tmps.getD d undef),key ops.toList 0 _ (fun j o d hj hd _=>?_)⟩;simp[hj,hd]<;>simp_all
 obtain⟨x,hx⟩:=hx
 have h:=CM (P:=P) (Q:=Q) φ J noisy hok hsteps hend ops.size (Array.replicate ops.size false) x w.drew (by simp) (j7 _) (fun k hk=>by
   simp only[Array.getD_eq_getD_getElem?,Array.getElem?_replicate]at hk;split at hk<;>simp at hk) (by
   have e:a8 noisy (Array.replicate ops.size false) x=fun _=>none:=by
    funext k;unfold a8;rw[if_neg];simp only[Array.getD_eq_getD_getElem?,Array.getElem?_replicate];split<;>simp
   rw[e];exact h0)
 rw[hx]at h;exact h
theorem mY{P:Program}{Q:Exit->Act->World->Prop}{id:Nat}{ops:Array Oper}{a0:Act}{w:World}(hm:P.follows .mixedOrders=true)(φ:Nat->Value->Prop)(J:(Nat->Option Value)->World->Prop)(noisy:List Nat)(hok:dB a0.tmps.size 0 ops.toList []=true)(h0:J (fun _=>none) w.drew)(hsteps:gZ P Q ops a0 φ J noisy 0 ops.toList)(hend:∀x w,fF φ x 0 ops.size->J (fun k=>if k<ops.size/\noisy.contains k=true then some (x k)else none) w->Q .normal (aw x 0 ops.toList a0) w):
  (Code.region id ops true).wp P Q a0 w :=
 wp_region_any hm (lY φ J noisy hok h0 hsteps hend)
def kn(φ:Nat->Value->Prop)(x:Nat->Value):List Edge->Prop
 | []=>True
 | e::r=>(match Region.binds .any e with|true=>φ e.on (x e.on)|false=>True)/\kn φ x r
def km(ops:Array Oper):List Nat->Bool
 | i::j::r=>(match ops[j]? with|some o=>o.after.any (fun e=>Region.binds .any e&&e.on==i)|none=>false)&&km ops (j::r)
 | _=>true
def iW(ns:List Nat)(x:Nat->Value)(j:Nat):List Value:=(ns.take j).map x
def fi(P:Program)(Q:Exit->Act->World->Prop)(ops:Array Oper)(A:(Nat->Value)->Act)(φ:Nat->Value->Prop)(St:List Value->World->Prop)(C:World->Prop)(ns:List Nat)(i:Nat)(o:Oper):Prop :=
 match ns.idxOf? i with
 | none=>∀(x:Nat->Value) (w:World),kn φ x o.after.toList->C w ->
   if Region.wanted o (yielded ops (A x).tmps)then ∀K:Act->World->Prop,(∀v,φ i v->K ((A x).put o.dst v) w)->(∀v w',φ i v->(∀vs,St vs w->St vs w')->K ((A x).put o.dst v) w')->o.wp P (A x) w K Q
   else φ i undef
 | some j=>∀(x:Nat->Value) (w:World),kn φ x o.after.toList->St (iW ns x j) w ->
   if Region.wanted o (yielded ops (A x).tmps)then ∀K:Act->World->Prop,(∀v w',φ i v->St (iW ns x j++[v]) w'->K ((A x).put o.dst v) w')->o.wp P (A x) w K Q
   else φ i undef/\St (iW ns x j++[undef]) w
def gJ(P:Program)(Q:Exit->Act->World->Prop)(ops:Array Oper)(A:(Nat->Value)->Act)(φ:Nat->Value->Prop)(St:List Value->World->Prop)(C:World->Prop)(ns:List Nat):Nat->List Oper->Prop
 | _,[]=>True
 | i,o::r=>fi P Q ops A φ St C ns i o/\gJ P Q ops A φ St C ns (i+1) r
theorem ac{P:Program}{Q:Exit->Act->World->Prop}{ops:Array Oper}{A:(Nat->Value)->Act}{φ:Nat->Value->Prop}{St:List Value->World->Prop}{C:World->Prop}{ns:List Nat}{i:Nat}{o:Oper}(hi:ns.idxOf? i=none)(hg:o.guard=none)(h:∀(x:Nat->Value) (w:World),kn φ x o.after.toList->C w->∀K:Act->World->Prop,(∀v,φ i v->K ((A x).put o.dst v) w)->(∀v w',φ i v->(∀vs,St vs w->St vs w')->K ((A x).put o.dst v) w')->o.wp P (A x) w K Q):
  fi P Q ops A φ St C ns i o:=by
 unfold fi;rw[hi];intro x w hd hC;rw[if_pos (by simp[Region.wanted,hg])];exact h x w hd hC
theorem au{P:Program}{Q:Exit->Act->World->Prop}{ops:Array Oper}{A:(Nat->Value)->Act}{φ:Nat->Value->Prop}{St:List Value->World->Prop}{C:World->Prop}{ns:List Nat}{i:Nat}{o:Oper}(j:Nat)(hi:ns.idxOf? i=some j)(hg:o.guard=none)(h:∀(x:Nat->Value) (w:World),kn φ x o.after.toList->St (iW ns x j) w->∀K:Act->World->Prop,(∀v w',φ i v->St (iW ns x j++[v]) w'->K ((A x).put o.dst v) w')->o.wp P (A x) w K Q):
  fi P Q ops A φ St C ns i o:=by
 unfold fi;rw[hi];intro x w hd hC;rw[if_pos (by simp[Region.wanted,hg])];exact h x w hd hC
theorem gl{φ:Nat->Value->Prop}{x:Nat->Value}{s:Nat->Option Value}{noisy:List Nat}:∀(l:List Edge),kG φ x s noisy l->kn φ x l/\∀e∈l,Region.binds .any e=true->noisy.contains e.on=true->s e.on=some (x e.on):=by
 intro l;induction l with
 | nil=>intro _;exact⟨trivial,fun e he=>by simp at he⟩
 | cons e r ih =>
  intro h;obtain⟨h1,h2⟩:=h;obtain⟨i1,i2⟩:=ih h2;refine⟨⟨?_,i1⟩,fun e' he hb hc=>?_⟩
  ·cases hb:Region.binds .any e with
   | true=>rw[if_pos hb]at h1;exact h1.1
   | false=>trivial
  ·rcases List.mem_cons.1 he with rfl|he
   ·rw[if_pos hb]at h1;have:=h1.2;rwa [if_pos hc]at this
   ·exact i2 e' he hb hc
theorem nP{P:Program}{Q:Exit->Act->World->Prop}{ops:Array Oper}{A:(Nat->Value)->Act}{φ:Nat->Value->Prop}{St:List Value->World->Prop}{C:World->Prop}{ns:List Nat}:
  ∀(l:List Oper) (i:Nat),gJ P Q ops A φ St C ns i l->∀(j:Nat) (o:Oper),l[j]?=some o->fi P Q ops A φ St C ns (i+j) o:=by
 intro l;induction l with
 | nil=>intro i _ j o h;simp at h
 | cons o' r ih =>
  intro i h j o hj
  cases j with
  | zero=>simp only[List.getElem?_cons_zero,Option.some.injEq]at hj;subst hj;exact h.1
  | succ j=>have:=ih _ h.2 j o (by simpa using hj);rwa [Nat.add_right_comm,Nat.add_assoc]at this
theorem xL{P:Program}{Q:Exit->Act->World->Prop}{ops:Array Oper}{a0:Act}{φ:Nat->Value->Prop}{J:(Nat->Option Value)->World->Prop}{noisy:List Nat}:
  ∀(l:List Oper) (i:Nat),(∀(j:Nat) (o:Oper),l[j]?=some o->tT P Q ops a0 φ J noisy (i+j) o)->gZ P Q ops a0 φ J noisy i l:=by
 intro l;induction l with
 | nil=>intro i _;trivial
 | cons o r ih =>
  intro i h;exact⟨h 0 o rfl,ih (i+1) (fun j o' hj=>by have:=h (j+1) o' (by simpa using hj);rwa [show i+(j+1)=i+1+j by omega]at this)⟩
theorem so{ops:Array Oper}:∀(ns:List Nat),km ops ns=true->∀(j a b:Nat),ns[j]?=some a->ns[j+1]?=some b->∃o e,ops[b]?=some o/\e∈o.after.toList/\Region.binds .any e=true/\e.on=a:=by
 intro ns;induction ns with
 | nil=>intro _ j a b h;simp at h
 | cons i r ih =>
  intro h j a b ha hb
  cases r with
  | nil=>simp at hb
  | cons i' r =>
   simp only[km,Bool.and_eq_true]at h
   cases j with
   | zero =>
    simp only[List.getElem?_cons_zero,Option.some.injEq,List.getElem?_cons_succ]at ha hb;subst ha;subst hb
    cases ho:ops[i']? with
    | none=>rw[ho]at h;simp at h
    | some o =>
     rw[ho]at h;obtain⟨h1,_⟩:=h;obtain⟨n,hn,hb⟩:=Array.any_eq_true.1 h1;simp only[Bool.and_eq_true,beq_iff_eq]at hb;exact⟨o,o.after[n],rfl,by simp,hb.1,hb.2⟩
   | succ j=>exact ih h.2 j a b (by simpa using ha) (by simpa using hb)
theorem sV{ns:List Nat}{i j:Nat}(h:ns.idxOf? i=some j):ns[j]?=some i:=by
 rw[List.idxOf?,List.findIdx?_eq_some_iff_getElem]at h;obtain⟨hj,h1,_⟩:=h;rw[List.getElem?_eq_getElem hj];simpa using h1
theorem sU{ns:List Nat}{i:Nat}(h:ns.idxOf? i=none):ns.contains i=false:=by
 rw[List.idxOf?,List.findIdx?_eq_none_iff]at h
 cases hc:ns.contains i with
 | false=>rfl
 | true =>
  rw[List.contains_iff_mem]at hc;have:=h i hc;simp at this
theorem pF{ns:List Nat}(h:ns.Nodup){a b i:Nat}(h1:ns[a]?=some i)(h2:ns[b]?=some i):a=b:=by
 obtain⟨ha,ea⟩:=List.getElem?_eq_some_iff.1 h1;obtain⟨hb,eb⟩:=List.getElem?_eq_some_iff.1 h2;have:=List.pairwise_iff_getElem.1 h;rcases Nat.lt_trichotomy a b with h'|h'|h'
 ·exact absurd (ea.trans eb.symm) (this a b ha hb h')
 ·exact h'
 ·exact absurd (eb.trans ea.symm) (this b a hb ha h')
theorem qd{P:Program}{Q:Exit->Act->World->Prop}{ops:Array Oper}{a0:Act}{w:World}(A:(Nat->Value)->Act)(hA:∀x,aw x 0 ops.toList a0=A x)(φ:Nat->Value->Prop)(St:List Value->World->Prop)(C:World->Prop)(ns:List Nat)(hC:∀vs w,St vs w->C w)(hok:dB a0.tmps.size 0 ops.toList []=true)(hch:km ops ns=true)(hnd:ns.Nodup)(hlt:∀i∈ns,i<ops.size)(h0:St [] w.drew)(hsteps:gJ P Q ops A φ St C ns 0 ops.toList)(hend:∀x w,fF φ x 0 ops.size->St (ns.map x) w->Q .normal (A x) w):
  wpAny P .any ops Q ops.size (Array.replicate ops.size false) a0 w.drew:=by
 let J:(Nat->Option Value)->World->Prop:=fun s w=>∃vs:List Value,vs.length<=ns.length/\(∀(j i:Nat),ns[j]?=some i->s i=vs[j]?)/\St vs w
 refine lY φ J ns hok ⟨[],by simp,fun j i _=>by simp,h0⟩ (xL _ _ (fun i o ho=>?_)) (fun x w hφ hJ=>?_)
 ·rw[Nat.zero_add];have hg:=nP ops.toList 0 hsteps i o ho;rw[Nat.zero_add]at hg;intro x s w hd hsx hs hJ;obtain⟨hd',hdn⟩:=gl _ hd;obtain⟨vs,hvl,hvs,hSt⟩:=hJ;rw[hA];unfold fi at hg
  cases hi:ns.idxOf? i with
  | none =>
   rw[hi]at hg;have hni:=sU hi;have hg:=hg x w hd' (hC _ _ hSt);split
   ·rename_i hw;rw[if_pos hw]at hg;intro K hK;refine hg K (fun v hv=>hK v w hv ?_) (fun v w' hv hst=>hK v w' hv ?_)
    ·rw[hni];exact⟨vs,hvl,hvs,hSt⟩
    ·rw[hni];exact⟨vs,hvl,hvs,hst _ hSt⟩
   ·rename_i hw;rw[if_neg hw]at hg;refine⟨hg,?_⟩;rw[hni];exact⟨vs,hvl,hvs,hSt⟩
  | some j =>
   rw[hi]at hg;have hji:=sV hi;have hjl:j<ns.length:=(List.getElem?_eq_some_iff.1 hji).1;have hci:ns.contains i=true:=by rw[List.contains_iff_mem];exact List.mem_of_getElem? hji
   have hle:vs.length<=j:=by
    rcases Nat.lt_or_ge j vs.length with h'|h'
    ·have:=hvs j i hji;rw[hs,List.getElem?_eq_getElem h']at this;cases this
    ·exact h'
   have hge:j<=vs.length:=by
    cases j with
    | zero=>exact Nat.zero_le _
    | succ j =>
     have hj':j<ns.length:=by omega
     have ha:ns[j]?=some ns[j]:=List.getElem?_eq_getElem hj';obtain⟨o',e,ho',he,hb,hon⟩:=so ns hch j _ i ha hji
     have:o'=o:=by
      have h1:ops[i]?=some o:=by simpa using ho
      rw[h1]at ho';exact(Option.some.inj ho').symm
     subst this;have hsn:=hdn e he hb (by rw[hon,List.contains_iff_mem];exact List.getElem_mem hj');have:=hvs j _ ha;rw[<- hon,hsn]at this;have:=(List.getElem?_eq_some_iff.1 this.symm).1;omega
   have hlen:vs.length=j:=by omega
   have hx':vs=iW ns x j:=by
    apply List.ext_getElem?;intro k;unfold iW;rw[List.getElem?_map,List.getElem?_take];rcases Nat.lt_or_ge k j with hk|hk
    ·rw[if_pos hk];have hkn:k<ns.length:=by omega
     rw[List.getElem?_eq_getElem hkn];have:=hvs k _ (List.getElem?_eq_getElem hkn);have hkv:k<vs.length:=by omega
     rw[List.getElem?_eq_getElem hkv]at this ⊢;simp[hsx _ _ this]
    ·rw[if_neg (by omega),List.getElem?_eq_none (by omega)];rfl
   rw[hx']at hSt;have hg:=hg x w hd' hSt
   have next:∀v,(∀(j' i':Nat),ns[j']?=some i'->fy s i v i'=(iW ns x j++[v])[j']?):=by
    intro v j' i' hj';rw[<- hx'];have hj'l:j'<ns.length:=(List.getElem?_eq_some_iff.1 hj').1;unfold fy;rcases Nat.lt_trichotomy j' j with h1|h1|h1
    ·rw[if_neg (fun e=>by
      subst e;have:=pF hnd hj' hji;omega),hvs j' i' hj',List.getElem?_append_left (by omega)]
    ·subst h1;rw[hji]at hj';simp only[Option.some.injEq]at hj';rw[if_pos hj'.symm,List.getElem?_append_right (by omega),hlen,Nat.sub_self];rfl
    ·rw[if_neg (fun e=>by
      subst e;have:=pF hnd hj' hji;omega),hvs j' i' hj',List.getElem?_eq_none (by omega),List.getElem?_eq_none (by simp;omega)]
   have hl':∀v:Value,(iW ns x j++[v]).length<=ns.length:=fun v=>by rw[<- hx'];simp;omega
   split
   ·rename_i hw;rw[if_pos hw]at hg;intro K hK;exact hg K (fun v w' hv hst=>hK v w' hv ⟨_,hl' v,next v,hst⟩)
   ·rename_i hw;rw[if_neg hw]at hg;refine⟨hg.1,?_⟩;exact⟨_,hl' _,next _,hg.2⟩
 ·rw[hA];refine hend x w hφ ?_;obtain⟨vs,hvl,hvs,hSt⟩:=hJ
  have e:vs=ns.map x:=by
   apply List.ext_getElem?;intro k;rw[List.getElem?_map];rcases Nat.lt_or_ge k ns.length with hk|hk
   ·have:=hvs k _ (List.getElem?_eq_getElem hk);simp only at this;rw[if_pos ⟨hlt _ (List.getElem_mem hk),by rw[List.contains_iff_mem];exact List.getElem_mem hk⟩]at this;rw[<- this,List.getElem?_eq_getElem hk];rfl
   ·rw[List.getElem?_eq_none (by omega),List.getElem?_eq_none hk];rfl
  rw[<- e];exact hSt
theorem bK{P:Program}{Q:Exit->Act->World->Prop}{id:Nat}{ops:Array Oper}{a0:Act}{w:World}(A:(Nat->Value)->Act)(hA:∀x,aw x 0 ops.toList a0=A x)(hm:P.follows .mixedOrders=true)(φ:Nat->Value->Prop)(St:List Value->World->Prop)(C:World->Prop)(ns:List Nat)(hC:∀vs w,St vs w->C w)(hok:dB a0.tmps.size 0 ops.toList []=true)(hch:km ops ns=true)(hnd:ns.Nodup)(hlt:∀i∈ns,i<ops.size)(h0:St [] w.drew)(hsteps:gJ P Q ops A φ St C ns 0 ops.toList)(hend:∀x w,fF φ x 0 ops.size->St (ns.map x) w->Q .normal (A x) w):
  (Code.region id ops true).wp P Q a0 w :=
 wp_region_any hm (qd A hA φ St C ns hC hok hch hnd hlt h0 hsteps hend)
theorem am{P:Program}{o:Oper}{a:Act}{w w':World}{v:Value}{K:Act->World->Prop}{Q:Exit->Act->World->Prop}(h:(execOp a.eval o).run P w=.ok (.value v) w')(hk:K (a.put o.dst v) w'):o.wp P a w K Q:=by
 unfold Oper.wp;rw[h];exact hk
theorem bd{P:Program}{o:Oper}{a:Act}{w:World}{f:FuncId}{args:Array Value}{R:Ending->World->Prop}{K:Act->World->Prop}{Q:Exit->Act->World->Prop}(h:(execOp a.eval o).run P w=.ok (.enter f args) w)(hc:Calls P f args w R)(hk:∀e w',R e w'->∃v,e=.returned v/\K (a.put o.dst v) w'):o.wp P a w K Q:=by
 unfold Oper.wp;rw[h];refine hc.mono (fun e w' hr=>?_);obtain⟨v,rfl,hv⟩:=hk e w' hr;exact hv
def gV:TypeDesc->Bool
 | .struct _|.array _ _=>false
 | _=>true
theorem bD{P:Program}{o:Oper}{a:Act}{w:World}{ty:TypeId}{x:Operand}{ad:Addr}{v:Value}{d:TypeDesc}{K:Act->World->Prop}{Q:Exit->Act->World->Prop}(hu:P.underlying ty=some d)(hd:gV d=true)(ho:o.op=.load ty x)(hx:a.eval x=.pointer (some ad))(hc:w.cell? ad=some v)(hk:K (a.put o.dst v) w):o.wp P a w K Q:=by
 refine am ?_ hk;unfold execOp;simp only[ho,hx]
 cases d<;>simp[gV]at hd<;>simp[Instr.loadAt,Instr.sureAddr,loadVar,isAgg,underlying,hu,Result.andThen,hc]
def iT(l:List (Value->Prop))(k:Nat)(v:Value):Prop:=(l[k]?).elim True (fun p=>p v)
theorem ae{φ:Nat->Value->Prop}{x:Nat->Value}:∀{l:List Edge},kn φ x l->∀(k:Nat),(l.any fun e=>Region.binds .any e&&e.on==k)=true->φ k (x k):=by
 intro l;induction l with
 | nil=>intro _ k h;simp at h
 | cons e r ih =>
  intro h k hk;rw[List.any_cons,Bool.or_eq_true]at hk;rcases hk with hk|hk
  ·simp only[Bool.and_eq_true,beq_iff_eq]at hk;have h1:=h.1;rw[hk.1,hk.2]at h1;exact h1
  ·exact ih h.2 k hk
theorem fG{φ:Nat->Value->Prop}{x:Nat->Value}:∀{n i:Nat},fF φ x i n->∀(k:Nat),i<=k->k<i+n->φ k (x k):=by
 intro n;induction n with
 | zero=>intro i _ k h1 h2;omega
 | succ n ih =>
  intro i h k h1 h2;rcases Nat.eq_or_lt_of_le h1 with rfl|h3
  ·exact h.1
  ·exact ih h.2 k h3 (by omega)
end
section
open Go.RowKit
theorem aV{w:World}{b e n:Nat}{v:Value}{xs:List Value}(h:w.ownsRow b e 1 v n xs):∃a cap,v=.slice a n cap/\xs.length=n/\n<=cap/\ak w a xs/\∀x,a=some x->v.ownBlock=some x.block:=by
 have hl:xs.length=n:=by simpa using h.1
 rcases h.2 with⟨rfl,rfl⟩|⟨g,cap,cur,rfl,hb,hg,hnc,hcm,hcs,htk⟩
 ·exact⟨none,0,rfl,hl,Nat.le_refl _,fun hp=>by omega,fun x hx=>by cases hx⟩
 ·refine⟨_,cap,rfl,hl,hnc,fun _=>⟨g,0,rfl,fun j hj=>?_⟩,fun x hx=>by simp at hx;subst hx;rfl⟩;rw[Nat.zero_add];refine aa hg j ?_;have:(cur.toList.take (n*1))[j]?=some xs[j]:=by rw[htk];simp[hj]
  rw[List.getElem?_take]at this;split at this
  ·simpa using this
  ·cases this
theorem tI{P:Program}{w:World}(t ty e:TypeId)(i:TypeInfo)(z:Value)(size bytes:Nat)(ht:P.underlying t=some (.slice e))(hi:P.info? e=some i)(hz:i.zero=some z)(hsize:i.size=size)(hby:i.bytes=bytes)(hzs:z.cells.size=size)(hs0:0<size)(v:Value)(n:Nat)(xs:List Value)(hown:w.ownsRow 0 e size v n xs)(sa:Option Addr)(m c:Nat)(news:List Value)(hnl:news.length=m*size)(hnews:0<m->∃ad,sa=some ad/\∀j u,news[j]?=some u->w.cell? (ad.add j)=some u)(h1:∀u∈news,u.oneCell'=true)(h63:n+m<=maxLen)(hbytes:(n+m)*bytes<=140737488355328):
  ∃v' w',(Builtin.append_ #[t,t] ty #[v,.slice sa m c]).run P w=.ok v' w'/\w'.ownsRow 0 e size v' (n+m) (xs++news)/\w.grownBy w' v.ownBlock/\(∀g,v'.ownBlock=some g->v.ownBlock=some g\/w.heap.size<=g)/\(v'=.slice none 0 0↔v=.slice none 0 0/\m=0):=by
 rcases Nat.eq_zero_or_pos m with rfl|hp
 ·obtain rfl:news=[]:=List.eq_nil_of_length_eq_zero (by omega);exact⟨v,w,mc (P:=P) w t ty e i size ht hi v n xs hown sa c,by simpa using hown,⟨rfl,rfl,rfl,Nat.le_refl _,fun _ _ _=>rfl⟩,fun g h=>.inl h,by simp⟩
 ·obtain⟨ad,rfl,hc⟩:=hnews hp;obtain⟨v',w',r,r1,r2,r3,r4⟩:=jc (P:=P) w t ty e i z size bytes ht hi hz hsize hby hzs hs0 v n xs hown ad m c news hnl hc h1 h63 hbytes;exact⟨v',w',r,r1,r2,r4,r3⟩
theorem cY{P:Program}{o:Oper}{a:Act}{w a0:World}{K:Act->World->Prop}{Q:Exit->Act->World->Prop}{F G:HF}(s x:Operand)(t e:TypeId)(i:TypeInfo)(z:Value)(size bytes:Nat)(hop:o.op=.call { callee:=.builtin .append,args:=#[s,x],argTypes:=#[t,t] })(ht:P.underlying t=some (.slice e))(hi:P.info? e=some i)(hz:i.zero=some z)(hsize:i.size=size)(hby:i.bytes=bytes)(hzs:z.cells.size=size)(hs0:0<size)(v:Value)(n:Nat)(xs:List Value)(hs:a.eval s=v)(hT:Turns F (bN e size v n xs++G) a0 w)(hok:dj size v n xs)(sa:Option Addr)(m c:Nat)(hx:a.eval x=.slice sa m c)(news:List Value)(hnl:news.length=m*size)(hnews:0<m->∃ad,sa=some ad/\∀j u,news[j]?=some u->w.cell? (ad.add j)=some u)(h1:∀u∈news,u.oneCell'=true)(h63:n+m<=maxLen)(hbytes:(n+m)*bytes<=140737488355328)(hk:∀v' w',dj size v' (n+m) (xs++news)->Turns F (bN e size v' (n+m) (xs++news)++G) a0 w'->(v'=.slice none 0 0↔v=.slice none 0 0/\m=0)->K (a.put o.dst v') w'):o.wp P a w K Q:=by
 obtain⟨v',w',hr,r1,r2,r3,r4⟩:=tI (P:=P) t o.type e i z size bytes ht hi hz hsize hby hzs hs0 v n xs (aW hT.sat.left hok) sa m c news hnl hnews h1 h63 hbytes;unfold Oper.wp execOp;simp only[hop,resolve,invoke,builtin,Sem.run_bind,Sem.run_pure,Result.andThen_ok,List.map_toArray,List.map_cons,List.map_nil,hs,hx,hr];exact hk v' w' (fT r1).2 (hT.grow r1 r2 r3) r4
theorem iY{o:Oper}{a:Act}{w a0:World}{K:Act->World->Prop}{Q:Exit->Act->World->Prop}{F G:HF}(s x:Operand)(hop:o.op=.call { callee:=.builtin .append,args:=#[s,x],argTypes:=#[38,38] })(v:Value)(l:Bs)(hs:a.eval s=v)(hT:Turns F (aK v l++G) a0 w)(hok:bOk v l)(sa:Option Addr)(m c:Nat)(hx:a.eval x=.slice sa m c)(r:Bs)(hm:m=r.length)(hc:ak w sa (r.map ao))(hb:l.length+r.length<=137438953472)(hk:∀av cv w',bOk (.slice av (l++r).length cv) (l++r)->Turns F (aK (.slice av (l++r).length cv) (l++r)++G) a0 w'->(av=none->v=.slice none 0 0/\m=0)->K (a.put o.dst (.slice av (l++r).length cv)) w'):o.wp Tryz.prog a w K Q:=by
 obtain⟨i0,hi0,hz1,hz2,hz3⟩:=info_parts jm;refine cY s x 38 5 i0 (.int .u8 0) 1 1 hop Tryz.underlying38 hi0 hz1 hz2 hz3 rfl (by decide) v l.length (l.map ao) hs hT hok sa m c hx (r.map ao) (by simp[hm]) (fun hp=>?_) (ej _) (by unfold maxLen;omega) (by omega) (fun v' w' h1 h2 h3=>?_)
 ·obtain⟨g,off,e,hcc⟩:=hc (by simp;omega);exact⟨_,e,fun j u hu=>by obtain⟨hj,rfl⟩:=List.getElem?_eq_some_iff.1 hu;rw[Addr.add_lit];exact hcc j hj⟩
 ·have k1:bOk v' (l++r):=by unfold bOk;rw[List.length_append,List.map_append,<- hm];exact h1
  have k2:Turns F (aK v' (l++r)++G) a0 w':=by unfold aK;rw[List.length_append,List.map_append,<- hm];exact h2
  obtain⟨av,cv,rfl,-,-,-,-⟩:=aV (dX k2.sat.left k1)
  exact hk av cv w' k1 k2 (fun hn=>by
   subst hn;refine h3.1 ?_;have:=k1.2 rfl;exact this.1)
theorem al{P:Program}{ops:Array Oper}{rest:List Oper}{o:Oper}{a:Act}{w:World}{Q:Exit->Act->World->Prop}(hg:o.guard=none)(h:o.wp P a w (wpList P ops Q rest) Q):wpList P ops Q (o::rest) a w:=by
 unfold wpList;rw[if_pos (by simp[Region.wanted,hg])];exact .inl h
theorem Turns.old{F G:HF}{a w:World}(h:Turns F G a w){b:Nat}{o:Obj}(hb:a.heap[b]?=some o)(hn:b∉dom F):w.heap[b]?=some o:=h.mods.at hb hn
theorem ak.Qc{F G:HF}{w w':World}{a:Option Addr}{xs:List Value}(h:ak w a xs)(hT:Turns F G w w')(hn:∀x,a=some x->x.block∉dom F):ak w' a xs:=h.keep hT.mods (fun g off e=>hn ⟨g,off,none⟩ e)
abbrev str(l:List UInt8):Value:=.string ⟨l.toArray⟩
def Ci(c:UInt8):Bool:=(97<=c.toNat&&c.toNat<=122) || (48<=c.toNat&&c.toNat<=57) || c.toNat==46 || c.toNat==45 || c.toNat==95
def kI(x:Nat):Bool:=(decide (97<=x)&&decide (x<=122)) || (decide (48<=x)&&decide (x<=57)) || x==46 || x==45 || x==95
theorem tr(c:UInt8):Ci c=kI c.toNat:=rfl
def ee:Nat->List UInt8->Bool
 | m,[]=>decide (0<m)
 | m,c::r=>if c.toNat=47/\0<m then ee 0 r else if Ci c then ee (m+1) r else false
def aA(l:List UInt8):Bool:=decide (l≠[])&&decide (l.length<=20)&&ee 0 l
theorem xG{P:Program}(w:World)(s:ByteArray)(pos:Nat)(ty:TypeId)(h:pos<s.size):
  (Instr.next (.pointer (some ⟨w.heap.size,0,none⟩)) true ty).run P (w.iter s pos) =
   .ok (.tuple #[.bool true,.int .i64 pos,.int .i32 ((Utf8.decode s pos).1:Nat)]) (w.iter s (pos+(Utf8.decode s pos).2)):=by
 simp only[Instr.next,getObj,setObj,Sem.run_bind,Sem.run,World.iter_heap,Result.andThen,h,if_true,World.iter_set];simp[goInt]
theorem yV(s:ByteArray)(pos:Nat)(h:pos<s.size)(ha:¬(s[pos]'h).toNat<128):128<=(Utf8.decode s pos).1:=by
 have e:s.get! (pos+0)=s[pos]'h:=by
  show s.get! pos=_;simp[ByteArray.get!,getElem!_pos,h];rfl
 unfold Utf8.decode;simp only[e];rw[if_neg ha];split
 ·split
  ·simp only;omega
  ·simp[Utf8.runeError]
 split
 ·split
  ·rename_i h1;simp only[Bool.and_eq_true,decide_eq_true_eq,ge_iff_le]at h1;simp only;omega
  ·simp[Utf8.runeError]
 split
 ·split
  ·rename_i h1;simp only[Bool.and_eq_true,decide_eq_true_eq,ge_iff_le]at h1;simp only;omega
  ·simp[Utf8.runeError]
 ·simp[Utf8.runeError]
def fD(b:Bool)(w:World)(e:Ending)(w':World):Prop:=e=.returned (.bool b)/\aX w w'
theorem xk(s:ByteArray)(w:World)(h:s.toList=[]):Calls Tryz.prog 122 #[.string s] w (fD false w):=by
 have h2:s.toList.isEmpty=true:=by rw[h];rfl
 go_enter Tryz.func122,Tryz.ntmps122;go_wp2_with fail;exact bodyPost_ret (results_tmp rfl _ _ _) rfl ⟨rfl,Mods.refl _ _⟩
theorem zv(s:ByteArray)(w:World)(h:¬s.toList=[])(hl:¬(s.size:Int)<=20):Calls Tryz.prog 122 #[.string s] w (fD false w):=by
 have h2:s.toList.isEmpty=false:=by cases h':s.toList;exact absurd h' h;rfl
 have h3:(20:Int)<(s.size:Int):=by omega
 go_enter Tryz.func122,Tryz.ntmps122;go_wp2_with fail;exact bodyPost_ret (results_tmp rfl _ _ _) rfl ⟨rfl,Mods.refl _ _⟩
theorem nu{w a:World}(h:aX a w)(s:ByteArray)(p:Nat):aX a (w.iter s p):=h.alloc _
def Ic(s:ByteArray)(w:World)(B:Bool)(v:Value)(wr:World):Prop :=
 ∃k m:Nat,k<=s.size/\m<=k/\v=.int .i64 m/\wr=w.iter s k/\ee m (s.data.toList.drop k)=B
theorem BT(s:ByteArray)(w:World)(h:¬s.toList=[])(hl:(s.size:Int)<=20):Calls Tryz.prog 122 #[.string s] w (fD (ee 0 s.data.toList) w):=by
 have h2:s.toList.isEmpty=false:=by cases h':s.toList;exact absurd h' h;rfl
 have h3:¬(20:Int)<(s.size:Int):=by omega
 go_enter Tryz.func122,Tryz.ntmps122;go_wp2_with fail;go_loopw [3] (fun v wr=>Ic s w (ee 0 s.data.toList) v wr) (fun _ wr=>s.size-wr.iterPos w.heap.size)
 case atStart=>exact⟨0,0,Nat.zero_le _,Nat.le_refl _,rfl,rfl,by simp⟩
 case round =>
  obtain⟨k,m,hk,hm,rfl,rfl,hB⟩:=hrel;have HB:=qqH hB;clear hB h h2 h3;by_cases hlt:k<s.size
  ·have hnx:=fun ty=>xG (P:=Tryz.prog) w s k ty hlt
   have hsl:s.data.toList.length=s.size:=by simp
   have hdr:s.data.toList.drop k=s[k]::s.data.toList.drop (k+1):=by
    rw[List.drop_eq_getElem_cons (by omega)];rfl
   have HD:=qqH hdr;clear hdr;by_cases ha:s[k].toNat<128
   ·have hdc:=decode_ascii s k hlt ha;obtain⟨x,hx⟩:∃x,s[k].toNat=x:=⟨_,rfl⟩;simp only[hdc,hx]at hnx;have HX:=qqH hx;rw[hx]at ha;clear hdc hx hsl
    have hB2:(if x=47/\0<m then ee 0 (s.data.toList.drop (k+1))else if kI x then ee (m+1) (s.data.toList.drop (k+1))else false)=ee 0 s.data.toList:=by
     have:=HB.out;rw[HD.out,ee,HX.out,tr,HX.out]at this;exact this
    have HB2:=qqH hB2;clear hB2 HB;have hm1:(m:Int)<=9223372036854775806:=by omega
    by_cases c1:x=47
    ·subst c1;by_cases hm0:0<m
     ·have HB3:=qqH HB2.out;have hm2:(0:Int)<(m:Int):=by omega
      go_wp2_with fail;go_roundw
      case rel=>exact⟨k+1,0,by omega,by omega,rfl,rfl,by have:=HB3.out;rwa [if_pos ⟨rfl,hm0⟩]at this⟩
      case measure=>simp;omega
     ·obtain rfl:m=0:=by omega
      have HB3:=qqH HB2.out;go_wp2_with fail;refine bodyPost_ret (results_tmp rfl _ _ _) rfl ⟨?_,nu (Mods.refl _ w) _ _⟩;have:=HB3.out;rw[if_neg (by omega),if_neg (by decide)]at this;rw[<- this];rfl
    ·by_cases c2:kI x=true
     ·have HC2:=qqH c2;have hne:¬(x:Int)=47:=by omega
      have hp:(97<=x/\x<=122)\/(48<=x/\x<=57)\/x=46\/x=45\/x=95:=by
       unfold kI at c2;simp only[Bool.or_eq_true,Bool.and_eq_true,decide_eq_true_eq,beq_iff_eq]at c2;omega
      clear c2;rcases hp with hp|hp|hp|hp|hp
      all_goals first|subst hp|(obtain⟨hp1,hp2⟩:=hp;have hp3:(x:Int)<=122:=by omega)
      all_goals go_wp2_with fail
      all_goals
       go_roundw
       case rel=>exact⟨k+1,m+1,by omega,by omega,by go_num,rfl,by have:=HB2.out;rwa [if_neg (by omega),if_pos HC2.out]at this⟩
       case measure=>simp;omega
     ·have HC2:=qqH c2
      have hp:¬(97<=x/\x<=122)/\¬(48<=x/\x<=57)/\¬x=46/\¬x=45/\¬x=95:=by
       unfold kI at c2;simp only[Bool.or_eq_true,Bool.and_eq_true,decide_eq_true_eq,beq_iff_eq]at c2;omega
      obtain⟨hp1,hp2,hp3,hp4,hp5⟩:=hp;clear c2;go_wp2_with fail;go_ways
      all_goals
       refine bodyPost_ret (results_tmp rfl _ _ _) rfl ⟨?_,nu (Mods.refl _ w) _ _⟩;have:=HB2.out;rw[if_neg (by omega),if_neg HC2.out]at this;rw[<- this];rfl
   ·have hdc:=yV s k hlt ha;generalize hc:(Utf8.decode s k).1=c at hdc hnx
    have hB2:false=ee 0 s.data.toList:=by
     have:=HB.out;rw[HD.out]at this;simp only[ee]at this;rw[if_neg (fun h=>ha (by omega))]at this
     have hp:Ci s[k]=false:=by
      rw[tr];unfold kI;generalize s[k].toNat=y at ha;simp only[Bool.or_eq_false_iff,Bool.and_eq_false_iff,decide_eq_false_iff_not,beq_eq_false_iff_ne];omega
     rw[hp]at this;exact this
    have HB2:=qqH hB2;clear hB2 HB HD ha;have e47:¬(c:Int)=47:=by omega
    have e1:(97:Int)<=c:=by omega
    have e2:¬(c:Int)<=122:=by omega
    have e3:(48:Int)<=c:=by omega
    have e4:¬(c:Int)<=57:=by omega
    have e5:¬(c:Int)=46:=by omega
    have e6:¬(c:Int)=45:=by omega
    have e7:¬(c:Int)=95:=by omega
    go_wp2_with fail;go_ways
    all_goals
     refine bodyPost_ret (results_tmp rfl _ _ _) rfl ⟨?_,nu (Mods.refl _ w) _ _⟩;rw[<- HB2.out];rfl
  ·obtain rfl:k=s.size:=by omega
   have hnx:=fun ty=>run_next_end (P:=Tryz.prog) w s s.size ty hlt
   have hB3:decide (0<m)=ee 0 s.data.toList:=by
    have:=HB.out;rw[List.drop_of_length_le (by simp)]at this;exact this
   have HB3:=qqH hB3;clear hB3 HB;go_wp2_with fail;refine bodyPost_end (results_tmp rfl _ _ _) rfl ⟨?_,nu (Mods.refl _ w) _ _⟩;rw[<- HB3.out];simp
theorem xj(l:List UInt8)(w:World):Calls Tryz.prog 122 #[str l] w (fD (aA l) w):=by
 unfold aA;by_cases h0:l=[]
 ·subst h0;exact xk _ w ((toList_nil_iff_emptyBytes _).2 rfl)
 have hne:¬(⟨l.toArray⟩:ByteArray).toList=[]:=by
  intro h;apply h0;have:=congrArg (fun b:ByteArray=>b.data.toList) ((toList_nil_iff_emptyBytes _).1 h);simpa using this
 have hsz:(⟨l.toArray⟩:ByteArray).size=l.length:=by simp[ByteArray.size]
 by_cases h1:l.length<=20
 ·have:=BT ⟨l.toArray⟩ w hne (by rw[hsz];omega);simpa[h0,h1]using this
 ·have:=zv ⟨l.toArray⟩ w hne (by rw[hsz];omega);simpa[h0,h1]using this
def DN(ob:Nat)(body:Bs)(w:World)(e:Ending)(w':World):Prop :=
 e=.returned .nilIface/\∃v,bOk v body/\Turns [(ob,Is (.cells #[.slice none 0 0] 38 (0,0)))] ((ob,Is (.cells #[v] 38 (0,0)))::aK v body) w w'
theorem zB(a:Option Addr)(cap:Nat)(b body:Bs)(at_ pb xb ob:Nat)(w:World)(h:ak w a (b.map ao))(hl:b.length<=1099511627776)(hcap:b.length<=cap)(ho:cG b=some (1,body,body.length+9))(hp:w.heap[pb]?=some (.cells #[.int .i64 at_,.int .i64 body.length] 161 (0,0)))(hob:w.heap[ob]?=some (.cells #[.slice none 0 0] 38 (0,0)))(hpo:pb≠ob)(hao:∀x,a=some x->x.block≠ob):
  Calls Tryz.prog 131 #[.slice a b.length cap,.pointer (some ⟨pb,0,none⟩),.pointer (some ⟨xb,0,none⟩),.pointer (some ⟨ob,0,none⟩)] w (DN ob body w):=by
 have hop:=ja a cap b w h hl hcap;unfold ef at hop;rw[ho]at hop;have hbl:body.length<65536:=(iR ho).2.2.2.2;have HO:=qqH hop;have HH:=Hq4 hp hob hpo hao;clear h hl hcap hop hp hob hpo hao;go_enter Tryz.func131,Tryz.ntmps131;go_wp2_with fail;refine HO.out.mono ?_;rintro e w1 ⟨a',rfl,hca,hab,hs1⟩;have p1:=aa (hs1.at HH.a id) 1 rfl;have o0:=aa (hs1.at HH.b id) 0 rfl;have of:=aZ (hs1.at HH.b id) 0;have hT1:Turns [(ob,Is (.cells #[.slice none 0 0] 38 (0,0)))] (aK (.slice none 0 0) []++[(ob,Is (.cells #[.slice none 0 0] 38 (0,0)))]) w w1:=(Turns.refl (Sat.one HH.b Is.rfl)).Q9 hs1;have H1:=Hq2 hT1 hca;clear hs1 hca hab hT1;go_wp2_with ((refine al rfl (iY (.tmp 38) (.tmp 39) rfl (.slice none 0 0) [] rfl H1.a fA a' body.length body.length rfl body rfl H1.z (by simp;omega) ?_));intro av cv w2 hok2 hT2 _;rw[List.nil_append]at hok2 hT2 ⊢;have o2:=aa (hT2.sat.right.Q5) 0 rfl;have of2:=aZ (hT2.sat.right.Q5) 0;have H2:=Hq2 hok2 hT2;clear hok2 hT2);go_ret;refine⟨rfl,.slice av body.length cv,H2.a,?_⟩;have h3:=H2.z.to (H:=(ob,Is (.cells #[.slice none 0 0] 38 (0,0)))::aK (.slice av body.length cv) body) af;exact h3.Qa ((Mods.refl (fun k=>k=ob) w2).set1 (i:=0) _) (bt h3.sat.Q5 0 _)
theorem tS{P:Program}{main:Bool}{b:Frame}{a:Act}{k:List Item}{cs:List Frame}{w w':World}{ops:Array Oper}{i:Nat}{rest:List Nat}{o:Oper}{cases:Array CommCase}{blocking:Bool}{shape:CommShape}(ho:ops[i]?=some o)(hw:Region.wanted o (yielded ops a.tmps)=true)(hr:(execOp a.eval o).run P w=.ok (.comm cases blocking shape) w'):
  ∃es,stepG P main (Conc.G (b.at a (.inRegion ops (i::rest)::k)) cs) w=.comm (Conc.G (b.at a (.inRegion ops (i::rest)::k)) cs) cases blocking shape w' es:=by
 rw[Conc.stepG_oper ho hw]
 cases main<;>simp[stepG.apply,hr,Conc.G,Frame.at,GStep.after]
theorem iz{P:Program}{id n:Nat}{ops:Array Oper}{Q:Exit->Act->World->Prop}{a:Act}{w w1 w':World}{o:Oper}{cases:Array CommCase}{v:Value}(hsz:ops.size=n+1)(ho:ops[0]?=some o)(hg:o.guard=none)(hr:(execOp a.eval o).run P w=.ok (.comm cases false .select) w1)(hstep:∀fr cs es,stepG P true (Conc.G fr cs) w=.comm (Conc.G fr cs) cases false .select w1 es->step P (Conc.solo (Conc.G fr cs) w)=.next (Conc.solo (Conc.G (fr.finish v) cs) w'))(h:wpList P ops Q (ops.toList.drop 1) (a.put o.dst v) w'):(Code.region id ops false).wp P Q a w:=by
 intro b k cs;have hl:List.range ops.size=0::List.range' 1 n:=by rw[hsz,List.range_eq_range',List.range'_succ]
 have h2:wpOps P ops Q (List.range' 1 n) (a.put o.dst v) w':=by
  have e:=wpOps_eq_wpList (P:=P) (ops:=ops) (Q:=Q) (ops.toList.drop 1) 1 (fun j=>by rw[List.getElem?_drop];simp);have hn:(ops.toList.drop 1).length=n:=by simp;omega
  rw[hn]at e;rw[e];exact h
 obtain⟨e,a',w'',hq,harr⟩:=wp_ops _ _ _ h2 b k cs;refine⟨e,a',w'',hq,.of_steps (.head step_region (.one ?_)) harr⟩;rw[hl];obtain⟨es,hes⟩:=tS (P:=P) (main:=true) (b:=b) (a:=a) (k:=k) (cs:=cs) (w:=w) (rest:=List.range' 1 n) ho (by simp[Region.wanted,hg]) hr;have:=hstep _ _ _ hes;rw[Frame.finish_at,ho]at this;exact this
theorem ud{P:Program}{id n:Nat}{ops:Array Oper}{Q:Exit->Act->World->Prop}{a:Act}{w:World}{o:Oper}{c cap s r:Nat}{buf:Array Value}{closed tm:Bool}{z:Value}(hsz:ops.size=n+1)(ho:ops[0]?=some o)(hg:o.guard=none)(hr:(execOp a.eval o).run P w=.ok (.comm #[Conc.rcase c z] false .select) w)(hc:w.heap[c]?=some (.chan cap buf closed s r tm))(hb:0<buf.size)(h:wpList P ops Q (ops.toList.drop 1) (a.put o.dst (.tuple #[goInt 0,.bool true,buf.getD 0 undef])) (w.setChan c cap (buf.extract 1 buf.size) closed s (r+1) tm)):(Code.region id ops false).wp P Q a w :=
 iz hsz ho hg hr (fun _ _ _ hs=>Conc.step_lone_select_recv_buf hs hc hb) h
theorem uc{P:Program}{id n:Nat}{ops:Array Oper}{Q:Exit->Act->World->Prop}{a:Act}{w:World}{o:Oper}{c cap s r:Nat}{tm:Bool}{z:Value}(hsz:ops.size=n+1)(ho:ops[0]?=some o)(hg:o.guard=none)(hr:(execOp a.eval o).run P w=.ok (.comm #[Conc.rcase c z] false .select) w)(hc:w.heap[c]?=some (.chan cap #[] false s r tm))(h:wpList P ops Q (ops.toList.drop 1) (a.put o.dst (.tuple #[goInt (-1),.bool false,z])) w):(Code.region id ops false).wp P Q a w :=
 iz hsz ho hg hr (fun _ _ _ hs=>Conc.step_lone_select_default hs hc) h
theorem ue{P:Program}{id n:Nat}{ops:Array Oper}{Q:Exit->Act->World->Prop}{a:Act}{w:World}{o:Oper}{c cap s r:Nat}{buf:Array Value}{tm:Bool}{v z:Value}(hsz:ops.size=n+1)(ho:ops[0]?=some o)(hg:o.guard=none)(hr:(execOp a.eval o).run P w=.ok (.comm #[Conc.scase c v z] false .select) w)(hc:w.heap[c]?=some (.chan cap buf false s r tm))(hb:buf.size<cap)(h:wpList P ops Q (ops.toList.drop 1) (a.put o.dst (.tuple #[goInt 0,.bool false])) (w.setChan c cap (buf.push v) false (s+1) r tm)):(Code.region id ops false).wp P Q a w :=
 iz hsz ho hg hr (fun _ _ _ hs=>Conc.step_lone_select_send_room hs hc hb) h
theorem ua{P:Program}{id n:Nat}{ops:Array Oper}{Q:Exit->Act->World->Prop}{a:Act}{w:World}{o:Oper}{c cap s r:Nat}{buf:Array Value}{tm:Bool}{v z:Value}(hsz:ops.size=n+1)(ho:ops[0]?=some o)(hg:o.guard=none)(hr:(execOp a.eval o).run P w=.ok (.comm #[Conc.scase c v z] false .select) w)(hc:w.heap[c]?=some (.chan cap buf false s r tm))(hb:cap<=buf.size)(h:wpList P ops Q (ops.toList.drop 1) (a.put o.dst (.tuple #[goInt (-1),.bool false])) w):(Code.region id ops false).wp P Q a w :=
 iz hsz ho hg hr (fun _ _ _ hs=>Conc.step_lone_select_send_full hs hc hb) h
theorem pS(w:World)(c cap:Nat)(buf:Array Value)(cl:Bool)(s r:Nat)(tm:Bool):Mods (fun k=>k=c) w (w.setChan c cap buf cl s r tm) :=
 ⟨rfl,rfl,rfl,by simp[World.setChan],fun k _ hk=>by simp only[World.setChan];rw[Array.getElem?_setIfInBounds_ne (Ne.symm hk)]⟩
theorem Turns.Qq{F G:HF}{a w:World}{b:Nat}{φ ψ:Obj->Prop}(h:Turns F ((b,φ)::G) a w)(hw:∀o,φ o->ψ o):Turns F ((b,ψ)::G) a w :=
 ⟨h.mods,h.sat.weak hw,fun k hk=>h.fresh k (by simpa using hk)⟩
theorem yu(d:Nat)(A:AreaL)(h:A.tail.length=128):(aG d A)[132]?=some (.chan (some A.ch)):=by
 have e:(aG d A)[132]?=(aG d A).toList[132]?:=by simp
 rw[e];simp only[aG,Array.toList_append,az,List.append_assoc];rw[List.getElem?_append_right (by simp),List.getElem?_append_right (by simp[h])];simp[h]
theorem Be(w:World)(cur:Array Value)(cap:Nat)(hc:cur.size=cap)(hm:cap<=maxLen):Turns [] (aK (.slice (some ⟨w.heap.size,0,none⟩) 0 cap) []) w (w.alloc (.cells cur 5)):=by
 have:=(Turns.refl (Sat.nil w)).Qd (φ:=fun o=>∃cap' cur,Value.slice (some ⟨w.heap.size,0,none⟩) 0 cap=.slice (some ⟨w.heap.size,0,none⟩) 0 cap'/\o=.cells cur 5 (0,0)/\0<=cap'/\cap'<=maxLen/\cur.size=cap'*1/\cur.toList.take (0*1)=[]) (o:=.cells cur 5) ⟨cap,cur,rfl,rfl,Nat.zero_le _,hm,by omega,by simp⟩;exact this
theorem vo(g cap:Nat):bOk (.slice (some ⟨g,0,none⟩) 0 cap) []:=⟨rfl,fun h=>by simp[Value.ownBlock]at h⟩
def rO(ab d:Nat)(A:AreaL)(w:World)(e:Ending)(w':World):Prop :=
 ∃bg cv sp,e=.returned (.slice (some ⟨bg,0,none⟩) 0 cv)/\bOk (.slice (some ⟨bg,0,none⟩) 0 cv) []/\Turns (ay ab d A) (aK (.slice (some ⟨bg,0,none⟩) 0 cv) []++ay ab d { A with spare:=sp }) w w'/\AreaOk { A with spare:=sp }/\sp.length<=A.spare.length/\sp.length<=1
theorem wO(ab d:Nat)(A:AreaL)(w:World)(h:Sat w (ay ab d A))(hA:AreaOk A):
  Calls Tryz.prog 151 #[.pointer (some ⟨ab,0,none⟩)] w (rO ab d A w):=by
 have hab:=h.Q5;have a5:w.cell? ⟨ab,132,none⟩=some (.chan (some A.ch)):=aa hab 132 (yu d A hA.tail);obtain⟨o,hch,s,r,rfl⟩:=h.tail.head;have HH:=Hq2 h hA;clear h hA hab
 cases hs:A.spare with
 | nil =>
  rw[hs]at hch;have HC:=qqH hch;have HS:=qqH hs;clear hch hs
  obtain⟨cur,hsz,hmk⟩:∃cur:Array Value,cur.size=256/\∀w:World,(Instr.makeSlice 38 (.int .i64 0) (.int .i64 256)).run Tryz.prog w=.ok (.slice (some ⟨w.heap.size,0,none⟩) 0 256) (w.alloc (.cells cur 5)) :=
   ⟨az (List.replicate 256 0),by rw[bU,List.length_replicate],fun _=>by kernel_rfl⟩
  have HSZ:=qqH hsz;clear hsz;go_enter Tryz.func151,Tryz.ntmps151;go_upto_region 2 with(fail);refine uc (n:=2) (z:=.slice none 0 0) rfl rfl rfl (by kernel_rfl) HC.out ?_;simp only[List.drop_succ_cons,List.drop_zero,Act.put,List.setIfInBounds_toArray];go_wp2_with fail;go_ret;exact⟨_,_,A.spare,rfl,vo _ _,Turns.Qb (Turns.refl HH.a) (Be w cur 256 HSZ.out (by unfold maxLen;omega)),HH.z,Nat.le_refl _,by rw[HS.out];simp⟩
 | cons x sp =>
  rw[hs]at hch;have HC:=qqH hch;have HS:=qqH hs;clear hch hs;have hx:=HH.z.caps x (by rw[HS.out];simp);have hx1:(0:Int)<=(x.2.2:Int):=by omega
  have hx2:(x.2.2:Int)<=9223372036854775807:=by have:=hx.2;unfold maxLen at this;omega
  obtain⟨bx,lx,cx⟩:=x;simp only at hx hx1 hx2;go_enter Tryz.func151,Tryz.ntmps151;go_upto_region 2 with(fail);refine ud (n:=2) (z:=.slice none 0 0) rfl rfl rfl (by kernel_rfl) HC.out (by simp) ?_;rw[show(List.map fb ((bx,lx,cx)::sp)).toArray.getD 0 undef=.slice (some ⟨bx,0,none⟩) lx cx from rfl];have hm:=pS w A.ch 2 ((List.map fb ((bx,lx,cx)::sp)).toArray.extract 1 (List.map fb ((bx,lx,cx)::sp)).toArray.size) false s (r+1) false;have hc2:=Conc.heap_setChan w A.ch 2 ((List.map fb ((bx,lx,cx)::sp)).toArray.extract 1 (List.map fb ((bx,lx,cx)::sp)).toArray.size) false s (r+1) false (ah HC.out);generalize w.setChan A.ch 2 ((List.map fb ((bx,lx,cx)::sp)).toArray.extract 1 (List.map fb ((bx,lx,cx)::sp)).toArray.size) false s (r+1) false=W2 at hm hc2 ⊢;have HM:=Hq2 hm hc2;clear hm hc2;simp only[List.drop_succ_cons,List.drop_zero,Act.put,List.setIfInBounds_toArray];go_wp2_with fail;go_ret;have hb:=HH.a;simp only[ay,HS.out,lP,List.map_cons]at hb;have h1:=(Turns.refl hb).to (H:=(A.ch,fun o=>∃s r,o=.chan 2 (List.map fb ((bx,lx,cx)::sp)).toArray false s r false)::(ab,Is (.cells (aG d A) 157 (0,0)))::(bx,fun o=>∃cur:Array Value,o=.cells cur 5 (0,0)/\cur.size=cx)::lP sp) (List.Perm.swap _ _ _);have h2:=h1.put (ψ:=fun o=>∃s r,o=.chan 2 (sp.map fb).toArray false s r false) HM.a HM.z ⟨s,r+1,by simp;exact List.take_of_length_le (by simp)⟩;refine⟨_,_,sp,rfl,vo _ _,?_,⟨HH.z.tail,?_,?_⟩,?_,?_⟩
  ·have e:ay ab d A=(ab,Is (.cells (aG d A) 157 (0,0)))::(A.ch,fun o=>∃s r,o=.chan 2 (List.map fb ((bx,lx,cx)::sp)).toArray false s r false)::(bx,fun o=>∃cur:Array Value,o=.cells cur 5 (0,0)/\cur.size=cx)::lP sp:=by
    simp only[ay,HS.out,lP,List.map_cons]
   have h4:=(h2.to (H:=(bx,fun o=>∃cur:Array Value,o=.cells cur 5 (0,0)/\cur.size=cx)::(ab,Is (.cells (aG d A) 157 (0,0)))::(A.ch,fun o=>∃s r,o=.chan 2 (sp.map fb).toArray false s r false)::lP sp) af).Qq (ψ:=fun o=>∃cap' cur,Value.slice (some ⟨bx,0,none⟩) 0 cx=.slice (some ⟨bx,0,none⟩) 0 cap'/\o=.cells cur 5 (0,0)/\0<=cap'/\cap'<=maxLen/\cur.size=cap'*1/\cur.toList.take (0*1)=[]) (fun o ⟨cur,h1,h2⟩=>⟨cx,cur,rfl,h1,Nat.zero_le _,hx.2,by omega,by simp⟩);rw[e];exact h4
  ·have:=HH.z.few;rw[HS.out]at this;simp at this ⊢;omega
  ·intro x hx;exact HH.z.caps x (by rw[HS.out];exact List.mem_cons_of_mem _ hx)
  ·rw[HS.out];simp
  ·have:=HH.z.few;rw[HS.out]at this;simp at this;omega
theorem Hq(w:World):(zeroValue 5).run Tryz.prog w=.ok (.int .u8 0) w:=by kernel_rfl
theorem Ee{w:World}{g n cap:Nat}{cur:Array Value}(hg:w.heap[g]?=some (.cells cur 5 (0,0)))(hn:n<=cap)(hc:cur.size=cap):
  ∃W1:World,(∀ty,(Builtin.clear_ #[38] ty #[.slice (some ⟨g,0,none⟩) n cap]).run Tryz.prog w=.ok (.tuple #[]) W1)/\Mods (fun k=>k=g) w W1/\∃cur':Array Value,W1.heap[g]?=some (.cells cur' 5 (0,0))/\cur'.size=cap:=by
 rcases Nat.eq_zero_or_pos n with rfl|hp
 ·exact⟨w,fun ty=>by simp[Builtin.clear_,run_underlying Tryz.underlying38],Mods.refl _ _,cur,hg,hc⟩
 ·have hth:=dL hg 0 n (by omega);have h1:=fun ty=>Lib.run_clear_slice (P:=Tryz.prog) w 38 5 ty (.int .u8 0) Tryz.underlying38 Hq rfl rfl g 0 n cap hp (fun j hj=>(hth j hj).1) (fun j hj=>(hth j hj).2)
  obtain⟨h2,h3⟩:=iu (C:=cur.toList) (by simpa using hg) 0 (List.replicate n (.int .u8 0)) (by simp;omega);exact⟨_,h1,h3,_,h2,by simp[spl];omega⟩
def Fu(ab d:Nat)(A:AreaL)(v:Value)(l:Bs)(w:World)(e:Ending)(w':World):Prop :=
 e=.returned (.tuple #[])/\∃sp,Turns (aK v l++ay ab d A) (ay ab d { A with spare:=sp }) w w'/\AreaOk { A with spare:=sp }
theorem Bf(ab d:Nat)(A:AreaL)(g cap:Nat)(l:Bs)(w:World)(h:Sat w (aK (.slice (some ⟨g,0,none⟩) l.length cap) l++ay ab d A))(hA:AreaOk A):
  Calls Tryz.prog 153 #[.pointer (some ⟨ab,0,none⟩),.slice (some ⟨g,0,none⟩) l.length cap] w (Fu ab d A (.slice (some ⟨g,0,none⟩) l.length cap) l w):=by
 obtain⟨o,hgo,cap',cur,hv,rfl,hn,hcm,hcs,htk⟩:=(show Sat w ((g,_)::ay ab d A)from h).head;obtain rfl:cap=cap':=by simpa using hv
 obtain⟨W1,hcl,hm1,cur1,hg1,hs1⟩:=Ee hgo hn (by omega);have hT1:Turns (aK (.slice (some ⟨g,0,none⟩) l.length cap) l++ay ab d A) ((g,fun o=>∃cur:Array Value,o=.cells cur 5 (0,0)/\cur.size=cap)::ay ab d A) w W1:=(Turns.refl h).put (φ:=_) (ψ:=fun o=>∃cur:Array Value,o=.cells cur 5 (0,0)/\cur.size=cap) hm1 hg1 ⟨cur1,rfl,hs1⟩;have hab:=hT1.sat.tail.Q5;have a5:W1.cell? ⟨ab,132,none⟩=some (.chan (some A.ch)):=aa hab 132 (yu d A hA.tail);obtain⟨o,hch,s,r,rfl⟩:=hT1.sat.tail.tail.head;have HH:=Hq4 hT1 hA hn hcm;clear h hA hab hgo hn hcm hcs htk hm1 hg1 hs1 hT1 hv;have HC:=qqH hch;clear hch;go_enter Tryz.func153,Tryz.ntmps153;go_upto_region 3 with(simp only[hcl]);by_cases hlt:A.spare.length<2
 ·refine ue (n:=2) (v:=.slice (some ⟨g,0,none⟩) l.length cap) (z:=.slice none 0 0) rfl rfl rfl (by kernel_rfl) HC.out (by simpa using hlt) ?_;have hm:=pS W1 A.ch 2 ((A.spare.map fb).toArray.push (.slice (some ⟨g,0,none⟩) l.length cap)) false (s+1) r false;have hc2:=Conc.heap_setChan W1 A.ch 2 ((A.spare.map fb).toArray.push (.slice (some ⟨g,0,none⟩) l.length cap)) false (s+1) r false (ah HC.out);generalize W1.setChan A.ch 2 ((A.spare.map fb).toArray.push (.slice (some ⟨g,0,none⟩) l.length cap)) false (s+1) r false=W2 at hm hc2 ⊢;have HM:=Hq2 hm hc2;clear hm hc2 hcl;simp only[List.drop_succ_cons,List.drop_zero,Act.put,List.setIfInBounds_toArray];go_wp2_with fail;go_end0;have h1:=HH.a.to (H:=(A.ch,fun o=>∃s r,o=.chan 2 (A.spare.map fb).toArray false s r false)::(ab,Is (.cells (aG d A) 157 (0,0)))::(lP A.spare++[(g,fun o=>∃cur:Array Value,o=.cells cur 5 (0,0)/\cur.size=cap)])) (by unfold ay;exact af);have h2:=h1.put (ψ:=fun o=>∃s r,o=.chan 2 ((A.spare++[(g,l.length,cap)]).map fb).toArray false s r false) HM.a HM.z ⟨s+1,r,by simp[fb]⟩;refine⟨rfl,A.spare++[(g,l.length,cap)],?_,⟨HH.b.tail,by simp;omega,?_⟩⟩
  ·have e:ay ab d { A with spare:=A.spare++[(g,l.length,cap)] }=(ab,Is (.cells (aG d A) 157 (0,0)))::(A.ch,fun o=>∃s r,o=.chan 2 ((A.spare++[(g,l.length,cap)]).map fb).toArray false s r false)::(lP A.spare++[(g,fun o=>∃cur:Array Value,o=.cells cur 5 (0,0)/\cur.size=cap)]):=by
    unfold ay lP;simp only[List.map_append,List.map_cons,List.map_nil];rfl
   rw[e];exact h2.to af
  ·intro x hx;rcases List.mem_append.1 hx with hx|hx
   ·exact HH.b.caps x hx
   ·simp at hx;subst hx;exact HH.y
 ·refine ua (n:=2) (v:=.slice (some ⟨g,0,none⟩) l.length cap) (z:=.slice none 0 0) rfl rfl rfl (by kernel_rfl) HC.out (by simp;omega) ?_;clear hcl;simp only[List.drop_succ_cons,List.drop_zero,Act.put,List.setIfInBounds_toArray];go_wp2_with fail;go_end0;exact⟨rfl,A.spare,Turns.drop (H:=ay ab d A) HH.a bw,HH.b⟩
theorem uK{l:Bs}{first count k:Nat}(h:k<count):ba (aP l first count) k=ba l (first+k):=by
 unfold ba aP;rw[List.drop_take,List.drop_drop,List.take_take];congr 1
 ·omega
 ·congr 1;omega
def cN(H:Bs)(at_ n i:Nat):Bs:=(H.take (min (128*i) (at_+n))).drop at_
theorem qW(H:Bs)(at_ n:Nat):cN H at_ n (at_ / 128)=[]:=by
 unfold cN;exact List.drop_of_length_le (by rw[List.length_take];omega)
theorem BM{H:Bs}{at_ n i:Nat}(hi:128*i<at_+n)(_:at_ / 128<=i)(hH:at_+n<=H.length):
  cN H at_ n (i+1)=cN H at_ n i++((ba H i).take (min 128 (at_+n-128*i))).drop (at_-128*i):=by
 unfold cN ba;rw[Nat.min_eq_left (show 128*i<=at_+n by omega),List.take_take,show min (min 128 (at_+n-128*i)) 128=min 128 (at_+n-128*i) by omega];have e:min (128*(i+1)) (at_+n)=128*i+min 128 (at_+n-128*i):=by omega
 rw[e,List.take_add,List.drop_append];congr 2;rw[List.length_take];omega
theorem Eu{H:Bs}{at_ n i:Nat}(hi:¬128*i<at_+n):cN H at_ n i=(H.drop at_).take n:=by
 unfold cN;rw[Nat.min_eq_right (by omega),List.drop_take,Nat.add_sub_cancel_left]
theorem xh{H:Bs}{at_ n i:Nat}:(cN H at_ n i).length<=n:=by
 unfold cN;rw[List.length_drop,List.length_take];omega
def DF(ab d:Nat)(A:AreaL)(g cap:Nat)(l:Bs)(_ _:Nat)(w:World)(e:Ending)(w':World):Prop :=
 e=.returned (.tuple #[])/\∃sp,Turns (aK (.slice (some ⟨g,0,none⟩) l.length cap) l++ay ab d A) (ay ab d { A with spare:=sp }) w w'/\AreaOk { A with spare:=sp }
theorem Kj(ab d:Nat)(A:AreaL)(g cap:Nat)(l:Bs)(B0 B1:Nat)(u:FrameMode)(w:World)(h:Sat w (aK (.slice (some ⟨g,0,none⟩) l.length cap) l++ay ab d A))(hA:AreaOk A)(h0:w.cell? ⟨B0,0,none⟩=some (.pointer (some ⟨ab,0,none⟩)))(h1:w.cell? ⟨B1,0,none⟩=some (.slice (some ⟨g,0,none⟩) l.length cap)):
  CallsD Tryz.prog 152 #[.pointer (some ⟨B0,0,none⟩),.pointer (some ⟨B1,0,none⟩)] u w (fun e u' w'=>u'=u/\DF ab d A g cap l B0 B1 w e w'):=by
 have HB:=qqH (Bf ab d A g cap l w h hA);clear h hA;go_enter_d Tryz.func152,Tryz.ntmps152;go_wp2_with fail;refine HB.out.mono ?_;rintro e w' ⟨rfl,hb⟩;have H:=qqH hb;clear hb;go_wp2_with fail;go_end0;exact⟨rfl,H.out⟩
def eo(v:Value):Obj:=.cells #[v] 38 (0,0)
def C1(ab d:Nat)(A:AreaL)(H:Bs)(at_ n B0 B1:Nat)(R:HF)(w:World)(i:Value)(wr:World):Prop :=
 ∃k g cv sp,at_ / 128<=k/\128*k<=at_+n+127/\i=.int .i64 ((k:Nat):Int)/\bOk (.slice (some ⟨g,0,none⟩) (cN H at_ n k).length cv) (cN H at_ n k)/\AreaOk { A with spare:=sp } /\
  Turns (ay ab d A++R) (aK (.slice (some ⟨g,0,none⟩) (cN H at_ n k).length cv) (cN H at_ n k)++((B1,Is (eo (.slice (some ⟨g,0,none⟩) (cN H at_ n k).length cv)))::(B0,Is (.cells #[.pointer (some ⟨ab,0,none⟩)] 125 (0,0)))::(ay ab d { A with spare:=sp }++R))) w wr
def Gb(ab d:Nat)(A:AreaL)(R0:HF)(Pf:HF->Prop)(w:World)(e:Ending)(w':World):Prop :=
 e=.returned .nilIface/\∃R1 sp,Pf R1/\AreaOk { A with spare:=sp }/\Turns (ay ab d A++R0) (ay ab d { A with spare:=sp }++R1) w w'
def DL(ab d:Nat)(A:AreaL)(R0:HF)(Pf:HF->Prop)(B0 B1 g cv:Nat)(sp:List (Nat×Nat×Nat))(data:Bs)(w:World)(e:Ending)(w':World):Prop :=
 e=.returned .nilIface/\∃R1,Pf R1/\Turns (ay ab d A++R0) (aK (.slice (some ⟨g,0,none⟩) data.length cv) data++((B1,Is (eo (.slice (some ⟨g,0,none⟩) data.length cv)))::(B0,Is (.cells #[.pointer (some ⟨ab,0,none⟩)] 125 (0,0)))::(ay ab d { A with spare:=sp }++R1))) w w'
theorem A0(ab d:Nat)(A:AreaL)(L:DevL)(at_ n:Nat)(p0 p1 p2:Value)(H:Bs)(hH:H=aP L.now A.first A.count)(R0:HF)(Pf:HF->Prop)(w:World)(h:Sat w (ay ab d A++R0))(hsub:∀a,cnt a (aE d L)<=cnt a R0)(hL:DevOk L)(hA:AreaOk A)(hAn:A.first+A.count<=L.n)(hn:L.n<=1073741824)(hfit:at_+n<=128*A.count)(hf:∀(W:World) (B0 B1 g cv:Nat) sp,bOk (.slice (some ⟨g,0,none⟩) ((H.drop at_).take n).length cv) ((H.drop at_).take n)->Turns (ay ab d A++R0) (aK (.slice (some ⟨g,0,none⟩) ((H.drop at_).take n).length cv) ((H.drop at_).take n)++((B1,Is (eo (.slice (some ⟨g,0,none⟩) ((H.drop at_).take n).length cv)))::(B0,Is (.cells #[.pointer (some ⟨ab,0,none⟩)] 125 (0,0)))::(ay ab d { A with spare:=sp }++R0))) w W ->
   Calls Tryz.prog 131 #[.slice (some ⟨g,0,none⟩) ((H.drop at_).take n).length cv,p0,p1,p2] W (DL ab d A R0 Pf B0 B1 g cv sp ((H.drop at_).take n) w)):
  Calls Tryz.prog 130 #[.pointer (some ⟨ab,0,none⟩),.int .i64 at_,.int .i64 n,.func (.func 131) #[] #[p0,p1,p2]] w (Gb ab d A R0 Pf w):=by
 have hmf:∀(fn:Fn) (first cap:Array Value) (w:World),(Instr.makeFunc fn first cap).run Tryz.prog w=.ok (.func fn first cap) w:=fun _ _ _ _=>rfl
 have HB:Hid (∀W,Sat W (ay ab d A)->Calls Tryz.prog 151 #[.pointer (some ⟨ab,0,none⟩)] W (rO ab d A W)):=qqH (fun W hW=>wO ab d A W hW hA);have hb1:(at_:Int)+n<=1099511627776:=by omega
 have hb2:(at_:Int)<=1099511627776:=by omega
 have hc1:A.count<=1073741824:=by omega
 have hHl:H.length=128*A.count:=by rw[hH];exact gr hL.nowL (by omega)
 have HH:=qqH (And.intro h (And.intro hL (And.intro hA (And.intro hAn (And.intro hn (And.intro hfit (And.intro hsub (And.intro hHl (And.intro hH hc1)))))))));have HIn:=qqH hf;clear h hL hA hAn hn hfit hf hsub hHl hH hc1;go_enter_defers Tryz.func130,Tryz.ntmps130;go_wp2_with fail;refine(HB.out _ ((HH.a.left).same ((Mods.refl _ w).alloc _))).mono ?_;rintro e w1 ⟨bg,cv,sp,rfl,hok,hT,hAok,-⟩;have hT0:Turns (ay ab d A++R0) ((w.heap.size,Is (.cells #[.pointer (some ⟨ab,0,none⟩)] 125 (0,0)))::(ay ab d A++R0)) w _:=(Turns.refl HH.a).Q8 (.cells #[.pointer (some ⟨ab,0,none⟩)] 125);have hT1:=hT0.step (F:=ay ab d A) (R:=(w.heap.size,Is (.cells #[.pointer (some ⟨ab,0,none⟩)] 125 (0,0)))::R0) af hT;have b0:=aa (hT1.sat.Q7 (b:=w.heap.size) (o:=.cells #[.pointer (some ⟨ab,0,none⟩)] 125 (0,0)) (by simp)) 0 rfl;have hB0':w.heap.size<w1.heap.size:=World.block_lt_of_cell? w1 _ b0;have hst:=hT1.Q8 (eo (.slice (some ⟨bg,0,none⟩) 0 cv))
 have hst2:C1 ab d A H at_ n w.heap.size w1.heap.size R0 w (.int .i64 ((at_ / 128:Nat):Int)) (w1.alloc (eo (.slice (some ⟨bg,0,none⟩) 0 cv))):=by
  refine⟨at_ / 128,bg,cv,sp,Nat.le_refl _,by omega,rfl,?_,hAok,?_⟩
  ·rw[qW];exact hok
  ·rw[qW,List.length_nil];exact hst.to af
 have H1:=qqH hst2;clear hT0 hT1 hst hok hAok hT hst2;obtain⟨B0,hB0⟩:∃B0,w.heap.size=B0:=⟨_,rfl⟩;obtain⟨B1,hB1⟩:∃B1,w1.heap.size=B1:=⟨_,rfl⟩;rw[hB0,hB1]at H1;have e128:((at_ / 128:Nat):Int)=(at_:Int) / 128:=by omega
 rw[e128]at H1;clear e128;go_wp2_with fail;go_loopw [10] (fun i wr=>C1 ab d A H at_ n B0 B1 R0 w i wr) (fun i _=>at_+n+128-128*(intOf i).toNat)
 case atStart=>exact H1.out
 case round =>
  obtain⟨k,g,cv2,sp2,hk1,hk2,rfl,hok,hAo,hT⟩:=hrel;by_cases hlt:128*k<at_+n
  ·have hkc:k<A.count:=by have:=HH.f;omega
   have hnn:=HH.out.2.2.2.2.2.2.2.2.2;obtain⟨s,hs⟩:∃s,s=ba H k:=⟨_,rfl⟩;have hsL:ba L.now (A.first+k)=s:=by rw[hs,HH.out.2.2.2.2.2.2.2.2.1,uK hkc]
   have hsl:s.length=128:=by rw[hs];exact it HH.h hkc
   have HSL:=qqH hsl
   have HRd:Hid (∀W,Sat W (aE d L)->Calls Tryz.prog 17 #[.pointer (some ⟨d,0,none⟩),.int .i64 ((A.first:Int)+(k:Nat))] W (fun e w'=>e=.returned (.tuple #[.agg (az s),.nilIface])/\aX W w')):=qqH (fun W hW=>by
    have:=lp d L (A.first+k) W hW HH.b (by have:=HH.d;omega);unfold jO at this;rw[hsL]at this;exact this)
   have HSUM:=qqH (show IntKind.i64.wrap ((A.first:Int)+(k:Nat))=(A.first:Int)+(k:Nat)from IntWalk.i64_in _ (by have:=HH.d;have:=HH.e;omega));have HM:=qqH (show Tryz.prog.follows .mixedOrders=true by kernel_rfl);have HR:=Hq5 hok hAo hT hs hkc;have hlt':(128:Int)*k<at_+n:=by omega
   clear hok hAo hT hs hkc hsl hsL;go_upto_region 6 with(fail)
   refine bK (A:=?A) (hA:=?hA) HM.out (iT [fun v=>v=.pointer (some ⟨ab,0,none⟩),fun v=>v=.pointer (some ⟨ab,0,none⟩),fun v=>v=.pointer (some ⟨ab,0,none⟩),fun v=>v=.pointer (some ⟨d,0,none⟩),fun v=>v=.pointer (some ⟨ab,0,none⟩),fun v=>v=.pointer (some ⟨ab,0,none⟩),fun v=>v=.pointer (some ⟨ab,1,none⟩),fun v=>v=.int .i64 A.first,fun v=>v=.int .i64 (k:Nat),fun v=>v=.int .i64 ((A.first:Int)+(k:Nat)),fun v=>v=.tuple #[.agg (az s),.nilIface],fun v=>v=.tuple #[.agg (az s),.nilIface],fun v=>v=.agg (az s),fun v=>v=.nilIface,fun _=>True,fun _=>True,fun v=>v=.nilIface])
    (fun vs W=>match vs with
   | []=>Turns (ay ab d A++R0) (aK (.slice (some ⟨g,0,none⟩) (cN H at_ n k).length cv2) (cN H at_ n k)++((B1,Is (eo (.slice (some ⟨g,0,none⟩) (cN H at_ n k).length cv2)))::(B0,Is (.cells #[.pointer (some ⟨ab,0,none⟩)] 125 (0,0)))::(ay ab d { A with spare:=sp2 }++R0))) w W
   | [v]=>∃g14,v=.pointer (some ⟨g14,0,none⟩)/\Turns (ay ab d A++R0) ((g14,Is (.cells (az (aq 128)) 43 (0,0)))::(aK (.slice (some ⟨g,0,none⟩) (cN H at_ n k).length cv2) (cN H at_ n k)++((B1,Is (eo (.slice (some ⟨g,0,none⟩) (cN H at_ n k).length cv2)))::(B0,Is (.cells #[.pointer (some ⟨ab,0,none⟩)] 125 (0,0)))::(ay ab d { A with spare:=sp2 }++R0)))) w W
   | [v,_]=>∃g14,v=.pointer (some ⟨g14,0,none⟩)/\Turns (ay ab d A++R0) ((g14,Is (.cells (az s) 43 (0,0)))::(aK (.slice (some ⟨g,0,none⟩) (cN H at_ n k).length cv2) (cN H at_ n k)++((B1,Is (eo (.slice (some ⟨g,0,none⟩) (cN H at_ n k).length cv2)))::(B0,Is (.cells #[.pointer (some ⟨ab,0,none⟩)] 125 (0,0)))::(ay ab d { A with spare:=sp2 }++R0)))) w W
   | _=>False)
    (fun W=>W.cell? ⟨B0,0,none⟩=some (.pointer (some ⟨ab,0,none⟩))/\W.cell? ⟨ab,0,none⟩=some (.pointer (some ⟨d,0,none⟩))/\W.cell? ⟨ab,1,none⟩=some (.int .i64 A.first)/\Sat W (aE d L)) [14,15] ?hC (by kernel_rfl) (by kernel_rfl) (by decide) (by decide) ?h0 ?hs ?he
   case hA=>intro x;simp only[aw,Act.put,List.setIfInBounds_toArray,List.set_cons_zero,List.set_cons_succ,Nat.reduceAdd];rfl
   case hs =>
    refine⟨ac rfl rfl (fun x wq hd hC K hK hKw=>?_),ac rfl rfl (fun x wq hd hC K hK hKw=>?_),ac rfl rfl (fun x wq hd hC K hK hKw=>?_),ac rfl rfl (fun x wq hd hC K hK hKw=>?_),ac rfl rfl (fun x wq hd hC K hK hKw=>?_),ac rfl rfl (fun x wq hd hC K hK hKw=>?_),ac rfl rfl (fun x wq hd hC K hK hKw=>?_),ac rfl rfl (fun x wq hd hC K hK hKw=>?_),ac rfl rfl (fun x wq hd hC K hK hKw=>?_),ac rfl rfl (fun x wq hd hC K hK hKw=>?_),ac rfl rfl (fun x wq hd hC K hK hKw=>?_),ac rfl rfl (fun x wq hd hC K hK hKw=>?_),ac rfl rfl (fun x wq hd hC K hK hKw=>?_),ac rfl rfl (fun x wq hd hC K hK hKw=>?_),au 0 rfl rfl (fun x wq hd hS K hK=>?_),au 1 rfl rfl (fun x wq hd hS K hK=>?_),ac rfl rfl (fun x wq hd hC K hK hKw=>?_),trivial⟩
    ·exact bD Tryz.underlying125 rfl rfl (by rfl) (hC.1) (hK _ rfl)
    ·have h0:x 0=.pointer (some ⟨ab,0,none⟩):=ae hd 0 (by kernel_rfl);exact am (by rw[h0];kernel_rfl) (hK _ rfl)
    ·have h1:x 1=.pointer (some ⟨ab,0,none⟩):=ae hd 1 (by kernel_rfl);exact am (by rw[h1];kernel_rfl) (hK _ rfl)
    ·have h2:x 2=.pointer (some ⟨ab,0,none⟩):=ae hd 2 (by kernel_rfl);exact bD Tryz.underlying31 rfl rfl (by rw[h2];rfl) (hC.2.1) (hK _ rfl)
    ·exact bD Tryz.underlying125 rfl rfl (by rfl) (hC.1) (hK _ rfl)
    ·have h4:x 4=.pointer (some ⟨ab,0,none⟩):=ae hd 4 (by kernel_rfl);exact am (by rw[h4];kernel_rfl) (hK _ rfl)
    ·have h5:x 5=.pointer (some ⟨ab,0,none⟩):=ae hd 5 (by kernel_rfl);exact am (by rw[h5];kernel_rfl) (hK _ rfl)
    ·have h6:x 6=.pointer (some ⟨ab,1,none⟩):=ae hd 6 (by kernel_rfl);exact bD Tryz.underlying3 rfl rfl (by rw[h6];rfl) (hC.2.2.1) (hK _ rfl)
    ·exact am (by kernel_rfl) (hK _ rfl)
    ·have h7:x 7=.int .i64 A.first:=ae hd 7 (by kernel_rfl)
     have h8:x 8=.int .i64 (k:Nat):=ae hd 8 (by kernel_rfl);exact am (v:=.int .i64 (IntKind.i64.wrap ((A.first:Int)+(k:Nat)))) (by rw[h7,h8];kernel_rfl) (hK _ (show _=_ by rw[HSUM.out]))
    ·have h3:x 3=.pointer (some ⟨d,0,none⟩):=ae hd 3 (by kernel_rfl);have h9:x 9=.int .i64 ((A.first:Int)+(k:Nat)):=ae hd 9 (by kernel_rfl);refine bd (by rw[h3,h9];kernel_rfl) (HRd.out wq hC.2.2.2) ?_;rintro e w3 ⟨rfl,hs3⟩;refine⟨_,rfl,hKw _ _ rfl ?_⟩
     exact fun vs hvs=>by
      match vs,hvs with
      | [],h=>exact h.Q9 hs3
      | [_],⟨g,e,h⟩=>exact⟨g,e,h.Q9 hs3⟩
      | [_,_],⟨g,e,h⟩=>exact⟨g,e,h.Q9 hs3⟩
    ·have h10:x 10=.tuple #[.agg (az s),.nilIface]:=ae hd 10 (by kernel_rfl);exact am (by rw[h10];kernel_rfl) (hK _ rfl)
    ·have h11:x 11=.tuple #[.agg (az s),.nilIface]:=ae hd 11 (by kernel_rfl);exact am (by rw[h11];kernel_rfl) (hK _ rfl)
    ·have h11:x 11=.tuple #[.agg (az s),.nilIface]:=ae hd 11 (by kernel_rfl);exact am (by rw[h11];kernel_rfl) (hK _ rfl)
    ·exact am (by kernel_rfl) (hK _ _ trivial ⟨_,rfl,hS.Q8 _⟩)
    ·have h12:x 12=.agg (az s):=ae hd 12 (by kernel_rfl);obtain⟨g14,e14,hT14⟩:=hS;have e14:x 14=.pointer (some ⟨g14,0,none⟩):=e14;refine wp_store_mid 43 (.tmp 11) (.tmp 40) rfl g14 0 (az s) (by rw[e14];rfl) (by rw[h12];rfl) (by rw[bU,HSL.out];exact eP hT14.sat.Q5 0 128 (by rw[ap];omega)) (ir HSL.out) (db _) ?_;obtain⟨q1,q2⟩:=dw hT14.sat.Q5 (s:=s) (by rw[HSL.out,ap]);exact hK _ _ trivial ⟨g14,e14,hT14.Qa q2 q1⟩
    ·have h13:x 13=.nilIface:=ae hd 13 (by kernel_rfl);exact am (by rw[h13];kernel_rfl) (hK _ rfl)
   case hC =>
    intro vs W hS
    have key:∀{F:HF},Sat W F->(∀a,cnt a ((B0,Is (.cells #[.pointer (some ⟨ab,0,none⟩)] 125 (0,0)))::(ay ab d { A with spare:=sp2 }++R0))<=cnt a F)->W.cell? ⟨B0,0,none⟩=some (.pointer (some ⟨ab,0,none⟩))/\W.cell? ⟨ab,0,none⟩=some (.pointer (some ⟨d,0,none⟩))/\W.cell? ⟨ab,1,none⟩=some (.int .i64 A.first)/\Sat W (aE d L):=fun hs hm=>by
     have h1:=hs.sub hm;exact⟨aa h1.Q5 0 rfl,aa (ic h1.tail) 0 (lr d _),aa (ic h1.tail) 1 (lu d _),h1.sub (fun a=>by have:=HH.g a;simp only[aB,an];omega)⟩
    match vs,hS with
    | [],hT=>exact key hT.sat bw
    | [_],⟨_,_,hT⟩=>exact key hT.sat bw
    | [_,_],⟨_,_,hT⟩=>exact key hT.sat bw
   case h0=>exact HR.c.drew
   case he =>
    intro x w3 hφ hS;obtain⟨g14,e14,hT3⟩:=hS;have e14:x 14=.pointer (some ⟨g14,0,none⟩):=e14;have e16:x 16=.nilIface:=fG hφ 16 (by decide) (by decide);simp only[e14,e16];have b1:=aa (hT3.sat.Q7 (b:=B1) (o:=eo (.slice (some ⟨g,0,none⟩) (cN H at_ n k).length cv2)) (by simp)) 0 rfl;have f1:=aZ (hT3.sat.Q7 (b:=B1) (o:=eo (.slice (some ⟨g,0,none⟩) (cN H at_ n k).length cv2)) (by simp)) 0;have H3:=qqH hT3;clear hφ hT3 e14 e16;obtain⟨lo,hlo⟩:∃lo,lo=at_-128*k:=⟨_,rfl⟩;obtain⟨hi,hhi⟩:∃hi,hi=min 128 (at_+n-128*k):=⟨_,rfl⟩;have m1:max (0:Int) ((at_:Int)-(k:Nat)*128)=(lo:Int):=by omega
    have m2:min (128:Int) ((at_:Int)+n-(k:Nat)*128)=(hi:Int):=by omega
    have m3:(lo:Int)<=hi:=by omega
    have m4:(hi:Int)<=128:=by omega
    have HLH:=Hq2 hlo hhi;clear hlo hhi;go_upto_region 11 with(fail);have m5:¬lo=128:=by have:=HLH.a;omega
    have m7:¬128=lo:=by omega
    have m6:(lo:Int)<=128:=by omega
    obtain⟨r,hr⟩:∃r,r=(s.take hi).drop lo:=⟨_,rfl⟩;have hrl:r.length=hi-lo:=by rw[hr,List.length_drop,List.length_take,HSL.out];omega
    have hgn:cN H at_ n (k+1)=cN H at_ n k++r:=by
     rw[hr,HR.d,HLH.a,HLH.z];exact BM (by omega) hk1 (by rw[HH.h];exact HH.f)
    have hcr:ak w3 (some ⟨g14,lo,none⟩) (r.map ao):=fun _=>⟨g14,lo,rfl,fun j hj=>by
     have hj':j<hi-lo:=by simpa[hrl]using hj
     have hx:=H3.out.sat.Q5;refine aa hx (lo+j) ?_;rw[fS s (lo+j) (by rw[HSL.out];omega)];simp[hr]⟩
    have hgl:=xh (H:=H) (at_:=at_) (n:=n) (i:=k+1);have H4:=Hq4 hrl hgn hcr hgl;clear hr hrl hgn hcr hgl;refine wp_region_still_tail 4 HM.out (by kernel_rfl) ?_;simp only[List.take_succ_cons,List.take_zero,List.drop_succ_cons,List.drop_zero];iterate 4 still_step
    refine wpStill_nil ?_;change wpList _ _ _ _ _ w3.drew;have hTd:=H3.out.drew.to (H:=aK (.slice (some ⟨g,0,none⟩) (cN H at_ n k).length cv2) (cN H at_ n k)++((g14,Is (.cells (az s) 43 (0,0)))::((B1,Is (eo (.slice (some ⟨g,0,none⟩) (cN H at_ n k).length cv2)))::(B0,Is (.cells #[.pointer (some ⟨ab,0,none⟩)] 125 (0,0)))::(ay ab d { A with spare:=sp2 }++R0)))) af;refine al rfl (iY (.tmp 57) (.tmp 60) rfl (.slice (some ⟨g,0,none⟩) (cN H at_ n k).length cv2) (cN H at_ n k) rfl hTd HR.a (some ⟨g14,lo,none⟩) (hi-lo) _ rfl r H4.a.symm (ak.of_heap rfl H4.c) (by have h1:=H4.x;rw[H4.b,List.length_append]at h1;have:=HH.f;have:=HH.out.2.2.2.2.2.2.2.2.2;omega) ?_);intro av cv3 w4 hok4 hT4 hav
    obtain⟨gx,cx,rfl⟩:∃gx:Nat,∃_:Unit,av=some ⟨gx,0,none⟩:=by
     cases av with
     | none=>exact absurd (hav rfl).1 (by simp)
     | some ad =>
      have hO:=dX hT4.sat.left hok4;rcases hO.2 with⟨hv,_⟩|⟨gg,cap,cur,hv,_⟩
      ·cases hv
      ·simp only[Value.slice.injEq,Option.some.injEq]at hv;exact⟨gg,(),by rw[hv.1]⟩
    rw[<- H4.b]at hok4 hT4 ⊢;have hb1:=hT4.sat.Q7 (b:=B1) (o:=eo (.slice (some ⟨g,0,none⟩) (cN H at_ n k).length cv2)) (by simp);have c1:=aa hb1 0 rfl;have d1:=aZ hb1 0;have hT5:=(hT4.to (H:=(B1,Is (eo (.slice (some ⟨g,0,none⟩) (cN H at_ n k).length cv2)))::(aK (.slice (some ⟨gx,0,none⟩) (cN H at_ n (k+1)).length cv3) (cN H at_ n (k+1))++((g14,Is (.cells (az s) 43 (0,0)))::((B0,Is (.cells #[.pointer (some ⟨ab,0,none⟩)] 125 (0,0)))::(ay ab d { A with spare:=sp2 }++R0))))) af).Qa ((Mods.refl (fun k=>k=B1) w4).set1 (i:=0) (.slice (some ⟨gx,0,none⟩) (cN H at_ n (k+1)).length cv3)) (bt hb1 0 _);have hT6:=hT5.drop (H:=aK (.slice (some ⟨gx,0,none⟩) (cN H at_ n (k+1)).length cv3) (cN H at_ n (k+1))++((B1,Is (eo (.slice (some ⟨gx,0,none⟩) (cN H at_ n (k+1)).length cv3)))::(B0,Is (.cells #[.pointer (some ⟨ab,0,none⟩)] 125 (0,0)))::(ay ab d { A with spare:=sp2 }++R0))) (fun _=>by simp only[aB,an];show _<=Gn _ (B1,Is (eo (.slice (some ⟨gx,0,none⟩) (cN H at_ n (k+1)).length cv3)))+_;omega);have H6:=Hq2 hok4 hT6;clear hok4 hT4 hT5 hT6 hb1 hav hTd b1 f1;go_wp2_with fail;go_roundw
    case rel=>exact⟨k+1,gx,cv3,sp2,by omega,by omega,by go_num,H6.a,HR.b,H6.z⟩
    case measure=>simp[intOf];omega
  ·have hge:=Eu (H:=H) (at_:=at_) (n:=n) (i:=k) hlt;rw[hge]at hok hT;obtain⟨data,hd⟩:∃data,data=(H.drop at_).take n:=⟨_,rfl⟩;have HIn2:=qqH (HIn.out wr B0 B1 g cv2 sp2);rw[<- hd]at hok hT HIn2;have b1:=aa (hT.sat.Q7 (b:=B1) (o:=eo (.slice (some ⟨g,0,none⟩) data.length cv2)) (by simp)) 0 rfl;have HR:=Hq3 hok hAo hT;have hlt':¬(128:Int)*k<at_+n:=by omega
   clear hok hAo hT hge hd HIn;go_wp2_with fail;refine(HIn2.out HR.a HR.y).mono ?_;rintro e w3 ⟨rfl,R1,hP,hT3⟩;have H3:=Hq2 hP hT3;clear hP hT3;go_wp2_with fail;have hsat:=H3.z.sat;have hb0:=hsat.Q7 (b:=B0) (o:=.cells #[.pointer (some ⟨ab,0,none⟩)] 125 (0,0)) (by simp);have hb1:=hsat.Q7 (b:=B1) (o:=eo (.slice (some ⟨g,0,none⟩) data.length cv2)) (by simp);refine leaves_cons (f:=152) (args:=#[.pointer (some ⟨B0,0,none⟩),.pointer (some ⟨B1,0,none⟩)]) (by simp) (by simp[go_sem]) ?_;refine(Kj ab d { A with spare:=sp2 } g cv2 data B0 B1 .returning _ (hsat.sub bw) HR.b (aa hb0 0 rfl) (aa hb1 0 rfl)).mono ?_;rintro e u' w4 ⟨rfl,rfl,sp3,hT4,hA4⟩;have hT5:=H3.z.step (F:=aK (.slice (some ⟨g,0,none⟩) data.length cv2) data++ay ab d { A with spare:=sp2 }) (R:=(B1,Is (eo (.slice (some ⟨g,0,none⟩) data.length cv2)))::(B0,Is (.cells #[.pointer (some ⟨ab,0,none⟩)] 125 (0,0)))::R1) af hT4;exact⟨_,results_tmp rfl _ _ _,rfl,R1,sp3,H3.a,hA4,hT5.drop bw⟩
def aD(n:Nat):Nat:=(n-2) / 2
theorem sO(d:Nat)(L:DevL)(ep:Nat)(w:World)(h:Sat w (aE d L))(hn:2<=L.n)(hn2:L.n<=1073741824)(hep:ep<4294967296):
  Calls Tryz.prog 53 #[.pointer (some ⟨d,0,none⟩),.int .u32 ep] w (mi d (2+ep%2*aD L.n) (aD L.n) w):=by
 have HS:=qqH (kC d L w h);obtain⟨m,hm⟩:∃m,m=aD L.n:=⟨_,rfl⟩;have e1:((L.n:Int)-2) / 2=(m:Int):=by rw[hm];unfold aD;omega
 have hml:m<=1073741824:=by rw[hm];unfold aD;omega
 obtain⟨b,hb⟩:∃b,b=ep%2:=⟨_,rfl⟩;have e2:((ep:Int))%2=(b:Int):=by omega
 have hb2:b=0\/b=1:=by omega
 have e3:wrap64 (2+wrap64 ((b:Int)*(m:Int)))=((2+b*m:Nat):Int):=by
  have hbm:(b:Int)*(m:Int)=((b*m:Nat):Int):=by simp
  have hle:b*m<=1*m:=Nat.mul_le_mul_right _ (by omega);have i1:wrap64 ((b*m:Nat):Int)=((b*m:Nat):Int):=IntWalk.wrap64_in _ ⟨by omega,by omega⟩;rw[hbm,i1,IntWalk.wrap64_in _ ⟨by omega,by omega⟩];omega
 rw[<- hm,<- hb];have HM:=Hq2 hm hb;clear h hm hb;go_enter Tryz.func53,Tryz.ntmps53;go_wp2_with fail;refine HS.out.mono ?_;rintro e w1 ⟨rfl,rfl⟩;have E3:=qqH e3;clear e3;go_wp2_with fail;rw[E3.out];refine(ul d (2+b*m) m w).mono ?_;rintro e w1 ⟨ab,ch,rfl,hT⟩;have HT:=qqH hT;clear hT;go_wp2_with fail;go_ret;exact⟨ab,ch,rfl,HT.out⟩
def gR(pm tm cm:Nat)(sc sb used:Int):Array Value:=#[.map (some pm),.map (some tm),.map (some cm),.int .i64 sc,.int .i64 sb,.int .i64 used]
def rS(w:World)(e:Ending)(w':World):Prop :=
 ∃pm tm cm:Nat,e=.returned (.agg (gR pm tm cm 0 0 0))/\Turns [] [(cm,Is (.map #[] 0)),(tm,Is (.map #[] 0)),(pm,Is (.map #[] 0))] w w'
theorem ld(w:World):Calls Tryz.prog 52 #[] w (rS w):=by
 have hmm:=@run_makeMap Tryz.prog;go_enter Tryz.func52,Tryz.ntmps52;go_wp2_with fail;have h:=((((Turns.refl (Sat.nil w)).alloc (.cells (gR (w.heap.size+1) (w.heap.size+1+1) (w.heap.size+1+1+1) 0 0 0) 123)).Q8 (.map #[] 0)).Q8 (.map #[] 0)).Q8 (.map #[] 0);simp only[World.size_alloc]at h
 have hc:((((w.alloc (.cells (gR (w.heap.size+1) (w.heap.size+1+1) (w.heap.size+1+1+1) 0 0 0) 123)).alloc (.map #[] 0)).alloc (.map #[] 0)).alloc (.map #[] 0)).heap[w.heap.size]?=some (.cells (gR (w.heap.size+1) (w.heap.size+1+1) (w.heap.size+1+1+1) 0 0 0) 123 (0,0)):=by
  rw[dV (by simp;omega),dV (by simp;omega),dV (by simp)];exact aM w _
 exact bodyPost_ret (results_cell_row rfl _ _ w.heap.size 123 _ (0,0) _ rfl hc Tryz.underlying123 rfl (by kernel_rfl)) rfl ⟨_,_,_,rfl,h⟩
structure ArchL where
 pm:Nat
 tm:Nat
 cm:Nat
 sc:Int
 sb:Int
 used:Int
 d:Nat
 ab:Nat
 ep:Nat
 quota:Int
 closed:Bool
 broken:Value
def bf(X:ArchL):Array Value:=#[.map (some X.pm),.map (some X.tm),.map (some X.cm),.int .i64 X.sc,.int .i64 X.sb,.int .i64 X.used,.pointer (some ⟨X.d,0,none⟩),.pointer (some ⟨X.ab,0,none⟩),.int .u32 X.ep,.int .i64 X.quota,.bool X.closed,X.broken]
def aO(X:ArchL):Obj:=.cells (bf X) 128 (0,0)
theorem pQ{l:Bs}{first count k:Nat}(h:k<count):ba (aP l first count) k=ba l (first+k):=by
 unfold ba aP;rw[List.drop_take,List.drop_drop,List.take_take];congr 1
 ·omega
 ·congr 1;omega
theorem oK{w:World}{b e n:Nat}{v:Value}{xs:List Value}(h:w.ownsRow b e 1 v n xs):∃a cap,v=.slice a n cap/\xs.length=n/\n<=cap/\cap<=9223372036854775807/\ak w a xs/\∀x,a=some x->v.ownBlock=some x.block:=by
 obtain⟨a,cap,rfl,h1,h2,h3,h4⟩:=qw h;refine⟨a,cap,rfl,h1,h2,?_,h3,h4⟩;rcases h.2 with⟨hv,_⟩|⟨g,c,cur,hv,_,_,_,hc,_⟩
 ·simp only[Value.slice.injEq]at hv;omega
 ·simp only[Value.slice.injEq]at hv;unfold maxLen at hc;omega
def dk(q:Int):Int:=if(0:Int)>q then 0 else q
def x5(d u:Nat)(L:DevL)(q:Int)(v:Value)(w W:World):Prop :=
 ∃g pm tm cm ab ch,v=.pointer (some ⟨g,0,none⟩)/\Turns (aE d L) ((g,Is (aO ⟨pm,tm,cm,0,0,0,d,ab,1,dk q,false,.nilIface⟩))::(ay ab d ⟨2+aD L.n,aD L.n,0,aq 128,ch,[]⟩++([(cm,Is (.map #[] 0)),(tm,Is (.map #[] 0)),(pm,Is (.map #[] 0))]++((u,Is (.cells #[.int .u32 1,.int .u32 0] 118 (0,0)))::aE d L)))) w W
def qa(d:Nat)(L:DevL)(q:Int)(w:World)(e:Ending)(w':World):Prop :=
 ∃a ab pm tm cm ch L',e=.returned (.tuple #[.pointer (some ⟨a,0,none⟩),.nilIface]) /\
  Turns (aE d L) ((a,Is (aO ⟨pm,tm,cm,0,0,0,d,ab,1,dk q,false,.nilIface⟩))::(pm,Is (.map #[] 0))::(tm,Is (.map #[] 0))::(cm,Is (.map #[] 0))::(ay ab d ⟨2+aD L.n,aD L.n,0,aq 128,ch,[]⟩++aE d L')) w w' /\
  DevOk L'/\L'.n=L.n/\L'.now=bp (fK L.now (2+aD L.n) 0 (aq 128) (aD L.n)) 128 (dD 1 0)/\L'.safe=L'.now/\L'.chs=[]
theorem zc(d:Nat)(L:DevL)(q:Int)(w:World)(h:Sat w (aE d L))(hL:DevOk L)(hn:16<=L.n)(hn2:L.n<=1073741824)(hch:L.chs.length<=137438953472):
  Calls Tryz.prog 51 #[.pointer (some ⟨d,0,none⟩),.int .i64 q] w (qa d L q w):=by
 have HNC:=qqH ld
 have HH:Hid (∀W,Sat W (aE d L)->Calls Tryz.prog 53 #[.pointer (some ⟨d,0,none⟩),.int .u32 1] W (mi d (2+aD L.n) (aD L.n) W)):=qqH (fun W hW=>by
  have:=sO d L 1 W hW (by omega) hn2 (by omega);simpa using this)
 have HS:=Hq5 h hL hn hn2 hch;clear h hL hn hn2 hch;go_enter Tryz.func51,Tryz.ntmps51;go_wp2_with fail;obtain⟨w1,hw1⟩:∃w1,w1=w.alloc (.cells #[.int .u32 1,.int .u32 0] 118):=⟨_,rfl⟩;have hT1:Turns (aE d L) ((w.heap.size,Is (.cells #[.int .u32 1,.int .u32 0] 118 (0,0)))::aE d L) w w1:=by rw[hw1];exact(Turns.refl HS.a).Q8 _
 rw[<- hw1];have a0:=aa hT1.sat.Q5 0 rfl;obtain⟨u,hu⟩:∃u,u=w.heap.size:=⟨_,rfl⟩;rw[<- hu]at hT1 a0 ⊢;have HT:=qqH hT1;have hs1:aX w w1:=by rw[hw1];exact(Mods.refl _ w).alloc _
 have HS1:=qqH hs1;clear hw1 hu hT1 hs1;have HM:=qqH (show Tryz.prog.follows .mixedOrders=true by kernel_rfl)
 refine bK (A:=?A) (hA:=?hA) HM.out (iT [fun _=>True,fun v=>v=.pointer (some ⟨d,0,none⟩),fun v=>v=.pointer (some ⟨d,0,none⟩),fun v=>v=.pointer (some ⟨u,0,none⟩),fun v=>v=.int .u32 1,fun _=>True,
  fun v=>v=.pointer (some ⟨u,0,none⟩),fun v=>v=.int .u32 1,fun v=>v=.int .i64 q,fun v=>v=.int .i64 (dk q)]) (fun vs W=>match vs with
   | []=>Turns (aE d L) ((u,Is (.cells #[.int .u32 1,.int .u32 0] 118 (0,0)))::aE d L) w W
   | [v0]=>∃pm tm cm,v0=.agg (gR pm tm cm 0 0 0)/\Turns (aE d L) ([(cm,Is (.map #[] 0)),(tm,Is (.map #[] 0)),(pm,Is (.map #[] 0))]++((u,Is (.cells #[.int .u32 1,.int .u32 0] 118 (0,0)))::aE d L)) w W
   | [v0,v5]=>∃pm tm cm ab ch,v0=.agg (gR pm tm cm 0 0 0)/\v5=.pointer (some ⟨ab,0,none⟩)/\Turns (aE d L) (ay ab d ⟨2+aD L.n,aD L.n,0,aq 128,ch,[]⟩++([(cm,Is (.map #[] 0)),(tm,Is (.map #[] 0)),(pm,Is (.map #[] 0))]++((u,Is (.cells #[.int .u32 1,.int .u32 0] 118 (0,0)))::aE d L))) w W
   | [_,_,v]=>∃pm tm cm ab ch,v=.agg (bf ⟨pm,tm,cm,0,0,0,d,ab,1,dk q,false,.nilIface⟩)/\Turns (aE d L) (ay ab d ⟨2+aD L.n,aD L.n,0,aq 128,ch,[]⟩++([(cm,Is (.map #[] 0)),(tm,Is (.map #[] 0)),(pm,Is (.map #[] 0))]++((u,Is (.cells #[.int .u32 1,.int .u32 0] 118 (0,0)))::aE d L))) w W
   | [_,_,_,v]=>x5 d u L q v w W
   | [_,_,_,_,v]=>x5 d u L q v w W
   | _=>False) (fun W=>W.cell? ⟨u,0,none⟩=some (.int .u32 1)) [0,5,10,11,12] ?hC (by kernel_rfl) (by kernel_rfl) (by decide) (by decide) ?h0 ?hs ?he
 case hA=>intro x;simp only[aw,Act.put,List.setIfInBounds_toArray,List.set_cons_zero,List.set_cons_succ,Nat.reduceAdd];rfl
 case hC =>
  intro vs W hS;have key:∀{F:HF},Sat W F->(u,Is (.cells #[.int .u32 1,.int .u32 0] 118 (0,0)))∈F->W.cell? ⟨u,0,none⟩=some (.int .u32 1):=fun hs hm=>aa (hs.Q7 hm) 0 rfl
  match vs,hS with
  | [],hT=>exact key hT.sat (by simp)
  | [_],⟨pm,tm,cm,_,hT⟩=>exact key hT.sat (by simp)
  | [_,_],⟨pm,tm,cm,ab,ch,_,_,hT⟩=>exact key hT.sat (by simp)
  | [_,_,_],⟨pm,tm,cm,ab,ch,_,hT⟩=>exact key hT.sat (by simp)
  | [_,_,_,_],⟨g,pm,tm,cm,ab,ch,_,hT⟩=>exact key hT.sat (by simp)
  | [_,_,_,_,_],⟨g,pm,tm,cm,ab,ch,_,hT⟩=>exact key hT.sat (by simp)
 case h0=>exact HT.out.drew
 case he =>
  intro x w2 hφ hS;obtain⟨g,pm,tm,cm,ab,ch,e12,hT⟩:=hS;have e12:x 12=.pointer (some ⟨g,0,none⟩):=e12;have g7:=aa hT.sat.Q5 7 (show(bf ⟨pm,tm,cm,0,0,0,d,ab,1,dk q,false,.nilIface⟩)[7]?=some (.pointer (some ⟨ab,0,none⟩))from rfl);have HAll:=qqH (uW ab d ⟨2+aD L.n,aD L.n,0,aq 128,ch,[]⟩ L w2 (hT.sat.sub bw) HS.b (by simp only;unfold aD;have:=HS.c;omega) HS.d);have HT2:=qqH hT;clear hφ hT;simp only[e12];clear e12;go_wp2_with fail;refine HAll.out.mono ?_;rintro e w3 ⟨v,rfl,hok,hT3⟩;have hwl:=gr HS.b.nowL (first:=2+aD L.n) (k:=aD L.n) (by unfold aD;have:=HS.c;omega);obtain⟨ws,hws⟩:∃ws,ws=aP L.now (2+aD L.n) (aD L.n):=⟨_,rfl⟩;try simp only at hok hT3
  rw[<- hws]at hok hT3 hwl;obtain⟨av,cv,rfl,hlv,hcv,hcv2,hca,hav⟩:=oK (dX hT3.sat hok);have hT4:=Turns.Qb HT2.out hT3
  have hcut:=uX ab d ⟨2+aD L.n,aD L.n,0,aq 128,ch,[]⟩ L 0 av cv ws w3 (hT4.sat.sub bw) HS.b (by simp only;unfold aD;have:=HS.c;omega) HS.d ⟨ap _,by simp,fun _ h=>by simp at h⟩ hca
   (fun x hx hin=>hT4.sat.Qh (b:=x.block) ((ga _ _ _ _ _ _).2 (hav x hx)) (by simp only[cT,gm,List.mem_append,List.mem_cons]at hin ⊢;rcases hin with h|h<;>simp[h])) hwl hcv hcv2 (by simp only;unfold aD;have:=HS.c;omega) (Nat.zero_le _) HS.w
   (fun m hm he=>by simp only at hm ⊢;rw[hws,pQ (by omega)]at he;exact he)
  have g7:=aa (hT4.sat.right.Q5) 7 (show(bf ⟨pm,tm,cm,0,0,0,d,ab,1,dk q,false,.nilIface⟩)[7]?=some (.pointer (some ⟨ab,0,none⟩))from rfl);have HC:=qqH hcut;have H4:=Hq2 hT4 hwl;clear hcut hT4 hca hav hT3 hok hws hlv hwl hcv hcv2;go_wp2_with fail;refine HC.out.mono ?_;rintro e w4 ⟨rfl,L',hT5,hL',hn',hnow',hsafe',hch'⟩;have eA:(List.drop (128*(0 / 128)) (List.take 0 ws)++aq (128-0%128))=aq 128:=by simp
  simp only[eA]at hT5 hnow';clear eA;have hT6:=H4.a.step (F:=ay ab d ⟨2+aD L.n,aD L.n,0,aq 128,ch,[]⟩++aE d L) (R:=aK (.slice av ws.length cv) ws++((g,Is (aO ⟨pm,tm,cm,0,0,0,d,ab,1,dk q,false,.nilIface⟩))::([(cm,Is (.map #[] 0)),(tm,Is (.map #[] 0)),(pm,Is (.map #[] 0))]++[(u,Is (.cells #[.int .u32 1,.int .u32 0] 118 (0,0)))]))) af hT5;have hu:=(hT6.sat.sub (G:=[(u,Is (.cells #[.int .u32 1,.int .u32 0] 118 (0,0)))]) bw).Q5;have u0:=aa hu 0 rfl;have u1:=aa hu 1 rfl;have HSec:=qqH (pR 1 0 (by omega) (by omega) w4)
  have HWr:Hid (∀W,Sat W (aE d L')->Calls Tryz.prog 18 #[.pointer (some ⟨d,0,none⟩),.int .i64 1,.agg (az (dD 1 0))] W (jC d L' 1 (dD 1 0) W)):=qqH (fun W hW=>by
   have:=kf d L' 1 (dD 1 0) W hW hL' (by rw[hn'];have:=HS.c;omega) (dx 1 0) (by rw[hch'];simp);exact this)
  have H6:=Hq6 hT6 hL' hn' hnow' hsafe' hch';clear hT5 hT6 hL' hn' hnow' hsafe' hch' hu g7;go_wp2_with fail;refine HSec.out.mono ?_;rintro e w5 ⟨rfl,hs5⟩;have hT7:=H6.a.Q9 hs5;have H7:=qqH hT7;clear hs5 hT7 u0 u1;go_wp2_with fail;refine(HWr.out _ (H7.out.sat.sub bw)).mono ?_;rintro e w6 ⟨rfl,L2,hT8,hL2,hn2,hnow2,hch2⟩;have hT9:=H7.out.step (F:=aE d L') (R:=(ay ab d ⟨2+aD L.n,aD L.n,0,aq 128,ch,[]⟩)++((g,Is (aO ⟨pm,tm,cm,0,0,0,d,ab,1,dk q,false,.nilIface⟩))::([(cm,Is (.map #[] 0)),(tm,Is (.map #[] 0)),(pm,Is (.map #[] 0))]++([(u,Is (.cells #[.int .u32 1,.int .u32 0] 118 (0,0)))]++aK (.slice av ws.length cv) ws)))) af hT8;have HFl:Hid (∀W,Sat W (aE d L2)->Calls Tryz.prog 20 #[.pointer (some ⟨d,0,none⟩)] W (kQ d L2 W)):=qqH (fun W hW=>kb d L2 W hW hL2 (by rw[hch2,H6.v];simp));have H9:=Hq4 hT9 hL2 hn2 hnow2;clear hT8 hT9 hL2 hn2 hnow2 hch2;go_wp2_with fail;refine(HFl.out _ (H9.a.sat.sub bw)).mono ?_;rintro e w7 ⟨rfl,L3,hT10,hL3,hn3,hnow3,hsafe3,hch3⟩;have hT11:=H9.a.step (F:=aE d L2) (R:=(ay ab d ⟨2+aD L.n,aD L.n,0,aq 128,ch,[]⟩)++((g,Is (aO ⟨pm,tm,cm,0,0,0,d,ab,1,dk q,false,.nilIface⟩))::([(cm,Is (.map #[] 0)),(tm,Is (.map #[] 0)),(pm,Is (.map #[] 0))]++([(u,Is (.cells #[.int .u32 1,.int .u32 0] 118 (0,0)))]++aK (.slice av ws.length cv) ws)))) af hT10;have hT12:=hT11.drop (H:=(g,Is (aO ⟨pm,tm,cm,0,0,0,d,ab,1,dk q,false,.nilIface⟩))::(pm,Is (.map #[] 0))::(tm,Is (.map #[] 0))::(cm,Is (.map #[] 0))::(ay ab d ⟨2+aD L.n,aD L.n,0,aq 128,ch,[]⟩++aE d L3)) bw;have H12:=Hq6 hT12 hL3 hn3 hnow3 hsafe3 hch3;clear hT10 hT11 hT12 hL3 hn3 hnow3 hsafe3 hch3;go_wp2_with fail;go_ret2;refine⟨g,ab,pm,tm,cm,ch,L3,rfl,H12.a,H12.b,by rw[H12.c,H9.c,H6.c],?_,by rw[H12.e,H12.d],H12.v⟩;rw[H12.d,H9.x,H6.d];simp only[Nat.zero_div,Nat.sub_zero,Nat.mul_one]
 case hs =>
  refine⟨au 0 rfl rfl (fun x w2 hd hS K hK=>?_),ac rfl rfl (fun x w2 hd hC K hK _=>?_),ac rfl rfl (fun x w2 hd hC K hK _=>?_),ac rfl rfl (fun x w2 hd hC K hK _=>?_),ac rfl rfl (fun x w2 hd hC K hK _=>?_),au 1 rfl rfl (fun x w2 hd hS K hK=>?_),
   ac rfl rfl (fun x w2 hd hC K hK _=>?_),ac rfl rfl (fun x w2 hd hC K hK _=>?_),ac rfl rfl (fun x w2 hd hC K hK _=>?_),ac rfl rfl (fun x w2 hd hC K hK _=>?_),au 2 rfl rfl (fun x w2 hd hS K hK=>?_),au 3 rfl rfl (fun x w2 hd hS K hK=>?_),au 4 rfl rfl (fun x w2 hd hS K hK=>?_),trivial⟩
  ·refine bd (by kernel_rfl) (HNC.out _) ?_;rintro e w3 ⟨pm,tm,cm,rfl,hT3⟩;exact⟨_,rfl,hK _ _ trivial ⟨pm,tm,cm,rfl,Turns.Qb hS hT3⟩⟩
  ·exact am (by kernel_rfl) (hK _ rfl)
  ·exact am (by kernel_rfl) (hK _ rfl)
  ·exact am (by kernel_rfl) (hK _ rfl)
  ·obtain⟨h3,-⟩:=hd;have h3:x 3=.pointer (some ⟨u,0,none⟩):=h3;exact bD Tryz.underlying116 rfl rfl (by rw[h3];rfl) hC (hK _ rfl)
  ·obtain⟨h2,h4,-⟩:=hd;have h2:x 2=.pointer (some ⟨d,0,none⟩):=h2;have h4:x 4=.int .u32 1:=h4;obtain⟨pm,tm,cm,e0,hT⟩:=hS;refine bd (by rw[h2,h4];kernel_rfl) (HH.out _ hT.sat.right.tail) ?_;rintro e w3 ⟨ab,ch,rfl,hT3⟩;exact⟨_,rfl,hK _ _ trivial ⟨pm,tm,cm,ab,ch,e0,rfl,Turns.Qb hT hT3⟩⟩
  ·exact am (by kernel_rfl) (hK _ rfl)
  ·obtain⟨h6,-⟩:=hd;have h6:x 6=.pointer (some ⟨u,0,none⟩):=h6;exact bD Tryz.underlying116 rfl rfl (by rw[h6];rfl) hC (hK _ rfl)
  ·exact am (by kernel_rfl) (hK _ rfl)
  ·obtain⟨h8,-⟩:=hd;have h8:x 8=.int .i64 q:=h8;exact am (by rw[h8];kernel_rfl) (hK _ rfl)
  ·obtain⟨-,h1,-,h7,h9,-⟩:=hd;have h1:x 1=.pointer (some ⟨d,0,none⟩):=h1;have h7:x 7=.int .u32 1:=h7;have h9:x 9=.int .i64 (dk q):=h9;obtain⟨pm,tm,cm,ab,ch,e0,e5,hT⟩:=hS;exact am (by rw[e0,h1,e5,h7,h9];kernel_rfl) (hK _ _ trivial ⟨pm,tm,cm,ab,ch,rfl,hT⟩)
  ·obtain⟨pm,tm,cm,ab,ch,e10,hT⟩:=hS;exact am (by rw[e10];kernel_rfl) (hK _ _ trivial ⟨_,pm,tm,cm,ab,ch,rfl,hT.Q8 _⟩)
  ·obtain⟨g,pm,tm,cm,ab,ch,e11,hT⟩:=hS;exact am (by rw[e11];kernel_rfl) (hK _ _ trivial ⟨g,pm,tm,cm,ab,ch,rfl,hT⟩)
def lm(H:Bs)(at_:Nat)(body:Bs):Prop:=at_+(body.length+9)<=H.length/\cG ((H.drop at_).take (body.length+9))=some (1,body,body.length+9)
def CU(ab d:Nat)(A:AreaL)(R0 R2:HF)(ob:Nat)(body:Bs)(w w':World):Prop :=
 ∃v sp,bOk v body/\AreaOk { A with spare:=sp }/\Turns (ay ab d A++R0) (aK v body++((ob,Is (eo v))::(ay ab d { A with spare:=sp }++R2))) w w'
def FG(ab d:Nat)(A:AreaL)(R0:HF)(body:Bs)(w:World)(e:Ending)(w':World):Prop :=
 ∃av cv sp,e=.returned (.tuple #[.slice av body.length cv,.nilIface])/\bOk (.slice av body.length cv) body/\AreaOk { A with spare:=sp }/\Turns (ay ab d A++R0) (aK (.slice av body.length cv) body++(ay ab d { A with spare:=sp }++R0)) w w'
theorem oJ(a:Nat)(X:ArchL)(ab d:Nat)(hab:ab=X.ab)(A:AreaL)(L:DevL)(at_:Nat)(body:Bs)(R0:HF)(w:World)(h:Sat w (ay ab d A++R0))(hsub:∀x,cnt x ((a,Is (aO X))::aE d L)<=cnt x R0)(hL:DevOk L)(hA:AreaOk A)(hAn:A.first+A.count<=L.n)(hn:L.n<=1073741824)(hc:lm (aP L.now A.first A.count) at_ body):
  Calls Tryz.prog 86 #[.pointer (some ⟨a,0,none⟩),.agg #[.int .i64 at_,.int .i64 body.length]] w (FG ab d A R0 body w):=by
 have hmf:∀(fn:Fn) (first cap:Array Value) (w:World),(Instr.makeFunc fn first cap).run Tryz.prog w=.ok (.func fn first cap) w:=fun _ _ _ _=>rfl
 have hbl:body.length<65536:=(iR hc.2).2.2.2.2;have HSz:=qqH (fun W=>gH (body.length:Int) (by omega) (by omega) W);have HH:=Hq8 h hsub hL hA hAn hn hc hab;clear h hsub hL hA hAn hn hc hab;go_enter Tryz.func86,Tryz.ntmps86;go_wp2_with fail;obtain⟨B2,hB2⟩:∃B,w.heap.size=B:=⟨_,rfl⟩;have hT1:=(((Turns.refl HH.a).Q8 (.cells #[.pointer (some ⟨a,0,none⟩)] 32)).Q8 (.cells #[.int .i64 at_,.int .i64 body.length] 161)).Q8 (eo (.slice none 0 0));simp only[World.size_alloc]at hT1;obtain⟨B3,hB3⟩:∃B,w.heap.size+1=B:=⟨_,rfl⟩;obtain⟨B6,hB6⟩:∃B,w.heap.size+1+1=B:=⟨_,rfl⟩;rw[hB6]at hT1 ⊢;rw[hB3]at hT1 ⊢;rw[hB2]at hT1 ⊢;obtain⟨R2,hR2⟩:∃R2,R2=((B3,Is (.cells #[.int .i64 at_,.int .i64 body.length] 161 (0,0)))::(B2,Is (.cells #[.pointer (some ⟨a,0,none⟩)] 32 (0,0)))::R0):=⟨_,rfl⟩;obtain⟨R1,hR1⟩:∃R1,R1=((B6,Is (eo (.slice none 0 0)))::R2):=⟨_,rfl⟩;have hT2:Turns (ay ab d A++R0) (ay ab d A++R1) w _:=hT1.to (H:=ay ab d A++R1) (by rw[hR1,hR2];exact af);have HT:=Hq3 hT2 hR1 hR2;clear hT1 hT2 hR1 hR2 hB2 hB3 hB6;have HM:=qqH (show Tryz.prog.follows .mixedOrders=true by kernel_rfl)
 have HW:Hid (∀W,Turns (ay ab d A++R0) (ay ab d A++R1) w W->Calls Tryz.prog 130 #[.pointer (some ⟨ab,0,none⟩),.int .i64 at_,.int .i64 ((body.length:Int)+9),.func (.func 131) #[] #[.pointer (some ⟨B3,0,none⟩),.pointer (some ⟨B2,0,none⟩),.pointer (some ⟨B6,0,none⟩)]] W (fun e w'=>e=.returned .nilIface/\CU ab d A R0 R2 B6 body w w')):=qqH (fun W hTW=>by
  have hTW':=hTW;rw[HT.b,HT.y]at hTW'
  have hw:=A0 ab d A L at_ (body.length+9) (.pointer (some ⟨B3,0,none⟩)) (.pointer (some ⟨B2,0,none⟩)) (.pointer (some ⟨B6,0,none⟩)) (aP L.now A.first A.count) rfl R1 (fun R'=>∃v,bOk v body/\R'=aK v body++((B6,Is (eo v))::R2)) W hTW.sat
   (fun x=>by have h1:=HH.b x;rw[HT.b,HT.y];rw[aB]at h1;simp only[aB];omega) HH.c HH.d HH.e HH.f (by have:=HH.g.1;rwa [gr HH.c.nowL HH.e]at this)
   (fun W' B0 B1 g cv sp hok hTW2=>by
    have hTW3:=hTW2;rw[HT.b,HT.y]at hTW3;obtain⟨a2,cap2,hv2,hl2,hc2,hca2,-⟩:=aV (dX hTW2.sat.left hok);simp only[Value.slice.injEq]at hv2;obtain⟨rfl,-,rfl⟩:=hv2;have hb6:=hTW3.sat.Q7 (b:=B6) (o:=eo (.slice none 0 0)) (by simp);have hb3:=hTW3.sat.Q7 (b:=B3) (o:=.cells #[.int .i64 at_,.int .i64 body.length] 161 (0,0)) (by simp)
    have hne:B3≠B6:=fun e=>by
     subst e;rw[hb3]at hb6;unfold eo at hb6;simp at hb6
    have hf:=zB (some ⟨g,0,none⟩) cv (((aP L.now A.first A.count).drop at_).take (body.length+9)) body at_ B3 B2 B6 W' hca2 (by rw[List.length_take];omega) hc2 HH.g.2 hb3 hb6 hne (fun x hx=>by
     simp only[Option.some.injEq]at hx;subst hx;intro e;have:=hTW3.sat.Qh (b:=g) (by simp[aK,bN,Value.ownBlock]);have e:g=B6:=e;exact this (by simp[e]))
    refine hf.mono ?_;rintro e w' ⟨rfl,v,hv,hTf⟩;refine⟨rfl,aK v body++((B6,Is (eo v))::R2),⟨v,hv,rfl⟩,?_⟩;rw[HT.b]at hTW2;have h2:=hTW2.step (F:=[(B6,Is (eo (.slice none 0 0)))]) (R:=aK (.slice (some ⟨g,0,none⟩) (((aP L.now A.first A.count).drop at_).take (body.length+9)).length cv) (((aP L.now A.first A.count).drop at_).take (body.length+9))++((B1,Is (eo (.slice (some ⟨g,0,none⟩) (((aP L.now A.first A.count).drop at_).take (body.length+9)).length cv)))::(B0,Is (.cells #[.pointer (some ⟨ab,0,none⟩)] 125 (0,0)))::(ay ab d { A with spare:=sp }++R2))) af hTf;rw[HT.b];exact h2.to (by show List.Perm (((B6,Is (eo v))::aK v body)++_) _;exact af))
  rw[show((body.length+9:Nat):Int)=(body.length:Int)+9 by omega]at hw;refine hw.mono ?_;rintro e w' ⟨rfl,R',sp,⟨v,hv,rfl⟩,hA',hT'⟩;exact⟨rfl,v,sp,hv,hA',(hTW.trans hT').to af⟩)
 refine bK (A:=?A) (hA:=?hA) HM.out (iT [fun v=>v=.pointer (some ⟨a,0,none⟩),fun v=>v=.pointer (some ⟨a,0,none⟩),fun v=>v=.pointer (some ⟨a,7,none⟩),fun v=>v=.pointer (some ⟨ab,0,none⟩),fun v=>v=.pointer (some ⟨B3,0,none⟩),fun v=>v=.int .i64 (at_:Nat),fun v=>v=.pointer (some ⟨B3,1,none⟩),fun v=>v=.int .i64 (body.length:Nat),fun v=>v=.int .i64 ((body.length:Int)+9),fun v=>v=.func (.func 131) #[] #[.pointer (some ⟨B3,0,none⟩),.pointer (some ⟨B2,0,none⟩),.pointer (some ⟨B6,0,none⟩)],fun v=>v=.nilIface,fun v=>v=.nilIface])
  (fun vs W=>match vs with
  | []=>Turns (ay ab d A++R0) (ay ab d A++R1) w W
  | [_]=>CU ab d A R0 R2 B6 body w W
  | _=>False)
  (fun W=>W.cell? ⟨B2,0,none⟩=some (.pointer (some ⟨a,0,none⟩))/\W.cell? ⟨a,7,none⟩=some (.pointer (some ⟨ab,0,none⟩))/\W.cell? ⟨B3,0,none⟩=some (.int .i64 (at_:Nat))/\W.cell? ⟨B3,1,none⟩=some (.int .i64 (body.length:Nat))) [10] ?hC (by kernel_rfl) (by kernel_rfl) (by decide) (by decide) ?h0 ?hs ?he
 case hA=>intro x;simp only[aw,Act.put,List.setIfInBounds_toArray,List.set_cons_zero,List.set_cons_succ,Nat.reduceAdd];rfl
 case hs =>
  refine⟨ac rfl rfl (fun x wq hd hC K hK hKw=>?_),ac rfl rfl (fun x wq hd hC K hK hKw=>?_),ac rfl rfl (fun x wq hd hC K hK hKw=>?_),ac rfl rfl (fun x wq hd hC K hK hKw=>?_),ac rfl rfl (fun x wq hd hC K hK hKw=>?_),ac rfl rfl (fun x wq hd hC K hK hKw=>?_),ac rfl rfl (fun x wq hd hC K hK hKw=>?_),ac rfl rfl (fun x wq hd hC K hK hKw=>?_),ac rfl rfl (fun x wq hd hC K hK hKw=>?_),ac rfl rfl (fun x wq hd hC K hK hKw=>?_),au 0 rfl rfl (fun x wq hd hS K hK=>?_),ac rfl rfl (fun x wq hd hC K hK hKw=>?_),trivial⟩
  ·exact bD Tryz.underlying32 rfl rfl (by rfl) (hC.1) (hK _ rfl)
  ·have h0:x 0=.pointer (some ⟨a,0,none⟩):=ae hd 0 (by kernel_rfl);exact am (by rw[h0];kernel_rfl) (hK _ rfl)
  ·have h1:x 1=.pointer (some ⟨a,0,none⟩):=ae hd 1 (by kernel_rfl);exact am (by rw[h1];kernel_rfl) (hK _ rfl)
  ·have h2:x 2=.pointer (some ⟨a,7,none⟩):=ae hd 2 (by kernel_rfl);exact bD Tryz.underlying125 rfl rfl (by rw[h2];rfl) (hC.2.1) (hK _ rfl)
  ·exact am (by kernel_rfl) (hK _ rfl)
  ·have h4:x 4=.pointer (some ⟨B3,0,none⟩):=ae hd 4 (by kernel_rfl);exact bD Tryz.underlying3 rfl rfl (by rw[h4];rfl) (hC.2.2.1) (hK _ rfl)
  ·exact am (by kernel_rfl) (hK _ rfl)
  ·have h6:x 6=.pointer (some ⟨B3,1,none⟩):=ae hd 6 (by kernel_rfl);exact bD Tryz.underlying3 rfl rfl (by rw[h6];rfl) (hC.2.2.2) (hK _ rfl)
  ·have h7:x 7=.int .i64 (body.length:Nat):=ae hd 7 (by kernel_rfl);refine bd (by rw[h7];kernel_rfl) (HSz.out wq) ?_;rintro e w3 ⟨rfl,rfl⟩;exact⟨_,rfl,hK _ rfl⟩
  ·exact am (by kernel_rfl) (hK _ rfl)
  ·have h3:x 3=.pointer (some ⟨ab,0,none⟩):=ae hd 3 (by kernel_rfl);have h5:x 5=.int .i64 (at_:Nat):=ae hd 5 (by kernel_rfl);have h8:x 8=.int .i64 ((body.length:Int)+9):=ae hd 8 (by kernel_rfl);have h9:x 9=.func (.func 131) #[] #[.pointer (some ⟨B3,0,none⟩),.pointer (some ⟨B2,0,none⟩),.pointer (some ⟨B6,0,none⟩)]:=ae hd 9 (by kernel_rfl);refine bd (by rw[h3,h5,h8,h9];kernel_rfl) (HW.out wq hS) ?_;rintro e w3 ⟨rfl,hp⟩;exact⟨_,rfl,hK _ _ rfl hp⟩
  ·have h10:x 10=.nilIface:=ae hd 10 (by kernel_rfl);exact am (by rw[h10];kernel_rfl) (hK _ rfl)
 case hC =>
  intro vs W hS
  have key:∀{F:HF},Sat W F->(∀x,cnt x R2<=cnt x F)->W.cell? ⟨B2,0,none⟩=some (.pointer (some ⟨a,0,none⟩))/\W.cell? ⟨a,7,none⟩=some (.pointer (some ⟨ab,0,none⟩))/\W.cell? ⟨B3,0,none⟩=some (.int .i64 (at_:Nat))/\W.cell? ⟨B3,1,none⟩=some (.int .i64 (body.length:Nat)):=fun hs hm=>by
   have h1:=hs.sub hm;rw[HT.y]at h1;have h2:=h1.sub (G:=(a,Is (aO X))::aE d L) (fun x=>by have h1:=HH.b x;rw[aB]at h1;simp only[aB];omega);refine⟨aa h1.tail.Q5 0 rfl,?_,aa h1.Q5 0 rfl,aa h1.Q5 1 rfl⟩;rw[HH.t];exact aa h2.Q5 7 rfl
  match vs,hS with
  | [],hT=>exact key hT.sat (fun x=>by rw[HT.b];simp only[aB,an];omega)
  | [_],⟨v,sp,_,_,hT⟩=>exact key hT.sat bw
 case h0=>exact HT.a.drew
 case he =>
  intro x w3 hφ hS;obtain⟨v,sp,hok,hAo,hT⟩:=hS;have e11:x 11=.nilIface:=fG hφ 11 (by decide) (by decide);simp only[e11];obtain⟨av,cv,rfl,-,-,-,-⟩:=aV (dX hT.sat.left hok);have c6:=aa (hT.sat.Q7 (b:=B6) (o:=eo (.slice av body.length cv)) (by simp)) 0 rfl;have H3:=Hq3 hok hAo hT;clear hφ hok hAo hT e11;go_wp2_with fail;go_ret2;refine⟨av,cv,sp,rfl,H3.a,H3.b,H3.y.drop ?_⟩;rw[HT.y];exact bw
end
section
open Go.RowKit Go.Maps
structure Ent (κ:Type) where
 key:κ
 val:Value
 born:Nat
section
variable {κ : Type} [DecidableEq κ]
set_option linter.unusedSectionVars false
def dM(enc:κ->Value)(e:Ent κ):MapEntry:=⟨enc e.key,e.val,e.born⟩
def aR(enc:κ->Value)(l:List (Ent κ))(c:Nat):Obj:=.map (l.map (dM enc)).toArray c
def dW(l:List (Ent κ))(k:κ):Option Value:=(l.find? (fun e=>decide (e.key=k))).map (·.val)
def jk(l:List (Ent κ))(k:κ):Bool:=l.any (fun e=>decide (e.key=k))
def qD(l:List (Ent κ))(k:κ)(v:Value):List (Ent κ):=l.map (fun e=>if e.key=k then { e with val:=v } else e)
def gA(l:List (Ent κ))(c:Nat)(k:κ)(v:Value):List (Ent κ):=if jk l k then qD l k v else l++[⟨k,v,c⟩]
def cD(l:List (Ent κ))(c:Nat)(k:κ):Nat:=if jk l k then c else c+1
def wW(l:List (Ent κ))(k:κ):List (Ent κ):=l.filter (fun e => !decide (e.key=k))
structure MapOk (Ok:κ->Prop) (l:List (Ent κ)) (c:Nat):Prop where
 nodup:(l.map (·.key)).Nodup
 borns:(l.map (·.born)).Nodup
 lt:∀e∈l,e.born<c
 ok:∀e∈l,Ok e.key
structure EncOk (P:Program) (k:TypeId) (enc:κ->Value) (Ok:κ->Prop):Prop where
 keyed:Keyed P k
 inj:∀a b,enc a=enc b->a=b
 key:∀a,Ok a->∃l,keyOf P k (enc a)=some l
theorem kY{l:List (Ent κ)}{k:κ}{v:Value}(h:dW l k=some v):∃e∈l,e.key=k/\e.val=v:=by
 unfold dW at h
 cases hf:l.find? (fun e=>decide (e.key=k))with
 | none=>rw[hf]at h;simp at h
 | some e =>
  rw[hf]at h;have h1:=List.find?_some hf;exact⟨e,List.mem_of_find?_eq_some hf,by simpa using h1,by simpa using h⟩
theorem gS{l:List (Ent κ)}{k:κ}:dW l k=none↔∀e∈l,e.key≠k:=by
 unfold dW;simp
theorem kZ{l:List (Ent κ)}{k:κ}:jk l k=true↔∃e∈l,e.key=k:=by simp[jk]
theorem gt{l:List (Ent κ)}{k:κ}:jk l k=(dW l k).isSome:=by
 cases h:dW l k with
 | none=>rw[gS]at h;simp[jk];exact h
 | some v=>obtain⟨e,h1,h2,_⟩:=kY h;simp[jk];exact⟨e,h1,h2⟩
theorem qt{l:List (Ent κ)}(h:(l.map (·.key)).Nodup){i j:Nat}{a b:Ent κ}(ha:l[i]?=some a)(hb:l[j]?=some b)(hk:a.key=b.key):i=j:=by
 obtain⟨hi,rfl⟩:=List.getElem?_eq_some_iff.1 ha;obtain⟨hj,rfl⟩:=List.getElem?_eq_some_iff.1 hb;have hp:=List.pairwise_iff_getElem.1 h;rcases Nat.lt_trichotomy i j with hl|hl|hl
 ·exact absurd (by rw[List.getElem_map,List.getElem_map];exact hk) (hp i j (by simpa using hi) (by simpa using hj) hl)
 ·exact hl
 ·exact absurd (by rw[List.getElem_map,List.getElem_map];exact hk.symm) (hp j i (by simpa using hj) (by simpa using hi) hl)
theorem sM{l:List (Ent κ)}(h:(l.map (·.key)).Nodup){e:Ent κ}(he:e∈l):dW l e.key=some e.val:=by
 cases hg:dW l e.key with
 | none=>exact absurd rfl (gS.1 hg e he)
 | some v =>
  obtain⟨e',h1,h2,h3⟩:=kY hg;obtain⟨i,hi⟩:=List.mem_iff_getElem?.1 he;obtain⟨j,hj⟩:=List.mem_iff_getElem?.1 h1;have:=qt h hj hi h2;subst this;rw[hi]at hj
  cases hj
  rw[<- h3]
theorem mC{P:Program}{k:TypeId}{enc:κ->Value}{Ok:κ->Prop}(E:EncOk P k enc Ok){l:List (Ent κ)}{c:Nat}(hm:MapOk Ok l c){x:κ}(hx:Ok x)(w:World):
  ((Instr.findKey k (enc x) (l.map (dM enc))).run P w=.ok none w/\∀e∈l,e.key≠x) \/
  ∃i e,(Instr.findKey k (enc x) (l.map (dM enc))).run P w=.ok (some (i,e.val)) w/\l[i]?=some e/\e.key=x:=by
 obtain⟨lx,hlx⟩:=E.key x hx
 rcases E.keyed.find w hlx (l.map (dM enc)) (fun e he=>by
  obtain⟨e',h1,rfl⟩:=List.mem_map.1 he;exact E.key e'.key (hm.ok e' h1))with⟨h1,h2⟩|⟨j,e,h1,h2,h3⟩
 ·exact .inl ⟨h1,fun e he hk=>h2 (dM enc e) (List.mem_map.2 ⟨e,he,rfl⟩) (by rw[<- hk];rfl)⟩
 ·rw[List.getElem?_map]at h2
  cases hl:l[j]? with
  | none=>rw[hl]at h2;simp at h2
  | some e' =>
   rw[hl]at h2;simp only[Option.map_some,Option.some.injEq]at h2;subst h2;exact .inr ⟨j,e',h1,hl,E.inj _ _ h3⟩
variable {P : Program} {k t ev : TypeId} {enc : κ -> Value} {Ok : κ -> Prop}
theorem tN(E:EncOk P k enc Ok)(ht:P.underlying t=some (.map k ev)){w:World}{b:Nat}{l:List (Ent κ)}{c:Nat}(hb:w.heap[b]?=some (aR enc l c))(hm:MapOk Ok l c){z:Value}(hz:(zeroValue ev).run P w=.ok z w){x:κ}(hx:Ok x):
  (Instr.lookup t (.map (some b)) (enc x) false).run P w=.ok ((dW l x).getD z) w:=by
 obtain⟨lx,hlx⟩:=E.key x hx;rcases mC E hm hx w with⟨h1,h2⟩|⟨i,e,h1,h2,h3⟩
 ·rw[gS.2 h2];simp[Instr.lookup,run_underlying ht,MapKept.run_getObj_map hb,E.keyed.check w _ hlx,h1,hz,Result.andThen]
 ·subst h3;rw[sM hm.nodup (List.mem_of_getElem? h2)];simp[Instr.lookup,run_underlying ht,MapKept.run_getObj_map hb,E.keyed.check w _ hlx,h1,Result.andThen]
theorem tP(E:EncOk P k enc Ok)(ht:P.underlying t=some (.map k ev)){w:World}{b:Nat}{l:List (Ent κ)}{c:Nat}(hb:w.heap[b]?=some (aR enc l c))(hm:MapOk Ok l c){z:Value}(hz:(zeroValue ev).run P w=.ok z w){x:κ}(hx:Ok x):
  (Instr.lookup t (.map (some b)) (enc x) true).run P w=.ok (.tuple #[(dW l x).getD z,.bool (jk l x)]) w:=by
 obtain⟨lx,hlx⟩:=E.key x hx;rw[gt];rcases mC E hm hx w with⟨h1,h2⟩|⟨i,e,h1,h2,h3⟩
 ·rw[gS.2 h2];simp[Instr.lookup,run_underlying ht,MapKept.run_getObj_map hb,E.keyed.check w _ hlx,h1,hz,Result.andThen]
 ·subst h3;rw[sM hm.nodup (List.mem_of_getElem? h2)];simp[Instr.lookup,run_underlying ht,MapKept.run_getObj_map hb,E.keyed.check w _ hlx,h1,Result.andThen]
open Go.ChangeMaps (setBlock modify_eq_set)
theorem Dz{l:List (Ent κ)}(h:(l.map (·.key)).Nodup){i:Nat}{e:Ent κ}(hi:l[i]?=some e)(v:Value):l.set i { e with val:=v }=qD l e.key v:=by
 apply List.ext_getElem?;intro j;unfold qD;rw[List.getElem?_set,List.getElem?_map];by_cases hj:i=j
 ·subst hj;obtain⟨hlt,he⟩:=List.getElem?_eq_some_iff.1 hi;simp[hlt,he]
 ·rw[if_neg hj]
  cases hl:l[j]? with
  | none=>rfl
  | some e' =>
   have:e'.key≠e.key:=fun hk=>hj (qt h hi hl hk.symm)
   simp[this]
theorem E2(E:EncOk P k enc Ok)(ht:P.underlying t=some (.map k ev)){w:World}{b:Nat}{l:List (Ent κ)}{c:Nat}(hb:w.heap[b]?=some (aR enc l c))(hm:MapOk Ok l c){x:κ}(hx:Ok x)(v:Value):
  (Instr.mapUpdate t (.map (some b)) (enc x) v).run P w=.ok () (setBlock w b (aR enc (gA l c x v) (cD l c x))):=by
 obtain⟨lx,hlx⟩:=E.key x hx;unfold gA cD;rcases mC E hm hx w with⟨h1,h2⟩|⟨i,e,h1,h2,h3⟩
 ·have hh:jk l x=false:=by rw[gt,gS.2 h2];rfl
  simp[hh,Instr.mapUpdate,run_underlying ht,MapKept.run_getObj_map hb,E.keyed.check w false hlx,h1,MapKept.run_setObj_map _ hb,Result.andThen,setBlock,aR,dM]
 ·subst h3;have hh:jk l e.key=true:=kZ.2 ⟨e,List.mem_of_getElem? h2,rfl⟩;have hj:(l.map (dM enc)).toArray[i]?=some (dM enc e):=by simp[h2]
  have hlist:(l.map (dM enc)).modify i (fun e'=>{ e' with key:=enc e.key,val:=v })=(qD l e.key v).map (dM enc):=by
   rw[modify_eq_set _ _ _ (dM enc e) (by simp[h2]),<- Dz hm.nodup h2 v,List.map_set];rfl
  simp[hh,Instr.mapUpdate,run_underlying ht,MapKept.run_getObj_map hb,E.keyed.check w false hlx,h1,h2,dM,E.keyed.stays w hlx,MapKept.run_setObj_map _ hb,Result.andThen,setBlock,aR];rw[<- hlist]
theorem Dx{ty:TypeId}(E:EncOk P k enc Ok)(ht:P.underlying t=some (.map k ev)){w:World}{b:Nat}{l:List (Ent κ)}{c:Nat}(hb:w.heap[b]?=some (aR enc l c))(hm:MapOk Ok l c){x:κ}(hx:Ok x):
  (Builtin.delete_ #[t,k] ty #[.map (some b),enc x]).run P w=.ok (.tuple #[]) (setBlock w b (aR enc (wW l x) c)):=by
 obtain⟨lx,hlx⟩:=E.key x hx;unfold wW;rcases mC E hm hx w with⟨h1,h2⟩|⟨i,e,h1,h2,h3⟩
 ·have:l.filter (fun e => !decide (e.key=x))=l:=List.filter_eq_self.2 (fun e he=>by simp[h2 e he]);rw[this];simp[Builtin.delete_,run_underlying ht,MapKept.run_getObj_map hb,E.keyed.check w _ hlx,h1,MapKept.run_setObj_map _ hb,Result.andThen,setBlock,aR]
 ·subst h3;have hil:i<l.length:=(List.getElem?_eq_some_iff.1 h2).1
  have hlist:(l.map (dM enc)).eraseIdx i=(l.filter (fun e' => !decide (e'.key=e.key))).map (dM enc):=by
   have e1:l.filter (fun e' => !decide (e'.key=e.key))=l.eraseIdx i:=by
    have:=ChangeMaps.filter_eq_eraseIdx (fun e':Ent κ=>decide (e'.key=e.key)) l i e h2 (by simp) (by
     refine(List.pairwise_map.1 hm.nodup).imp ?_;intro a b hab hk;simp only[decide_eq_true_eq]at hk;exact hab (hk.1.trans hk.2.symm))
    exact this
   rw[e1,ChangeMaps.map_eraseIdx]
  simp[Builtin.delete_,run_underlying ht,MapKept.run_getObj_map hb,E.keyed.check w _ hlx,h1,MapKept.run_setObj_map _ hb,Result.andThen,setBlock,aR];rw[<- hlist]
theorem vi(P:Program)(w:World)(k:IntKind)(n:Int):(asInt (.int k n)).run P w=.ok n w:=rfl
def tf(l:List (Ent κ))(c:Nat)(k:κ)(z:Value):List (Ent κ):=if jk l k then l else l++[⟨k,z,c⟩]
theorem pw{l:List (Ent κ)}(h:(l.map (·.born)).Nodup)(enc:κ->Value){i:Nat}{e:Ent κ}(hi:l[i]?=some e):(l.map (dM enc)).findIdx? (fun e'=>(e'.born:Int)==(e.born:Int))=some i:=by
 obtain⟨hlt,he⟩:=List.getElem?_eq_some_iff.1 hi;rw[List.findIdx?_eq_some_iff_getElem];refine⟨by simpa using hlt,by simp[dM,he],?_⟩;intro j hj;simp only[List.getElem_map,dM,beq_iff_eq,Int.natCast_inj];intro hb;have hp:=List.pairwise_iff_getElem.1 h j i (by simp;omega) (by simpa using hlt) hj;exact hp (by simp[hb,he])
def ki(l:List (Ent κ))(c:Nat)(k:κ):Nat:=match l.find? (fun e=>decide (e.key=k))with|some e=>e.born|none=>c
theorem Bh{l:List (Ent κ)}{c:Nat}{k:κ}(h:∀e∈l,e.key≠k):ki l c k=c:=by
 unfold ki;have:l.find? (fun e=>decide (e.key=k))=none:=by rw[List.find?_eq_none];intro e he;simpa using h e he
 rw[this]
theorem Bi{l:List (Ent κ)}{c:Nat}(h:(l.map (·.key)).Nodup){i:Nat}{e:Ent κ}(hi:l[i]?=some e):ki l c e.key=e.born:=by
 unfold ki
 cases hf:l.find? (fun e'=>decide (e'.key=e.key))with
 | none=>rw[List.find?_eq_none]at hf;exact absurd (hf e (List.mem_of_getElem? hi)) (by simp)
 | some e' =>
  obtain⟨j,hj⟩:=List.mem_iff_getElem?.1 (List.mem_of_find?_eq_some hf);have hk:e'.key=e.key:=by simpa using List.find?_some hf
  have:=qt h hj hi hk;subst this;rw[hi]at hj
  cases hj
  rfl
theorem wg(E:EncOk P k enc Ok)(ht:P.underlying t=some (.map k ev)){w:World}{b:Nat}{l:List (Ent κ)}{c:Nat}(hb:w.heap[b]?=some (aR enc l c))(hm:MapOk Ok l c){z:Value}(hz:(zeroValue ev).run P w=.ok z w){x:κ}(hx:Ok x):
  (Instr.mapEntry t (.map (some b)) (enc x)).run P w=.ok (.tuple #[(dW l x).getD z,.int .i64 (ki l c x)]) (setBlock w b (aR enc (tf l c x z) (cD l c x))) /\
   ∀(W:World) (v:Value),W.heap[b]?=some (aR enc (tf l c x z) (cD l c x))->(Instr.entryStore t (.map (some b)) (.int .i64 (ki l c x)) v).run P W=.ok () (setBlock W b (aR enc (gA l c x v) (cD l c x))):=by
 obtain⟨lx,hlx⟩:=E.key x hx;unfold gA cD tf;rcases mC E hm hx w with⟨h1,h2⟩|⟨i,e,h1,h2,h3⟩
 ·have hh:jk l x=false:=by rw[gt,gS.2 h2];rfl
  rw[gS.2 h2,Bh h2];refine⟨?_,?_⟩
  ·simp[hh,Instr.mapEntry,run_underlying ht,MapKept.run_getObj_map hb,E.keyed.check w false hlx,h1,hz,MapKept.run_setObj_map _ hb,Result.andThen,setBlock,aR,dM,goInt]
  ·intro W v hW;simp only[hh]at hW ⊢
   have hn:((l++[(⟨x,z,c⟩:Ent κ)]).map (·.born)).Nodup:=by
    rw[List.map_append,List.nodup_append];refine⟨hm.borns,by simp,?_⟩;intro a ha b hb;obtain⟨e,he,rfl⟩:=List.mem_map.1 ha;simp only[List.map_cons,List.map_nil,List.mem_singleton]at hb;have:=hm.lt e he;omega
   have hf:=pw hn enc (i:=l.length) (e:=⟨x,z,c⟩) (by simp);have hf2:((l++[(⟨x,z,c⟩:Ent κ)]).map (dM enc)).toArray.findIdx? (fun e'=>(e'.born:Int)==(c:Int))=some l.length:=by simpa using hf
   have hmod:((l++[(⟨x,z,c⟩:Ent κ)]).map (dM enc)).modify l.length (fun e'=>{ e' with val:=v })=(l++[(⟨x,v,c⟩:Ent κ)]).map (dM enc):=by
    rw[modify_eq_set _ _ _ (dM enc ⟨x,z,c⟩) (by simp)];simp[dM]
   have hW2:W.heap[b]?=some (.map ((l++[(⟨x,z,c⟩:Ent κ)]).map (dM enc)).toArray (c+1)):=hW;unfold aR;simp only[Bool.false_eq_true,if_false];rw[<- hmod];unfold Instr.entryStore;simp only[Sem.run_bind,MapKept.run_getObj_map hW2,Result.andThen,vi,hf2];rw[MapKept.run_setObj_map _ hW2];simp[setBlock]
 ·subst h3;have hh:jk l e.key=true:=kZ.2 ⟨e,List.mem_of_getElem? h2,rfl⟩;rw[sM hm.nodup (List.mem_of_getElem? h2),Bi hm.nodup h2];refine⟨?_,?_⟩
  ·have hlist:(l.map (dM enc)).modify i (fun e'=>{ e' with key:=enc e.key })=l.map (dM enc):=by
    rw[modify_eq_set _ _ _ (dM enc e) (by simp[h2])];have:({ dM enc e with key:=enc e.key }:MapEntry)=dM enc e:=rfl;rw[this];apply List.ext_getElem?;intro j;rw[List.getElem?_set];by_cases hj:i=j
    ·subst hj;obtain⟨hlt,he⟩:=List.getElem?_eq_some_iff.1 h2;simp[hlt,he]
    ·simp[hj]
   simp[hh,Instr.mapEntry,run_underlying ht,MapKept.run_getObj_map hb,E.keyed.check w false hlx,h1,h2,dM,E.keyed.stays w hlx,MapKept.run_setObj_map _ hb,Result.andThen,setBlock,aR,goInt];rw[hlist]
  ·intro W v hW;simp only[hh,if_true]at hW ⊢;have hf:=pw hm.borns enc h2;have hf2:(l.map (dM enc)).toArray.findIdx? (fun e'=>(e'.born:Int)==(e.born:Int))=some i:=by simpa using hf
   have hmod:(l.map (dM enc)).modify i (fun e'=>{ e' with val:=v })=(qD l e.key v).map (dM enc):=by
    rw[modify_eq_set _ _ _ (dM enc e) (by simp[h2]),<- Dz hm.nodup h2 v,List.map_set];rfl
   have hW2:W.heap[b]?=some (.map (l.map (dM enc)).toArray c):=hW;unfold aR;rw[<- hmod];unfold Instr.entryStore;simp only[Sem.run_bind,MapKept.run_getObj_map hW2,Result.andThen,vi,hf2];rw[MapKept.run_setObj_map _ hW2];simp[setBlock]
theorem MapOk.put{l:List (Ent κ)}{c:Nat}(h:MapOk Ok l c){x:κ}(hx:Ok x)(v:Value):MapOk Ok (gA l c x v) (cD l c x):=by
 unfold gA cD
 cases hh:jk l x with
 | true =>
  simp only[if_true]
  have hb:(qD l x v).map (·.born)=l.map (·.born):=by
   unfold qD;rw[List.map_map];apply List.map_congr_left;intro e _;simp only[Function.comp];split<;>rfl
  have hk:(qD l x v).map (·.key)=l.map (·.key):=by
   unfold qD;rw[List.map_map];apply List.map_congr_left;intro e _;simp only[Function.comp];split<;>rfl
  refine⟨hk ▸ h.nodup,hb ▸ h.borns,?_,?_⟩
  ·intro e he;obtain⟨e',h1,rfl⟩:=List.mem_map.1 he;have:=h.lt e' h1;split<;>exact this
  ·intro e he;obtain⟨e',h1,rfl⟩:=List.mem_map.1 he;have:=h.ok e' h1;split<;>exact this
 | false =>
  simp only[Bool.false_eq_true,if_false]
  have hn:∀e∈l,e.key≠x:=fun e he hk=>by
   have:=kZ.2 ⟨e,he,hk⟩;rw[hh]at this
   cases this
  refine⟨?_,?_,?_,?_⟩
  ·rw[List.map_append,List.nodup_append];refine⟨h.nodup,by simp,?_⟩;intro a ha b hb;obtain⟨e,he,rfl⟩:=List.mem_map.1 ha;simp only[List.map_cons,List.map_nil,List.mem_singleton]at hb;exact hb ▸ hn e he
  ·rw[List.map_append,List.nodup_append];refine⟨h.borns,by simp,?_⟩;intro a ha b hb;obtain⟨e,he,rfl⟩:=List.mem_map.1 ha;simp only[List.map_cons,List.map_nil,List.mem_singleton]at hb;have:=h.lt e he;omega
  ·intro e he;rcases List.mem_append.1 he with h'|h'
   ·have:=h.lt e h';omega
   ·simp only[List.mem_singleton]at h';subst h';simp
  ·intro e he;rcases List.mem_append.1 he with h'|h'
   ·exact h.ok e h'
   ·simp only[List.mem_singleton]at h';subst h';exact hx
theorem MapOk.del{l:List (Ent κ)}{c:Nat}(h:MapOk Ok l c)(x:κ):MapOk Ok (wW l x) c :=
 ⟨h.nodup.sublist (List.filter_sublist.map _),h.borns.sublist (List.filter_sublist.map _),fun e he=>h.lt e (List.mem_filter.1 he).1,fun e he=>h.ok e (List.mem_filter.1 he).1⟩
theorem zh{l m:List (Ent κ)}{k:κ}:dW (l++m) k=(dW l k).or (dW m k):=by
 unfold dW;rw[List.find?_append]
 cases l.find? (fun e=>decide (e.key=k))<;>simp
theorem Ep{l:List (Ent κ)}{c:Nat}{x y:κ}{v:Value}:dW (gA l c x v) y=if y=x then some v else dW l y:=by
 unfold gA
 cases hh:jk l x with
 | true =>
  simp only[if_true]
  have:∀l:List (Ent κ),dW (qD l x v) y=if y=x then(dW l x).map (fun _=>v)else dW l y:=by
   intro l;induction l with
   | nil=>simp[dW,qD]
   | cons e r ih =>
    simp only[dW,qD,List.map_cons,List.find?_cons]at ih ⊢;by_cases h1:e.key=x
    ·by_cases h2:y=x
     ·subst h2;simp[h1]
     ·simp only[h1,if_true,h2,if_false];have h3:decide (x=y)=false:=by simp;exact fun h=>h2 h.symm
      rw[h3];simp only[h2,if_false]at ih;exact ih
    ·simp only[h1,if_false];by_cases h4:e.key=y
     ·have h2:¬y=x:=fun h=>h1 (h4.trans h)
      simp[h4,h2]
     ·simp only[h4,decide_false];rw[ih]
  rw[this];rw[gt]at hh;by_cases h2:y=x
  ·subst h2;rw[if_pos rfl,if_pos rfl]
   cases hg:dW l y with
   | none=>rw[hg]at hh;cases hh
   | some u=>rfl
  ·rw[if_neg h2,if_neg h2]
 | false =>
  simp only[Bool.false_eq_true,if_false];rw[zh];have hn:dW l x=none:=by rw[gt]at hh;cases hg:dW l x<;>simp_all
  by_cases h2:y=x
  ·subst h2;rw[hn];simp[dW]
  ·rw[if_neg h2];have:dW [(⟨x,v,c⟩:Ent κ)] y=none:=gS.2 (by simp;exact fun h=>h2 h.symm);rw[this];simp
theorem cQ(w:World)(b:Nat)(o:Obj):Mods (fun k=>k=b) w (setBlock w b o):=by
 have:=(Mods.refl (fun k=>k=b) w).putObj (r:=b) (.inl rfl) o;exact this
theorem dU{w:World}{b:Nat}{o o':Obj}(h:w.heap[b]?=some o):(setBlock w b o').heap[b]?=some o':=by
 have:=ah h;simp[setBlock,this]
end
structure GE (γ:Type) where
 key:Bs
 born:Nat
 val:Value
 g:γ
def aN{γ:Type}(p:GE γ):Ent Bs:=⟨p.key,p.val,p.born⟩
def fU{γ:Type}(R:Value->γ->HF)(ps:List (GE γ)):HF:=ps.flatMap (fun p=>R p.val p.g)
def gOf{γ:Type}(d:γ)(ps:List (GE γ))(l:Bs):γ:=match ps.find? (fun p=>decide (p.key=l))with|some p=>p.g|none=>d
def eE{γ:Type}(z:Value)(ps:List (GE γ))(l:Bs):Value:=match ps.find? (fun p=>decide (p.key=l))with|some p=>p.val|none=>z
def gv{γ:Type}(ps:List (GE γ))(l:Bs):Bool:=ps.any (fun p=>decide (p.key=l))
def bI{γ:Type}(ps:List (GE γ))(l:Bs):List (GE γ):=ps.filter (fun p => !decide (p.key=l))
def eO{γ:Type}(ps:List (GE γ))(c:Nat)(l:Bs)(v:Value)(g:γ):List (GE γ) :=
 if gv ps l then ps.map (fun p=>if p.key=l then { p with val:=v,g:=g } else p)else ps++[⟨l,c,v,g⟩]
theorem de{γ:Type}(z:Value)(ps:List (GE γ))(l:Bs):(dW (ps.map aN) l).getD z=eE z ps l:=by
 unfold eE;induction ps with
 | nil=>rfl
 | cons p r ih =>
  unfold dW at ih ⊢;simp only[List.map_cons,List.find?_cons];by_cases h:p.key=l
  ·simp[aN,h]
  ·simp only[aN,h,decide_false];exact ih
theorem pE{γ:Type}(ps:List (GE γ))(l:Bs):jk (ps.map aN) l=gv ps l:=by
 unfold jk gv;rw[List.any_map];rfl
theorem iv{γ:Type}(ps:List (GE γ))(c:Nat)(l:Bs)(v:Value)(g:γ):(eO ps c l v g).map aN=gA (ps.map aN) c l v:=by
 unfold eO gA;rw[pE];split
 ·unfold qD;rw[List.map_map,List.map_map];apply List.map_congr_left;intro p _;simp only[Function.comp];by_cases h:p.key=l
  ·simp[h,aN]
  ·rw[if_neg h,if_neg (by exact h)]
 ·simp[aN]
theorem mt{γ:Type}(ps:List (GE γ))(l:Bs):(bI ps l).map aN=wW (ps.map aN) l:=by
 unfold bI wW;rw[List.filter_map];rfl
theorem tG{γ:Type}(R:Value->γ->HF)(z:Value)(d:γ)(hR:R z d=[]):∀(ps:List (GE γ)) (l:Bs),(ps.map (·.key)).Nodup->(fU R ps).Perm (R (eE z ps l) (gOf d ps l)++fU R (bI ps l)):=by
 intro ps l;induction ps with
 | nil=>intro _;simp[fU,eE,gOf,bI,hR]
 | cons p r ih =>
  intro hn;simp only[List.map_cons,List.nodup_cons]at hn;obtain⟨h1,h2⟩:=hn;have ih:=ih h2;simp only[fU,eE,gOf,bI,List.flatMap_cons,List.find?_cons,List.filter_cons]at ih ⊢;by_cases h:p.key=l
  ·have hf:r.filter (fun p => !decide (p.key=l))=r:=List.filter_eq_self.2 (fun q hq=>by
    simp only[Bool.not_eq_true',decide_eq_false_iff_not];intro hk;exact h1 (List.mem_map.2 ⟨q,hq,hk.trans h.symm⟩))
   simp only[h,decide_true,Bool.not_true,Bool.false_eq_true,if_false,hf];exact List.Perm.refl _
  ·simp only[h,decide_false,Bool.not_false,if_true,List.flatMap_cons];refine(List.Perm.append_left _ ih).trans ?_;rw[<- List.append_assoc,<- List.append_assoc];exact List.Perm.append_right _ List.perm_append_comm
theorem tF{γ:Type}(R:Value->γ->HF):∀(ps:List (GE γ)) (c:Nat) (l:Bs) (v:Value) (g:γ),(ps.map (·.key)).Nodup->(fU R (eO ps c l v g)).Perm (R v g++fU R (bI ps l)):=by
 intro ps c l v g hn;unfold eO;split
 ·rename_i hh
  have key:∀(ps:List (GE γ)),(ps.map (·.key)).Nodup->gv ps l=true->(fU R (ps.map (fun p=>if p.key=l then { p with val:=v,g:=g } else p))).Perm (R v g++fU R (bI ps l)):=by
   intro ps;induction ps with
   | nil=>intro _ h;simp[gv]at h
   | cons p r ih =>
    intro hn hh;simp only[List.map_cons,List.nodup_cons]at hn;obtain⟨h1,h2⟩:=hn;by_cases h:p.key=l
    ·have hne:∀q∈r,q.key≠l:=fun q hq hk=>h1 (List.mem_map.2 ⟨q,hq,hk.trans h.symm⟩)
     have hf:r.filter (fun p => !decide (p.key=l))=r:=List.filter_eq_self.2 (fun q hq=>by simp[hne q hq])
     have hm:r.map (fun p=>if p.key=l then { p with val:=v,g:=g } else p)=r:=by
      conv=>rhs;rw[<- List.map_id r]
      exact List.map_congr_left (fun q hq=>by simp[hne q hq])
     simp only[fU,bI,List.map_cons,List.flatMap_cons,List.filter_cons,h,if_true,decide_true,Bool.not_true,Bool.false_eq_true,if_false,hf,hm];exact List.Perm.refl _
    ·have hh2:gv r l=true:=by simpa[gv,h]using hh
     have ih:=ih h2 hh2;simp only[fU,bI,List.map_cons,List.flatMap_cons,List.filter_cons,h,if_false,decide_false,Bool.not_false,if_true]at ih ⊢;refine(List.Perm.append_left _ ih).trans ?_;rw[<- List.append_assoc,<- List.append_assoc];exact List.Perm.append_right _ List.perm_append_comm
  exact key ps hn hh
 ·rename_i hh
  have hf:bI ps l=ps:=List.filter_eq_self.2 (fun q hq=>by
   simp only[Bool.not_eq_true',decide_eq_false_iff_not];intro hk;apply hh;simp only[gv,List.any_eq_true,decide_eq_true_eq];exact⟨q,hq,hk⟩)
  rw[hf];unfold fU;rw[List.flatMap_append];simpa using List.perm_append_comm
theorem eL{γ:Type}(ps:List (GE γ)):(ps.map aN).map (·.key)=ps.map (·.key):=by rw[List.map_map];rfl
theorem fh{γ:Type}{ps:List (GE γ)}{c:Nat}{l:Bs}{v:Value}{g:γ}{p:GE γ}(h:p∈eO ps c l v g):(p∈ps/\p.key≠l)\/(p.key=l/\p.val=v/\p.g=g):=by
 unfold eO at h;split at h
 ·obtain⟨q,hq,rfl⟩:=List.mem_map.1 h;by_cases hk:q.key=l
  ·exact .inr (by simp[hk])
  ·rw[if_neg hk];exact .inl ⟨hq,hk⟩
 ·rename_i hh;rcases List.mem_append.1 h with h'|h'
  ·refine .inl ⟨h',fun hk=>hh ?_⟩;simp only[gv,List.any_eq_true,decide_eq_true_eq];exact⟨p,h',hk⟩
  ·simp only[List.mem_singleton]at h';subst h';exact .inr ⟨rfl,rfl,rfl⟩
theorem pB{γ:Type}(d:γ)(ps:List (GE γ))(c:Nat)(l m:Bs)(v:Value)(g:γ):gOf d (eO ps c l v g) m=if m=l then g else gOf d ps m:=by
 unfold eO;split
 ·rename_i hh
  have key:∀ps:List (GE γ),gOf d (ps.map (fun p=>if p.key=l then { p with val:=v,g:=g } else p)) m=if m=l/\gv ps l=true then g else gOf d ps m:=by
   intro ps;unfold gOf;induction ps with
   | nil=>simp[gv]
   | cons p r ih =>
    simp only[List.map_cons,List.find?_cons];by_cases h:p.key=l
    ·by_cases h2:m=l
     ·subst h2;simp[h,gv]
     ·have h3:¬l=m:=fun e=>h2 e.symm
      simp only[h,if_true,h3,decide_false,h2,false_and,if_false];simpa[h2]using ih
    ·by_cases h4:p.key=m
     ·have h2:¬m=l:=fun e=>h (h4.trans e)
      simp[h4,h2]
     ·simp only[h,if_false,h4,decide_false];rw[ih];simp[gv,h]
  rw[key,hh];simp
 ·rename_i hh;unfold gOf;rw[List.find?_append];by_cases h:m=l
  ·subst h
   have hn:ps.find? (fun p=>decide (p.key=m))=none:=by
    rw[List.find?_eq_none];intro q hq hk;apply hh;simp only[gv,List.any_eq_true];exact⟨q,hq,hk⟩
   simp[hn]
  ·have h2:¬l=m:=fun e=>h e.symm
   simp only[List.find?_cons,h2,decide_false,List.find?_nil,Option.or_none,h,if_false]
end
section
open Go.RowKit
abbrev cC(n:Int):Value:=.iface 49 (.int .i64 n)
def DG(X:ArchL)(ps:List Bs)(w:World)(e:Ending)(w':World):Prop:=e=.returned (if X.closed then cC 9 else if ps.all aA then .nilIface else cC 1)/\aX w w'
def Fv(ps:List Bs)(w:World)(i:Value)(wr:World):Prop:=∃k:Nat,k<=ps.length/\i=.int .i64 k/\aX w wr/\∀j (h:j<ps.length),j<k->aA ps[j]=true
theorem kh(a:Nat)(X:ArchL)(ad:Option Addr)(cap:Nat)(ps:List Bs)(w:World)(h:w.heap[a]?=some (aO X))(hp:ak w ad (ps.map str))(hl:ps.length<=1000000):
  Calls Tryz.prog 75 #[.pointer (some ⟨a,0,none⟩),.slice ad ps.length cap] w (DG X ps w):=by
 have a10:w.cell? ⟨a,10,none⟩=some (.bool X.closed):=aa h 10 rfl;have hal:=ah h;obtain⟨cl,hcl⟩:∃cl,cl=X.closed:=⟨_,rfl⟩;rw[<- hcl]at a10;have HC:=Hq3 hcl hp h;clear hcl hp h
 cases cl with
 | true =>
  go_enter Tryz.func75,Tryz.ntmps75;go_wp2_with fail;exact bodyPost_ret (results_tmp rfl _ _ _) rfl ⟨by rw[<- HC.a];rfl,Mods.refl _ _⟩
 | false =>
  go_enter Tryz.func75,Tryz.ntmps75;go_wp2_with fail;go_loopw [14] (fun v wr=>Fv ps w v wr) (fun v _=>ps.length-(intOf v).toNat)
  case atStart=>exact⟨0,Nat.zero_le _,rfl,Mods.refl _ _,fun j h hj=>by omega⟩
  case round =>
   obtain⟨k,hk,rfl,hs,hall⟩:=hrel;have HR:=Hq2 hs hall;clear hs hall;by_cases hlt:k<ps.length
   ·obtain⟨g,off,hg,hcell⟩:=HC.b.keep HR.a (fun _ _ _=>id) (by simpa using(by omega:0<ps.length));subst hg
    have hck:wr.cell? ⟨g,off+k,none⟩=some (str ps[k]):=by
     rw[hcell k (by simpa using hlt)];simp
    have HP:=qqH (fun W=>xj ps[k] W);obtain⟨p,hpe⟩:∃p,p=ps[k]:=⟨_,rfl⟩;rw[<- hpe]at hck HP;have HPE:=qqH hpe;clear hpe hcell;go_wp2_with fail;refine(HP.out _).mono ?_;rintro e w1 ⟨rfl,hs1⟩;obtain⟨b,hb⟩:∃b,b=aA p:=⟨_,rfl⟩;rw[<- hb];have HB:=Hq2 hb hs1;clear hb hs1
    cases b with
    | true =>
     go_wp2_with fail;go_roundw
     case rel=>exact⟨k+1,by omega,by go_num,HR.a.trans HB.z,fun j h hj=>by
      rcases Nat.lt_or_ge j k with h'|h'
      ·exact HR.z j h h'
      ·obtain rfl:j=k:=by omega
       rw[<- HPE.out];exact HB.a.symm⟩
     case measure=>simp[intOf];omega
    | false =>
     go_wp2_with fail;refine bodyPost_ret (results_tmp rfl _ _ _) rfl ⟨?_,HR.a.trans HB.z⟩;rw[<- HC.a,if_neg (by simp),if_neg]
     ·rfl
     ·intro hh;have:=List.all_eq_true.1 hh p (HPE.out ▸ List.getElem_mem hlt);rw[<- HB.a]at this
      cases this
   ·obtain rfl:k=ps.length:=by omega
    go_wp2_with fail;refine bodyPost_end (results_tmp rfl _ _ _) rfl ⟨?_,HR.a⟩;rw[<- HC.a,if_neg (by simp),if_pos]
    ·rfl
    refine List.all_eq_true.2 (fun p hp=>?_);obtain⟨j,hj,rfl⟩:=List.mem_iff_getElem.1 hp;exact HR.z j hj hj
end
end Go.Proofs.YtdhobpbngkainaaGreatDoor
