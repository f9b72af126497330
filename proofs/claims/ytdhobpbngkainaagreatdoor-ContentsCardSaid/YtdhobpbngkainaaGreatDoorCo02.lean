/- Ours. A part of the proof, made small by a program. -/
import Derived.Test.YtdhobpbngkainaaGreatDoorCo01
import Derived.Laws.RangeAny
import Derived.Laws.Closers25b
import Derived.RegionTactic
import Derived.BigQuiet
import Derived.Deep.QuietTactic
import Derived.Deep.RegionHeld3
import Derived.Deep.RegionWith
import Derived.Conc.LoneSelect
import Derived.Test.YtdhobpbngkainaaGreatDoorProg
import Derived.Deep.MidRow
import Derived.Laws.Rows
import Derived.StillTailTactics
import Derived.Deep.RegionLaw
import Derived.RangeFuncBox
import Derived.Great.BuildSlice
set_option maxRecDepth 100000
set_option maxHeartbeats 4000000
namespace Go.Proofs.YtdhobpbngkainaaGreatDoor
open Go.RowKit
theorem qbk {w:World} {b e n:Nat} {v:Value} {xs:List Value} (h:w.ownsRow b e 1 v n xs):∃ a cap,v=.slice a n cap∧xs.length=n∧n≤cap∧qaj w a xs∧∀ x,a=some x→v.ownBlock=some x.block:=by
 have hl:xs.length=n:=by simpa using h.1
 rcases h.2 with ⟨rfl,rfl⟩ | ⟨g,cap,cur,rfl,hb,hg,hnc,hcm,hcs,htk⟩
 ·exact ⟨none,0,rfl,hl,Nat.le_refl _,fun hp=>by omega,fun x hx=>by cases hx⟩
 ·refine ⟨_,cap,rfl,hl,hnc,fun _=>⟨g,0,rfl,fun j hj=>?_⟩,fun x hx=>by simp at hx;subst hx;rfl⟩
  rw [Nat.zero_add]
  refine qac hg j ?_
  have:(cur.toList.take (n*1))[j]?=some xs[j]:=by rw [htk];simp [hj]
  rw [List.getElem?_take] at this
  split at this
  ·simpa using this
  ·cases this
theorem qq9 {P:Program} {w:World} (t ty e:TypeId) (i:TypeInfo) (z:Value) (size bytes:Nat) (ht:P.underlying t=some (.slice e)) (hi:P.info? e=some i) (hz:i.zero=some z)
  (hsize:i.size=size) (hby:i.bytes=bytes) (hzs:z.cells.size=size) (hs0:0<size)
  (v:Value) (n:Nat) (xs:List Value) (hown:w.ownsRow 0 e size v n xs) (sa:Option Addr) (m c:Nat) (news:List Value) (hnl:news.length=m*size) (hnews:0<m→∃ ad,sa=some ad∧∀ j u,news[j]?=some u→w.cell? (ad.add j)=some u)
  (h1:∀ u∈news,u.oneCell'=true) (h63:n+m≤maxLen) (hbytes:(n+m)*bytes≤140737488355328) :
  ∃ v' w',(Builtin.append_ #[t,t] ty #[v,.slice sa m c]).run P w=.ok v' w'∧w'.ownsRow 0 e size v' (n+m) (xs++news)∧w.grownBy w' v.ownBlock∧(∀ g,v'.ownBlock=some g→v.ownBlock=some g∨w.heap.size≤g)∧(v'=.slice none 0 0↔v=.slice none 0 0∧m=0):=by
 rcases Nat.eq_zero_or_pos m with rfl | hp
 ·obtain rfl:news=[]:=List.eq_nil_of_length_eq_zero (by omega)
  exact ⟨v,w,qjs (P:=P) w t ty e i size ht hi v n xs hown sa c,by simpa using hown,⟨rfl,rfl,rfl,Nat.le_refl _,fun _ _ _=>rfl⟩,fun g h=>.inl h,by simp⟩
 ·obtain ⟨ad,rfl,hc⟩:=hnews hp
  obtain ⟨v',w',r,r1,r2,r3,r4⟩:=qgg (P:=P) w t ty e i z size bytes ht hi hz hsize hby hzs hs0 v n xs hown ad m c news hnl hc h1 h63 hbytes
  exact ⟨v',w',r,r1,r2,r4,r3⟩
theorem qct {P:Program} {o:Oper} {a:Act} {w a0:World} {K:Act→World→Prop} {Q:Exit→Act→World→Prop} {F G:HF} (s x:Operand) (t e:TypeId) (i:TypeInfo) (z:Value) (size bytes:Nat)
  (hop:o.op=.call { callee:=.builtin .append,args:=#[s,x],argTypes:=#[t,t] }) (ht:P.underlying t=some (.slice e)) (hi:P.info? e=some i) (hz:i.zero=some z) (hsize:i.size=size) (hby:i.bytes=bytes) (hzs:z.cells.size=size) (hs0:0<size)
  (v:Value) (n:Nat) (xs:List Value) (hs:a.eval s=v) (hT:Turns F (rowF e size v n xs++G) a0 w) (hok:RowOk size v n xs) (sa:Option Addr) (m c:Nat) (hx:a.eval x=.slice sa m c) (news:List Value) (hnl:news.length=m*size)
  (hnews:0<m→∃ ad,sa=some ad∧∀ j u,news[j]?=some u→w.cell? (ad.add j)=some u) (h1:∀ u∈news,u.oneCell'=true) (h63:n+m≤maxLen) (hbytes:(n+m)*bytes≤140737488355328)
  (hk:∀ v' w',RowOk size v' (n+m) (xs++news)→Turns F (rowF e size v' (n+m) (xs++news)++G) a0 w'→(v'=.slice none 0 0↔v=.slice none 0 0∧m=0)→K (a.put o.dst v') w'):o.wp P a w K Q:=by
 obtain ⟨v',w',hr,r1,r2,r3,r4⟩:=qq9 (P:=P) t o.type e i z size bytes ht hi hz hsize hby hzs hs0 v n xs (qbm hT.sat.left hok) sa m c news hnl hnews h1 h63 hbytes
 unfold Oper.wp execOp
 simp only [hop,resolve,invoke,builtin,Sem.run_bind,Sem.run_pure,Result.andThen_ok,List.map_toArray,List.map_cons,List.map_nil,hs,hx,hr]
 exact hk v' w' (qe5 r1).2 (hT.grow r1 r2 r3) r4
theorem qf0 {o:Oper} {a:Act} {w a0:World} {K:Act→World→Prop} {Q:Exit→Act→World→Prop} {F G:HF} (s x:Operand) (hop:o.op=.call { callee:=.builtin .append,args:=#[s,x],argTypes:=#[38,38] })
  (v:Value) (l:Bs) (hs:a.eval s=v) (hT:Turns F (bRow v l++G) a0 w) (hok:bOk v l) (sa:Option Addr) (m c:Nat) (hx:a.eval x=.slice sa m c) (r:Bs) (hm:m=r.length) (hc:qaj w sa (r.map enc8)) (hb:l.length+r.length≤137438953472)
  (hk:∀ av cv w',bOk (.slice av (l++r).length cv) (l++r)→Turns F (bRow (.slice av (l++r).length cv) (l++r)++G) a0 w'→(av=none→v=.slice none 0 0∧m=0)→K (a.put o.dst (.slice av (l++r).length cv)) w'):o.wp Tryz.prog a w K Q:=by
 obtain ⟨i0,hi0,hz1,hz2,hz3⟩:=info_parts qfc
 refine qct s x 38 5 i0 (.int .u8 0) 1 1 hop Tryz.underlying38 hi0 hz1 hz2 hz3 rfl (by decide) v l.length (l.map enc8) hs hT hok sa m c hx (r.map enc8) (by simp [hm]) (fun hp=>?_) (qc3 _) (by unfold maxLen;omega) (by omega) (fun v' w' h1 h2 h3=>?_)
 ·obtain ⟨g,off,e,hcc⟩:=hc (by simp;omega)
  exact ⟨_,e,fun j u hu=>by obtain ⟨hj,rfl⟩:=List.getElem?_eq_some_iff.1 hu;rw [Addr.add_lit];exact hcc j hj⟩
 ·have k1:bOk v' (l++r):=by unfold bOk;rw [List.length_append,List.map_append,← hm];exact h1
  have k2:Turns F (bRow v' (l++r)++G) a0 w':=by unfold bRow;rw [List.length_append,List.map_append,← hm];exact h2
  obtain ⟨av,cv,rfl,-,-,-,-⟩:=qbk (bOwns k2.sat.left k1)
  exact hk av cv w' k1 k2 (fun hn=>by
   subst hn
   refine h3.1 ?_
   have:=k1.2 rfl
   exact this.1)
theorem qak {P:Program} {ops:Array Oper} {rest:List Oper} {o:Oper} {a:Act} {w:World} {Q:Exit→Act→World→Prop} (hg:o.guard=none) (h:o.wp P a w (wpList P ops Q rest) Q):wpList P ops Q (o::rest) a w:=by
 unfold wpList
 rw [if_pos (by simp [Region.wanted,hg])]
 exact .inl h
theorem Turns.old {F G:HF} {a w:World} (h:Turns F G a w) {b:Nat} {o:Obj} (hb:a.heap[b]?=some o) (hn:b∉dom F):w.heap[b]?=some o:=h.mods.at hb hn
theorem qaj.turnsOld {F G:HF} {w w':World} {a:Option Addr} {xs:List Value} (h:qaj w a xs) (hT:Turns F G w w') (hn:∀ x,a=some x→x.block∉dom F):qaj w' a xs:=h.keep hT.mods (fun g off e=>hn ⟨g,off,none⟩ e)
abbrev str (l:List UInt8):Value:=.string ⟨l.toArray⟩
def qti (c:UInt8):Bool:=(97≤c.toNat&&c.toNat≤122) || (48≤c.toNat&&c.toNat≤57) || c.toNat==46 || c.toNat==45 || c.toNat==95
def qf3 (x:Nat):Bool:=(decide (97≤x)&&decide (x≤122)) || (decide (48≤x)&&decide (x≤57)) || x==46 || x==45 || x==95
theorem qor (c:UInt8):qti c=qf3 c.toNat:=rfl
def qco:Nat→List UInt8→Bool
 | m,[]=>decide (0<m)
 | m,c::r=>if c.toNat=47∧0<m then qco 0 r else if qti c then qco (m+1) r else false
def qa6 (l:List UInt8):Bool:=decide (l≠[])&&decide (l.length≤20)&&qco 0 l
theorem qtd {P:Program} (w:World) (s:ByteArray) (pos:Nat) (ty:TypeId) (h:pos<s.size) :
  (Instr.next (.pointer (some ⟨w.heap.size,0,none⟩)) true ty).run P (w.iter s pos) =
   .ok (.tuple #[.bool true,.int .i64 pos,.int .i32 ((Utf8.decode s pos).1:Nat)]) (w.iter s (pos+(Utf8.decode s pos).2)):=by
 simp only [Instr.next,getObj,setObj,Sem.run_bind,Sem.run,World.iter_heap,Result.andThen,h,if_true,World.iter_set]
 simp [goInt,Sem.run,World.iter_heap,World.iter_set]
theorem qwx (s:ByteArray) (pos:Nat) (h:pos<s.size) (ha:¬ (s[pos]'h).toNat<128):128≤(Utf8.decode s pos).1:=by
 have e:s.get! (pos+0)=s[pos]'h:=by
  show s.get! pos=_
  simp [ByteArray.get!,getElem!_pos,h]
  rfl
 unfold Utf8.decode
 simp only [e]
 rw [if_neg ha]
 split
 ·split
  ·simp only;omega
  ·simp [Utf8.runeError]
 split
 ·split
  ·rename_i h1;simp only [Bool.and_eq_true,decide_eq_true_eq,ge_iff_le] at h1;simp only;omega
  ·simp [Utf8.runeError]
 split
 ·split
  ·rename_i h1;simp only [Bool.and_eq_true,decide_eq_true_eq,ge_iff_le] at h1;simp only;omega
  ·simp [Utf8.runeError]
 ·simp [Utf8.runeError]
def qd9 (b:Bool) (w:World) (e:Ending) (w':World):Prop:=e=.returned (.bool b)∧Same w w'
theorem qvd (s:ByteArray) (w:World) (h:s.toList=[]):Calls Tryz.prog 122 #[.string s] w (qd9 false w):=by
 have h2:s.toList.isEmpty=true:=by rw [h];rfl
 go_enter Tryz.func122,Tryz.ntmps122
 go_wp2_with fail
 exact bodyPost_ret (results_tmp rfl _ _ _) rfl ⟨rfl,Mods.refl _ _⟩
theorem qvx (s:ByteArray) (w:World) (h:¬ s.toList=[]) (hl:¬ (s.size:Int)≤20):Calls Tryz.prog 122 #[.string s] w (qd9 false w):=by
 have h2:s.toList.isEmpty=false:=by cases h':s.toList;exact absurd h' h;rfl
 have h3:(20:Int)<(s.size:Int):=by omega
 go_enter Tryz.func122,Tryz.ntmps122
 go_wp2_with fail
 exact bodyPost_ret (results_tmp rfl _ _ _) rfl ⟨rfl,Mods.refl _ _⟩
theorem qjt {w a:World} (h:Same a w) (s:ByteArray) (p:Nat):Same a (w.iter s p):=h.alloc _
def q5x (s:ByteArray) (w:World) (B:Bool) (v:Value) (wr:World):Prop :=
 ∃ k m:Nat,k≤s.size∧m≤k∧v=.int .i64 m∧wr=w.iter s k∧qco m (s.data.toList.drop k)=B
theorem qzx (s:ByteArray) (w:World) (h:¬ s.toList=[]) (hl:(s.size:Int)≤20):Calls Tryz.prog 122 #[.string s] w (qd9 (qco 0 s.data.toList) w):=by
 have h2:s.toList.isEmpty=false:=by cases h':s.toList;exact absurd h' h;rfl
 have h3:¬ (20:Int)<(s.size:Int):=by omega
 go_enter Tryz.func122,Tryz.ntmps122
 go_wp2_with fail
 go_loopw [3] (fun v wr=>q5x s w (qco 0 s.data.toList) v wr) (fun _ wr=>s.size-wr.iterPos w.heap.size)
 case atStart=>exact ⟨0,0,Nat.zero_le _,Nat.le_refl _,rfl,rfl,by simp⟩
 case round =>
  obtain ⟨k,m,hk,hm,rfl,rfl,hB⟩:=hrel
  have HB:=Lib.hid hB
  clear hB h h2 h3
  by_cases hlt:k<s.size
  ·have hnx:=fun ty=>qtd (P:=Tryz.prog) w s k ty hlt
   have hsl:s.data.toList.length=s.size:=by simp
   have hdr:s.data.toList.drop k=s[k]::s.data.toList.drop (k+1):=by
    rw [List.drop_eq_getElem_cons (by omega)];rfl
   have HD:=Lib.hid hdr
   clear hdr
   by_cases ha:s[k].toNat<128
   ·have hdc:=decode_ascii s k hlt ha
    obtain ⟨x,hx⟩:∃ x,s[k].toNat=x:=⟨_,rfl⟩
    simp only [hdc,hx] at hnx
    have HX:=Lib.hid hx
    rw [hx] at ha
    clear hdc hx hsl
    have hB2:(if x=47∧0<m then qco 0 (s.data.toList.drop (k+1)) else if qf3 x then qco (m+1) (s.data.toList.drop (k+1)) else false)=qco 0 s.data.toList:=by
     have:=HB.out
     rw [HD.out,qco,HX.out,qor,HX.out] at this
     exact this
    have HB2:=Lib.hid hB2
    clear hB2 HB
    have hm1:(m:Int)≤9223372036854775806:=by omega
    by_cases c1:x=47
    ·subst c1
     by_cases hm0:0<m
     ·have HB3:=Lib.hid HB2.out
      have hm2:(0:Int)<(m:Int):=by omega
      go_wp2_with fail
      go_roundw
      case rel=>exact ⟨k+1,0,by omega,by omega,rfl,rfl,by have:=HB3.out;rwa [if_pos ⟨rfl,hm0⟩] at this⟩
      case measure=>simp;omega
     ·obtain rfl:m=0:=by omega
      have HB3:=Lib.hid HB2.out
      go_wp2_with fail
      refine bodyPost_ret (results_tmp rfl _ _ _) rfl ⟨?_,qjt (Mods.refl _ w) _ _⟩
      have:=HB3.out
      rw [if_neg (by omega),if_neg (by decide)] at this
      rw [← this];rfl
    ·by_cases c2:qf3 x=true
     ·have HC2:=Lib.hid c2
      have hne:¬ (x:Int)=47:=by omega
      have hp:(97≤x∧x≤122)∨(48≤x∧x≤57)∨x=46∨x=45∨x=95:=by
       unfold qf3 at c2
       simp only [Bool.or_eq_true,Bool.and_eq_true,decide_eq_true_eq,beq_iff_eq] at c2
       omega
      clear c2
      rcases hp with hp | hp | hp | hp | hp
      all_goals first | subst hp | (obtain ⟨hp1,hp2⟩:=hp;have hp3:(x:Int)≤122:=by omega)
      all_goals go_wp2_with fail
      all_goals
       go_roundw
       case rel=>exact ⟨k+1,m+1,by omega,by omega,by go_num,rfl,by have:=HB2.out;rwa [if_neg (by omega),if_pos HC2.out] at this⟩
       case measure=>simp;omega
     ·have HC2:=Lib.hid c2
      have hp:¬ (97≤x∧x≤122)∧¬ (48≤x∧x≤57)∧¬ x=46∧¬ x=45∧¬ x=95:=by
       unfold qf3 at c2
       simp only [Bool.or_eq_true,Bool.and_eq_true,decide_eq_true_eq,beq_iff_eq] at c2
       omega
      obtain ⟨hp1,hp2,hp3,hp4,hp5⟩:=hp
      clear c2
      go_wp2_with fail
      go_ways
      all_goals
       refine bodyPost_ret (results_tmp rfl _ _ _) rfl ⟨?_,qjt (Mods.refl _ w) _ _⟩
       have:=HB2.out
       rw [if_neg (by omega),if_neg HC2.out] at this
       rw [← this];rfl
   ·have hdc:=qwx s k hlt ha
    generalize hc:(Utf8.decode s k).1=c at hdc hnx
    have hB2:false=qco 0 s.data.toList:=by
     have:=HB.out
     rw [HD.out] at this
     simp only [qco] at this
     rw [if_neg (fun h=>ha (by omega))] at this
     have hp:qti s[k]=false:=by
      rw [qor]
      unfold qf3
      generalize s[k].toNat=y at ha
      simp only [Bool.or_eq_false_iff,Bool.and_eq_false_iff,decide_eq_false_iff_not,beq_eq_false_iff_ne]
      omega
     rw [hp] at this
     exact this
    have HB2:=Lib.hid hB2
    clear hB2 HB HD ha
    have e47:¬ (c:Int)=47:=by omega
    have e1:(97:Int)≤c:=by omega
    have e2:¬ (c:Int)≤122:=by omega
    have e3:(48:Int)≤c:=by omega
    have e4:¬ (c:Int)≤57:=by omega
    have e5:¬ (c:Int)=46:=by omega
    have e6:¬ (c:Int)=45:=by omega
    have e7:¬ (c:Int)=95:=by omega
    go_wp2_with fail
    go_ways
    all_goals
     refine bodyPost_ret (results_tmp rfl _ _ _) rfl ⟨?_,qjt (Mods.refl _ w) _ _⟩
     rw [← HB2.out];rfl
  ·obtain rfl:k=s.size:=by omega
   have hnx:=fun ty=>run_next_end (P:=Tryz.prog) w s s.size ty hlt
   have hB3:decide (0<m)=qco 0 s.data.toList:=by
    have:=HB.out
    rw [List.drop_of_length_le (by simp)] at this
    exact this
   have HB3:=Lib.hid hB3
   clear hB3 HB
   go_wp2_with fail
   refine bodyPost_end (results_tmp rfl _ _ _) rfl ⟨?_,qjt (Mods.refl _ w) _ _⟩
   rw [← HB3.out]
   simp
theorem qts (l:List UInt8) (w:World):Calls Tryz.prog 122 #[str l] w (qd9 (qa6 l) w):=by
 unfold qa6
 by_cases h0:l=[]
 ·subst h0
  exact qvd _ w ((toList_nil_iff_emptyBytes _).2 rfl)
 have hne:¬ (⟨l.toArray⟩:ByteArray).toList=[]:=by
  intro h
  apply h0
  have:=congrArg (fun b:ByteArray=>b.data.toList) ((toList_nil_iff_emptyBytes _).1 h)
  simpa using this
 have hsz:(⟨l.toArray⟩:ByteArray).size=l.length:=by simp [ByteArray.size]
 by_cases h1:l.length≤20
 ·have:=qzx ⟨l.toArray⟩ w hne (by rw [hsz];omega)
  simpa [h0,h1] using this
 ·have:=qvx ⟨l.toArray⟩ w hne (by rw [hsz];omega)
  simpa [h0,h1] using this
def RdAt (w:World) (rb:Nat) (a:Option Addr) (n cap:Nat) (bad:Bool):Prop:=w.heap[rb]?=some (.cells #[.slice a n cap,.bool bad] 282 (0,0))
def Rd (w:World) (rb:Nat) (l:Bs) (bad:Bool):Prop:=∃ a cap,RdAt w rb a l.length cap bad∧l.length≤cap∧qaj w a (l.map enc8)∧∀ x,a=some x→x.block<rb
def qjr (rb:Nat) (l:Bs) (bad:Bool) (n:Nat) (w:World) (e:Ending) (w':World):Prop :=
 (bad=true∨l.length<n→e=.returned (.slice none 0 0)∧Rd w' rb l true) ∧
 (bad=false→n≤l.length→(∃ a cap,e=.returned (.slice a n cap)∧n≤cap∧qaj w' a ((l.take n).map enc8)∧(∀ x,a=some x→x.block<rb))∧Rd w' rb (l.drop n) false) ∧
 Mods (fun k=>k=rb) w w'∧w'.heap.size=w.heap.size
theorem qg1 {w:World} {a:Option Addr} {l:Bs} (h:qaj w a (l.map enc8)) (n:Nat) (hn:n≤l.length):qaj w a ((l.take n).map enc8):=fun hp=>by
 simp at hp
 obtain ⟨g,off,ha,hc⟩:=h (by simp;omega)
 refine ⟨g,off,ha,fun j hj=>?_⟩
 have hj':j<n:=by simp at hj;omega
 rw [hc j (by simp;omega)]
 simp
theorem qd6 {w:World} {g off:Nat} {l:Bs} (h:qaj w (some ⟨g,off,none⟩) (l.map enc8)) (n:Nat) (hn:n≤l.length):qaj w (some ⟨g,off+n,none⟩) ((l.drop n).map enc8):=fun hp=>by
 simp at hp
 obtain ⟨g',off',ha,hc⟩:=h (by simp;omega)
 simp only [Option.some.injEq,Addr.mk.injEq,and_true] at ha
 obtain ⟨rfl,rfl⟩:=ha
 refine ⟨g,off+n,rfl,fun j hj=>?_⟩
 have hj':n+j<l.length:=by simp at hj;omega
 rw [Nat.add_assoc,hc (n+j) (by simpa using hj')]
 simp
theorem qvz {w:World} {a:Option Addr} {l:Bs} (h:qaj w a (l.map enc8)) (n:Nat) (hn:n≤l.length):qaj w (a.map (·.add n)) ((l.drop n).map enc8):=fun hp=>by
 simp at hp
 obtain ⟨g,off,rfl,hc⟩:=h (by simp;omega)
 have:=qd6 (fun _=>⟨g,off,rfl,hc⟩) n hn (by simpa using hp)
 simpa [Addr.add_lit] using this
theorem qx4 {a:Option Addr} {n rb:Nat} (h:∀ x,a=some x→x.block<rb):∀ x,a.map (·.add n)=some x→x.block<rb:=fun x hx=>by
 cases a with
 | none=>simp at hx
 | some y =>
  simp at hx;subst hx
  have:=h y rfl
  simpa [Addr.add,apply_ite Addr.block] using this
theorem qbr (w:World) (a:Option Addr):qaj w a (([]:Bs).map enc8):=fun hp=>by simp at hp
theorem q0v (rb:Nat) (l:Bs) (bad:Bool) (n:Nat) (w:World) (h:Rd w rb l bad) (hl:l.length≤1099511627776) (hn:n≤1099511627776) (hb:bad=true∨l.length<n) :
  Calls Tryz.prog 158 #[.pointer (some ⟨rb,0,none⟩),.int .i64 n] w (qjr rb l bad n w):=by
 obtain ⟨a,cap,hr,hcap,hc,hne⟩:=h
 have h0:=qac hr 0 (v:=.slice a l.length cap) (by simp)
 have h1:=qac hr 1 (v:=.bool bad) (by simp)
 have f1:=qa9 hr 1
 have hset:=qbf hr 1 (.bool true)
 have H:=Lib.hid (And.intro hset (And.intro hcap (And.intro hc hne)))
 clear hset hcap hc hne hr
 rcases hb with rfl | hb
 ·go_enter Tryz.func158,Tryz.ntmps158
  go_wp2
  go_ret
  obtain ⟨hset,hcap,hc,hne⟩:=H.out
  have hM:Mods (fun k=>k=rb) w (w.setCell ⟨rb,1,none⟩ (.bool true)):=(Mods.refl _ w).set1 _
  exact ⟨fun _=>⟨rfl,a,cap,by unfold RdAt;rw [hset];rfl,hcap,hc.keep hM (fun _ _ e=>Nat.ne_of_lt (hne _ e)),hne⟩,(fun h=>by cases h),hM,by simp⟩
 ·cases bad
  ·have hg:decide (l.length<n)=true:=by simpa using hb
   have hg2:((n:Int)≤(l.length:Int))=False:=by simp;omega
   go_enter Tryz.func158,Tryz.ntmps158
   go_wp2
   go_ret
   obtain ⟨hset,hcap,hc,hne⟩:=H.out
   have hM:Mods (fun k=>k=rb) w (w.setCell ⟨rb,1,none⟩ (.bool true)):=(Mods.refl _ w).set1 _
   exact ⟨fun _=>⟨rfl,a,cap,by unfold RdAt;rw [hset];rfl,hcap,hc.keep hM (fun _ _ e=>Nat.ne_of_lt (hne _ e)),hne⟩,(fun _ h=>by omega),hM,by simp⟩
  ·go_enter Tryz.func158,Tryz.ntmps158
   go_wp2
   go_ret
   obtain ⟨hset,hcap,hc,hne⟩:=H.out
   have hM:Mods (fun k=>k=rb) w (w.setCell ⟨rb,1,none⟩ (.bool true)):=(Mods.refl _ w).set1 _
   exact ⟨fun _=>⟨rfl,a,cap,by unfold RdAt;rw [hset];rfl,hcap,hc.keep hM (fun _ _ e=>Nat.ne_of_lt (hne _ e)),hne⟩,(fun h=>by cases h),hM,by simp⟩
theorem qz6 (rb:Nat) (l:Bs) (n:Nat) (w:World) (h:Rd w rb l false) (hl:l.length≤1099511627776) (hn:n≤l.length) :
  Calls Tryz.prog 158 #[.pointer (some ⟨rb,0,none⟩),.int .i64 n] w (qjr rb l false n w):=by
 obtain ⟨a,cap,hr,hcap,hc,hne⟩:=h
 have h0:=qac hr 0 (v:=.slice a l.length cap) (by simp)
 have h1:=qac hr 1 (v:=.bool false) (by simp)
 have f0:=qa9 hr 0
 have hset:=fun v=>qbf hr 0 v
 have H:=Lib.hid (And.intro hset (And.intro hcap (And.intro hc hne)))
 have hg:decide (l.length<n)=false:=by simp;omega
 clear hset hc hne hr
 go_enter Tryz.func158,Tryz.ntmps158
 go_wp2
 all_goals
  go_ret
  obtain ⟨hset,hcap',hc,hne⟩:=H.out
 ·have hln:l.length=n:=by omega
  have hM:Mods (fun k=>k=rb) w (w.setCell ⟨rb,0,none⟩ (.slice a (l.length-n) 0)):=(Mods.refl _ w).set1 _
  have hd:l.drop n=[]:=List.drop_of_length_le (by omega)
  refine ⟨fun h=>by rcases h with h | h;cases h;omega,fun _ _=>⟨⟨a,n,rfl,Nat.le_refl _,(qg1 hc n hn).keep hM (fun _ _ e=>Nat.ne_of_lt (hne _ e)),hne⟩,a,0,?_,?_,by rw [hd];exact qbr _ _,hne⟩,hM,by simp⟩
  ·unfold RdAt;rw [hset];simp
  ·simp;omega
 ·have hM:Mods (fun k=>k=rb) w (w.setCell ⟨rb,0,none⟩ (.slice (Option.map (fun x=>x.add n) a) (l.length-n) (cap-n))):=(Mods.refl _ w).set1 _
  refine ⟨fun h=>by rcases h with h | h;cases h;omega,fun _ _=>⟨⟨a,cap,rfl,by omega,(qg1 hc n hn).keep hM (fun _ _ e=>Nat.ne_of_lt (hne _ e)),hne⟩,Option.map (fun x=>x.add n) a,cap-n,?_,?_,(qvz hc n hn).keep hM (fun _ _ e=>Nat.ne_of_lt (qx4 hne _ e)),qx4 hne⟩,hM,by simp⟩
  ·unfold RdAt;rw [hset];simp
  ·simp;omega
theorem qnv (rb:Nat) (l:Bs) (bad:Bool) (n:Nat) (w:World) (h:Rd w rb l bad) (hl:l.length≤1099511627776) (hn:n≤1099511627776) :
  Calls Tryz.prog 158 #[.pointer (some ⟨rb,0,none⟩),.int .i64 n] w (qjr rb l bad n w):=by
 by_cases hb:bad=true∨l.length<n
 ·exact q0v rb l bad n w h hl hn hb
 ·have hbad:bad=false:=by cases bad<;>simp_all
  subst hbad
  exact qz6 rb l n w h hl (by simp at hb;exact hb)
def rdNum (l:Bs) (bad:Bool) (n:Nat):Nat:=if bad=true∨l.length<n then 0 else beNat (l.take n)
def rdBad (l:Bs) (bad:Bool) (n:Nat):Bool:=bad || decide (l.length<n)
def qdb (l:Bs) (bad:Bool) (n:Nat):Bs:=if bad=true∨l.length<n then l else l.drop n
def qf1 (rb:Nat) (l:Bs) (bad:Bool) (n:Nat) (w:World) (e:Ending) (w':World):Prop :=
 e=.returned (.int .i64 (rdNum l bad n))∧Rd w' rb (qdb l bad n) (rdBad l bad n)∧Mods (fun k=>k=rb) w w'∧w'.heap.size=w.heap.size
theorem ql4 {rb:Nat} {l:Bs} {bad:Bool} {n:Nat} {w w':World} {e:Ending} (h:qjr rb l bad n w e w') :
  ∃ a cap bs,e=.returned (.slice a bs.length cap)∧qaj w' a (bs.map enc8)∧(∀ x,a=some x→x.block<rb)∧bs=(if bad=true∨l.length<n then [] else l.take n)∧Rd w' rb (qdb l bad n) (rdBad l bad n)∧Mods (fun k=>k=rb) w w'∧w'.heap.size=w.heap.size:=by
 obtain ⟨h1,h2,h3,h4⟩:=h
 by_cases hb:bad=true∨l.length<n
 ·obtain ⟨he,hr⟩:=h1 hb
  refine ⟨none,0,[],he,qbr _ _,fun _ h=>(by cases h),by rw [if_pos hb],?_,h3,h4⟩
  have e2:rdBad l bad n=true:=by unfold rdBad;rcases hb with rfl | hb;rfl;simp [hb]
  rw [e2];unfold qdb;rw [if_pos hb];exact hr
 ·have hbad:bad=false:=by cases bad<;>simp_all
  have hn:n≤l.length:=by simp at hb;omega
  obtain ⟨⟨a,cap,he,hc,hca,hne⟩,hr⟩:=h2 hbad hn
  have hl:(l.take n).length=n:=by simp;omega
  refine ⟨a,cap,l.take n,by rw [hl];exact he,hca,hne,by rw [if_neg hb],?_,h3,h4⟩
  have e2:rdBad l bad n=false:=by unfold rdBad;rw [hbad];simp;omega
  rw [e2];unfold qdb;rw [if_neg hb];exact hr
theorem qd7 (a b:Nat) (ha:a*256+b<9223372036854775808) (hb:b<256):bits BinOp.or IntKind.i64 ((a:Int)*256) (b:Int)=((a*256+b:Nat):Int):=by
 have e1:(BitVec.ofInt 64 ((a:Int)*256)).toNat=a*256:=by
  rw [show ((a:Int)*256)=((a*256:Nat):Int) by omega,BitVec.ofInt_natCast,BitVec.toNat_ofNat];exact Nat.mod_eq_of_lt (by omega)
 have e2:(BitVec.ofInt 64 (b:Int)).toNat=b:=by rw [BitVec.ofInt_natCast,BitVec.toNat_ofNat];exact Nat.mod_eq_of_lt (by omega)
 show IntKind.i64.wrap ((BitVec.ofInt 64 ((a:Int)*256) ||| BitVec.ofInt 64 (b:Int)).toNat:Int)=_
 have e3:a*256 ||| b=a*256+b:=by
  have:=Nat.two_pow_add_eq_or_of_lt (i:=8) hb a
  rw [show (256:Nat)=2 ^ 8 from rfl,Nat.mul_comm];exact this.symm
 rw [BitVec.toNat_or,e1,e2,e3]
 unfold IntKind.wrap
 simp [IntKind.bits,IntKind.signed]
 omega
theorem qc9 (rb:Nat) (l:Bs) (bad:Bool) (n:Nat) (w:World) (h:Rd w rb l bad) (hl:l.length≤1099511627776) (hn:n≤7) :
  Calls Tryz.prog 139 #[.pointer (some ⟨rb,0,none⟩),.int .i64 n] w (qf1 rb l bad n w):=by
 have H:=Lib.hid (qnv rb l bad n w h hl (by omega))
 clear h
 go_enter Tryz.func139,Tryz.ntmps139
 go_wp2_with fail
 refine H.out.mono ?_
 rintro e w1 hp
 obtain ⟨a,cap,bs,rfl,hca,hne,hbs,hr,hM,hsz⟩:=ql4 hp
 have hbl:bs.length≤7:=by rw [hbs];split<;>simp;omega
 have H1:=Lib.hid (And.intro hca (And.intro hbs (And.intro hr (And.intro hM hsz))))
 clear hp H hca hbs hr hM hsz hne
 go_wp2_with fail
 go_loop [5,12] (fun v i=>∃ j:Nat,j≤bs.length∧i=.int .i64 j∧v=.int .i64 (beNat (bs.take j))) (fun _ i=>bs.length-(intOf i).toNat)
 case atStart=>exact ⟨0,Nat.zero_le _,rfl,rfl⟩
 case round =>
  obtain ⟨j,hj,rfl,rfl⟩:=hrel
  by_cases hlt:j<bs.length
  ·obtain ⟨g,off,rfl,hc⟩:=H1.out.1 (by simp;omega)
   have hcj:=hc j (by simpa using hlt)
   simp only [List.getElem_map] at hcj
   unfold enc8 at hcj
   have h8:=UInt8.toNat_lt bs[j]
   have hlb:beNat (bs.take j)<281474976710656:=by
    have:=qfm (bs.take j)
    have h2:(bs.take j).length≤6:=by simp;omega
    have h3:(256:Nat) ^ (bs.take j).length≤256 ^ 6:=Nat.pow_le_pow_right (by omega) h2
    omega
   have hor:=qd7 (beNat (bs.take j)) bs[j].toNat (by omega) h8
   have hnx:beNat (bs.take (j+1))=beNat (bs.take j)*256+bs[j].toNat:=by rw [List.take_succ_eq_append_getElem hlt,qky]
   have HN:=Lib.hid hnx
   clear hc hnx
   generalize bs[j].toNat=x at *
   generalize beNat (bs.take j)=q at *
   go_wp2_with fail
   exact ⟨⟨j+1,by omega,by go_num,by rw [HN.out];congr 1⟩,by simp [intOf];omega⟩
  ·obtain rfl:j=bs.length:=by omega
   go_wp2_with fail
   go_ret
   obtain ⟨hca,hbs,hr,hM,hsz⟩:=H1.out
   refine ⟨qxo ?_,hr,hM,hsz⟩
   rw [hbs]
   unfold rdNum
   split<;>rfl
def qhm (w:World) (e:Ending) (w':World):Prop:=e=.returned (.tuple #[.int .u8 0,.slice none 0 0,.int .i64 0])∧Same w w'
def qt7 (a:Option Addr) (k:UInt8) (body:Bs) (n:Nat) (w:World) (e:Ending) (w':World):Prop :=
 ∃ a',e=.returned (.tuple #[.int .u8 k.toNat,.slice a' body.length body.length,.int .i64 n])∧qaj w' a' (body.map enc8)∧(∀ x,a'=some x→∃ y,a=some y∧x.block=y.block)∧Same w w'
def qc4 (a:Option Addr) (b:Bs) (w:World) (e:Ending) (w':World):Prop :=
 match openR b with
 | none=>qhm w e w'
 | some (k,body,n)=>qt7 a k body n w e w'
theorem q1s (x:Nat) (h:x<256):bits BinOp.xor IntKind.u8 IntKind.u8.max (x:Int)=((255-x:Nat):Int):=by
 have:∀ y:Fin 256,bits BinOp.xor IntKind.u8 IntKind.u8.max ((y.1:Nat):Int)=((255-y.1:Nat):Int):=by decide +kernel
 exact this ⟨x,h⟩
theorem qd5 (x y:Nat) (h:x<256) (hy:255-x=y):bits BinOp.xor IntKind.u8 (if IntKind.u8.signed=true then -1 else IntKind.u8.max) (x:Int)=(y:Int):=by
 subst hy;exact q1s x h
theorem qzo (a:Option Addr) (cap:Nat) (b:Bs) (w:World) (hb:b.length<9):Calls Tryz.prog 97 #[.slice a b.length cap] w (qhm w):=by
 have hg:decide ((b.length:Int)<9)=true:=by simp;omega
 go_enter Tryz.func97,Tryz.ntmps97
 go_wp2
 go_ret3
 exact ⟨rfl,Mods.refl _ _⟩
theorem q2k (g off:Nat) (cap:Nat) (b:Bs) (w:World) (hb:9≤b.length) (hl:b.length≤1099511627776) (h0:w.cell? ⟨g,off+0,none⟩=some (.int .u8 0)):Calls Tryz.prog 97 #[.slice (some ⟨g,off,none⟩) b.length cap] w (qhm w):=by
 have hg:decide ((b.length:Int)<9)=false:=by simp;omega
 have hp:(0:Int)<b.length:=by omega
 have h0':w.cell? ⟨g,off,none⟩=some (.int .u8 0):=h0
 go_enter Tryz.func97,Tryz.ntmps97
 go_wp2
 go_ret3
 exact ⟨rfl,Mods.refl _ _⟩
theorem qnm {w:World} {g off cap r m n:Nat} {b:Bs} (hc:qaj w (some ⟨g,off,none⟩) (b.map enc8)) (hr:r≤b.length) (hcap:b.length≤cap) (hg:g<w.heap.size) (hn:n=b.length-r) :
  Rd ((w.drewN m).alloc (.cells #[.slice (some ⟨g,off+r,none⟩) n (cap-r),.bool false] 282)) w.heap.size (b.drop r) false∧Same w ((w.drewN m).alloc (.cells #[.slice (some ⟨g,off+r,none⟩) n (cap-r),.bool false] 282)):=by
 have hs:Same w ((w.drewN m).alloc (.cells #[.slice (some ⟨g,off+r,none⟩) n (cap-r),.bool false] 282)):=((Mods.refl _ w).drewN m).alloc _
 have hl:(b.drop r).length=n:=by simp;omega
 refine ⟨⟨_,cap-r,?_,by omega,(qd6 hc r hr).keep hs (fun _ _ _=>id),fun x hx=>?_⟩,hs⟩
 ·unfold RdAt;rw [hl];exact qa7 (w.drewN m) _
 ·simp at hx;subst hx;show g<_;omega
theorem q4s (g off:Nat) (cap:Nat) (b:Bs) (w:World) (b0 b1 b2 b3 b4:Nat) (hb:9≤b.length) (hl:b.length≤1099511627776) (h0:w.cell? ⟨g,off,none⟩=some (.int .u8 b0)) (hb0:b0≠0)
  (h1:w.cell? ⟨g,off+1,none⟩=some (.int .u8 b1)) (h2:w.cell? ⟨g,off+2,none⟩=some (.int .u8 b2)) (h3:w.cell? ⟨g,off+3,none⟩=some (.int .u8 b3)) (h4:w.cell? ⟨g,off+4,none⟩=some (.int .u8 b4))
  (l1:b1<256) (l2:b2<256) (l3:b3<256) (l4:b4<256) (hne:b1*256+b2≠(255-b3)*256+(255-b4)):Calls Tryz.prog 97 #[.slice (some ⟨g,off,none⟩) b.length cap] w (qhm w):=by
 have hg:decide ((b.length:Int)<9)=false:=by simp;omega
 have hp:(0:Int)<b.length:=by omega
 have hp1:(1:Int)<b.length:=by omega
 have hp2:(2:Int)<b.length:=by omega
 have hp3:(3:Int)<b.length:=by omega
 have hp4:(4:Int)<b.length:=by omega
 have hz:((b0:Int)==0)=false:=by simp;omega
 have o1:=qd7 b1 b2 (by omega) l2
 obtain ⟨c3,hc3⟩:∃ c:Nat,255-b3=c:=⟨_,rfl⟩
 obtain ⟨c4,hc4⟩:∃ c:Nat,255-b4=c:=⟨_,rfl⟩
 have n3:=qd5 b3 c3 l3 hc3
 have n4:=qd5 b4 c4 l4 hc4
 have l3':c3<256:=by omega
 have l4':c4<256:=by omega
 rw [hc3,hc4] at hne
 clear hc3 hc4
 have o2:=qd7 c3 c4 (by omega) (by omega)
 obtain ⟨mm,hmm⟩:∃ mm:Nat,c3*256+c4=mm:=⟨_,rfl⟩
 rw [hmm] at o2 hne
 obtain ⟨nn,hnn⟩:∃ nn:Nat,b1*256+b2=nn:=⟨_,rfl⟩
 rw [hnn] at o1 hne
 have hq:((nn:Int) != (mm:Int))=true:=by simp only [bne_iff_ne];omega
 have HN:=Lib.hid hnn
 clear hmm hnn hne
 go_enter Tryz.func97,Tryz.ntmps97
 go_wp2_with fail
 go_quiet (fail)
 go_wp2_with fail
 have k3:(w.drewN nq).cell? ⟨g,off+3,none⟩=some (.int .u8 b3):=h3
 have k4:(w.drewN nq).cell? ⟨g,off+4,none⟩=some (.int .u8 b4):=h4
 clear o1 h0 h1 h2 hz hp hp1 hp2
 go_quiet (fail)
 go_wp2_with fail
 go_ret3
 exact ⟨rfl,((Mods.refl _ w).drewN _).drewN _⟩
theorem q01 (g off:Nat) (cap:Nat) (b:Bs) (w:World) (b0 b1 b2 b3 b4:Nat) (hb:9≤b.length) (hl:b.length≤1099511627776) (h0:w.cell? ⟨g,off,none⟩=some (.int .u8 b0)) (hb0:b0≠0)
  (h1:w.cell? ⟨g,off+1,none⟩=some (.int .u8 b1)) (h2:w.cell? ⟨g,off+2,none⟩=some (.int .u8 b2)) (h3:w.cell? ⟨g,off+3,none⟩=some (.int .u8 b3)) (h4:w.cell? ⟨g,off+4,none⟩=some (.int .u8 b4))
  (l1:b1<256) (l2:b2<256) (l3:b3<256) (l4:b4<256) (hne:b1*256+b2=(255-b3)*256+(255-b4)) (hsz:b.length<b1*256+b2+9):Calls Tryz.prog 97 #[.slice (some ⟨g,off,none⟩) b.length cap] w (qhm w):=by
 have hg:decide ((b.length:Int)<9)=false:=by simp;omega
 have hp:(0:Int)<b.length:=by omega
 have hp1:(1:Int)<b.length:=by omega
 have hp2:(2:Int)<b.length:=by omega
 have hp3:(3:Int)<b.length:=by omega
 have hp4:(4:Int)<b.length:=by omega
 have hz:((b0:Int)==0)=false:=by simp;omega
 have o1:=qd7 b1 b2 (by omega) l2
 obtain ⟨c3,hc3⟩:∃ c:Nat,255-b3=c:=⟨_,rfl⟩
 obtain ⟨c4,hc4⟩:∃ c:Nat,255-b4=c:=⟨_,rfl⟩
 have n3:=qd5 b3 c3 l3 hc3
 have n4:=qd5 b4 c4 l4 hc4
 have l3':c3<256:=by omega
 have l4':c4<256:=by omega
 rw [hc3,hc4] at hne
 clear hc3 hc4
 have o2:=qd7 c3 c4 (by omega) (by omega)
 obtain ⟨mm,hmm⟩:∃ mm:Nat,c3*256+c4=mm:=⟨_,rfl⟩
 rw [hmm] at o2 hne
 obtain ⟨nn,hnn⟩:∃ nn:Nat,b1*256+b2=nn:=⟨_,rfl⟩
 rw [hnn] at o1 hne
 rw [hnn] at hsz
 subst hne
 have hq:((nn:Int) != (nn:Int))=false:=by simp
 have hlt:decide ((b.length:Int)<(nn:Int)+9)=true:=by simp;omega
 have hnn16:nn<65536:=by omega
 have HN:=Lib.hid hnn
 clear hmm hnn
 go_enter Tryz.func97,Tryz.ntmps97
 go_wp2_with fail
 go_quiet (fail)
 go_wp2_with fail
 have k3:(w.drewN nq).cell? ⟨g,off+3,none⟩=some (.int .u8 b3):=h3
 have k4:(w.drewN nq).cell? ⟨g,off+4,none⟩=some (.int .u8 b4):=h4
 clear o1 h0 h1 h2 hz hp hp1 hp2
 go_quiet ((go_at_call 79;exact (qew _ (by omega) (by omega) _).mono (fun e w' ⟨he,hw⟩=>⟨he,_,hw.symm⟩)))
 go_wp2_with fail
 go_ret3
 exact ⟨rfl,((Mods.refl _ w).drewN _).drewN _⟩
theorem q41 (g off:Nat) (cap:Nat) (b:Bs) (w:World) (b0 b1 b2 b3 b4:Nat) (hb:9≤b.length) (hl:b.length≤1099511627776) (h0:w.cell? ⟨g,off,none⟩=some (.int .u8 b0)) (hb0:b0≠0)
  (h1:w.cell? ⟨g,off+1,none⟩=some (.int .u8 b1)) (h2:w.cell? ⟨g,off+2,none⟩=some (.int .u8 b2)) (h3:w.cell? ⟨g,off+3,none⟩=some (.int .u8 b3)) (h4:w.cell? ⟨g,off+4,none⟩=some (.int .u8 b4))
  (l1:b1<256) (l2:b2<256) (l3:b3<256) (l4:b4<256) (hne:b1*256+b2=(255-b3)*256+(255-b4)) (hsz:b1*256+b2+9≤b.length) (hcap:b.length≤cap) (k0:UInt8) (hk0:k0.toNat=b0) (hc:qaj w (some ⟨g,off,none⟩) (b.map enc8)) (body:Bs) (hbody:body=(b.drop 5).take (b1*256+b2)) (hsum:beNat ((b.drop (5+(b1*256+b2))).take 4)≠sumOf k0 body):Calls Tryz.prog 97 #[.slice (some ⟨g,off,none⟩) b.length cap] w (qhm w):=by
 have hg:decide ((b.length:Int)<9)=false:=by simp;omega
 have hp:(0:Int)<b.length:=by omega
 have hp1:(1:Int)<b.length:=by omega
 have hp2:(2:Int)<b.length:=by omega
 have hp3:(3:Int)<b.length:=by omega
 have hp4:(4:Int)<b.length:=by omega
 have hz:((b0:Int)==0)=false:=by simp;omega
 have o1:=qd7 b1 b2 (by omega) l2
 obtain ⟨c3,hc3⟩:∃ c:Nat,255-b3=c:=⟨_,rfl⟩
 obtain ⟨c4,hc4⟩:∃ c:Nat,255-b4=c:=⟨_,rfl⟩
 have n3:=qd5 b3 c3 l3 hc3
 have n4:=qd5 b4 c4 l4 hc4
 have l3':c3<256:=by omega
 have l4':c4<256:=by omega
 rw [hc3,hc4] at hne
 clear hc3 hc4
 have o2:=qd7 c3 c4 (by omega) (by omega)
 obtain ⟨mm,hmm⟩:∃ mm:Nat,c3*256+c4=mm:=⟨_,rfl⟩
 rw [hmm] at o2 hne
 obtain ⟨nn,hnn⟩:∃ nn:Nat,b1*256+b2=nn:=⟨_,rfl⟩
 rw [hnn] at o1 hne
 rw [hnn] at hsz
 subst hne
 have hq:((nn:Int) != (nn:Int))=false:=by simp
 have hlt:decide ((b.length:Int)<(nn:Int)+9)=false:=by simp;omega
 have hnn16:nn<65536:=by omega
 rw [hnn] at hbody hsum
 have hgl:g<w.heap.size:=World.block_lt_of_cell? w _ h0
 have hbl:body.length=nn:=by rw [hbody];simp;omega
 have hrl:(b.drop (5+nn)).length=b.length-(5+nn):=by simp
 have hcb:=qg1 (qd6 hc 5 (by omega)) nn (by simp;omega)
 have hcr:=qd6 hc (5+nn) (by omega)
 rw [← hbody] at hcb
 have hr4:rdNum (b.drop (5+nn)) false 4=beNat ((b.drop (5+nn)).take 4):=by unfold rdNum;rw [if_neg (by simp;omega)]
 have hr4l:beNat ((b.drop (5+nn)).take 4)<4294967296:=by
  have:=qfm ((b.drop (5+nn)).take 4)
  have h2:(256:Nat) ^ ((b.drop (5+nn)).take 4).length≤256 ^ 4:=Nat.pow_le_pow_right (by omega) (by simp;omega)
  omega
 have hsl:=qit k0 body
 have HB:=Lib.hid (And.intro hcb (And.intro hcr (And.intro hr4 (And.intro hbl (And.intro hc (And.intro hrl hk0))))))
 clear hcb hcr hr4 hbl hc hbody hrl hk0
 have HN:=Lib.hid hnn
 clear hmm hnn
 go_enter Tryz.func97,Tryz.ntmps97
 go_wp2_with fail
 go_quiet (fail)
 go_wp2_with fail
 have k3:(w.drewN nq).cell? ⟨g,off+3,none⟩=some (.int .u8 b3):=h3
 have k4:(w.drewN nq).cell? ⟨g,off+4,none⟩=some (.int .u8 b4):=h4
 clear o1 h1 h2 hz hp1 hp2
 obtain ⟨m1,rfl⟩:∃ m,m=nq:=⟨_,rfl⟩
 go_quiet ((go_at_call 79;exact (qew _ (by omega) (by omega) _).mono (fun e w' ⟨he,hw⟩=>⟨he,_,hw.symm⟩)))
 obtain ⟨m2,rfl⟩:∃ m,m=nq:=⟨_,rfl⟩
 rcases Nat.eq_zero_or_pos nn with hn0 | hn0
 ·subst hn0
  simp only [Nat.add_zero] at *
  go_wp2_with fail
  obtain ⟨hrd,hs1⟩:=qnm (m:=m1+m2) HB.out.2.2.2.2.1 (r:=5) (by omega) hcap hgl rfl
  generalize ((w.drewN (m1+m2)).alloc (.cells #[.slice (some ⟨g,off+5,none⟩) (b.length-5) (cap-5),.bool false] 282))=W1 at hrd hs1 ⊢
  generalize hrb:w.heap.size=rb at hrd hgl ⊢
  have hk1:W1.cell? ⟨g,off,none⟩=some (.int .u8 b0):=by rw [World.cell?_of_block (hs1.block g (by omega) id)];exact h0
  have hcb1:qaj W1 (some ⟨g,off,none⟩) (body.map enc8):=(by rw [List.eq_nil_of_length_eq_zero HB.out.2.2.2.1];exact qbr _ _)
  have HR:=Lib.hid (And.intro hrd (And.intro hs1 (And.intro hrb hcb1)))
  clear hrd hs1 hrb hcb1
  have hw4:IntKind.u32.wrap ((beNat ((b.drop 5).take 4):Nat):Int)=((beNat ((b.drop 5).take 4):Nat):Int):=by rw [IntKind.wrap_u32];omega
  have hne:(((beNat ((b.drop 5).take 4):Nat):Int) != ((sumOf k0 body:Nat):Int))=true:=by simp only [bne_iff_ne];omega
  generalize beNat ((b.drop 5).take 4)=x at *
  have hp0:0<b.length:=by omega
  have HSum:Hid (∀ W:World,qaj W (some ⟨g,off,none⟩) (body.map enc8)→Calls Tryz.prog 128 #[.int .u8 b0,.slice (some ⟨g,off,none⟩) 0 0] W (qkf k0 body W)):=Lib.hid (fun W h=>by
   have:=qgn (some ⟨g,off,none⟩) 0 k0 body W h (by have:=HB.out.2.2.2.1;omega)
   rwa [HB.out.2.2.2.1,HB.out.2.2.2.2.2.2] at this)
  have HNum:=Lib.hid (fun (W:World) (h:Rd W rb (b.drop 5) false)=>(show Calls Tryz.prog 139 #[.pointer (some ⟨rb,0,none⟩),.int .i64 4] W (qf1 rb (b.drop 5) false 4 W) from qc9 rb (b.drop 5) false 4 W h (by simp;omega) (by omega)))
  go_region_held3 (fun w'=>w'.cell? ⟨g,off,none⟩=some (.int .u8 b0)) (first | exact hk1 | exact hk2 | exact hk3) (first | (go_at_call 139;refine (HNum.out _ (by exact HR.out.1)).mono ?_;rintro e w2 ⟨rfl,hr2,hM2,hz2⟩;rw [HB.out.2.2.1];have hk2:w2.cell? ⟨g,off,none⟩=some (.int .u8 b0):=(World.cell?_of_block (hM2.block g (by have:=HR.out.2.1.size;have:=HR.out.2.2.1;show g<W1.heap.size;omega) (by omega))).trans hk1;have H2:=Lib.hid (And.intro hM2 hz2);clear hr2 hM2 hz2) | (go_at_call 128;refine (HSum.out _ (qaj.keep (w:=W1.drew) (by exact HR.out.2.2.2) H2.out.1 (fun g' off' e=>by simp at e;omega))).mono ?_;rintro e w3 ⟨rfl,hs3⟩;have hk3:w3.cell? ⟨g,off,none⟩=some (.int .u8 b0):=(World.cell?_of_block (hs3.block g (World.block_lt_of_cell? w2 _ hk2) id)).trans hk2;have H3:=Lib.hid hs3;clear hs3))
  go_wp2_with fail
  go_ret3
  exact ⟨rfl,(HR.out.2.1.trans' ((Mods.refl _ W1).drew.trans H2.out.1) (fun i hi=>.inr (by have:=HR.out.2.2.1;omega))).trans' H3.out (fun i hi=>hi.elim)⟩
 ·go_wp2_with fail
  obtain ⟨hrd,hs1⟩:=qnm (m:=m1+m2) HB.out.2.2.2.2.1 (r:=5+nn) (by omega) hcap hgl rfl
  generalize ((w.drewN (m1+m2)).alloc (.cells #[.slice (some ⟨g,off+(5+nn),none⟩) (b.length-(5+nn)) (cap-(5+nn)),.bool false] 282))=W1 at hrd hs1 ⊢
  generalize hrb:w.heap.size=rb at hrd hgl ⊢
  have hk1:W1.cell? ⟨g,off,none⟩=some (.int .u8 b0):=by rw [World.cell?_of_block (hs1.block g (by omega) id)];exact h0
  have hcb1:qaj W1 (some ⟨g,off+5,none⟩) (body.map enc8):=HB.out.1.keep hs1 (fun _ _ _=>id)
  have HR:=Lib.hid (And.intro hrd (And.intro hs1 (And.intro hrb hcb1)))
  clear hrd hs1 hrb hcb1
  have hw4:IntKind.u32.wrap ((beNat ((b.drop (5+nn)).take 4):Nat):Int)=((beNat ((b.drop (5+nn)).take 4):Nat):Int):=by rw [IntKind.wrap_u32];omega
  have hne:(((beNat ((b.drop (5+nn)).take 4):Nat):Int) != ((sumOf k0 body:Nat):Int))=true:=by simp only [bne_iff_ne];omega
  generalize beNat ((b.drop (5+nn)).take 4)=x at *
  have hp0:0<b.length:=by omega
  have HSum:Hid (∀ W:World,qaj W (some ⟨g,off+5,none⟩) (body.map enc8)→Calls Tryz.prog 128 #[.int .u8 b0,.slice (some ⟨g,off+5,none⟩) nn nn] W (qkf k0 body W)):=Lib.hid (fun W h=>by
   have:=qgn (some ⟨g,off+5,none⟩) nn k0 body W h (by have:=HB.out.2.2.2.1;omega)
   rwa [HB.out.2.2.2.1,HB.out.2.2.2.2.2.2] at this)
  have HNum:=Lib.hid (fun (W:World) (h:Rd W rb (b.drop (5+nn)) false)=>(show Calls Tryz.prog 139 #[.pointer (some ⟨rb,0,none⟩),.int .i64 4] W (qf1 rb (b.drop (5+nn)) false 4 W) from qc9 rb (b.drop (5+nn)) false 4 W h (by simp;omega) (by omega)))
  go_region_held3 (fun w'=>w'.cell? ⟨g,off,none⟩=some (.int .u8 b0)) (first | exact hk1 | exact hk2 | exact hk3) (first | (go_at_call 139;refine (HNum.out _ (by exact HR.out.1)).mono ?_;rintro e w2 ⟨rfl,hr2,hM2,hz2⟩;rw [HB.out.2.2.1];have hk2:w2.cell? ⟨g,off,none⟩=some (.int .u8 b0):=(World.cell?_of_block (hM2.block g (by have:=HR.out.2.1.size;have:=HR.out.2.2.1;show g<W1.heap.size;omega) (by omega))).trans hk1;have H2:=Lib.hid (And.intro hM2 hz2);clear hr2 hM2 hz2) | (go_at_call 128;refine (HSum.out _ (qaj.keep (w:=W1.drew) (by exact HR.out.2.2.2) H2.out.1 (fun g' off' e=>by simp at e;omega))).mono ?_;rintro e w3 ⟨rfl,hs3⟩;have hk3:w3.cell? ⟨g,off,none⟩=some (.int .u8 b0):=(World.cell?_of_block (hs3.block g (World.block_lt_of_cell? w2 _ hk2) id)).trans hk2;have H3:=Lib.hid hs3;clear hs3))
  go_wp2_with fail
  go_ret3
  exact ⟨rfl,(HR.out.2.1.trans' ((Mods.refl _ W1).drew.trans H2.out.1) (fun i hi=>.inr (by have:=HR.out.2.2.1;omega))).trans' H3.out (fun i hi=>hi.elim)⟩
theorem q6l (g off:Nat) (cap:Nat) (b:Bs) (w:World) (b0 b1 b2 b3 b4:Nat) (hb:9≤b.length) (hl:b.length≤1099511627776) (h0:w.cell? ⟨g,off,none⟩=some (.int .u8 b0)) (hb0:b0≠0)
  (h1:w.cell? ⟨g,off+1,none⟩=some (.int .u8 b1)) (h2:w.cell? ⟨g,off+2,none⟩=some (.int .u8 b2)) (h3:w.cell? ⟨g,off+3,none⟩=some (.int .u8 b3)) (h4:w.cell? ⟨g,off+4,none⟩=some (.int .u8 b4))
  (l1:b1<256) (l2:b2<256) (l3:b3<256) (l4:b4<256) (hne:b1*256+b2=(255-b3)*256+(255-b4)) (hsz:b1*256+b2+9≤b.length) (hcap:b.length≤cap) (k0:UInt8) (hk0:k0.toNat=b0) (hc:qaj w (some ⟨g,off,none⟩) (b.map enc8)) (body:Bs) (hbody:body=(b.drop 5).take (b1*256+b2)) (hsum:beNat ((b.drop (5+(b1*256+b2))).take 4)=sumOf k0 body):Calls Tryz.prog 97 #[.slice (some ⟨g,off,none⟩) b.length cap] w (qt7 (some ⟨g,off,none⟩) k0 body (b1*256+b2+9) w):=by
 have hg:decide ((b.length:Int)<9)=false:=by simp;omega
 have hp:(0:Int)<b.length:=by omega
 have hp1:(1:Int)<b.length:=by omega
 have hp2:(2:Int)<b.length:=by omega
 have hp3:(3:Int)<b.length:=by omega
 have hp4:(4:Int)<b.length:=by omega
 have hz:((b0:Int)==0)=false:=by simp;omega
 have o1:=qd7 b1 b2 (by omega) l2
 obtain ⟨c3,hc3⟩:∃ c:Nat,255-b3=c:=⟨_,rfl⟩
 obtain ⟨c4,hc4⟩:∃ c:Nat,255-b4=c:=⟨_,rfl⟩
 have n3:=qd5 b3 c3 l3 hc3
 have n4:=qd5 b4 c4 l4 hc4
 have l3':c3<256:=by omega
 have l4':c4<256:=by omega
 rw [hc3,hc4] at hne
 clear hc3 hc4
 have o2:=qd7 c3 c4 (by omega) (by omega)
 obtain ⟨mm,hmm⟩:∃ mm:Nat,c3*256+c4=mm:=⟨_,rfl⟩
 rw [hmm] at o2 hne
 obtain ⟨nn,hnn⟩:∃ nn:Nat,b1*256+b2=nn:=⟨_,rfl⟩
 rw [hnn] at o1 hne
 rw [hnn] at hsz
 subst hne
 have hq:((nn:Int) != (nn:Int))=false:=by simp
 have hlt:decide ((b.length:Int)<(nn:Int)+9)=false:=by simp;omega
 have hnn16:nn<65536:=by omega
 rw [hnn] at hbody hsum
 have hgl:g<w.heap.size:=World.block_lt_of_cell? w _ h0
 have hbl:body.length=nn:=by rw [hbody];simp;omega
 have hrl:(b.drop (5+nn)).length=b.length-(5+nn):=by simp
 have hcb:=qg1 (qd6 hc 5 (by omega)) nn (by simp;omega)
 have hcr:=qd6 hc (5+nn) (by omega)
 rw [← hbody] at hcb
 have hr4:rdNum (b.drop (5+nn)) false 4=beNat ((b.drop (5+nn)).take 4):=by unfold rdNum;rw [if_neg (by simp;omega)]
 have hr4l:beNat ((b.drop (5+nn)).take 4)<4294967296:=by
  have:=qfm ((b.drop (5+nn)).take 4)
  have h2:(256:Nat) ^ ((b.drop (5+nn)).take 4).length≤256 ^ 4:=Nat.pow_le_pow_right (by omega) (by simp;omega)
  omega
 have hsl:=qit k0 body
 have HB:=Lib.hid (And.intro hcb (And.intro hcr (And.intro hr4 (And.intro hbl (And.intro hc (And.intro hrl hk0))))))
 clear hcb hcr hr4 hbl hc hbody hrl hk0
 have HN:=Lib.hid hnn
 clear hmm hnn
 go_enter Tryz.func97,Tryz.ntmps97
 go_wp2_with fail
 go_quiet (fail)
 go_wp2_with fail
 have k3:(w.drewN nq).cell? ⟨g,off+3,none⟩=some (.int .u8 b3):=h3
 have k4:(w.drewN nq).cell? ⟨g,off+4,none⟩=some (.int .u8 b4):=h4
 clear o1 h1 h2 hz hp1 hp2
 obtain ⟨m1,rfl⟩:∃ m,m=nq:=⟨_,rfl⟩
 go_quiet ((go_at_call 79;exact (qew _ (by omega) (by omega) _).mono (fun e w' ⟨he,hw⟩=>⟨he,_,hw.symm⟩)))
 obtain ⟨m2,rfl⟩:∃ m,m=nq:=⟨_,rfl⟩
 rcases Nat.eq_zero_or_pos nn with hn0 | hn0
 ·subst hn0
  simp only [Nat.add_zero] at *
  go_wp2_with fail
  obtain ⟨hrd,hs1⟩:=qnm (m:=m1+m2) HB.out.2.2.2.2.1 (r:=5) (by omega) hcap hgl rfl
  generalize ((w.drewN (m1+m2)).alloc (.cells #[.slice (some ⟨g,off+5,none⟩) (b.length-5) (cap-5),.bool false] 282))=W1 at hrd hs1 ⊢
  generalize hrb:w.heap.size=rb at hrd hgl ⊢
  have hk1:W1.cell? ⟨g,off,none⟩=some (.int .u8 b0):=by rw [World.cell?_of_block (hs1.block g (by omega) id)];exact h0
  have hcb1:qaj W1 (some ⟨g,off,none⟩) (body.map enc8):=(by rw [List.eq_nil_of_length_eq_zero HB.out.2.2.2.1];exact qbr _ _)
  have HR:=Lib.hid (And.intro hrd (And.intro hs1 (And.intro hrb hcb1)))
  clear hrd hs1 hrb hcb1
  have hw4:IntKind.u32.wrap ((beNat ((b.drop 5).take 4):Nat):Int)=((beNat ((b.drop 5).take 4):Nat):Int):=by rw [IntKind.wrap_u32];omega
  have hne:(((beNat ((b.drop 5).take 4):Nat):Int) != ((sumOf k0 body:Nat):Int))=false:=by rw [hsum];simp
  clear hsum
  generalize beNat ((b.drop 5).take 4)=x at *
  have hp0:0<b.length:=by omega
  have HSum:Hid (∀ W:World,qaj W (some ⟨g,off,none⟩) (body.map enc8)→Calls Tryz.prog 128 #[.int .u8 b0,.slice (some ⟨g,off,none⟩) 0 0] W (qkf k0 body W)):=Lib.hid (fun W h=>by
   have:=qgn (some ⟨g,off,none⟩) 0 k0 body W h (by have:=HB.out.2.2.2.1;omega)
   rwa [HB.out.2.2.2.1,HB.out.2.2.2.2.2.2] at this)
  have HNum:=Lib.hid (fun (W:World) (h:Rd W rb (b.drop 5) false)=>(show Calls Tryz.prog 139 #[.pointer (some ⟨rb,0,none⟩),.int .i64 4] W (qf1 rb (b.drop 5) false 4 W) from qc9 rb (b.drop 5) false 4 W h (by simp;omega) (by omega)))
  go_region_held3 (fun w'=>w'.cell? ⟨g,off,none⟩=some (.int .u8 b0)) (first | exact hk1 | exact hk2 | exact hk3) (first | (go_at_call 139;refine (HNum.out _ (by exact HR.out.1)).mono ?_;rintro e w2 ⟨rfl,hr2,hM2,hz2⟩;rw [HB.out.2.2.1];have hk2:w2.cell? ⟨g,off,none⟩=some (.int .u8 b0):=(World.cell?_of_block (hM2.block g (by have:=HR.out.2.1.size;have:=HR.out.2.2.1;show g<W1.heap.size;omega) (by omega))).trans hk1;have H2:=Lib.hid (And.intro hM2 hz2);clear hr2 hM2 hz2) | (go_at_call 128;refine (HSum.out _ (qaj.keep (w:=W1.drew) (by exact HR.out.2.2.2) H2.out.1 (fun g' off' e=>by simp at e;omega))).mono ?_;rintro e w3 ⟨rfl,hs3⟩;have hk3:w3.cell? ⟨g,off,none⟩=some (.int .u8 b0):=(World.cell?_of_block (hs3.block g (World.block_lt_of_cell? w2 _ hk2) id)).trans hk2;have H3:=Lib.hid hs3;clear hs3))
  go_wp2_with fail
  have hsame:Same w w3:=(HR.out.2.1.trans' ((Mods.refl _ W1).drew.trans H2.out.1) (fun i hi=>.inr (by have:=HR.out.2.2.1;omega))).trans' H3.out (fun i hi=>hi.elim)
  have hcb3:qaj w3 (some ⟨g,off,none⟩) (body.map enc8):=by rw [List.eq_nil_of_length_eq_zero HB.out.2.2.2.1];exact qbr _ _
  have HZ:=Lib.hid (And.intro hsame hcb3)
  clear hsame hcb3 hk1 hk2
  go_quiet ((go_at_call 79;exact (qew _ (by omega) (by omega) _).mono (fun e w' ⟨he,hw⟩=>⟨he,_,hw.symm⟩)))
  go_wp2_with fail
  go_ret3
  refine ⟨some ⟨g,off,none⟩,?_,HZ.out.2,fun x hx=>⟨_,rfl,by simp at hx;subst hx;rfl⟩,HZ.out.1.drewN _⟩
  rw [HB.out.2.2.2.1,HB.out.2.2.2.2.2.2,HN.out]
  first | rfl | (congr 3) | simp
 ·go_wp2_with fail
  obtain ⟨hrd,hs1⟩:=qnm (m:=m1+m2) HB.out.2.2.2.2.1 (r:=5+nn) (by omega) hcap hgl rfl
  generalize ((w.drewN (m1+m2)).alloc (.cells #[.slice (some ⟨g,off+(5+nn),none⟩) (b.length-(5+nn)) (cap-(5+nn)),.bool false] 282))=W1 at hrd hs1 ⊢
  generalize hrb:w.heap.size=rb at hrd hgl ⊢
  have hk1:W1.cell? ⟨g,off,none⟩=some (.int .u8 b0):=by rw [World.cell?_of_block (hs1.block g (by omega) id)];exact h0
  have hcb1:qaj W1 (some ⟨g,off+5,none⟩) (body.map enc8):=HB.out.1.keep hs1 (fun _ _ _=>id)
  have HR:=Lib.hid (And.intro hrd (And.intro hs1 (And.intro hrb hcb1)))
  clear hrd hs1 hrb hcb1
  have hw4:IntKind.u32.wrap ((beNat ((b.drop (5+nn)).take 4):Nat):Int)=((beNat ((b.drop (5+nn)).take 4):Nat):Int):=by rw [IntKind.wrap_u32];omega
  have hne:(((beNat ((b.drop (5+nn)).take 4):Nat):Int) != ((sumOf k0 body:Nat):Int))=false:=by rw [hsum];simp
  clear hsum
  generalize beNat ((b.drop (5+nn)).take 4)=x at *
  have hp0:0<b.length:=by omega
  have HSum:Hid (∀ W:World,qaj W (some ⟨g,off+5,none⟩) (body.map enc8)→Calls Tryz.prog 128 #[.int .u8 b0,.slice (some ⟨g,off+5,none⟩) nn nn] W (qkf k0 body W)):=Lib.hid (fun W h=>by
   have:=qgn (some ⟨g,off+5,none⟩) nn k0 body W h (by have:=HB.out.2.2.2.1;omega)
   rwa [HB.out.2.2.2.1,HB.out.2.2.2.2.2.2] at this)
  have HNum:=Lib.hid (fun (W:World) (h:Rd W rb (b.drop (5+nn)) false)=>(show Calls Tryz.prog 139 #[.pointer (some ⟨rb,0,none⟩),.int .i64 4] W (qf1 rb (b.drop (5+nn)) false 4 W) from qc9 rb (b.drop (5+nn)) false 4 W h (by simp;omega) (by omega)))
  go_region_held3 (fun w'=>w'.cell? ⟨g,off,none⟩=some (.int .u8 b0)) (first | exact hk1 | exact hk2 | exact hk3) (first | (go_at_call 139;refine (HNum.out _ (by exact HR.out.1)).mono ?_;rintro e w2 ⟨rfl,hr2,hM2,hz2⟩;rw [HB.out.2.2.1];have hk2:w2.cell? ⟨g,off,none⟩=some (.int .u8 b0):=(World.cell?_of_block (hM2.block g (by have:=HR.out.2.1.size;have:=HR.out.2.2.1;show g<W1.heap.size;omega) (by omega))).trans hk1;have H2:=Lib.hid (And.intro hM2 hz2);clear hr2 hM2 hz2) | (go_at_call 128;refine (HSum.out _ (qaj.keep (w:=W1.drew) (by exact HR.out.2.2.2) H2.out.1 (fun g' off' e=>by simp at e;omega))).mono ?_;rintro e w3 ⟨rfl,hs3⟩;have hk3:w3.cell? ⟨g,off,none⟩=some (.int .u8 b0):=(World.cell?_of_block (hs3.block g (World.block_lt_of_cell? w2 _ hk2) id)).trans hk2;have H3:=Lib.hid hs3;clear hs3))
  go_wp2_with fail
  have hsame:Same w w3:=(HR.out.2.1.trans' ((Mods.refl _ W1).drew.trans H2.out.1) (fun i hi=>.inr (by have:=HR.out.2.2.1;omega))).trans' H3.out (fun i hi=>hi.elim)
  have hcb3:qaj w3 (some ⟨g,off+5,none⟩) (body.map enc8):=HB.out.1.keep hsame (fun _ _ _=>id)
  have HZ:=Lib.hid (And.intro hsame hcb3)
  clear hsame hcb3 hk1 hk2
  go_quiet ((go_at_call 79;exact (qew _ (by omega) (by omega) _).mono (fun e w' ⟨he,hw⟩=>⟨he,_,hw.symm⟩)))
  go_wp2_with fail
  go_ret3
  refine ⟨some ⟨g,off+5,none⟩,?_,HZ.out.2,fun x hx=>⟨_,rfl,by simp at hx;subst hx;rfl⟩,HZ.out.1.drewN _⟩
  rw [HB.out.2.2.2.1,HB.out.2.2.2.2.2.2,HN.out]
  first | rfl | (congr 3) | simp
theorem qge (a:Option Addr) (cap:Nat) (b:Bs) (w:World) (h:qaj w a (b.map enc8)) (hl:b.length≤1099511627776) (hcap:b.length≤cap) :
  Calls Tryz.prog 97 #[.slice a b.length cap] w (qc4 a b w):=by
 have key:∀ {R R':Ending→World→Prop},(∀ e w',R e w'→R' e w')→Calls Tryz.prog 97 #[.slice a b.length cap] w R→Calls Tryz.prog 97 #[.slice a b.length cap] w R':=fun hR hc=>hc.mono hR
 by_cases h9:b.length<9
 ·have e:openR b=none:=by unfold openR;rw [if_pos h9]
  exact (qzo a cap b w h9).mono fun e' w' hp=>by unfold qc4;rw [e];exact hp
 obtain ⟨g,off,rfl,hc⟩:=h (by simp;omega)
 have cell:∀ j (hj:j<b.length),w.cell? ⟨g,off+j,none⟩=some (.int .u8 (b.getD j 0).toNat):=fun j hj=>by
  rw [hc j (by simpa using hj)];simp [enc8,List.getD_eq_getElem?_getD,hj]
 by_cases hz:b.getD 0 0=0
 ·have e:openR b=none:=by unfold openR;rw [if_neg h9,if_pos hz]
  refine (q2k g off cap b w (by omega) hl ?_).mono fun e' w' hp=>by unfold qc4;rw [e];exact hp
  rw [cell 0 (by omega),hz];rfl
 have hz':(b.getD 0 0).toNat≠0:=fun e=>hz (UInt8.toNat_inj.1 (by simpa using e))
 have c0:=cell 0 (by omega)
 have c1:=cell 1 (by omega)
 have c2:=cell 2 (by omega)
 have c3:=cell 3 (by omega)
 have c4:=cell 4 (by omega)
 have l1:=UInt8.toNat_lt (b.getD 1 0)
 have l2:=UInt8.toNat_lt (b.getD 2 0)
 have l3:=UInt8.toNat_lt (b.getD 3 0)
 have l4:=UInt8.toNat_lt (b.getD 4 0)
 by_cases hne:(b.getD 1 0).toNat*256+(b.getD 2 0).toNat≠(255-(b.getD 3 0).toNat)*256+(255-(b.getD 4 0).toNat)
 ·have e:openR b=none:=by unfold openR;rw [if_neg h9,if_neg hz];simp only;rw [if_pos hne]
  exact (q4s g off cap b w _ _ _ _ _ (by omega) hl c0 hz' c1 c2 c3 c4 l1 l2 l3 l4 hne).mono fun e' w' hp=>by unfold qc4;rw [e];exact hp
 by_cases hsz:b.length<(b.getD 1 0).toNat*256+(b.getD 2 0).toNat+9
 ·have e:openR b=none:=by unfold openR;rw [if_neg h9,if_neg hz];simp only;rw [if_neg hne,if_pos hsz]
  exact (q01 g off cap b w _ _ _ _ _ (by omega) hl c0 hz' c1 c2 c3 c4 l1 l2 l3 l4 (by simpa using hne) hsz).mono fun e' w' hp=>by unfold qc4;rw [e];exact hp
 by_cases hsum:beNat ((b.drop (5+((b.getD 1 0).toNat*256+(b.getD 2 0).toNat))).take 4)≠sumOf (b.getD 0 0) ((b.drop 5).take ((b.getD 1 0).toNat*256+(b.getD 2 0).toNat))
 ·have e:openR b=none:=by unfold openR;rw [if_neg h9,if_neg hz];simp only;rw [if_neg hne,if_neg hsz,if_pos hsum]
  exact (q41 g off cap b w _ _ _ _ _ (by omega) hl c0 hz' c1 c2 c3 c4 l1 l2 l3 l4 (by simpa using hne) (by omega) hcap _ rfl h _ rfl hsum).mono fun e' w' hp=>by unfold qc4;rw [e];exact hp
 ·have e:openR b=some (b.getD 0 0,(b.drop 5).take ((b.getD 1 0).toNat*256+(b.getD 2 0).toNat),(b.getD 1 0).toNat*256+(b.getD 2 0).toNat+9):=by unfold openR;rw [if_neg h9,if_neg hz];simp only;rw [if_neg hne,if_neg hsz,if_neg hsum]
  exact (q6l g off cap b w _ _ _ _ _ (by omega) hl c0 hz' c1 c2 c3 c4 l1 l2 l3 l4 (by simpa using hne) (by omega) hcap _ rfl h _ rfl (by simpa using hsum)).mono fun e' w' hp=>by unfold qc4;rw [e];exact hp
def q2c (ob:Nat) (body:Bs) (w:World) (e:Ending) (w':World):Prop :=
 e=.returned .nilIface∧∃ v,bOk v body∧Turns [(ob,Is (.cells #[.slice none 0 0] 38 (0,0)))] ((ob,Is (.cells #[v] 38 (0,0)))::bRow v body) w w'
theorem qwg (a:Option Addr) (cap:Nat) (b body:Bs) (at_ pb xb ob:Nat) (w:World) (h:qaj w a (b.map enc8)) (hl:b.length≤1099511627776) (hcap:b.length≤cap) (ho:openR b=some (1,body,body.length+9))
  (hp:w.heap[pb]?=some (.cells #[.int .i64 at_,.int .i64 body.length] 161 (0,0))) (hob:w.heap[ob]?=some (.cells #[.slice none 0 0] 38 (0,0))) (hpo:pb≠ob) (hao:∀ x,a=some x→x.block≠ob) :
  Calls Tryz.prog 131 #[.slice a b.length cap,.pointer (some ⟨pb,0,none⟩),.pointer (some ⟨xb,0,none⟩),.pointer (some ⟨ob,0,none⟩)] w (q2c ob body w):=by
 have hop:=qge a cap b w h hl hcap
 unfold qc4 at hop
 rw [ho] at hop
 have hbl:body.length<65536:=(qez ho).2.2.2.2
 have HO:=Lib.hid hop
 have HH:=Lib.hid (And.intro hp (And.intro hob (And.intro hpo hao)))
 clear h hl hcap hop hp hob hpo hao
 go_enter Tryz.func131,Tryz.ntmps131
 go_wp2_with fail
 refine HO.out.mono ?_
 rintro e w1 ⟨a',rfl,hca,hab,hs1⟩
 have p1:=qac (hs1.at HH.out.1 id) 1 rfl
 have o0:=qac (hs1.at HH.out.2.1 id) 0 rfl
 have of:=qa9 (hs1.at HH.out.2.1 id) 0
 have hT1:Turns [(ob,Is (.cells #[.slice none 0 0] 38 (0,0)))] (bRow (.slice none 0 0) []++[(ob,Is (.cells #[.slice none 0 0] 38 (0,0)))]) w w1:=(Turns.refl (Sat.one HH.out.2.1 Is.rfl)).thenSame hs1
 have H1:=Lib.hid (And.intro hT1 hca)
 clear hs1 hca hab hT1
 go_wp2_with ((refine qak rfl (qf0 (.tmp 38) (.tmp 39) rfl (.slice none 0 0) [] rfl H1.out.1 qdh a' body.length body.length rfl body rfl H1.out.2 (by simp;omega) ?_));intro av cv w2 hok2 hT2 _;rw [List.nil_append] at hok2 hT2 ⊢;have o2:=qac (hT2.sat.right.headIs) 0 rfl;have of2:=qa9 (hT2.sat.right.headIs) 0;have H2:=Lib.hid (And.intro hok2 hT2);clear hok2 hT2)
 go_ret
 refine ⟨rfl,.slice av body.length cv,H2.out.1,?_⟩
 have h3:=H2.out.2.to (H:=(ob,Is (.cells #[.slice none 0 0] 38 (0,0)))::bRow (.slice av body.length cv) body) (qaf fun _=>by simp only [qad,qaa,qah]<;>omega)
 exact h3.putIs ((Mods.refl (fun k=>k=ob) w2).set1 (i:=0) _) (qbf h3.sat.headIs 0 _)
theorem qq2 {P:Program} {main:Bool} {b:Frame} {a:Act} {k:List Item} {cs:List Frame} {w w':World} {ops:Array Oper} {i:Nat} {rest:List Nat} {o:Oper} {cases:Array CommCase} {blocking:Bool} {shape:CommShape}
  (ho:ops[i]?=some o) (hw:Region.wanted o (yielded ops a.tmps)=true) (hr:(execOp a.eval o).run P w=.ok (.comm cases blocking shape) w') :
  ∃ es,stepG P main (Conc.G (b.at a (.inRegion ops (i::rest)::k)) cs) w=.comm (Conc.G (b.at a (.inRegion ops (i::rest)::k)) cs) cases blocking shape w' es:=by
 rw [Conc.stepG_oper ho hw]
 cases main<;>simp [stepG.apply,hr,Conc.G,Frame.at,GStep.after]
theorem qfw {P:Program} {id n:Nat} {ops:Array Oper} {Q:Exit→Act→World→Prop} {a:Act} {w w1 w':World} {o:Oper} {cases:Array CommCase} {v:Value}
  (hsz:ops.size=n+1) (ho:ops[0]?=some o) (hg:o.guard=none) (hr:(execOp a.eval o).run P w=.ok (.comm cases false .select) w1)
  (hstep:∀ fr cs es,stepG P true (Conc.G fr cs) w=.comm (Conc.G fr cs) cases false .select w1 es→step P (Conc.solo (Conc.G fr cs) w)=.next (Conc.solo (Conc.G (fr.finish v) cs) w'))
  (h:wpList P ops Q (ops.toList.drop 1) (a.put o.dst v) w'):(Code.region id ops false).wp P Q a w:=by
 intro b k cs
 have hl:List.range ops.size=0::List.range' 1 n:=by rw [hsz,List.range_eq_range',List.range'_succ]
 have h2:wpOps P ops Q (List.range' 1 n) (a.put o.dst v) w':=by
  have e:=wpOps_eq_wpList (P:=P) (ops:=ops) (Q:=Q) (ops.toList.drop 1) 1 (fun j=>by rw [List.getElem?_drop];simp)
  have hn:(ops.toList.drop 1).length=n:=by simp;omega
  rw [hn] at e
  rw [e];exact h
 obtain ⟨e,a',w'',hq,harr⟩:=wp_ops _ _ _ h2 b k cs
 refine ⟨e,a',w'',hq,.of_steps (.head step_region (.one ?_)) harr⟩
 rw [hl]
 obtain ⟨es,hes⟩:=qq2 (P:=P) (main:=true) (b:=b) (a:=a) (k:=k) (cs:=cs) (w:=w) (rest:=List.range' 1 n) ho (by simp [Region.wanted,hg]) hr
 have:=hstep _ _ _ hes
 rw [Frame.finish_at,ho] at this
 exact this
theorem qqu {P:Program} {id n:Nat} {ops:Array Oper} {Q:Exit→Act→World→Prop} {a:Act} {w:World} {o:Oper} {c cap s r:Nat} {buf:Array Value} {closed tm:Bool} {z:Value}
  (hsz:ops.size=n+1) (ho:ops[0]?=some o) (hg:o.guard=none) (hr:(execOp a.eval o).run P w=.ok (.comm #[Conc.rcase c z] false .select) w) (hc:w.heap[c]?=some (.chan cap buf closed s r tm)) (hb:0<buf.size)
  (h:wpList P ops Q (ops.toList.drop 1) (a.put o.dst (.tuple #[goInt 0,.bool true,buf.getD 0 undef])) (w.setChan c cap (buf.extract 1 buf.size) closed s (r+1) tm)):(Code.region id ops false).wp P Q a w :=
 qfw hsz ho hg hr (fun _ _ _ hs=>Conc.step_lone_select_recv_buf hs hc hb) h
theorem qqm {P:Program} {id n:Nat} {ops:Array Oper} {Q:Exit→Act→World→Prop} {a:Act} {w:World} {o:Oper} {c cap s r:Nat} {tm:Bool} {z:Value}
  (hsz:ops.size=n+1) (ho:ops[0]?=some o) (hg:o.guard=none) (hr:(execOp a.eval o).run P w=.ok (.comm #[Conc.rcase c z] false .select) w) (hc:w.heap[c]?=some (.chan cap #[] false s r tm))
  (h:wpList P ops Q (ops.toList.drop 1) (a.put o.dst (.tuple #[goInt (-1),.bool false,z])) w):(Code.region id ops false).wp P Q a w :=
 qfw hsz ho hg hr (fun _ _ _ hs=>Conc.step_lone_select_default hs hc) h
theorem qra {P:Program} {id n:Nat} {ops:Array Oper} {Q:Exit→Act→World→Prop} {a:Act} {w:World} {o:Oper} {c cap s r:Nat} {buf:Array Value} {tm:Bool} {v z:Value}
  (hsz:ops.size=n+1) (ho:ops[0]?=some o) (hg:o.guard=none) (hr:(execOp a.eval o).run P w=.ok (.comm #[Conc.scase c v z] false .select) w) (hc:w.heap[c]?=some (.chan cap buf false s r tm)) (hb:buf.size<cap)
  (h:wpList P ops Q (ops.toList.drop 1) (a.put o.dst (.tuple #[goInt 0,.bool false])) (w.setChan c cap (buf.push v) false (s+1) r tm)):(Code.region id ops false).wp P Q a w :=
 qfw hsz ho hg hr (fun _ _ _ hs=>Conc.step_lone_select_send_room hs hc hb) h
theorem qqk {P:Program} {id n:Nat} {ops:Array Oper} {Q:Exit→Act→World→Prop} {a:Act} {w:World} {o:Oper} {c cap s r:Nat} {buf:Array Value} {tm:Bool} {v z:Value}
  (hsz:ops.size=n+1) (ho:ops[0]?=some o) (hg:o.guard=none) (hr:(execOp a.eval o).run P w=.ok (.comm #[Conc.scase c v z] false .select) w) (hc:w.heap[c]?=some (.chan cap buf false s r tm)) (hb:cap≤buf.size)
  (h:wpList P ops Q (ops.toList.drop 1) (a.put o.dst (.tuple #[goInt (-1),.bool false])) w):(Code.region id ops false).wp P Q a w :=
 qfw hsz ho hg hr (fun _ _ _ hs=>Conc.step_lone_select_send_full hs hc hb) h
def zeros (n:Nat):Bs:=List.replicate n 0
def zsec:Array Value:=row8 (zeros 128)
theorem qir (w:World):(zeroValue 43).run Tryz.prog w=.ok (.agg zsec) w:=by kernel_rfl
theorem qni:(Tryz.prog.info? 43).map (·.size)=some 128:=by kernel_rfl
theorem q38:(Tryz.prog.info? 43).map (fun i=>(i.zero,i.size,i.bytes))=some (some (.agg zsec),128,128):=by kernel_rfl
def zchg:Value:=.agg (#[.int .i64 0]++zsec)
theorem q3m:(Tryz.prog.info? 110).map (fun i=>(i.zero,i.size,i.bytes))=some (some zchg,129,136):=by kernel_rfl
theorem qgs:zchg.cells.size=129:=by kernel_rfl
theorem qdc {w:World} {b:Nat} {l:Bs} {t:TypeId} {fz:Nat×Nat} (h:w.heap[b]?=some (.cells (row8 l) t fz)) (o n:Nat):w.rangeAt b o (((l.drop o).take n).map enc8):=fun j v hv=>by
 refine qac h (o+j) ?_
 simp only [row8,List.getElem?_toArray,List.getElem?_map] at hv ⊢
 rw [List.getElem?_take] at hv
 split at hv
 ·rw [List.getElem?_drop] at hv;exact hv
 ·simp at hv
theorem qdg {w:World} {b:Nat} {l:Bs} {t:TypeId} (h:w.heap[b]?=some (.cells (row8 l) t (0,0))) (o n:Nat) (hn:o+n≤l.length):w.there b o n:=fun j hj=>by
 rw [qac h (o+j) (qdw l (o+j) (by omega))]
 exact ⟨rfl,qa9 h _⟩
theorem secHi {s:Bs} (h:s.length=128):(Tryz.prog.info? 43).map (·.size)=some (s.map enc8).length:=by rw [List.length_map,h];exact qni
theorem secHr {s:Bs} (h:s.length=128):(Tryz.prog.info? 43).map (·.size)=some (row8 s).size:=by rw [row8,List.size_toArray];exact secHi h
theorem qbn (s:Bs):(row8 s).size=s.length:=by simp [row8]
theorem qcf (s:Bs):(row8 s).all (·.oneCell')=true:=all_oneCell_toArray (qc3 s)
theorem qpe {P:Program} {fn:Func} {p q:Tmp} {ty:TypeId} (h:fn.results=#[.cell p ty,.tmp q]) (tmps:Array Value) (w:World) (g:Nat) (t:TypeId) (cs:Array Value) (fr:Nat×Nat) (d:TypeDesc)
  (hp:tmps.getD p undef=.pointer (some ⟨g,0,none⟩)) (hg:w.heap[g]?=some (.cells cs t fr))
  (hu:P.underlying ty=some d) (hd:(match d with | .struct _ | .array _ _=>true | _=>false)=true) (hi:(P.info? ty).map (·.size)=some cs.size) :
  (results fn tmps).run P w=.ok (.tuple #[.agg cs,tmps.getD q undef]) w:=by
 have hp':tmps[p]?.getD undef=.pointer (some ⟨g,0,none⟩):=by simpa using hp
 simp [results,h,hp',asAddr,run_loadVar_row w g t ty cs fr d hg hu hd hi]
def putAt (l:Bs) (o:Nat) (s:Bs):Bs:=l.take o++s++l.drop (o+s.length)
theorem qg4 {l s:Bs} {o:Nat} (h:o+s.length≤l.length):(putAt l o s).length=l.length:=by simp [putAt];omega
theorem qi9 {w:World} {b:Nat} {l:Bs} {t:TypeId} (h:w.heap[b]?=some (.cells (row8 l) t (0,0))) (o:Nat) (s:Bs) (hn:o+s.length≤l.length) :
  (w.setCells b o (s.map enc8)).heap[b]?=some (.cells (row8 (putAt l o s)) t (0,0))∧Mods (fun k=>k=b) w (w.setCells b o (s.map enc8)):=by
 induction s generalizing w l o with
 | nil=>exact ⟨by simpa [World.setCells,putAt] using h,by simpa [World.setCells] using Mods.refl _ w⟩
 | cons x r ih =>
  simp only [List.map_cons,World.setCells]
  simp only [List.length_cons] at hn
  have h1:=qbf h o (enc8 x)
  rw [qol] at h1
  obtain ⟨h2,h3⟩:=ih h1 (o+1) (by rw [List.length_set];omega)
  refine ⟨h2.trans ?_,((Mods.refl (fun k=>k=b) w).set1 (enc8 x)).trans h3⟩
  congr 3
  obtain ⟨A,y,B,rfl,rfl⟩:∃ A y B,l=A++y::B∧A.length=o:=⟨l.take o,l[o],l.drop (o+1),by rw [← List.drop_eq_getElem_cons,List.take_append_drop],by simp;omega⟩
  unfold putAt
  rw [List.set_append_right _ _ (Nat.le_refl _),Nat.sub_self,List.set_cons_zero,List.take_append,List.take_append,List.drop_append,List.drop_append]
  simp only [List.take_of_length_le (show A.length≤A.length+1 by omega),show A.length+1-A.length=1 by omega,Nat.sub_self,List.take_length,List.take_zero,List.append_nil,List.length_cons]
  rw [List.drop_of_length_le (show A.length≤A.length+1+r.length by omega),List.drop_of_length_le (show A.length≤A.length+(r.length+1) by omega),show A.length+1+r.length-A.length=r.length+1 by omega,show A.length+(r.length+1)-A.length=r.length+1 by omega]
  simp
theorem qcs {w:World} {b:Nat} {l s:Bs} {t:TypeId} (h:w.heap[b]?=some (.cells (row8 l) t (0,0))) (hs:s.length=l.length) :
  (w.setCells b 0 (s.map enc8)).heap[b]?=some (.cells (row8 s) t (0,0))∧Mods (fun k=>k=b) w (w.setCells b 0 (s.map enc8)):=by
 obtain ⟨h1,h2⟩:=qi9 h 0 s (by omega)
 refine ⟨h1.trans ?_,h2⟩
 congr 3
 simp [putAt,hs]
theorem qb7 {P:Program} {ops:Array Oper} {w:World} {Q:Act→Prop} {a:Act} {op:Oper} {rest:List Oper} (hgd:op.guard=none) (ty:TypeId) (x:Operand) (ho:op.op=.load ty x)
  (b o:Nat) (hx:a.eval x=.pointer (some ⟨b,o,none⟩)) (cs:List Value) (d:TypeDesc) (hc:w.rangeAt b o cs)
  (hu:P.underlying ty=some d) (hd:d.isRow=true) (hi:(P.info? ty).map (·.size)=some cs.length)
  (h:wpStill P ops w Q rest (a.put op.dst (.agg cs.toArray))):wpStill P ops w Q (op::rest) a:=by
 refine wpStill_step (fun K hK=>?_)
 have hw:Region.wanted op (yielded ops a.tmps)=true:=by simp [Region.wanted,hgd]
 rw [if_pos hw]
 unfold Oper.still execOp
 simp only [ho,hx,Instr.loadAt,Instr.sureAddr,Sem.run_bind,Sem.run_pure,Result.andThen_ok,run_loadVar_mid w b o ty cs d hc hu hd hi,Oper.stillUpon]
 exact ⟨trivial,hK _ h⟩
theorem qg8 {P:Program} {o:Oper} {a:Act} {w:World} {K:Act→World→Prop} {Q:Exit→Act→World→Prop}
  (s x:Operand) (t:TypeId) (hop:o.op=Op.call { callee:=Callee.builtin Builtin.append,args:=#[s,x],argTypes:=#[t,t] })
  (e:TypeId) (i:TypeInfo) (z:Value) (size bytes:Nat) (h1:P.underlying t=some (.slice e)) (h2:P.info? e=some i) (h3:i.zero=some z) (h4:i.size=size) (h5:i.bytes=bytes) (h6:z.cells.size=size) (h7:0<size)
  (v:Value) (k:Nat) (xs:List Value) (hs:a.eval s=v) (hown:w.ownsRow 0 e size v k xs) (ad:Addr) (m c:Nat) (news:List Value) (hx:a.eval x=.slice (some ad) m c) (hn:news.length=m*size)
  (hc:∀ j u,news[j]?=some u→w.cell? (ad.add j)=some u) (h1c:∀ u∈news,u.oneCell'=true) (b1:k+m≤maxLen) (b2:(k+m)*bytes≤140737488355328)
  (hK:∀ v' w',w'.ownsRow 0 e size v' (k+m) (xs++news)→w.grownBy w' v.ownBlock→(∀ g,v'.ownBlock=some g→v.ownBlock=some g∨w.heap.size≤g)→K (a.put o.dst v') w') :
  Oper.wp P o a w K Q:=by
 obtain ⟨v',w',hrun,r1,r2,r3,r4⟩:=qgg (P:=P) w t o.type e i z size bytes h1 h2 h3 h4 h5 h6 h7 v k xs hown ad m c news hn hc h1c b1 b2
 unfold Oper.wp
 simp [execOp,hop,resolve,invoke,builtin,hs,hx,hrun,Result.andThen]
 exact hK v' w' r1 r2 r4
def spl (l:List Value) (o:Nat) (v:List Value):List Value:=l.take o++v++l.drop (o+v.length)
theorem qgr (place:Nat→Option (Nat×Nat)) (cells:List Value) (i:Nat) (v:Value) (off size:Nat) (rest:List (Nat×Value)) (hp:place i=some (off,size)) (hs:v.cells.size=size) (hfit:off+size≤cells.length) :
  Instr.fill place cells.toArray ((i,v)::rest)=Instr.fill place (spl cells off v.cells.toList).toArray rest:=by
 subst hs
 simp only [Instr.fill,hp]
 rw [if_neg (by simp;omega)]
 congr 1
 rw [← Array.foldl_toList,Array.toList_zipIdx]
 obtain ⟨h1,h2⟩:=Great.foldl_set off v.cells.toList 0 cells.toArray
 apply Array.ext_getElem?
 intro k
 rw [h2 k]
 simp only [List.getElem?_toArray,List.size_toArray,Nat.add_zero,Array.length_toList,spl,List.append_assoc]
 rcases Nat.lt_or_ge k off with hk | hk
 ·rw [if_neg (by omega),List.getElem?_append_left (by simp;omega),List.getElem?_take_of_lt hk]
 ·rw [List.getElem?_append_right (by simp;omega)]
  simp only [List.length_take]
  rw [show min off cells.length=off by omega]
  rcases Nat.lt_or_ge k (off+v.cells.size) with hk2 | hk2
  ·rw [if_pos (by omega),List.getElem?_append_left (by simp;omega)]
  ·rw [if_neg (by omega),List.getElem?_append_right (by simp;omega),List.getElem?_drop]
   congr 1;simp;omega
theorem q3n (Z R:List Value) (x:Value) (h:Z.length=R.length+1):spl (spl Z 0 [x]) 1 R=x::R:=by
 cases Z with
 | nil=>simp at h
 | cons z Z =>
  have h':Z.length≤R.length:=by simp at h;omega
  simp [spl,Nat.add_comm 1,h']
theorem q1x (a:Int) (s:Bs) (hs:s.length=128):Tryz.prog.built 110 [(0,.int .i64 a),(1,.agg (row8 s))]=some (.int .i64 a::s.map enc8).toArray:=by
 have e:Tryz.prog.built 110 [(0,.int .i64 a),(1,.agg (row8 s))]=Instr.fill (#[(0,1),(1,128)][·]?) (zchg.cells.toList).toArray [(0,.int .i64 a),(1,.agg (row8 s))]:=by kernel_rfl
 have hz:zchg.cells.toList.length=129:=qgs
 rw [e]
 generalize zchg.cells.toList=Z at hz ⊢
 have h8:(Value.agg (row8 s)).cells.toList=s.map enc8:=by simp [Value.cells,row8]
 have hl:(s.map enc8).length=128:=by simpa using hs
 have h1:(spl Z 0 [Value.int IntKind.i64 a]).length=129:=by simp [spl];omega
 rw [qgr _ _ 0 _ 0 1 _ rfl rfl (by omega)]
 show Instr.fill _ (spl Z 0 [Value.int IntKind.i64 a]).toArray _=_
 rw [qgr _ _ 1 _ 1 128 _ rfl (by simp [Value.cells,row8,hs]) (by omega),h8,q3n Z _ _ (by omega)]
 rfl
theorem qhn {P:Program} {o:Oper} {a:Act} {w:World} {K:Act→World→Prop} {Q:Exit→Act→World→Prop} (t:TypeId) (parts:Array (Nat×Operand)) (ho:o.op=.build t parts) (cells:Array Value)
  (hc:P.built t (parts.map fun (i,x)=>(i,a.eval x)).toList=some cells) (h:K (a.put o.dst (.agg cells)) w):o.wp P a w K Q:=by
 unfold Oper.wp execOp
 simp only [ho,Sem.run_bind,run_build w t _ cells hc,Result.andThen_ok]
 exact h
theorem q2u (cs:List Value) (hcs:cs.length=129) (n m:Nat) (hn:n=129) (hm:m=129) (Z:Array Value):Instr.fill (fun i=>some (i*n,n)) ((Array.range (1*n)).map (Z[·%m]!)) [(0,.agg cs.toArray)]=some cs.toArray:=by
 subst hn;subst hm
 have hf:=Great.fill_whole (s:=129) (by omega) [Value.agg cs.toArray] ((Array.range (1*129)).map (Z[·%129]!)) (fun v hv=>by simp at hv;subst hv;simpa [Value.cells] using hcs) (by simp)
 simpa [Value.cells] using hf
structure DevL where
 n:Nat
 sb:Nat
 nb:Nat
 chv:Value
 safe:Bs
 now:Bs
 chs:List (Nat×Bs)
def qbq (l:List (Nat×Bs)):List Value:=l.flatMap fun c=>Value.int .i64 c.1::c.2.map enc8
def devF (d:Nat) (L:DevL):HF :=
 (d,Is (.cells #[.slice (some ⟨L.sb,0,none⟩) L.n L.n,.slice (some ⟨L.nb,0,none⟩) L.n L.n,L.chv,.int .i64 (-1)] 105 (0,0))) ::
 (L.nb,Is (.cells (row8 L.now) 43 (0,0))) ::
 (L.sb,Is (.cells (row8 L.safe) 43 (0,0))) ::
 rowF 110 129 L.chv L.chs.length (qbq L.chs)
def qfr (s:Bs) (l:List (Nat×Bs)):Bs:=l.foldl (fun s c=>putAt s (128*c.1) c.2) s
structure DevOk (L:DevL):Prop where
 hn:L.n≤1099511627776
 safeL:L.safe.length=128*L.n
 nowL:L.now.length=128*L.n
 row:RowOk 129 L.chv L.chs.length (qbq L.chs)
 chs:∀ c∈L.chs,c.1<L.n∧c.2.length=128
 now:qfr L.safe L.chs=L.now
theorem qdk {w:World} {d:Nat} {L:DevL} {R:HF} (h:Sat w (devF d L++R)):w.heap[d]?=some (.cells #[.slice (some ⟨L.sb,0,none⟩) L.n L.n,.slice (some ⟨L.nb,0,none⟩) L.n L.n,L.chv,.int .i64 (-1)] 105 (0,0)):=by
 exact h.headIs
theorem qld {w:World} {d:Nat} {L:DevL} {R:HF} (h:Sat w (devF d L++R)):w.heap[L.nb]?=some (.cells (row8 L.now) 43 (0,0)):=by
 exact h.tail.headIs
theorem qr7 {w:World} {d:Nat} {L:DevL} {R:HF} (h:Sat w (devF d L++R)):w.heap[L.sb]?=some (.cells (row8 L.safe) 43 (0,0)):=by
 exact h.tail.tail.headIs
def secOf (l:Bs) (at_:Nat):Bs:=(l.drop (128*at_)).take 128
theorem qfl {l:Bs} {n at_:Nat} (h:l.length=128*n) (ha:at_<n):(secOf l at_).length=128:=by simp [secOf];omega
theorem qvy {d:Nat} {L:DevL} {w w':World} {now':Bs} (h:Sat w (devF d L)) (hm:Mods (fun k=>k=L.nb) w w') (hn:w'.heap[L.nb]?=some (.cells (row8 now') 43 (0,0))):Turns (devF d L) (devF d { L with now:=now' }) w w' :=
 ((Turns.refl (h.perm (List.Perm.swap _ _ _))).putIs hm hn).perm (List.Perm.swap _ _ _) (List.Perm.swap _ _ _)
theorem qux {d:Nat} {L:DevL} {w w':World} {safe':Bs} (h:Sat w (devF d L)) (hm:Mods (fun k=>k=L.sb) w w') (hn:w'.heap[L.sb]?=some (.cells (row8 safe') 43 (0,0))):Turns (devF d L) (devF d { L with safe:=safe' }) w w':=by
 have p:∀ (a b c:Nat×(Obj→Prop)) (l:HF),(a::b::c::l).Perm (c::a::b::l):=fun a b c l=>((List.Perm.swap _ _ _).cons a).trans (List.Perm.swap _ _ _)
 exact ((Turns.refl (h.perm (p _ _ _ _))).putIs hm hn).perm (p _ _ _ _).symm (p _ _ _ _).symm
theorem qwr {d:Nat} {L:DevL} {w w1 w2:World} {v':Value} {chs':List (Nat×Bs)} (h:Sat w (devF d L)) (hown:w1.ownsRow 0 110 129 v' chs'.length (qbq chs')) (hgrow:w.grownBy w1 L.chv.ownBlock)
  (hg:∀ g,v'.ownBlock=some g→L.chv.ownBlock=some g∨w.heap.size≤g) (hm:Mods (fun k=>k=d) w1 w2) (hd:w2.heap[d]?=some (.cells #[.slice (some ⟨L.sb,0,none⟩) L.n L.n,.slice (some ⟨L.nb,0,none⟩) L.n L.n,v',.int .i64 (-1)] 105 (0,0))) :
  Turns (devF d L) (devF d { L with chv:=v',chs:=chs' }) w w2:=by
 have p:∀ (a b c:Nat×(Obj→Prop)) (l:HF),(a::b::c::l).Perm (l++[a,b,c]):=fun a b c l=>by
  have:(a::b::c::l)=[a,b,c]++l:=rfl
  rw [this];exact List.perm_append_comm
 have h1:Turns (devF d L) _ w w1:=((Turns.refl (h.perm (p _ _ _ _))).grow hown hgrow hg).perm (p _ _ _ _).symm (p _ _ _ _).symm
 exact h1.putIs hm hd
theorem qmz (l:List (Nat×Bs)) (c:Nat×Bs):qbq (l++[c])=qbq l++(.int .i64 c.1::c.2.map enc8):=by simp [qbq]
theorem qmg (s:Bs) (l:List (Nat×Bs)) (c:Nat×Bs):qfr s (l++[c])=putAt (qfr s l) (128*c.1) c.2:=by simp [qfr]
def q6c (w:World) (e:Ending) (w':World):Prop:=e=.returned (.bool false)∧w=w'
theorem qmh (d:Nat) (L:DevL) (w:World) (h:Sat w (devF d L)):Calls Tryz.prog 48 #[.pointer (some ⟨d,0,none⟩)] w (q6c w):=by
 have hd:=qdk (R:=[]) (by simpa using h)
 have c3:=qac hd 3 (v:=.int .i64 (-1)) (by simp)
 have H:=Lib.hid (And.intro h hd)
 clear h hd
 go_enter Tryz.func48,Tryz.ntmps48
 go_wp2
 go_ret
 exact ⟨rfl,rfl⟩
def qv2 (n:Nat) (w:World) (e:Ending) (w':World):Prop:=e=.returned (.int .i64 n)∧w=w'
theorem qh9 (d:Nat) (L:DevL) (w:World) (h:Sat w (devF d L)):Calls Tryz.prog 16 #[.pointer (some ⟨d,0,none⟩)] w (qv2 L.n w):=by
 have hd:=qdk (R:=[]) (by simpa using h)
 have c0:=qac hd 0 (v:=.slice (some ⟨L.sb,0,none⟩) L.n L.n) (by simp)
 have H:=Lib.hid (And.intro h hd)
 clear h hd
 go_enter Tryz.func16,Tryz.ntmps16
 go_wp2
 go_ret
 exact ⟨rfl,rfl⟩
def qgk (L:DevL) (at_:Nat) (w:World) (e:Ending) (w':World):Prop :=
 e=.returned (.tuple #[.agg (row8 (secOf L.now at_)),.nilIface])∧Same w w'
theorem qij (d:Nat) (L:DevL) (at_:Nat) (w:World) (h:Sat w (devF d L)) (hL:DevOk L) (ha:at_<L.n) :
  Calls Tryz.prog 17 #[.pointer (some ⟨d,0,none⟩),.int .i64 at_] w (qgk L at_ w):=by
 have hn:=hL.hn
 have hd:=qdk (R:=[]) (by simpa using h)
 have hnow:=qld (R:=[]) (by simpa using h)
 have c0:=qac hd 0 (v:=.slice (some ⟨L.sb,0,none⟩) L.n L.n) (by simp)
 have c1:=qac hd 1 (v:=.slice (some ⟨L.nb,0,none⟩) L.n L.n) (by simp)
 have HO:=Lib.hid (fun W (hs:Same w W)=>qmh d L W (h.same hs))
 have hz:=qir
 have g1:decide ((at_:Int)<0)=false:=by simp
 have g2:decide (L.n≤at_)=false:=by simp;omega
 have hdl:d<w.heap.size:=qal hd
 have H:=Lib.hid (And.intro h (And.intro hd (And.intro hL hnow)))
 clear h hd hL hnow
 go_enter Tryz.func17,Tryz.ntmps17
 go_wp2_with fail
 refine (HO.out _ (((Mods.refl _ w).alloc _).alloc _)).mono ?_
 rintro e w1 ⟨rfl,rfl⟩
 have hsl:=qfl H.out.2.2.1.nowL ha
 have HR:=Lib.hid hsl
 clear hsl
 go_wp2_with (first | (refine wpList_load_mid rfl 43 (.tmp 35) rfl L.nb (at_*128) rfl ((secOf L.now at_).map enc8) _ ?c1 Tryz.underlying43 rfl (secHi HR.out) ?_) | (refine wpList_store_mid rfl 43 (.tmp 4) (.tmp 36) rfl w.heap.size 0 (row8 (secOf L.now at_)) rfl rfl ?c2 (secHr HR.out) (qcf _) ?_))
 case c1=>rw [Nat.mul_comm];exact World.rangeAt_alloc (World.rangeAt_alloc (qdc H.out.2.2.2 _ _) _) _
 all_goals have hw0:((w.alloc (Obj.cells zsec 43)).alloc (Obj.cells zsec 43)).heap[w.heap.size]?=some (.cells (row8 (zeros 128)) 43 (0,0)):=(qcz (by simp)).trans (qa7 w _)
 case c2=>exact qdg hw0 0 _ (by rw [qbn,HR.out];simp [zeros])
 obtain ⟨h1,h2⟩:=qcs hw0 (s:=secOf L.now at_) (by rw [HR.out];simp [zeros])
 refine bodyPost_ret (qpe rfl _ _ w.heap.size 43 (row8 (secOf L.now at_)) (0,0) _ rfl h1 Tryz.underlying43 rfl (secHr HR.out)) rfl ⟨rfl,?_⟩
 exact (((Mods.refl _ w).alloc _).alloc _).trans' h2 (fun i hi=>.inr (by omega))
def qgt (d:Nat) (L:DevL) (at_:Nat) (s:Bs) (w:World) (e:Ending) (w':World):Prop :=
 e=.returned .nilIface∧∃ L',Turns (devF d L) (devF d L') w w'∧DevOk L'∧L'.n=L.n∧L'.now=putAt L.now (128*at_) s∧L'.chs.length=L.chs.length+1
theorem qhq (d:Nat) (L:DevL) (at_:Nat) (s:Bs) (w:World) (h:Sat w (devF d L)) (hL:DevOk L) (ha:at_<L.n) (hs:s.length=128) (hc:L.chs.length≤274877906944) :
  Calls Tryz.prog 18 #[.pointer (some ⟨d,0,none⟩),.int .i64 at_,.agg (row8 s)] w (qgt d L at_ s w):=by
 have hn:=hL.hn
 have hd:=qdk (R:=[]) (by simpa using h)
 have hnow:=qld (R:=[]) (by simpa using h)
 have c0:=qac hd 0 (v:=.slice (some ⟨L.sb,0,none⟩) L.n L.n) (by simp)
 have c1:=qac hd 1 (v:=.slice (some ⟨L.nb,0,none⟩) L.n L.n) (by simp)
 have c2:=qac hd 2 (v:=L.chv) (by simp)
 have f2:=qa9 hd 2
 have hdl:d<w.heap.size:=qal hd
 have HO:=Lib.hid (fun W (hs:Same w W)=>qmh d L W (h.same hs))
 have g1:decide ((at_:Int)<0)=false:=by simp
 have g2:decide (L.n≤at_)=false:=by simp;omega
 have H:=Lib.hid (And.intro h (And.intro hd (And.intro hL (And.intro hnow hs))))
 clear h hd hL hnow hs
 go_enter Tryz.func18,Tryz.ntmps18
 go_wp2_with fail
 refine (HO.out _ (((Mods.refl _ w).alloc _))).mono ?_
 rintro e w1 ⟨rfl,rfl⟩
 go_wp2_with fail
 have hw1:=qa7 w (.cells (row8 s) 43)
 have hs1:Same w (w.alloc (.cells (row8 s) 43)):=(Mods.refl _ w).alloc _
 have hsz:(w.alloc (.cells (row8 s) 43)).heap.size=w.heap.size+1:=by simp
 generalize hB:w.heap.size=B at hw1 hsz hdl ⊢
 generalize w.alloc (.cells (row8 s) 43)=w1 at hw1 hs1 hsz ⊢
 have HB:=Lib.hid (And.intro hB (And.intro hw1 hs1))
 have HS:=Lib.hid (H.out.1.same hs1)
 clear hB hw1 hs1 c0 c1 c2 f2 HO
 have c1:=qac (qdk (R:=[]) (by simpa using HS.out)) 1 (v:=.slice (some ⟨L.nb,0,none⟩) L.n L.n) (by simp)
 have hm:Tryz.prog.follows .mixedOrders=true:=by kernel_rfl
 have HM:=Lib.hid hm
 clear hm
 refine wp_region_still_tail 7 HM.out (by kernel_rfl) ?_
 simp only [List.take_succ_cons,List.take_zero,List.drop_succ_cons,List.drop_zero]
 repeat still_step
 refine qb7 rfl 43 (.tmp 5) rfl B 0 rfl (s.map enc8) _ (by have:=qdc HB.out.2.1 0 128;rwa [List.drop_zero,List.take_of_length_le (by have:=H.out.2.2.2.2;omega)] at this) Tryz.underlying43 rfl (secHi H.out.2.2.2.2) ?_
 repeat still_step
 refine wpStill_nil ?_
 change wpList _ _ _ _ _ w1.drew
 go_wp2_with (refine wpList_store_mid rfl 43 (.tmp 34) (.tmp 33) rfl L.nb (at_*128) (row8 s) rfl rfl ?c2 (secHr H.out.2.2.2.2) (qcf _) ?_)
 case c2=>exact (World.there_drew _ _ _ _).2 (qdg (qld (R:=[]) (by simpa using HS.out)) _ _ (by rw [qbn,H.out.2.2.1.nowL,H.out.2.2.2.2];omega))
 obtain ⟨hp1,hp2⟩:=qi9 (w:=w1.drew) (qld (w:=w1) (d:=d) (R:=[]) (by simpa using HS.out)) (at_*128) s (by rw [H.out.2.2.1.nowL,H.out.2.2.2.2];omega)
 have hT2:=(Turns.sameThen H.out.1 HB.out.2.2 ((Turns.refl HS.out).drew)).trans (qvy (HS.out.same ((Mods.refl _ w1).drew)) hp2 hp1)
 have hb2:(w1.drew.setCells L.nb (at_*128) (s.map enc8)).heap[B]?=some (.cells (row8 s) 43 (0,0)):=hp2.at HB.out.2.1 (fun e=>by have:=HS.out.lt (b:=L.nb) (by simp [devF]);have h0:=H.out.1.lt (b:=L.nb) (by simp [devF]);rw [HB.out.1] at h0;omega)
 show Code.wp _ _ _ _ (w1.drew.setCells L.nb (at_*128) (s.map enc8))
 refine wp_region_any HM.out ?_
 change wpAny _ _ _ _ _ _ _ (World.drew _)
 have hT3:=hT2.drew
 have hb3:((w1.drew.setCells L.nb (at_*128) (s.map enc8)).drew).heap[B]?=_:=hb2
 generalize (w1.drew.setCells L.nb (at_*128) (s.map enc8)).drew=w2 at hT3 hb3 ⊢
 clear hp1 hp2 hT2 hb2
 have hd2:=qdk (R:=[]) (by simpa using hT3.sat)
 have c2:=qac hd2 2 (v:=L.chv) (by simp)
 have f2:=qa9 hd2 2
 have hdl2:d<w2.heap.size:=qal hd2
 have HRG:=Lib.hid (by have:=qdc (w:=w2) hb3 0 128;rwa [List.drop_zero,List.take_of_length_le (by have:=H.out.2.2.2.2;omega)] at this)
 obtain ⟨i0,hi0,hz1,hz2,hz3⟩:=info_parts q3m
 have HBD:Hid (Tryz.prog.built 110 [(0,.int .i64 at_),(1,.agg (s.map enc8).toArray)]=some (.int .i64 at_::s.map enc8).toArray):=Lib.hid (q1x at_ s H.out.2.2.2.2)
 have HSL:Hid (¬ 1*i0.size>2 ^ 24∧¬ 1*i0.size=0∧Instr.fill (fun i=>some (i*i0.size,i0.size)) ((Array.range (1*i0.size)).map (zchg.cells[·%zchg.cells.size]!)) [(0,.agg (.int .i64 at_::s.map enc8).toArray)]=some (.int .i64 at_::s.map enc8).toArray) :=
  Lib.hid ⟨by rw [hz2];omega,by rw [hz2];omega,q2u _ (by simp [H.out.2.2.2.2]) _ _ hz2 qgs _⟩
 have HI:=Lib.hid (And.intro hi0 (And.intro hz1 (And.intro hz2 hz3)))
 have hcl:(Value.int .i64 at_::s.map enc8).length=1*129:=by simp [H.out.2.2.2.2]
 have h1c:∀ u∈(Value.int .i64 at_::s.map enc8),u.oneCell'=true:=fun u hu=>by
  rcases List.mem_cons.1 hu with rfl | hu
  ·rfl
  ·exact qc3 s u hu
 have hnc:∀ j u,(Value.int .i64 at_::s.map enc8)[j]?=some u→(w2.alloc (.cells (Value.int .i64 at_::s.map enc8).toArray 110)).cell? ((⟨w2.heap.size,0,none⟩:Addr).add j)=some u:=fun j u hu=>by
  rw [Addr.add_mid,Nat.zero_add];exact qac (qa7 w2 _) j (by simpa using hu)
 obtain ⟨nw,hnw⟩:∃ nw,nw=w2.alloc (.cells (Value.int .i64 at_::s.map enc8).toArray 110):=⟨_,rfl⟩
 have hT4:Turns (devF d L) (devF d { L with now:=putAt L.now (at_*128) s }) w nw:=by rw [hnw];exact hT3.alloc _
 have HW:Hid (True∧(w2.alloc (.cells (Value.int .i64 at_::s.map enc8).toArray 110)).ownsRow 0 110 129 L.chv L.chs.length (qbq L.chs)):=Lib.hid ⟨trivial,by rw [← hnw];exact qbm hT4.sat.tail.tail.tail H.out.2.2.1.row⟩
 have HA:=Lib.hid (And.intro hcl (And.intro hnc h1c))
 have HD:Hid (∀ v' w3,World.ownsRow w3 0 110 129 v' (L.chs.length+1) (qbq L.chs++(Value.int .i64 at_::s.map enc8))→World.grownBy (w2.alloc (.cells (Value.int .i64 at_::s.map enc8).toArray 110)) w3 L.chv.ownBlock→(∀ g,v'.ownBlock=some g→L.chv.ownBlock=some g∨(w2.alloc (.cells (Value.int .i64 at_::s.map enc8).toArray 110)).heap.size≤g)→w3.heap[d]?=some (.cells #[.slice (some ⟨L.sb,0,none⟩) L.n L.n,.slice (some ⟨L.nb,0,none⟩) L.n L.n,L.chv,.int .i64 (-1)] 105 (0,0))∧qgt d L at_ s w (.returned .nilIface) (w3.setCell ⟨d,2,none⟩ v')):=Lib.hid (by
  rw [← hnw]
  intro v' w3 hown hgrow hg
  have hd4:=qdk (R:=[]) (by simpa using hT4.sat)
  have hd3:=(Mods.of_grown hgrow).at hd4 (fun e=>by
   have h1:=hT4.sat.nodup
   have h2:d∉dom (rowF 110 129 L.chv L.chs.length (qbq L.chs)):=fun hm=>by
    have:=hT4.sat.notMem
    exact this (by simp only [qhi,List.mem_cons];exact .inr (.inr hm))
   exact h2 ((qfa _ _ _ _ _ _).2 e))
  refine ⟨hd3,rfl,{ L with now:=putAt L.now (at_*128) s,chv:=v',chs:=L.chs++[(at_,s)] },?_,?_,rfl,by rw [Nat.mul_comm],by simp⟩
  ·refine hT4.trans (qwr (v':=v') (chs':=L.chs++[(at_,s)]) hT4.sat ?_ hgrow hg ((Mods.refl _ w3).set1 v') ((qbf hd3 2 v').trans (by simp)))
   rw [qmz,List.length_append];exact hown
  ·have hL:=H.out.2.2.1
   have hs:=H.out.2.2.2.2
   refine ⟨hL.hn,hL.safeL,by rw [qg4 (by rw [hL.nowL,hs];omega)];exact hL.nowL,?_,?_,?_⟩
   ·have:=(qe5 hown).2
    rw [qmz,List.length_append];exact this
   ·intro c hc
    rcases List.mem_append.1 hc with hc | hc
    ·exact hL.chs c hc
    ·simp at hc;subst hc;exact ⟨ha,hs⟩
   ·show qfr L.safe (L.chs++[(at_,s)])=_
    rw [qmg,hL.now,Nat.mul_comm])
 clear hi0 hz1 hz2 hz3 hT3 hd2 hb3 c1 hcl hnc h1c hT4 hnw
 refine wpAny_take (i:=0) (v:=?_) rfl (by kernel_rfl) (by kernel_rfl) (by kernel_rfl) (fun _ _ _ h=>h) (Or.inl ⟨by rfl,?_⟩) ?_
 rotate_left
 ·intro w;go_simp;try (with_reducible rfl)
 refine wpAny_take (i:=1) (v:=?_) rfl (by kernel_rfl) (by kernel_rfl) (by kernel_rfl) (fun _ _ _ h=>h) (Or.inl ⟨by rfl,?_⟩) ?_
 rotate_left
 ·intro w;go_simp;try (with_reducible rfl)
 refine wpAny_take (i:=2) (v:=?_) rfl (by kernel_rfl) (by kernel_rfl) (by kernel_rfl) (fun _ _ _ h=>h) (Or.inl ⟨by rfl,?_⟩) ?_
 rotate_left
 ·intro w;go_simp;try (with_reducible rfl)
 refine wpAny_take (i:=3) (v:=?_) rfl (by kernel_rfl) (by kernel_rfl) (by kernel_rfl) (fun _ _ _ h=>h) (Or.inl ⟨by rfl,?_⟩) ?_
 rotate_left
 ·intro w;go_simp;try (with_reducible rfl)
 refine wpAny_take (i:=5) (v:=?_) rfl (by kernel_rfl) (by kernel_rfl) (by kernel_rfl) (fun _ _ _ h=>h) (Or.inl ⟨by rfl,?_⟩) ?_
 rotate_left
 ·intro w;go_simp;try (with_reducible rfl)
 refine wpAny_ready (rs:=[4,6]) (by kernel_rfl) (by simp) ?_
 refine AllReady.cons rfl (fun K hK=>?_) ?_
 ·go_simp
  refine hK _ _ ?_
  clear hK K
  refine wpAny_ready (rs:=[6]) (by kernel_rfl) (by simp) ?_
  refine AllReady.cons rfl (fun K hK=>?_) ?_
  ·simp only [List.getElem_toArray,List.getElem_cons_succ,List.getElem_cons_zero]
   rw [if_pos (by rfl)]
   refine wp_load_mid 43 (.tmp 5) rfl B 0 rfl (s.map enc8) _ HRG.out Tryz.underlying43 rfl (secHi H.out.2.2.2.2) ?_
   simp only [Act.put,List.setIfInBounds_toArray,List.set_cons_zero,List.set_cons_succ]
   refine hK _ _ ?_
   clear hK K
   refine wpAny_ready (rs:=[7]) (by kernel_rfl) (by simp) ?_
   refine AllReady.cons rfl (fun K hK=>?_) ?_
   ·simp only [List.getElem_toArray,List.getElem_cons_succ,List.getElem_cons_zero]
    rw [if_pos (by rfl)]
    refine qhn 110 _ rfl (Value.int .i64 (at_:Int)::s.map enc8).toArray (by simp only [List.map_toArray,List.map_cons,List.map_nil];exact HBD.out) ?_
    simp only [Act.put,List.setIfInBounds_toArray,List.set_cons_zero,List.set_cons_succ]
    refine hK _ _ ?_
    clear hK K
    refine wpAny_ready (rs:=[8]) (by kernel_rfl) (by simp) ?_
    refine AllReady.cons rfl (fun K hK=>?_) ?_
    ·simp only [List.getElem_toArray,List.getElem_cons_succ,List.getElem_cons_zero]
     rw [if_pos (by rfl)]
     refine wp_buildSlice 103 110 1 _ rfl (Value.int .i64 (at_:Int)::s.map enc8).toArray i0 zchg Tryz.underlying103 HI.out.1 HI.out.2.1 HSL.out.1 HSL.out.2.1 (by simp only [List.map_toArray,List.map_cons,List.map_nil];exact HSL.out.2.2) ?_
     simp only [Act.put,List.setIfInBounds_toArray,List.set_cons_zero,List.set_cons_succ]
     refine hK _ _ ?_
     clear hK K
     refine wpAny_ready (rs:=[9]) (by kernel_rfl) (by simp) ?_
     refine AllReady.cons rfl (fun K hK=>?_) ?_
     ·simp only [List.getElem_toArray,List.getElem_cons_succ,List.getElem_cons_zero]
      rw [if_pos (by rfl)]
      refine qg8 (.tmp 39) (.tmp 43) 103 rfl 110 i0 zchg 129 136 Tryz.underlying103 HI.out.1 HI.out.2.1 HI.out.2.2.1 HI.out.2.2.2 qgs (by decide) L.chv L.chs.length (qbq L.chs) rfl HW.out.2 ⟨w2.heap.size,0,none⟩ 1 1 (Value.int .i64 (at_:Int)::s.map enc8) rfl HA.out.1 HA.out.2.1 HA.out.2.2 (by unfold maxLen;omega) (by omega) ?_
      intro v' w3 hown hgrow hg
      obtain ⟨g',cap',rfl⟩:=ownsRow_succ hown
      have hd3:=HD.out _ w3 hown hgrow hg
      have c3:=qac hd3.1 2 (v:=L.chv) (by simp)
      have f3:=qa9 hd3.1 2
      have HF:=Lib.hid hd3
      clear hd3 hown hgrow hg
      simp only [Act.put,List.setIfInBounds_toArray,List.set_cons_zero,List.set_cons_succ]
      refine hK _ _ ?_
      clear hK K
      refine wpAny_take (i:=10) (v:=?_) rfl (by kernel_rfl) (by kernel_rfl) (by kernel_rfl) (fun _ _ _ h=>h) (Or.inl ⟨by rfl,?_⟩) ?_
      rotate_left
      ·intro w;go_simp;try (with_reducible rfl)
      refine wpAny_take (i:=11) (v:=?_) rfl (by kernel_rfl) (by kernel_rfl) (by kernel_rfl) (fun _ _ _ h=>h) (Or.inl ⟨by rfl,?_⟩) ?_
      rotate_left
      ·intro w;go_simp;try (with_reducible rfl)
      refine wpAny_ready (rs:=[12]) (by kernel_rfl) (by simp) ?_
      refine AllReady.cons rfl (fun K hK=>?_) ?_
      ·go_simp
       refine hK _ _ ?_
       clear hK K
       refine wpAny_done (by kernel_rfl) ?_ _
       go_wp2
       go_ret
       exact HF.out.2
      exact AllReady.nil
     exact AllReady.nil
    exact AllReady.nil
   exact AllReady.nil
  exact AllReady.nil
 refine AllReady.cons rfl (fun K hK=>?_) ?_
 ·simp only [List.getElem_toArray,List.getElem_cons_succ,List.getElem_cons_zero]
  rw [if_pos (by rfl)]
  refine wp_load_mid 43 (.tmp 5) rfl B 0 rfl (s.map enc8) _ HRG.out Tryz.underlying43 rfl (secHi H.out.2.2.2.2) ?_
  simp only [Act.put,List.setIfInBounds_toArray,List.set_cons_zero,List.set_cons_succ]
  refine hK _ _ ?_
  clear hK K
  refine wpAny_ready (rs:=[4,7]) (by kernel_rfl) (by simp) ?_
  refine AllReady.cons rfl (fun K hK=>?_) ?_
  ·go_simp
   refine hK _ _ ?_
   clear hK K
   refine wpAny_ready (rs:=[7]) (by kernel_rfl) (by simp) ?_
   refine AllReady.cons rfl (fun K hK=>?_) ?_
   ·simp only [List.getElem_toArray,List.getElem_cons_succ,List.getElem_cons_zero]
    rw [if_pos (by rfl)]
    refine qhn 110 _ rfl (Value.int .i64 (at_:Int)::s.map enc8).toArray (by simp only [List.map_toArray,List.map_cons,List.map_nil];exact HBD.out) ?_
    simp only [Act.put,List.setIfInBounds_toArray,List.set_cons_zero,List.set_cons_succ]
    refine hK _ _ ?_
    clear hK K
    refine wpAny_ready (rs:=[8]) (by kernel_rfl) (by simp) ?_
    refine AllReady.cons rfl (fun K hK=>?_) ?_
    ·simp only [List.getElem_toArray,List.getElem_cons_succ,List.getElem_cons_zero]
     rw [if_pos (by rfl)]
     refine wp_buildSlice 103 110 1 _ rfl (Value.int .i64 (at_:Int)::s.map enc8).toArray i0 zchg Tryz.underlying103 HI.out.1 HI.out.2.1 HSL.out.1 HSL.out.2.1 (by simp only [List.map_toArray,List.map_cons,List.map_nil];exact HSL.out.2.2) ?_
     simp only [Act.put,List.setIfInBounds_toArray,List.set_cons_zero,List.set_cons_succ]
     refine hK _ _ ?_
     clear hK K
     refine wpAny_ready (rs:=[9]) (by kernel_rfl) (by simp) ?_
     refine AllReady.cons rfl (fun K hK=>?_) ?_
     ·simp only [List.getElem_toArray,List.getElem_cons_succ,List.getElem_cons_zero]
      rw [if_pos (by rfl)]
      refine qg8 (.tmp 39) (.tmp 43) 103 rfl 110 i0 zchg 129 136 Tryz.underlying103 HI.out.1 HI.out.2.1 HI.out.2.2.1 HI.out.2.2.2 qgs (by decide) L.chv L.chs.length (qbq L.chs) rfl HW.out.2 ⟨w2.heap.size,0,none⟩ 1 1 (Value.int .i64 (at_:Int)::s.map enc8) rfl HA.out.1 HA.out.2.1 HA.out.2.2 (by unfold maxLen;omega) (by omega) ?_
      intro v' w3 hown hgrow hg
      obtain ⟨g',cap',rfl⟩:=ownsRow_succ hown
      have hd3:=HD.out _ w3 hown hgrow hg
      have c3:=qac hd3.1 2 (v:=L.chv) (by simp)
      have f3:=qa9 hd3.1 2
      have HF:=Lib.hid hd3
      clear hd3 hown hgrow hg
      simp only [Act.put,List.setIfInBounds_toArray,List.set_cons_zero,List.set_cons_succ]
      refine hK _ _ ?_
      clear hK K
      refine wpAny_take (i:=10) (v:=?_) rfl (by kernel_rfl) (by kernel_rfl) (by kernel_rfl) (fun _ _ _ h=>h) (Or.inl ⟨by rfl,?_⟩) ?_
      rotate_left
      ·intro w;go_simp;try (with_reducible rfl)
      refine wpAny_take (i:=11) (v:=?_) rfl (by kernel_rfl) (by kernel_rfl) (by kernel_rfl) (fun _ _ _ h=>h) (Or.inl ⟨by rfl,?_⟩) ?_
      rotate_left
      ·intro w;go_simp;try (with_reducible rfl)
      refine wpAny_ready (rs:=[12]) (by kernel_rfl) (by simp) ?_
      refine AllReady.cons rfl (fun K hK=>?_) ?_
      ·go_simp
       refine hK _ _ ?_
       clear hK K
       refine wpAny_done (by kernel_rfl) ?_ _
       go_wp2
       go_ret
       exact HF.out.2
      exact AllReady.nil
     exact AllReady.nil
    exact AllReady.nil
   exact AllReady.nil
  refine AllReady.cons rfl (fun K hK=>?_) ?_
  ·simp only [List.getElem_toArray,List.getElem_cons_succ,List.getElem_cons_zero]
   rw [if_pos (by rfl)]
   refine qhn 110 _ rfl (Value.int .i64 (at_:Int)::s.map enc8).toArray (by simp only [List.map_toArray,List.map_cons,List.map_nil];exact HBD.out) ?_
   simp only [Act.put,List.setIfInBounds_toArray,List.set_cons_zero,List.set_cons_succ]
   refine hK _ _ ?_
   clear hK K
   refine wpAny_ready (rs:=[4,8]) (by kernel_rfl) (by simp) ?_
   refine AllReady.cons rfl (fun K hK=>?_) ?_
   ·go_simp
    refine hK _ _ ?_
    clear hK K
    refine wpAny_ready (rs:=[8]) (by kernel_rfl) (by simp) ?_
    refine AllReady.cons rfl (fun K hK=>?_) ?_
    ·simp only [List.getElem_toArray,List.getElem_cons_succ,List.getElem_cons_zero]
     rw [if_pos (by rfl)]
     refine wp_buildSlice 103 110 1 _ rfl (Value.int .i64 (at_:Int)::s.map enc8).toArray i0 zchg Tryz.underlying103 HI.out.1 HI.out.2.1 HSL.out.1 HSL.out.2.1 (by simp only [List.map_toArray,List.map_cons,List.map_nil];exact HSL.out.2.2) ?_
     simp only [Act.put,List.setIfInBounds_toArray,List.set_cons_zero,List.set_cons_succ]
     refine hK _ _ ?_
     clear hK K
     refine wpAny_ready (rs:=[9]) (by kernel_rfl) (by simp) ?_
     refine AllReady.cons rfl (fun K hK=>?_) ?_
     ·simp only [List.getElem_toArray,List.getElem_cons_succ,List.getElem_cons_zero]
      rw [if_pos (by rfl)]
      refine qg8 (.tmp 39) (.tmp 43) 103 rfl 110 i0 zchg 129 136 Tryz.underlying103 HI.out.1 HI.out.2.1 HI.out.2.2.1 HI.out.2.2.2 qgs (by decide) L.chv L.chs.length (qbq L.chs) rfl HW.out.2 ⟨w2.heap.size,0,none⟩ 1 1 (Value.int .i64 (at_:Int)::s.map enc8) rfl HA.out.1 HA.out.2.1 HA.out.2.2 (by unfold maxLen;omega) (by omega) ?_
      intro v' w3 hown hgrow hg
      obtain ⟨g',cap',rfl⟩:=ownsRow_succ hown
      have hd3:=HD.out _ w3 hown hgrow hg
      have c3:=qac hd3.1 2 (v:=L.chv) (by simp)
      have f3:=qa9 hd3.1 2
      have HF:=Lib.hid hd3
      clear hd3 hown hgrow hg
      simp only [Act.put,List.setIfInBounds_toArray,List.set_cons_zero,List.set_cons_succ]
      refine hK _ _ ?_
      clear hK K
      refine wpAny_take (i:=10) (v:=?_) rfl (by kernel_rfl) (by kernel_rfl) (by kernel_rfl) (fun _ _ _ h=>h) (Or.inl ⟨by rfl,?_⟩) ?_
      rotate_left
      ·intro w;go_simp;try (with_reducible rfl)
      refine wpAny_take (i:=11) (v:=?_) rfl (by kernel_rfl) (by kernel_rfl) (by kernel_rfl) (fun _ _ _ h=>h) (Or.inl ⟨by rfl,?_⟩) ?_
      rotate_left
      ·intro w;go_simp;try (with_reducible rfl)
      refine wpAny_ready (rs:=[12]) (by kernel_rfl) (by simp) ?_
      refine AllReady.cons rfl (fun K hK=>?_) ?_
      ·go_simp
       refine hK _ _ ?_
       clear hK K
       refine wpAny_done (by kernel_rfl) ?_ _
       go_wp2
       go_ret
       exact HF.out.2
      exact AllReady.nil
     exact AllReady.nil
    exact AllReady.nil
   refine AllReady.cons rfl (fun K hK=>?_) ?_
   ·simp only [List.getElem_toArray,List.getElem_cons_succ,List.getElem_cons_zero]
    rw [if_pos (by rfl)]
    refine wp_buildSlice 103 110 1 _ rfl (Value.int .i64 (at_:Int)::s.map enc8).toArray i0 zchg Tryz.underlying103 HI.out.1 HI.out.2.1 HSL.out.1 HSL.out.2.1 (by simp only [List.map_toArray,List.map_cons,List.map_nil];exact HSL.out.2.2) ?_
    simp only [Act.put,List.setIfInBounds_toArray,List.set_cons_zero,List.set_cons_succ]
    refine hK _ _ ?_
    clear hK K
    refine wpAny_ready (rs:=[4]) (by kernel_rfl) (by simp) ?_
    refine AllReady.cons rfl (fun K hK=>?_) ?_
    ·go_simp
     refine hK _ _ ?_
     clear hK K
     refine wpAny_ready (rs:=[9]) (by kernel_rfl) (by simp) ?_
     refine AllReady.cons rfl (fun K hK=>?_) ?_
     ·simp only [List.getElem_toArray,List.getElem_cons_succ,List.getElem_cons_zero]
      rw [if_pos (by rfl)]
      refine qg8 (.tmp 39) (.tmp 43) 103 rfl 110 i0 zchg 129 136 Tryz.underlying103 HI.out.1 HI.out.2.1 HI.out.2.2.1 HI.out.2.2.2 qgs (by decide) L.chv L.chs.length (qbq L.chs) rfl HW.out.2 ⟨w2.heap.size,0,none⟩ 1 1 (Value.int .i64 (at_:Int)::s.map enc8) rfl HA.out.1 HA.out.2.1 HA.out.2.2 (by unfold maxLen;omega) (by omega) ?_
      intro v' w3 hown hgrow hg
      obtain ⟨g',cap',rfl⟩:=ownsRow_succ hown
      have hd3:=HD.out _ w3 hown hgrow hg
      have c3:=qac hd3.1 2 (v:=L.chv) (by simp)
      have f3:=qa9 hd3.1 2
      have HF:=Lib.hid hd3
      clear hd3 hown hgrow hg
      simp only [Act.put,List.setIfInBounds_toArray,List.set_cons_zero,List.set_cons_succ]
      refine hK _ _ ?_
      clear hK K
      refine wpAny_take (i:=10) (v:=?_) rfl (by kernel_rfl) (by kernel_rfl) (by kernel_rfl) (fun _ _ _ h=>h) (Or.inl ⟨by rfl,?_⟩) ?_
      rotate_left
      ·intro w;go_simp;try (with_reducible rfl)
      refine wpAny_take (i:=11) (v:=?_) rfl (by kernel_rfl) (by kernel_rfl) (by kernel_rfl) (fun _ _ _ h=>h) (Or.inl ⟨by rfl,?_⟩) ?_
      rotate_left
      ·intro w;go_simp;try (with_reducible rfl)
      refine wpAny_ready (rs:=[12]) (by kernel_rfl) (by simp) ?_
      refine AllReady.cons rfl (fun K hK=>?_) ?_
      ·go_simp
       refine hK _ _ ?_
       clear hK K
       refine wpAny_done (by kernel_rfl) ?_ _
       go_wp2
       go_ret
       exact HF.out.2
      exact AllReady.nil
     exact AllReady.nil
    exact AllReady.nil
   exact AllReady.nil
  exact AllReady.nil
 exact AllReady.nil
theorem qan (n:Nat):(zeros n).length=n:=by simp [zeros]
theorem madeZ (m:Nat):madeCells zsec m=row8 (zeros m):=by
 apply Array.ext_getElem?
 intro k
 unfold madeCells row8 zeros
 by_cases hk:k<m
 ·have hz:zsec.size=128:=by simp [zsec,qbn,zeros]
  have h2:k%zsec.size<zsec.size:=by rw [hz];omega
  have h3:zsec[k%zsec.size]! = enc8 0:=by
   rw [getElem!_pos zsec _ h2]
   have h5:zsec[k%zsec.size]?=some (enc8 0):=by
    refine (qdw (zeros 128) (k%zsec.size) (by rw [qan];omega)).trans ?_
    exact congrArg some (congrArg enc8 (List.getElem_replicate _))
   rw [Array.getElem?_eq_getElem h2] at h5
   exact Option.some.inj h5
  simp [hk,h3]
 ·simp [hk]
theorem qva (n:Nat) (hn:n≤1099511627776) (w:World):(Instr.makeSlice 102 (.int .i64 n) (.int .i64 n)).run Tryz.prog w =
  .ok (.slice (some ⟨w.heap.size,0,none⟩) n n) (w.alloc (.cells (row8 (zeros (128*n))) 43)):=by
 obtain ⟨i,hi,hz,hs,hb⟩:=info_parts q38
 rw [run_make w 102 43 i _ Tryz.underlying102 hi hz .i64 .i64 _ _ (by omega) (by omega) (by rw [hb];omega) (by omega)]
 have e1:((n:Int)).toNat=n:=by omega
 rw [e1,hs,show (Value.agg zsec).cells=zsec from rfl,madeZ,Nat.mul_comm]
def qlt (n:Nat) (w:World) (e:Ending) (w':World):Prop :=
 ∃ d L,e=.returned (.pointer (some ⟨d,0,none⟩))∧Turns [] (devF d L) w w'∧DevOk L∧L.n=n∧L.now=zeros (128*n)∧L.chs=[]
def newL (n sb nb:Nat):DevL:=⟨n,sb,nb,.slice none 0 0,zeros (128*n),zeros (128*n),[]⟩
theorem qxz {n:Nat} (hn:n≤1099511627776) (sb nb:Nat):DevOk (newL n sb nb) :=
 ⟨hn,qan _,qan _,⟨rfl,fun _=>⟨rfl,rfl⟩⟩,fun c hc=>by simp [newL] at hc,rfl⟩
theorem q27 {n:Nat} (hn:n≤1099511627776) (w:World) (e:Ending) (he:e=.returned (.pointer (some ⟨w.heap.size+1+1,0,none⟩))):qlt n w e
  (((w.alloc (Obj.cells (row8 (zeros (128*n))) 43)).alloc (Obj.cells (row8 (zeros (128*n))) 43)).alloc (Obj.cells #[Value.slice (some { block:=w.heap.size,off:=0 }) n n,Value.slice (some { block:=w.heap.size+1,off:=0 }) n n,Value.slice none 0 0,Value.int IntKind.i64 (-1)] 105)).drew:=by
 refine ⟨w.heap.size+1+1,newL n w.heap.size (w.heap.size+1),he,?_,qxz hn _ _,rfl,rfl,rfl⟩
 have h:=((((Turns.refl (Sat.nil w)).allocIs (Obj.cells (row8 (zeros (128*n))) 43)).allocIs (Obj.cells (row8 (zeros (128*n))) 43)).allocIs (Obj.cells #[Value.slice (some { block:=w.heap.size,off:=0 }) n n,Value.slice (some { block:=w.heap.size+1,off:=0 }) n n,Value.slice none 0 0,Value.int IntKind.i64 (-1)] 105)).drew
 simpa [devF,newL,rowF,Value.ownBlock] using h
theorem qz2 {n:Nat} (hn:n≤1099511627776) (w:World) (e:Ending) (he:e=.returned (.pointer (some ⟨w.heap.size+1+1,0,none⟩))):qlt n w e
  (((w.alloc (Obj.cells (row8 (zeros (128*n))) 43)).alloc (Obj.cells (row8 (zeros (128*n))) 43)).alloc (Obj.cells #[Value.slice (some { block:=w.heap.size+1,off:=0 }) n n,Value.slice (some { block:=w.heap.size,off:=0 }) n n,Value.slice none 0 0,Value.int IntKind.i64 (-1)] 105)).drew:=by
 refine ⟨w.heap.size+1+1,newL n (w.heap.size+1) w.heap.size,he,?_,qxz hn _ _,rfl,rfl,rfl⟩
 have h:=((((Turns.refl (Sat.nil w)).allocIs (Obj.cells (row8 (zeros (128*n))) 43)).allocIs (Obj.cells (row8 (zeros (128*n))) 43)).allocIs (Obj.cells #[Value.slice (some { block:=w.heap.size+1,off:=0 }) n n,Value.slice (some { block:=w.heap.size,off:=0 }) n n,Value.slice none 0 0,Value.int IntKind.i64 (-1)] 105)).drew
 refine (h.perm (List.Perm.refl _) ((List.Perm.swap _ _ _).cons _)).perm (List.Perm.refl _) ?_
 simp [devF,newL,rowF,Value.ownBlock]
theorem qjk (n:Nat) (hn:n≤1099511627776) (w:World):Calls Tryz.prog 46 #[.int .i64 n] w (qlt n w):=by
 have hmk:=qva n hn
 have hp:(0:Int)≤n:=by omega
 go_enter Tryz.func46,Tryz.ntmps46
 go_wp2_with fail
 go_region
 all_goals
  go_wp2_with fail
  go_ret
 ·exact q27 hn w _ rfl
 ·exact qz2 hn w _ rfl
theorem qm9 (c:Nat×Bs) (r:List (Nat×Bs)):qbq (c::r)=(Value.int .i64 c.1::c.2.map enc8)++qbq r:=by simp [qbq]
theorem quf {l:List (Nat×Bs)} (h:∀ c∈l,c.2.length=128) (k:Nat):(qbq l).drop (129*k)=qbq (l.drop k):=by
 induction k generalizing l with
 | zero=>simp
 | succ k ih =>
  cases l with
  | nil=>simp [qbq]
  | cons c r =>
   have h1:=h c (by simp)
   rw [List.drop_succ_cons,← ih (fun x hx=>h x (List.mem_cons_of_mem _ hx))]
   rw [qm9,List.drop_append,List.drop_of_length_le (by simp;omega),List.nil_append]
   congr 1
   simp;omega
theorem q5d {w:World} {g n cap:Nat} {l:List (Nat×Bs)} {k:Nat} (h:w.ownsRow 0 110 129 (.slice (some ⟨g,0,none⟩) n cap) l.length (qbq l)) (hl:∀ c∈l,c.2.length=128) (hk:k<l.length) :
  w.rangeAt g (k*129) (Value.int .i64 l[k].1::l[k].2.map enc8):=fun j v hv=>by
 have hc:=h.cells (g:=g) rfl (k*129+j) v (by
  have e:(qbq l)[k*129+j]?=((qbq l).drop (129*k))[j]?:=by rw [List.getElem?_drop,Nat.mul_comm]
  rw [e,quf hl,List.drop_eq_getElem_cons hk]
  rw [qm9,List.getElem?_append_left (List.getElem?_eq_some_iff.1 hv).1]
  exact hv)
 rwa [Addr.add_mid,Nat.zero_add] at hc
theorem qvc {s:Bs} {l:List (Nat×Bs)} {k:Nat} (h:k<l.length):qfr s (l.take (k+1))=putAt (qfr s (l.take k)) (128*l[k].1) l[k].2:=by
 rw [List.take_succ_eq_append_getElem h,qmg]
theorem qq7 {l:List (Nat×Bs)} {n:Nat}:∀ {s:Bs},s.length=128*n→(∀ c∈l,c.1<n∧c.2.length=128)→(qfr s l).length=128*n:=by
 induction l with
 | nil=>intro s h _;exact h
 | cons c r ih =>
  intro s h hl
  have h1:=hl c (by simp)
  exact ih (s:=putAt s (128*c.1) c.2) (by rw [qg4 (by omega)];exact h) (fun x hx=>hl x (List.mem_cons_of_mem _ hx))
theorem q58:(Tryz.prog.info? 110).map (·.size)=some 129:=by kernel_rfl
def qh5 (d:Nat) (L:DevL) (w:World) (e:Ending) (w':World):Prop :=
 e=.returned .nilIface∧∃ L',Turns (devF d L) (devF d L') w w'∧DevOk L'∧L'.n=L.n∧L'.now=L.now∧L'.safe=L.now∧L'.chs=[]
def q4c (d:Nat) (L:DevL) (w:World) (i:Value) (wr:World):Prop :=
 ∃ k:Nat,k≤L.chs.length∧i=.int .i64 k∧Turns (devF d L) (devF d { L with safe:=qfr L.safe (L.chs.take k) }) w wr
def zchgA:Array Value:=#[.int .i64 0]++zsec
theorem qp0:zchgA.size=129:=by kernel_rfl
theorem q6i (w:World):(zeroValue 110).run Tryz.prog w=.ok (.agg zchgA) w:=by kernel_rfl
theorem qcx {w:World} {b:Nat} {C:Array Value} {t:TypeId} (h:w.heap[b]?=some (.cells C t (0,0))) (o n:Nat) (hn:o+n≤C.size):w.there b o n:=fun j hj=>by
 rw [qac h (o+j) (Array.getElem?_eq_getElem (by omega))]
 exact ⟨rfl,qa9 h _⟩
theorem qgy {w:World} {b:Nat} {C:List Value} {t:TypeId} (h:w.heap[b]?=some (.cells C.toArray t (0,0))) (o:Nat) (vs:List Value) (hn:o+vs.length≤C.length) :
  (w.setCells b o vs).heap[b]?=some (.cells (spl C o vs).toArray t (0,0))∧Mods (fun k=>k=b) w (w.setCells b o vs):=by
 induction vs generalizing w C o with
 | nil=>exact ⟨by simpa [World.setCells,spl] using h,by simpa [World.setCells] using Mods.refl _ w⟩
 | cons x r ih =>
  simp only [World.setCells]
  simp only [List.length_cons] at hn
  have h1:=qbf h o x
  rw [List.setIfInBounds_toArray] at h1
  obtain ⟨h2,h3⟩:=ih h1 (o+1) (by rw [List.length_set];omega)
  refine ⟨h2.trans ?_,((Mods.refl (fun k=>k=b) w).set1 x).trans h3⟩
  congr 3
  obtain ⟨A,y,B,rfl,rfl⟩:∃ A y B,C=A++y::B∧A.length=o:=⟨C.take o,C[o],C.drop (o+1),by rw [← List.drop_eq_getElem_cons,List.take_append_drop],by simp;omega⟩
  unfold spl
  rw [List.set_append_right _ _ (Nat.le_refl _),Nat.sub_self,List.set_cons_zero,List.take_append,List.take_append,List.drop_append,List.drop_append]
  simp only [List.take_of_length_le (show A.length≤A.length+1 by omega),show A.length+1-A.length=1 by omega,Nat.sub_self,List.take_length,List.take_zero,List.append_nil,List.length_cons]
  rw [List.drop_of_length_le (show A.length≤A.length+1+r.length by omega),List.drop_of_length_le (show A.length≤A.length+(r.length+1) by omega),show A.length+1+r.length-A.length=r.length+1 by omega,show A.length+(r.length+1)-A.length=r.length+1 by omega]
  simp
theorem qc2 {w:World} {b:Nat} {C:Array Value} {t:TypeId} (h:w.heap[b]?=some (.cells C t (0,0))) (vs:List Value) (hn:vs.length=C.size) :
  (w.setCells b 0 vs).heap[b]?=some (.cells vs.toArray t (0,0))∧Mods (fun k=>k=b) w (w.setCells b 0 vs):=by
 obtain ⟨h1,h2⟩:=qgy (C:=C.toList) (by simpa using h) 0 vs (by simp;omega)
 refine ⟨h1.trans ?_,h2⟩
 congr 3
 unfold spl
 rw [List.drop_of_length_le (by simp;omega)]
 simp
theorem q0t {d:Nat} {L:DevL} {w wr:World} (hT:Turns (devF d L) (devF d { L with safe:=L.now }) w wr) (hL:DevOk L):qh5 d L w (.returned .nilIface) (wr.setCell ⟨d,2,none⟩ (.slice none 0 0)):=by
 have hd:=qdk (R:=[]) (by simpa using hT.sat)
 have h1:=hT.putIs (o:=.cells #[.slice (some ⟨L.sb,0,none⟩) L.n L.n,.slice (some ⟨L.nb,0,none⟩) L.n L.n,.slice none 0 0,.int .i64 (-1)] 105 (0,0)) ((Mods.refl _ wr).set1 _) ((qbf hd 2 (.slice none 0 0)).trans (by simp))
 refine ⟨rfl,{ L with safe:=L.now,chv:=.slice none 0 0,chs:=[] },?_,⟨hL.hn,hL.nowL,hL.nowL,⟨rfl,fun _=>⟨rfl,rfl⟩⟩,fun c hc=>by simp at hc,rfl⟩,rfl,rfl,rfl,rfl⟩
 refine Turns.left (H:=rowF 110 129 L.chv L.chs.length (qbq L.chs)) ?_
 exact h1
theorem qhw (d:Nat) (L:DevL) (w:World) (h:Sat w (devF d L)) (hL:DevOk L) (hc:L.chs.length≤1099511627776) :
  Calls Tryz.prog 20 #[.pointer (some ⟨d,0,none⟩)] w (qh5 d L w):=by
 have hd:=qdk (R:=[]) (by simpa using h)
 have c2:=qac hd 2 (v:=L.chv) (by simp)
 have HO:=Lib.hid (qmh d L w h)
 have hown:=qbm h.tail.tail.tail hL.row
 have H:=Lib.hid (And.intro h (And.intro hd hL))
 obtain ⟨a,cap,hv⟩:∃ a cap,L.chv=.slice a L.chs.length cap:=by
  rcases hown.2 with ⟨h1,h2⟩ | ⟨g,cp,cur,h1,_⟩
  ·exact ⟨none,0,by rw [h1,h2]⟩
  ·exact ⟨_,cp,h1⟩
 rw [hv] at c2
 have HV:=Lib.hid hv
 clear h hd hL hown hv
 go_enter Tryz.func20,Tryz.ntmps20
 go_wp2_with fail
 refine HO.out.mono ?_
 rintro e w1 ⟨rfl,rfl⟩
 go_wp2_with fail
 go_loopw [15] (fun i wr=>q4c d L w i wr) (fun i _=>L.chs.length-(intOf i).toNat)
 case atStart=>exact ⟨0,Nat.zero_le _,rfl,Turns.refl H.out.1⟩
 case round =>
  obtain ⟨k,hk,rfl,hT⟩:=hrel
  by_cases hlt:k<L.chs.length
  ·have hown:wr.ownsRow 0 110 129 L.chv L.chs.length (qbq L.chs):=qbm hT.sat.tail.tail.tail H.out.2.2.row
   rw [HV.out] at hown
   have hel:=H.out.2.2.chs L.chs[k] (List.getElem_mem hlt)
   have ha:∃ g,a=some ⟨g,0,none⟩:=by
    rcases hown.2 with ⟨h1,h2⟩ | ⟨g,cp,cur,h1,_⟩
    ·omega
    ·simp only [Value.slice.injEq] at h1;exact ⟨g,h1.1⟩
   obtain ⟨g,rfl⟩:=ha
   have hr:=q5d hown (fun c hc=>(H.out.2.2.chs c hc).2) hlt
   have hsl:=qq7 (l:=L.chs.take k) H.out.2.2.safeL (fun c hc=>H.out.2.2.chs c (List.mem_of_mem_take hc))
   have hap:=qvc (s:=L.safe) hlt
   have hd:=qdk (R:=[]) (by simpa using hT.sat)
   have hsafe:=qr7 (R:=[]) (by simpa using hT.sat)
   have c0:=qac hd 0 (v:=.slice (some ⟨L.sb,0,none⟩) L.n L.n) (by simp)
   have hdl:d<wr.heap.size:=qal hd
   generalize L.chs[k]=c at *
   obtain ⟨at_,s⟩:=c
   simp only at hel hr hap
   obtain ⟨hat,hsz⟩:=hel
   have hz:=q6i
   have hrl:(Tryz.prog.info? 110).map (·.size)=some (Value.int .i64 at_::s.map enc8).length:=by rw [q58];simp [hsz]
   have h1c:(Value.int .i64 at_::s.map enc8).toArray.all (·.oneCell')=true:=all_oneCell_toArray (fun u hu=>by
    rcases List.mem_cons.1 hu with rfl | hu
    ·rfl
    ·exact qc3 s u hu)
   have hin:(at_:Int)<(L.n:Int):=by omega
   have HR:=Lib.hid (And.intro hT (And.intro hr (And.intro hap (And.intro hsafe (And.intro hrl (And.intro h1c (And.intro hsz hsl)))))))
   clear hT hr hap hsafe hrl h1c hown hd hsl
   go_wp2_with (first | (refine wpList_load_mid rfl 110 (.tmp 17) rfl g (k*129) rfl (Value.int .i64 at_::s.map enc8) _ ?c1 Tryz.underlying110 rfl HR.out.2.2.2.2.1 ?_) | (refine wpList_store_mid rfl 110 (.tmp 4) (.tmp 18) rfl wr.heap.size 0 (Value.int .i64 at_::s.map enc8).toArray rfl rfl ?c2 (by rw [List.size_toArray];exact HR.out.2.2.2.2.1) HR.out.2.2.2.2.2.1 ?_))
   case c1=>exact HR.out.2.1
   case c2=>exact qcx (qa7 wr _) 0 _ (by rw [qp0];first | omega | simp [HR.out.2.2.2.2.2.2.1])
   obtain ⟨hb2,hm2⟩:=qc2 (qa7 wr (.cells zchgA 110)) (Value.int .i64 at_::s.map enc8) (by rw [qp0];simp [HR.out.2.2.2.2.2.2.1])
   generalize hB:wr.heap.size=B at *
   have hs2:Same wr ((wr.alloc (.cells zchgA 110)).setCells B 0 (Value.int .i64 at_::s.map enc8)):=((Mods.refl _ wr).alloc _).trans' hm2 (fun i hi=>.inr (by omega))
   show Code.wp _ _ _ _ ((wr.alloc (.cells zchgA 110)).setCells B 0 (Value.int .i64 at_::s.map enc8))
   generalize (wr.alloc (.cells zchgA 110)).setCells B 0 (Value.int .i64 at_::s.map enc8)=w2 at hb2 hs2 ⊢
   have hT2:=HR.out.1.thenSame hs2
   have hd2:=qdk (R:=[]) (by simpa using hT2.sat)
   have e0:=qac hd2 0 (v:=.slice (some ⟨L.sb,0,none⟩) L.n L.n) (by simp)
   have e1:=qac hb2 0 (v:=.int .i64 at_) (by simp)
   have hsf2:=qr7 (R:=[]) (by simpa using hT2.sat)
   have hr2:w2.rangeAt B 1 (s.map enc8):=fun j v hv=>qac hb2 (1+j) (by simpa [Nat.add_comm 1] using hv)
   have HM:=Lib.hid (show Tryz.prog.follows .mixedOrders=true by kernel_rfl)
   have H2:=Lib.hid (And.intro hT2 (And.intro hsf2 hr2))
   clear hT2 hsf2 hr2 hb2 hm2 hs2 c0 hd2
   refine wp_region_still_tail 9 HM.out (by kernel_rfl) ?_
   simp only [List.take_succ_cons,List.take_zero,List.drop_succ_cons,List.drop_zero]
   iterate 7 still_step
   refine qb7 rfl 43 (.tmp 25) rfl B 1 rfl (s.map enc8) _ H2.out.2.2 Tryz.underlying43 rfl (secHi HR.out.2.2.2.2.2.2.1) ?_
   repeat still_step
   refine wpStill_nil ?_
   change wpList _ _ _ _ _ w2.drew
   go_wp2_with (refine wpList_store_mid rfl 43 (.tmp 27) (.tmp 26) rfl L.sb (at_*128) (row8 s) rfl rfl ?c3 (secHr HR.out.2.2.2.2.2.2.1) (qcf _) ?_)
   case c3=>exact qdg H2.out.2.1 _ _ (by rw [qbn,HR.out.2.2.2.2.2.2.1,HR.out.2.2.2.2.2.2.2];omega)
   obtain ⟨hp1,hp2⟩:=qi9 (w:=w2.drew) H2.out.2.1 (at_*128) s (by rw [HR.out.2.2.2.2.2.2.1,HR.out.2.2.2.2.2.2.2];omega)
   refine ⟨⟨k+1,by omega,by go_num,?_⟩,by simp [intOf];omega⟩
   have:=(H2.out.1.drew).trans (qux (H2.out.1.drew).sat hp2 hp1)
   rw [HR.out.2.2.1,Nat.mul_comm 128]
   exact this
  ·obtain rfl:k=L.chs.length:=by omega
   rw [List.take_length,H.out.2.2.now] at hT
   have hd:=qdk (R:=[]) (by simpa using hT.sat)
   have k2:=qac hd 2 (v:=L.chv) (by simp)
   rw [HV.out] at k2
   have f2:=qa9 hd 2
   have HE:=Lib.hid (q0t hT H.out.2.2)
   clear hd hT
   go_wp2_with fail
   go_ret
   exact HE.out
end Go.Proofs.YtdhobpbngkainaaGreatDoor
