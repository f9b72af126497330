/- Ours. A part of the proof, made small by a program. -/
import Derived.Test.YtdhobpbngkainaaGreatDoorCo02
import Derived.Test.YtdhobpbngkainaaGreatDoorCo01
import Derived.Conc.SmallLaws
import Derived.Deep.CutBlock
import Derived.Lib.SliceRun
import Derived.DeepKeys
import Derived.ChangeKeys
import Derived.Defers
import Derived.Lib.MinMax
import Derived.Deep.Cut
import Derived.Deep.RegionLaw
import Derived.Deep.QuietTactic
import Derived.BigQuiet
set_option maxRecDepth 100000
set_option maxHeartbeats 4000000
namespace Go.Proofs.YtdhobpbngkainaaGreatDoor
open Go.RowKit
theorem qby {P:Program} {ops:Array Oper} {rest:List Oper} {o:Oper} {a:Act} {w:World} {Q:Exit→Act→World→Prop} (hg:o.guard=none) (t:TypeId) (parts:Array (Nat×Operand)) (ho:o.op=.build t parts) (cells:Array Value)
  (hc:P.built t (parts.map fun (i,x)=>(i,a.eval x)).toList=some cells) (h:wpList P ops Q rest (a.put o.dst (.agg cells)) w):wpList P ops Q (o::rest) a w :=
 wpList_plain hg fun _ hK=>qhn t parts ho cells hc (hK _ _ h)
structure AreaL where
 first:Nat
 count:Nat
 end_:Nat
 tail:Bs
 ch:Nat
 spare:List (Nat×Nat×Nat)
def qc1 (s:Nat×Nat×Nat):Value:=.slice (some ⟨s.1,0,none⟩) s.2.1 s.2.2
def qg3 (l:List (Nat×Nat×Nat)):HF:=l.map fun s=>(s.1,fun o=>∃ cur:Array Value,o=.cells cur 5 (0,0)∧cur.size=s.2.2)
def qaw (d:Nat) (A:AreaL):Array Value:=#[.pointer (some ⟨d,0,none⟩),.int .i64 A.first,.int .i64 A.count,.int .i64 A.end_]++row8 A.tail++#[.chan (some A.ch)]
def areaF (ab d:Nat) (A:AreaL):HF :=
 (ab,Is (.cells (qaw d A) 157 (0,0)))::(A.ch,fun o=>∃ s r,o=.chan 2 (A.spare.map qc1).toArray false s r false)::qg3 A.spare
structure AreaOk (A:AreaL):Prop where
 tail:A.tail.length=128
 few:A.spare.length≤2
 caps:∀ s∈A.spare,s.2.1≤s.2.2∧s.2.2≤maxLen
def qvf:Array Value:=#[.pointer none,.int .i64 0,.int .i64 0,.int .i64 0]++row8 (zeros 128)++#[.chan none]
def qjv (d:Nat) (first count:Nat) (w:World) (e:Ending) (w':World):Prop :=
 ∃ ab ch,e=.returned (.pointer (some ⟨ab,0,none⟩))∧Turns [] (areaF ab d ⟨first,count,0,zeros 128,ch,[]⟩) w w'
theorem q03:qvf=(Value.pointer none :: .int .i64 0 :: .int .i64 0 :: .int .i64 0::((zeros 128).map enc8++[Value.chan none])).toArray:=by
 simp [qvf,row8]
theorem q0e (p a b c:Value) (hp:p.cells=#[p]) (ha:a.cells=#[a]) (hb:b.cells=#[b]) (hc:c.cells=#[c]) :
  Tryz.prog.built 157 [(0,p),(1,a),(2,b),(5,c)]=some (#[p,a,b,.int .i64 0]++row8 (zeros 128)++#[c]):=by
 have e:Tryz.prog.built 157 [(0,p),(1,a),(2,b),(5,c)]=Instr.fill (#[(0,1),(1,1),(2,1),(3,1),(4,128),(132,1)][·]?) qvf [(0,p),(1,a),(2,b),(5,c)]:=by kernel_rfl
 rw [e,q03]
 have hz:((zeros 128).map enc8).length=128:=by rw [List.length_map,qan]
 have hr:row8 (zeros 128)=((zeros 128).map enc8).toArray:=rfl
 rw [hr]
 generalize (zeros 128).map enc8=Z at hz ⊢
 rw [qgr _ _ 0 p 0 1 _ rfl (by rw [hp];rfl) (by simp)]
 rw [qgr _ _ 1 a 1 1 _ rfl (by rw [ha];rfl) (by simp [spl,hp])]
 rw [qgr _ _ 2 b 2 1 _ rfl (by rw [hb];rfl) (by simp [spl,hp,ha])]
 have e3:spl (spl (spl (Value.pointer none :: .int .i64 0 :: .int .i64 0 :: .int .i64 0::(Z++[Value.chan none])) 0 p.cells.toList) 1 a.cells.toList) 2 b.cells.toList=p::a::b :: .int .i64 0::(Z++[Value.chan none]):=by
  simp [spl,hp,ha,hb]
 rw [e3,qgr _ _ 5 c 132 1 _ rfl (by rw [hc];rfl) (by simp [hz])]
 have e4:spl (p::a::b::Value.int .i64 0::(Z++[Value.chan none])) 132 c.cells.toList=p::a::b :: .int .i64 0::(Z++[c]):=by
  have:(132:Nat)=Z.length+4:=by omega
  simp [spl,hc,this]
 rw [e4]
 simp [Instr.fill]
theorem q7b:(Tryz.prog.info? 38).map (fun i=>i.bytes)=some 24:=by kernel_rfl
theorem q65 (w:World):(Instr.makeChan 155 (.int .i64 2)).run Tryz.prog w=.ok (.chan (some w.heap.size)) (w.alloc (.chan 2 #[] false 0 0 false)):=by
 have h:=q7b
 cases hi:Tryz.prog.info? 38 with
 | none=>rw [hi] at h;simp at h
 | some i =>
  rw [hi] at h
  have hb:i.bytes=24:=by simpa using h
  simpa using Conc.run_makeChan (P:=Tryz.prog) (w:=w) Tryz.underlying155 hi .i64 2 (by omega) (by rw [hb];omega)
theorem qsu (d first count:Nat) (w:World):Calls Tryz.prog 99 #[.pointer (some ⟨d,0,none⟩),.int .i64 first,.int .i64 count] w (qjv d first count w):=by
 have hm:=q65
 have hb:=q0e (.pointer (some ⟨d,0,none⟩)) (.int .i64 first) (.int .i64 count) (.chan (some w.heap.size)) rfl rfl rfl rfl
 have HB:Hid (Tryz.prog.built 157 [(0,.pointer (some ⟨d,0,none⟩)),(1,.int .i64 first),(2,.int .i64 count),(5,.chan (some w.heap.size))]=some (qaw d ⟨first,count,0,zeros 128,w.heap.size,[]⟩)):=Lib.hid hb
 clear hb
 go_enter Tryz.func99,Tryz.ntmps99
 go_wp2_with (refine qby rfl 157 _ rfl (qaw d ⟨first,count,0,zeros 128,w.heap.size,[]⟩) (by simp only [List.map_toArray,List.map_cons,List.map_nil];exact HB.out) ?_)
 go_ret
 refine ⟨w.heap.size+1,w.heap.size,rfl,?_⟩
 show Turns [] _ w ((w.alloc (.chan 2 #[] false 0 0 false)).alloc (.cells (qaw d ⟨first,count,0,zeros 128,w.heap.size,[]⟩) 157))
 have h:=((Turns.refl (Sat.nil w)).allocIn (φ:=fun o=>∃ s r,o=.chan 2 #[] false s r false) (o:=.chan 2 #[] false 0 0 false) ⟨0,0,rfl⟩).allocIs (.cells (qaw d ⟨first,count,0,zeros 128,w.heap.size,[]⟩) 157)
 simp only [World.size_alloc] at h
 exact h
theorem qes {w w':World} (hs:Same w w') {a:Addr} {v:Value} (h:w.cell? a=some v):w'.cell? a=some v:=(World.cell?_of_block (w:=w) (hs.block a.block (World.block_lt_of_cell? w _ h) id)).trans h
theorem qzp {w w':World} (hs:Same w w') {b o n:Nat} (h:w.there b o n):w'.there b o n:=fun j hj=>by
 obtain ⟨h1,h2⟩:=h j hj
 obtain ⟨u,hu⟩:=Option.isSome_iff_exists.1 h1
 have hb:=World.block_lt_of_cell? w _ hu
 have he:=hs.block b hb id
 exact ⟨by rw [qes hs hu];rfl,by rw [← h2];simp [World.frozen?,he]⟩
theorem secA {wr w2:World} (hs:Same wr w2) {s:Bs} (hl:s.length=128):((w2.alloc (.cells zsec 43)).setCells w2.heap.size 0 (s.map enc8)).heap[w2.heap.size]?=some (.cells (row8 s) 43 (0,0)) ∧
  Same wr ((w2.alloc (.cells zsec 43)).setCells w2.heap.size 0 (s.map enc8)):=by
 obtain ⟨h1,h2⟩:=qcs (qa7 w2 (.cells (row8 (zeros 128)) 43)) (s:=s) (by rw [hl,qan])
 exact ⟨h1,((hs.alloc _)).trans' h2 (fun i hi=>.inr (by have:=hs.size;omega))⟩
theorem secB {wr w2:World} (hs:Same (wr.alloc (.cells zsec 43)) w2) {s:Bs} (hl:s.length=128):(w2.setCells wr.heap.size 0 (s.map enc8)).heap[wr.heap.size]?=some (.cells (row8 s) 43 (0,0)) ∧
  Same wr (w2.setCells wr.heap.size 0 (s.map enc8)):=by
 have h0:w2.heap[wr.heap.size]?=some (.cells (row8 (zeros 128)) 43 (0,0)):=hs.at (qa7 wr _) id
 obtain ⟨h1,h2⟩:=qcs h0 (s:=s) (by rw [hl,qan])
 exact ⟨h1,((((Mods.refl _ wr).alloc _).trans' hs (fun i hi=>hi.elim))).trans' h2 (fun i hi=>.inr (by omega))⟩
theorem qnp {W:World} {b o:Nat} {vs:List Value} {a:Addr} {v:Value} (hne:a.block≠b) (h:W.cell? a=some v):(W.setCells b o vs).cell? a=some v :=
 (World.cell?_setCells_out b vs o W a (fun hb _=>absurd hb.symm hne.symm)).trans h
theorem qe1 {w:World} {ab d:Nat} {A:AreaL} {R:HF} (h:Sat w (areaF ab d A++R)):w.heap[ab]?=some (.cells (qaw d A) 157 (0,0)):=by exact h.headIs
theorem qhe (d:Nat) (A:AreaL):(qaw d A)[0]?=some (.pointer (some ⟨d,0,none⟩)):=by simp [qaw,Array.getElem?_append]
theorem qhd (d:Nat) (A:AreaL):(qaw d A)[1]?=some (.int .i64 A.first):=by simp [qaw,Array.getElem?_append]
theorem qnn (d:Nat) (A:AreaL):(qaw d A)[2]?=some (.int .i64 A.count):=by simp [qaw,Array.getElem?_append]
theorem qiq (d:Nat) (A:AreaL):(qaw d A)[3]?=some (.int .i64 A.end_):=by simp [qaw,Array.getElem?_append]
def qax (l:Bs) (first count:Nat):Bs:=(l.drop (128*first)).take (128*count)
theorem qw0 {l:Bs} {n first k:Nat} (hl:l.length=128*n) (h:first+k<n):qax l first (k+1)=qax l first k++secOf l (first+k):=by
 unfold qax secOf
 rw [Nat.mul_add 128 k 1,List.take_add,List.drop_drop]
 congr 2
 ·congr 1;omega
theorem qe3 {l:Bs} {n first k:Nat} (hl:l.length=128*n) (h:first+k≤n):(qax l first k).length=128*k:=by
 unfold qax;simp;omega
def q5y (l:Bs) (w:World) (e:Ending) (w':World):Prop:=∃ v,e=.returned (.tuple #[v,.nilIface])∧bOk v l∧Turns [] (bRow v l) w w'
def q7f (ab d:Nat) (A:AreaL) (L:DevL) (w:World) (v i:Value) (wr:World):Prop :=
 ∃ k:Nat,k≤A.count∧i=.int .i64 k∧bOk v (qax L.now A.first k)∧Turns [] (bRow v (qax L.now A.first k)) w wr
theorem qsi (ab d:Nat) (A:AreaL) (L:DevL) (w:World) (h:Sat w (areaF ab d A++devF d L)) (hL:DevOk L) (hA:A.first+A.count≤L.n) (hn:L.n≤1073741824) :
  Calls Tryz.prog 54 #[.pointer (some ⟨ab,0,none⟩)] w (q5y (qax L.now A.first A.count) w):=by
 have hab:=qe1 h
 have a0:=qac hab 0 (qhe d A)
 have a1:=qac hab 1 (qhd d A)
 have a2:=qac hab 2 (qnn d A)
 have hal:ab<w.heap.size:=qal hab
 have H:=Lib.hid (And.intro h (And.intro hL hab))
 clear h hL hab
 go_enter Tryz.func54,Tryz.ntmps54
 go_wp2_with fail
 clear a0 a1 a2
 go_loopw [4,12] (fun v i wr=>q7f ab d A L w v i wr) (fun _ i _=>A.count-(intOf i).toNat)
 case atStart=>exact ⟨0,Nat.zero_le _,rfl,by simpa [qax] using qdh,by simpa [qax,qfh] using Turns.refl (Sat.nil w)⟩
 case round =>
  obtain ⟨k,hk,rfl,hok,hT⟩:=hrel
  by_cases hlt:k<A.count
  ·have hs:=hT.news
   have hab:=hs.mods (fun _=>False) |>.at (qe1 H.out.1) id
   have a0:=qac hab 0 (qhe d A)
   have a1:=qac hab 1 (qhd d A)
   have hal:ab<wr.heap.size:=qal hab
   have hz:=qir
   have HR:=Lib.hid (And.intro hok (And.intro hT (And.intro hs hab)))
   clear hok hT hs hab
   have HC:Hid (∀ W:World,Same w W→Calls Tryz.prog 17 #[.pointer (some ⟨d,0,none⟩),.int .i64 ((A.first:Int)+k)] W (qgk L (A.first+k) W)):=Lib.hid (fun W hW=>qij d L (A.first+k) W (H.out.1.right.same hW) H.out.2.1 (by omega))
   have hl:=qfl H.out.2.1.nowL (show A.first+k<L.n by omega)
   have hone:=qc3 (secOf L.now (A.first+k))
   have hlm:((secOf L.now (A.first+k)).map enc8).length=128:=by rw [List.length_map];exact hl
   have hi:(Tryz.prog.info? 43).map (·.size)=some ((secOf L.now (A.first+k)).map enc8).toArray.size:=by rw [List.size_toArray,hlm];exact qni
   have hth:∀ W:World,(W.alloc (.cells zsec 43)).there W.heap.size 0 128:=fun W=>qcx (qa7 W _) 0 128 (by rw [show zsec=row8 (zeros 128) from rfl,qbn,qan];omega)
   have hsum:IntKind.i64.wrap ((A.first:Int)+k)=(A.first:Int)+k:=IntWalk.i64_in _ (by omega)
   clear hl
   go_wp2_with fail
   go_region_held3 (fun w'=>w'.cell? ⟨ab,0,none⟩=some (.pointer (some ⟨d,0,none⟩))∧w'.cell? ⟨ab,1,none⟩=some (.int .i64 A.first)) (first | exact ⟨a0,a1⟩ | exact ⟨k0,k1⟩ | exact ⟨(World.cell?_alloc_lt _ _ ⟨ab,0,none⟩ hal).trans a0,(World.cell?_alloc_lt _ _ ⟨ab,1,none⟩ hal).trans a1⟩ | exact ⟨(World.cell?_alloc_lt _ _ ⟨ab,0,none⟩ kl).trans k0,(World.cell?_alloc_lt _ _ ⟨ab,1,none⟩ kl).trans k1⟩ | exact ⟨qnp (by show ab≠_;omega) k0,qnp (by show ab≠_;omega) k1⟩ | exact ⟨qnp (by show ab≠_;omega) ((World.cell?_alloc_lt _ _ ⟨ab,0,none⟩ kl).trans k0),qnp (by show ab≠_;omega) ((World.cell?_alloc_lt _ _ ⟨ab,1,none⟩ kl).trans k1)⟩) ((go_at_call 17;refine (HC.out _ (by first | exact HR.out.2.2.1.drew | exact HR.out.2.2.1.drew.alloc _)).mono ?_;rintro e w2 ⟨rfl,hs2⟩;have k0:w2.cell? ⟨ab,0,none⟩=some (.pointer (some ⟨d,0,none⟩)):=(by first | exact qes hs2 a0 | exact qes hs2 ((World.cell?_alloc_lt _ _ ⟨ab,0,none⟩ hal).trans a0));have k1:w2.cell? ⟨ab,1,none⟩=some (.int .i64 A.first):=(by first | exact qes hs2 a1 | exact qes hs2 ((World.cell?_alloc_lt _ _ ⟨ab,1,none⟩ hal).trans a1));have kl:ab<w2.heap.size:=World.block_lt_of_cell? w2 _ k0;(first | have hB2:w2.there wr.heap.size 0 128:=qzp hs2 (hth wr.drew) | skip);have HS2:=Lib.hid hs2;clear hs2))
   all_goals clear a0 a1 k0 k1 hone hi hth hsum
   all_goals
    first
    | (
     obtain ⟨hb3,hs3⟩:=secA (wr:=wr) ((Mods.refl _ wr).drew.trans HS2.out) (s:=secOf L.now (A.first+k)) (by simpa using hlm)
     change Exit.then _ _ _ _ ((w2.alloc (.cells zsec 43)).setCells w2.heap.size 0 ((secOf L.now (A.first+k)).map enc8))
     generalize (w2.alloc (.cells zsec 43)).setCells w2.heap.size 0 ((secOf L.now (A.first+k)).map enc8)=W3 at hb3 hs3 ⊢
     generalize w2.heap.size=T at hb3 ⊢)
    | (
     obtain ⟨hb3,hs3⟩:=secB (wr:=wr) ((Mods.refl _ (wr.alloc (.cells zsec 43))).drew.trans HS2.out) (s:=secOf L.now (A.first+k)) (by simpa using hlm)
     change Exit.then _ _ _ _ (w2.setCells wr.heap.size 0 ((secOf L.now (A.first+k)).map enc8))
     generalize w2.setCells wr.heap.size 0 ((secOf L.now (A.first+k)).map enc8)=W3 at hb3 hs3 ⊢
     generalize wr.heap.size=T at hb3 ⊢)
   all_goals
    have hT3:=HR.out.2.1.thenSame hs3
    have hown3:=bOwns hT3.sat HR.out.1
    obtain ⟨i0,hi0,hz1,hz2,hz3⟩:=info_parts qfc
    have hnews:∀ j u,((secOf L.now (A.first+k)).map enc8)[j]?=some u→W3.cell? ((⟨T,0,none⟩:Addr).add j)=some u:=fun j u hu=>by
     rw [Addr.add_mid,Nat.zero_add];exact qac hb3 j (by simpa [row8] using hu)
    have hlk:(qax L.now A.first k).length≤137438953472:=by rw [qe3 H.out.2.1.nowL (by omega)];omega
    have hstep:=qw0 H.out.2.1.nowL (first:=A.first) (k:=k) (by omega)
    have H3:=Lib.hid (And.intro hT3 (And.intro hown3 (And.intro hnews (And.intro hlm (And.intro hi0 (And.intro hz1 (And.intro hz2 (And.intro hz3 hstep))))))))
    clear hT3 hown3 hnews hlm hi0 hz1 hz2 hz3 hb3 hs3 hstep
    go_wp2_with (refine qe0 _ rfl (.tmp 32) (.tmp 33) 38 rfl 5 i0 (.int .u8 0) 1 1 Tryz.underlying38 H3.out.2.2.2.2.1 H3.out.2.2.2.2.2.1 H3.out.2.2.2.2.2.2.1 H3.out.2.2.2.2.2.2.2.1 rfl (by decide) _ _ _ rfl H3.out.2.1 ⟨T,0,none⟩ 128 128 ((secOf L.now (A.first+k)).map enc8) rfl (by rw [H3.out.2.2.2.1]) H3.out.2.2.1 (qc3 _) (by unfold maxLen;omega) (by omega) ?_;intro v' w4 hown' hgrow _ hgb)
    obtain ⟨hok4,hT4⟩:=qg0 (F:=[]) (G:=[]) (v:=u4) (by simpa using H3.out.1) (by have:=H3.out.2.2.2.1;simpa using this.symm) hown' hgrow hgb
    rw [← H3.out.2.2.2.2.2.2.2.2] at hok4 hT4
    exact ⟨⟨k+1,by omega,by go_num,hok4,by simpa using hT4⟩,by simp [intOf];omega⟩
  ·obtain rfl:k=A.count:=by omega
   have HR:=Lib.hid (And.intro hok hT)
   clear hok hT
   go_wp2_with fail
   go_ret2
   exact ⟨_,rfl,HR.out⟩
theorem qm0 (w:World) (c cap:Nat) (buf:Array Value) (cl:Bool) (s r:Nat) (tm:Bool):Mods (fun k=>k=c) w (w.setChan c cap buf cl s r tm) :=
 ⟨rfl,rfl,rfl,by simp [World.setChan],fun k _ hk=>by simp only [World.setChan];rw [Array.getElem?_setIfInBounds_ne (Ne.symm hk)]⟩
theorem Turns.weakHead {F G:HF} {a w:World} {b:Nat} {φ ψ:Obj→Prop} (h:Turns F ((b,φ)::G) a w) (hw:∀ o,φ o→ψ o):Turns F ((b,ψ)::G) a w :=
 ⟨h.mods,h.sat.weak hw,fun k hk=>h.fresh k (by simpa using hk)⟩
theorem qve (d:Nat) (A:AreaL) (h:A.tail.length=128):(qaw d A)[132]?=some (.chan (some A.ch)):=by
 have e:(qaw d A)[132]?=(qaw d A).toList[132]?:=by simp
 rw [e]
 simp only [qaw,Array.toList_append,row8,List.append_assoc]
 rw [List.getElem?_append_right (by simp),List.getElem?_append_right (by simp [h])]
 simp [h]
theorem qzz (w:World) (cur:Array Value) (cap:Nat) (hc:cur.size=cap) (hm:cap≤maxLen):Turns [] (bRow (.slice (some ⟨w.heap.size,0,none⟩) 0 cap) []) w (w.alloc (.cells cur 5)):=by
 have:=(Turns.refl (Sat.nil w)).allocIn (φ:=fun o=>∃ cap' cur,Value.slice (some ⟨w.heap.size,0,none⟩) 0 cap=.slice (some ⟨w.heap.size,0,none⟩) 0 cap'∧o=.cells cur 5 (0,0)∧0≤cap'∧cap'≤maxLen∧cur.size=cap'*1∧cur.toList.take (0*1)=[]) (o:=.cells cur 5) ⟨cap,cur,rfl,rfl,Nat.zero_le _,hm,by omega,by simp⟩
 exact this
theorem qry (g cap:Nat):bOk (.slice (some ⟨g,0,none⟩) 0 cap) []:=⟨rfl,fun h=>by simp [Value.ownBlock] at h⟩
def qpg (ab d:Nat) (A:AreaL) (w:World) (e:Ending) (w':World):Prop :=
 ∃ bg cv sp,e=.returned (.slice (some ⟨bg,0,none⟩) 0 cv)∧bOk (.slice (some ⟨bg,0,none⟩) 0 cv) []∧Turns (areaF ab d A) (bRow (.slice (some ⟨bg,0,none⟩) 0 cv) []++areaF ab d { A with spare:=sp }) w w'∧AreaOk { A with spare:=sp }∧sp.length≤A.spare.length∧sp.length≤1
theorem qtp (ab d:Nat) (A:AreaL) (w:World) (h:Sat w (areaF ab d A)) (hA:AreaOk A) :
  Calls Tryz.prog 151 #[.pointer (some ⟨ab,0,none⟩)] w (qpg ab d A w):=by
 have hab:=h.headIs
 have a5:w.cell? ⟨ab,132,none⟩=some (.chan (some A.ch)):=qac hab 132 (qve d A hA.tail)
 obtain ⟨o,hch,s,r,rfl⟩:=h.tail.head
 have HH:=Lib.hid (And.intro h hA)
 clear h hA hab
 cases hs:A.spare with
 | nil =>
  rw [hs] at hch
  have HC:=Lib.hid hch
  have HS:=Lib.hid hs
  clear hch hs
  obtain ⟨cur,hsz,hmk⟩:∃ cur:Array Value,cur.size=256∧∀ w:World,(Instr.makeSlice 38 (.int .i64 0) (.int .i64 256)).run Tryz.prog w=.ok (.slice (some ⟨w.heap.size,0,none⟩) 0 256) (w.alloc (.cells cur 5)) :=
   ⟨row8 (List.replicate 256 0),by rw [qbn,List.length_replicate],fun _=>by kernel_rfl⟩
  have HSZ:=Lib.hid hsz
  clear hsz
  go_enter Tryz.func151,Tryz.ntmps151
  go_upto_region 2 with (fail)
  refine qqm (n:=2) (z:=.slice none 0 0) rfl rfl rfl (by kernel_rfl) HC.out ?_
  simp only [List.drop_succ_cons,List.drop_zero,Act.put,List.setIfInBounds_toArray,List.set_cons_zero,List.set_cons_succ]
  go_wp2_with fail
  go_ret
  exact ⟨_,_,A.spare,rfl,qry _ _,Turns.newIn (Turns.refl HH.out.1) (qzz w cur 256 HSZ.out (by unfold maxLen;omega)),HH.out.2,Nat.le_refl _,by rw [HS.out];simp⟩
 | cons x sp =>
  rw [hs] at hch
  have HC:=Lib.hid hch
  have HS:=Lib.hid hs
  clear hch hs
  have hx:=HH.out.2.caps x (by rw [HS.out];simp)
  have hx1:(0:Int)≤(x.2.2:Int):=by omega
  have hx2:(x.2.2:Int)≤9223372036854775807:=by have:=hx.2;unfold maxLen at this;omega
  obtain ⟨bx,lx,cx⟩:=x
  simp only at hx hx1 hx2
  go_enter Tryz.func151,Tryz.ntmps151
  go_upto_region 2 with (fail)
  refine qqu (n:=2) (z:=.slice none 0 0) rfl rfl rfl (by kernel_rfl) HC.out (by simp) ?_
  rw [show (List.map qc1 ((bx,lx,cx)::sp)).toArray.getD 0 undef=.slice (some ⟨bx,0,none⟩) lx cx from rfl]
  have hm:=qm0 w A.ch 2 ((List.map qc1 ((bx,lx,cx)::sp)).toArray.extract 1 (List.map qc1 ((bx,lx,cx)::sp)).toArray.size) false s (r+1) false
  have hc2:=Conc.heap_setChan w A.ch 2 ((List.map qc1 ((bx,lx,cx)::sp)).toArray.extract 1 (List.map qc1 ((bx,lx,cx)::sp)).toArray.size) false s (r+1) false (qal HC.out)
  generalize w.setChan A.ch 2 ((List.map qc1 ((bx,lx,cx)::sp)).toArray.extract 1 (List.map qc1 ((bx,lx,cx)::sp)).toArray.size) false s (r+1) false=W2 at hm hc2 ⊢
  have HM:=Lib.hid (And.intro hm hc2)
  clear hm hc2
  simp only [List.drop_succ_cons,List.drop_zero,Act.put,List.setIfInBounds_toArray,List.set_cons_zero,List.set_cons_succ]
  go_wp2_with fail
  go_ret
  have hb:=HH.out.1
  simp only [areaF,HS.out,qg3,List.map_cons] at hb
  have h1:=(Turns.refl hb).to (H:=(A.ch,fun o=>∃ s r,o=.chan 2 (List.map qc1 ((bx,lx,cx)::sp)).toArray false s r false)::(ab,Is (.cells (qaw d A) 157 (0,0)))::(bx,fun o=>∃ cur:Array Value,o=.cells cur 5 (0,0)∧cur.size=cx)::qg3 sp) (List.Perm.swap _ _ _)
  have h2:=h1.put (ψ:=fun o=>∃ s r,o=.chan 2 (sp.map qc1).toArray false s r false) HM.out.1 HM.out.2 ⟨s,r+1,by simp;exact List.take_of_length_le (by simp)⟩
  refine ⟨_,_,sp,rfl,qry _ _,?_,⟨HH.out.2.tail,?_,?_⟩,?_,?_⟩
  ·have e:areaF ab d A=(ab,Is (.cells (qaw d A) 157 (0,0)))::(A.ch,fun o=>∃ s r,o=.chan 2 (List.map qc1 ((bx,lx,cx)::sp)).toArray false s r false)::(bx,fun o=>∃ cur:Array Value,o=.cells cur 5 (0,0)∧cur.size=cx)::qg3 sp:=by
    simp only [areaF,HS.out,qg3,List.map_cons]
   have h4:=(h2.to (H:=(bx,fun o=>∃ cur:Array Value,o=.cells cur 5 (0,0)∧cur.size=cx)::(ab,Is (.cells (qaw d A) 157 (0,0)))::(A.ch,fun o=>∃ s r,o=.chan 2 (sp.map qc1).toArray false s r false)::qg3 sp) (qaf fun _=>by simp only [qad,qaa,qah]<;>omega)).weakHead (ψ:=fun o=>∃ cap' cur,Value.slice (some ⟨bx,0,none⟩) 0 cx=.slice (some ⟨bx,0,none⟩) 0 cap'∧o=.cells cur 5 (0,0)∧0≤cap'∧cap'≤maxLen∧cur.size=cap'*1∧cur.toList.take (0*1)=[]) (fun o ⟨cur,h1,h2⟩=>⟨cx,cur,rfl,h1,Nat.zero_le _,hx.2,by omega,by simp⟩)
   rw [e]
   exact h4
  ·have:=HH.out.2.few;rw [HS.out] at this;simp at this ⊢;omega
  ·intro x hx;exact HH.out.2.caps x (by rw [HS.out];exact List.mem_cons_of_mem _ hx)
  ·rw [HS.out];simp
  ·have:=HH.out.2.few;rw [HS.out] at this;simp at this;omega
theorem q4y (w:World):(zeroValue 5).run Tryz.prog w=.ok (.int .u8 0) w:=by kernel_rfl
theorem q2x {w:World} {g n cap:Nat} {cur:Array Value} (hg:w.heap[g]?=some (.cells cur 5 (0,0))) (hn:n≤cap) (hc:cur.size=cap) :
  ∃ W1:World,(∀ ty,(Builtin.clear_ #[38] ty #[.slice (some ⟨g,0,none⟩) n cap]).run Tryz.prog w=.ok (.tuple #[]) W1)∧Mods (fun k=>k=g) w W1∧∃ cur':Array Value,W1.heap[g]?=some (.cells cur' 5 (0,0))∧cur'.size=cap:=by
 rcases Nat.eq_zero_or_pos n with rfl | hp
 ·exact ⟨w,fun ty=>by simp [Builtin.clear_,run_underlying Tryz.underlying38],Mods.refl _ _,cur,hg,hc⟩
 ·have hth:=qcx hg 0 n (by omega)
  have h1:=fun ty=>Lib.run_clear_slice (P:=Tryz.prog) w 38 5 ty (.int .u8 0) Tryz.underlying38 q4y rfl rfl g 0 n cap hp (fun j hj=>(hth j hj).1) (fun j hj=>(hth j hj).2)
  obtain ⟨h2,h3⟩:=qgy (C:=cur.toList) (by simpa using hg) 0 (List.replicate n (.int .u8 0)) (by simp;omega)
  exact ⟨_,h1,h3,_,h2,by simp [spl];omega⟩
def q3h (ab d:Nat) (A:AreaL) (v:Value) (l:Bs) (w:World) (e:Ending) (w':World):Prop :=
 e=.returned (.tuple #[])∧∃ sp,Turns (bRow v l++areaF ab d A) (areaF ab d { A with spare:=sp }) w w'∧AreaOk { A with spare:=sp }
theorem qzs (ab d:Nat) (A:AreaL) (g cap:Nat) (l:Bs) (w:World) (h:Sat w (bRow (.slice (some ⟨g,0,none⟩) l.length cap) l++areaF ab d A)) (hA:AreaOk A) :
  Calls Tryz.prog 153 #[.pointer (some ⟨ab,0,none⟩),.slice (some ⟨g,0,none⟩) l.length cap] w (q3h ab d A (.slice (some ⟨g,0,none⟩) l.length cap) l w):=by
 obtain ⟨o,hgo,cap',cur,hv,rfl,hn,hcm,hcs,htk⟩:=(show Sat w ((g,_)::areaF ab d A) from h).head
 obtain rfl:cap=cap':=by simpa using hv
 obtain ⟨W1,hcl,hm1,cur1,hg1,hs1⟩:=q2x hgo hn (by omega)
 have hT1:Turns (bRow (.slice (some ⟨g,0,none⟩) l.length cap) l++areaF ab d A) ((g,fun o=>∃ cur:Array Value,o=.cells cur 5 (0,0)∧cur.size=cap)::areaF ab d A) w W1:=(Turns.refl h).put (φ:=_) (ψ:=fun o=>∃ cur:Array Value,o=.cells cur 5 (0,0)∧cur.size=cap) hm1 hg1 ⟨cur1,rfl,hs1⟩
 have hab:=hT1.sat.tail.headIs
 have a5:W1.cell? ⟨ab,132,none⟩=some (.chan (some A.ch)):=qac hab 132 (qve d A hA.tail)
 obtain ⟨o,hch,s,r,rfl⟩:=hT1.sat.tail.tail.head
 have HH:=Lib.hid (And.intro hT1 (And.intro hA (And.intro hn hcm)))
 clear h hA hab hgo hn hcm hcs htk hm1 hg1 hs1 hT1 hv
 have HC:=Lib.hid hch
 clear hch
 go_enter Tryz.func153,Tryz.ntmps153
 go_upto_region 3 with (simp only [hcl])
 by_cases hlt:A.spare.length<2
 ·refine qra (n:=2) (v:=.slice (some ⟨g,0,none⟩) l.length cap) (z:=.slice none 0 0) rfl rfl rfl (by kernel_rfl) HC.out (by simpa using hlt) ?_
  have hm:=qm0 W1 A.ch 2 ((A.spare.map qc1).toArray.push (.slice (some ⟨g,0,none⟩) l.length cap)) false (s+1) r false
  have hc2:=Conc.heap_setChan W1 A.ch 2 ((A.spare.map qc1).toArray.push (.slice (some ⟨g,0,none⟩) l.length cap)) false (s+1) r false (qal HC.out)
  generalize W1.setChan A.ch 2 ((A.spare.map qc1).toArray.push (.slice (some ⟨g,0,none⟩) l.length cap)) false (s+1) r false=W2 at hm hc2 ⊢
  have HM:=Lib.hid (And.intro hm hc2)
  clear hm hc2 hcl
  simp only [List.drop_succ_cons,List.drop_zero,Act.put,List.setIfInBounds_toArray,List.set_cons_zero,List.set_cons_succ]
  go_wp2_with fail
  go_end0
  have h1:=HH.out.1.to (H:=(A.ch,fun o=>∃ s r,o=.chan 2 (A.spare.map qc1).toArray false s r false)::(ab,Is (.cells (qaw d A) 157 (0,0)))::(qg3 A.spare++[(g,fun o=>∃ cur:Array Value,o=.cells cur 5 (0,0)∧cur.size=cap)])) (by unfold areaF;exact (qaf fun _=>by simp only [qad,qaa,qah]<;>omega))
  have h2:=h1.put (ψ:=fun o=>∃ s r,o=.chan 2 ((A.spare++[(g,l.length,cap)]).map qc1).toArray false s r false) HM.out.1 HM.out.2 ⟨s+1,r,by simp [qc1]⟩
  refine ⟨rfl,A.spare++[(g,l.length,cap)],?_,⟨HH.out.2.1.tail,by simp;omega,?_⟩⟩
  ·have e:areaF ab d { A with spare:=A.spare++[(g,l.length,cap)] }=(ab,Is (.cells (qaw d A) 157 (0,0)))::(A.ch,fun o=>∃ s r,o=.chan 2 ((A.spare++[(g,l.length,cap)]).map qc1).toArray false s r false)::(qg3 A.spare++[(g,fun o=>∃ cur:Array Value,o=.cells cur 5 (0,0)∧cur.size=cap)]):=by
    unfold areaF qg3
    simp only [List.map_append,List.map_cons,List.map_nil]
    rfl
   rw [e]
   exact h2.to (qaf fun _=>by simp only [qad,qaa,qah]<;>omega)
  ·intro x hx
   rcases List.mem_append.1 hx with hx | hx
   ·exact HH.out.2.1.caps x hx
   ·simp at hx;subst hx;exact HH.out.2.2
 ·refine qqk (n:=2) (v:=.slice (some ⟨g,0,none⟩) l.length cap) (z:=.slice none 0 0) rfl rfl rfl (by kernel_rfl) HC.out (by simp;omega) ?_
  clear hcl
  simp only [List.drop_succ_cons,List.drop_zero,Act.put,List.setIfInBounds_toArray,List.set_cons_zero,List.set_cons_succ]
  go_wp2_with fail
  go_end0
  exact ⟨rfl,A.spare,Turns.drop (H:=areaF ab d A) HH.out.1 (fun _=>by simp only [qad,qaa,qah]<;>omega),HH.out.2.1⟩
theorem qkz {t n:Nat} (ht:Tryz.prog.underlying t=some (.array n 5)) (hc:Tryz.prog.cellsOf t=n) (d:Nat) (s:Bs) (hs:s.length=n) :
  Tryz.prog.keyLits (d+2) t (s.map enc8)=some (s.map fun x=>Lit.int .u8 x.toNat):=by
 have h1:Tryz.prog.cellsOf 5=1:=by kernel_rfl
 have e0:Tryz.prog.keyLits (d+2) t (s.map enc8)=if (s.map enc8).length=n then ((List.range n).mapM fun i=>Tryz.prog.keyLits (d+1) 5 (((s.map enc8).drop i).take 1)).map List.flatten else none:=by
  conv=>lhs;unfold Program.keyLits
  simp only [ht,hc,h1,Nat.mul_one]
 rw [e0,if_pos (by simpa using hs)]
 have hm:∀ (m:Nat) (l:Bs) (o:Nat),(s.drop o).take m=l→l.length=m→(List.range' o m).mapM (fun i=>Tryz.prog.keyLits (d+1) 5 (((s.map enc8).drop i).take 1))=some (l.map fun x=>[Lit.int .u8 x.toNat]):=by
  intro m
  induction m with
  | zero=>intro l o h hl;simp at hl;subst hl;rfl
  | succ m ih =>
   intro l o h hl
   cases l with
   | nil=>simp at hl
   | cons x r =>
    have ho:o<s.length:=by
     rcases Nat.lt_or_ge o s.length with h' | h'
     ·exact h'
     ·rw [List.drop_of_length_le h'] at h;simp at h
    rw [List.drop_eq_getElem_cons ho,List.take_succ_cons] at h
    obtain ⟨rfl,hr⟩:=List.cons.inj h
    have e1:((s.map enc8).drop o).take 1=[enc8 s[o]]:=by
     rw [List.drop_eq_getElem_cons (show o<(s.map enc8).length by simpa using ho)]
     simp only [List.take_succ_cons,List.take_zero,List.getElem_map]
    have e2:Tryz.prog.keyLits (d+1) 5 [enc8 s[o]]=some [Lit.int .u8 s[o].toNat]:=by
     have:=UInt8.toNat_lt s[o]
     have hw:(Lit.int .u8 (s[o].toNat:Int)).wf=true:=by simp [Lit.wf,IntKind.min,IntKind.max,IntKind.bits,IntKind.signed];omega
     simp only [Program.keyLits,Tryz.underlying5,enc8]
     exact if_pos ⟨trivial,hw⟩
    rw [List.range'_succ,List.mapM_cons,e1,e2]
    rw [ih r (o+1) hr (by simpa using hl)]
    rfl
 have hf:∀ l:Bs,(l.map fun x=>[Lit.int IntKind.u8 (x.toNat:Int)]).flatten=l.map fun x=>Lit.int IntKind.u8 (x.toNat:Int):=fun l=>by
  induction l with
  | nil=>rfl
  | cons x r ih=>rw [List.map_cons,List.map_cons,List.flatten_cons,ih];rfl
 have hm0:=hm n s 0 (by rw [List.drop_zero];exact List.take_of_length_le (by omega)) hs
 rw [List.range_eq_range',hm0,Option.map_some,hf]
theorem q40 {a b:Bs} (h:(a.map fun x=>Lit.int IntKind.u8 x.toNat)=b.map fun x=>Lit.int IntKind.u8 x.toNat):a=b:=by
 induction a generalizing b with
 | nil=>cases b with
  | nil=>rfl
  | cons y r=>simp at h
 | cons x r ih=>cases b with
  | nil=>simp at h
  | cons y s =>
   simp only [List.map_cons,List.cons.injEq,Lit.int.injEq,true_and] at h
   obtain ⟨h1,h2⟩:=h
   rw [ih h2,UInt8.toNat_inj.1 (show x.toNat=y.toNat by omega)]
theorem ql2 {t n:Nat} (ht:Tryz.prog.underlying t=some (.array n 5)) (hc:Tryz.prog.cellsOf t=n) (hk:Tryz.prog.keyTypeAt 2 t=true) (hk2:Tryz.prog.keyType t=true) (hsz:Tryz.prog.types.size+1=362+1)
  (a b:Bs) (ha:a.length=n) (hb:b.length=n) (w:World):(Op.equal t (.agg (row8 a)) (.agg (row8 b))).run Tryz.prog w=.ok (decide (a=b)) w:=by
 have key:∀ s:Bs,s.length=n→keyOf Tryz.prog t (.agg (row8 s))=some (.string (keyBytes (s.map fun x=>Lit.int .u8 x.toNat))):=fun s hs=>by
  unfold keyOf
  rw [ht]
  simp only [hk2,Value.formed,ht,hc,qbn,hs,beq_self_eq_true,Bool.and_self,if_true]
  rw [hsz]
  show (Tryz.prog.keyLits (362-1+2) t (row8 s).toList).map _=_
  rw [show (row8 s).toList=s.map enc8 from rfl,qkz ht hc _ s hs]
  rfl
 obtain ⟨r,hr,hiff⟩:=run_equal_deep w (m:=2) (by decide) hk (by rw [ht]) (key a ha) (key b hb)
 rw [hr]
 congr 1
 rw [Bool.eq_iff_iff,hiff,decide_eq_true_iff]
 constructor
 ·intro e
  have e':keyBytes (a.map fun x=>Lit.int .u8 x.toNat)=keyBytes (b.map fun x=>Lit.int .u8 x.toNat):=by simpa using e
  exact q40 (Go.keyLits_inj (qkz ht hc 0 a ha) (qkz ht hc 0 b hb) e')
 ·rintro rfl;rfl
theorem qye {t n:Nat} (ht:Tryz.prog.underlying t=some (.array n 5)) (hc:Tryz.prog.cellsOf t=n) (hk:Tryz.prog.keyTypeAt 2 t=true) (hk2:Tryz.prog.keyType t=true) (hsz:Tryz.prog.types.size+1=362+1)
  (a b:Bs) (ha:a.length=n) (hb:b.length=n) (w:World):(binOp .neq t (.agg (row8 a)) (.agg (row8 b))).run Tryz.prog w=.ok (.bool (!decide (a=b))) w:=by
 simp only [binOp,Sem.run_bind,ql2 ht hc hk hk2 hsz a b ha hb w,Result.andThen_ok,Sem.run_pure]
theorem q5h {t n:Nat} (ht:Tryz.prog.underlying t=some (.array n 5)) (hc:Tryz.prog.cellsOf t=n) (hk:Tryz.prog.keyTypeAt 2 t=true) (hk2:Tryz.prog.keyType t=true) (hsz:Tryz.prog.types.size+1=362+1)
  (a b:Bs) (ha:a.length=n) (hb:b.length=n) (w:World):(binOp .eql t (.agg (row8 a)) (.agg (row8 b))).run Tryz.prog w=.ok (.bool (decide (a=b))) w:=by
 simp only [binOp,Sem.run_bind,ql2 ht hc hk hk2 hsz a b ha hb w,Result.andThen_ok,Sem.run_pure]
theorem qrz (a b:Bs) (ha:a.length=128) (hb:b.length=128) (w:World):(binOp .neq 42 (.agg (row8 a)) (.agg (row8 b))).run Tryz.prog w=.ok (.bool (!decide (a=b))) w :=
 qye Tryz.underlying42 (by kernel_rfl) (by kernel_rfl) (by kernel_rfl) (by kernel_rfl) a b ha hb w
theorem qxg (a b:Bs) (ha:a.length=128) (hb:b.length=128) (w:World):(binOp .neq 43 (.agg (row8 a)) (.agg (row8 b))).run Tryz.prog w=.ok (.bool (!decide (a=b))) w :=
 qye Tryz.underlying43 (by kernel_rfl) (by kernel_rfl) (by kernel_rfl) (by kernel_rfl) a b ha hb w
theorem q53 (a b:Bs) (ha:a.length=128) (hb:b.length=128) (w:World):(binOp .eql 43 (.agg (row8 a)) (.agg (row8 b))).run Tryz.prog w=.ok (.bool (decide (a=b))) w :=
 q5h Tryz.underlying43 (by kernel_rfl) (by kernel_rfl) (by kernel_rfl) (by kernel_rfl) a b ha hb w
theorem qh8 {t:Nat} (hg:Tryz.prog.eqGuardType Tryz.prog.depth t=false) (b:BinOp) (x y:Operand) (A B:Array Value) (w:World):(eqGuard b t x y (.agg A) (.agg B)).run Tryz.prog w=.ok () w:=by
 have hp:∀ w,Sem.run Tryz.prog program w=.ok Tryz.prog w:=fun _=>rfl
 have h1:(!Tryz.prog.eqGuardType Tryz.prog.depth t)=true:=by rw [hg];rfl
 cases b<;>first | rfl | (unfold eqGuard;simp only [Bool.not_true,Bool.false_eq_true,if_false,Sem.run_bind,hp,Result.andThen_ok,h1,if_true,Sem.run_pure])
theorem qob {ops:Array Oper} {w:World} {Q:Act→Prop} {a:Act} {op:Oper} {rest:List Oper} (hgd:op.guard=none) (b:BinOp) (t:TypeId) (x y:Operand) (ty:TypeId) (ho:op.op=.binOp b t x y ty)
  (hg:Tryz.prog.eqGuardType Tryz.prog.depth t=false) (A B:Array Value) (v:Value) (hn:(binOp b t (.agg A) (.agg B)).run Tryz.prog w=.ok v w) (hx:a.eval x=.agg A) (hy:a.eval y=.agg B)
  (h:wpStill Tryz.prog ops w Q rest (a.put op.dst v)):wpStill Tryz.prog ops w Q (op::rest) a:=by
 refine wpStill_step (fun K hK=>?_)
 have hw:Region.wanted op (yielded ops a.tmps)=true:=by simp [Region.wanted,hgd]
 rw [if_pos hw]
 unfold Oper.still execOp
 simp only [ho,hx,hy,Sem.run_bind,qh8 hg,Result.andThen_ok,hn,Oper.stillUpon,Sem.run_pure]
 exact ⟨trivial,hK _ h⟩
theorem qlk {ops:Array Oper} {w:World} {Q:Exit→Act→World→Prop} {a:Act} {op:Oper} {rest:List Oper} (hgd:op.guard=none) (b:BinOp) (t:TypeId) (x y:Operand) (ty:TypeId) (ho:op.op=.binOp b t x y ty)
  (hg:Tryz.prog.eqGuardType Tryz.prog.depth t=false) (A B:Array Value) (v:Value) (hn:(binOp b t (.agg A) (.agg B)).run Tryz.prog w=.ok v w) (hx:a.eval x=.agg A) (hy:a.eval y=.agg B)
  (h:wpList Tryz.prog ops Q rest (a.put op.dst v) w):wpList Tryz.prog ops Q (op::rest) a w:=by
 refine wpList_plain hgd fun K hK=>?_
 unfold Oper.wp execOp
 simp only [ho,hx,hy,Sem.run_bind,qh8 hg,Result.andThen_ok,hn,Sem.run_pure]
 exact hK _ _ h
theorem qwj (ad:Addr) (len cap:Nat) (h:128≤len) (w:World):(Instr.arrayAt 42 (.slice (some ad) len cap)).run Tryz.prog w=.ok (.pointer (some ad)) w:=by
 have h':¬ len<128:=by omega
 unfold Instr.arrayAt
 simp [run_underlying Tryz.underlying42,h']
theorem qnr {ops:Array Oper} {w:World} {Q:Act→Prop} {a:Act} {op:Oper} {rest:List Oper} (hgd:op.guard=none) (x:Operand) (ho:op.op=.sliceToArrayPointer 42 x)
  (ad:Addr) (len cap:Nat) (hl:128≤len) (hx:a.eval x=.slice (some ad) len cap)
  (h:wpStill Tryz.prog ops w Q rest (a.put op.dst (.pointer (some ad)))):wpStill Tryz.prog ops w Q (op::rest) a:=by
 refine wpStill_step (fun K hK=>?_)
 have hw:Region.wanted op (yielded ops a.tmps)=true:=by simp [Region.wanted,hgd]
 rw [if_pos hw]
 unfold Oper.still execOp
 simp only [ho,hx,Sem.run_bind,qwj ad len cap hl,Result.andThen_ok,Oper.stillUpon,Sem.run_pure]
 exact ⟨trivial,hK _ h⟩
theorem qxh:Tryz.prog.eqGuardType Tryz.prog.depth 42=false:=by kernel_rfl
theorem qla:Tryz.prog.eqGuardType Tryz.prog.depth 43=false:=by kernel_rfl
theorem qcm (d:Nat) (A:AreaL):(qaw d A).toList=[Value.pointer (some ⟨d,0,none⟩),.int .i64 A.first,.int .i64 A.count,.int .i64 A.end_]++(A.tail.map enc8++[.chan (some A.ch)]):=by simp [qaw,row8]
theorem qpp (d:Nat) (A:AreaL) (e:Nat):(qaw d A).setIfInBounds 3 (.int .i64 e)=qaw d { A with end_:=e }:=by
 apply Array.ext'
 rw [Array.toList_setIfInBounds,qcm,qcm]
 rfl
theorem qmp (d:Nat) (A:AreaL) (s:Bs) (hs:s.length≤A.tail.length):(spl (qaw d A).toList 4 (s.map enc8)).toArray=qaw d { A with tail:=putAt A.tail 0 s }:=by
 apply Array.ext'
 rw [qcm]
 show spl _ 4 _=_
 generalize hh:[Value.pointer (some ⟨d,0,none⟩),Value.int .i64 A.first,Value.int .i64 A.count,Value.int .i64 A.end_]=hd
 have hl:hd.length=4:=by rw [← hh];rfl
 unfold spl
 rw [List.take_left' hl,← hl,← List.drop_drop,List.drop_left' rfl,List.drop_append_of_le_length (by simpa using hs)]
 rw [qcm]
 simp [putAt,hh]
theorem qhb {w w':World} {ab d:Nat} {A A':AreaL} {R:HF} (h:Sat w (areaF ab d A++R)) (hm:Mods (fun k=>k=ab) w w') (hc:w'.heap[ab]?=some (.cells (qaw d A') 157 (0,0))) (h1:A'.ch=A.ch) (h2:A'.spare=A.spare) :
  Turns (areaF ab d A++R) (areaF ab d A'++R) w w':=by
 have:=(Turns.refl h).putIs hm hc
 unfold areaF
 rw [h1,h2]
 exact this
theorem qk7 {w:World} {ab d:Nat} {A:AreaL} {t:TypeId} {fz:Nat×Nat} (h:w.heap[ab]?=some (.cells (qaw d A) t fz)):w.rangeAt ab 4 (A.tail.map enc8):=fun j v hv=>by
 refine qac h (4+j) ?_
 rw [← Array.getElem?_toList,qcm,List.getElem?_append_right (by simp)]
 rw [List.getElem?_append_left (by have:=(List.getElem?_eq_some_iff.1 hv).1;simpa [Nat.add_sub_cancel_left] using this)]
 simpa [Nat.add_sub_cancel_left] using hv
theorem qg5 (d:Nat) (A:AreaL):(qaw d A).size=A.tail.length+5:=by simp [qaw,qbn];omega
theorem qzj (L:List Value) (o:Nat) (v:List Value):splice L o v=spl L o v:=by simp [splice,spl]
theorem q0g (d:Nat) (A:AreaL) (e:Nat) (s t:Bs) (hs:s.length≤128) (ht:t=s++zeros (128-s.length)) :
  (splice (qaw d { A with end_:=e,tail:=zeros 128 }).toList 4 (s.map enc8)).toArray=qaw d { A with end_:=e,tail:=t }:=by
 have e2:putAt (zeros 128) 0 s=t:=by
  rw [ht];unfold putAt
  rw [List.take_zero,List.nil_append,Nat.zero_add]
  congr 1;unfold zeros;rw [List.drop_replicate]
 rw [qzj,qmp d { A with end_:=e,tail:=zeros 128 } s (by rw [qan];exact hs),e2]
def cutTo (l:Bs) (first q:Nat) (t:Bs):Nat→Bs
 | 0=>l
 | m+1=>putAt (cutTo l first q t m) (128*(first+q+m)) (if m=0 then t else zeros 128)
theorem qgx {l t:Bs} {n first q:Nat} (hl:l.length=128*n) (ht:t.length=128) (m:Nat) (h:first+q+m≤n):(cutTo l first q t m).length=128*n:=by
 induction m with
 | zero=>exact hl
 | succ m ih =>
  rw [cutTo,qg4]
  ·exact ih (by omega)
  ·rw [ih (by omega)];split<;>simp [ht,qan]<;>omega
def qxk (ab d:Nat) (A:AreaL) (L:DevL) (end_:Nat) (ws:Bs) (w:World) (e:Ending) (w':World):Prop :=
 e=.returned .nilIface∧∃ L',Turns (areaF ab d A++devF d L) (areaF ab d { A with end_:=end_,tail:=((ws.take end_).drop (128*(end_ / 128))++zeros (128-end_%128)) }++devF d L') w w'∧DevOk L'∧L'.n=L.n ∧
  L'.now=cutTo L.now A.first (end_ / 128) ((ws.take end_).drop (128*(end_ / 128))++zeros (128-end_%128)) (A.count-end_ / 128)∧L'.safe=L'.now∧L'.chs=[]
theorem qjj:Tryz.prog.built 43 []=some (row8 (zeros 128)):=by kernel_rfl
def qbj (t:Bs) (m:Nat):Bs:=if m=0 then t else zeros 128
theorem qd2 {t:Bs} (ht:t.length=128) (m:Nat):(qbj t m).length=128:=by unfold qbj;split;exact ht;exact qan _
def qmu (ab d T:Nat) (A A1:AreaL) (L:DevL) (q:Nat) (t:Bs) (w:World) (i:Value) (wr:World):Prop :=
 ∃ (m:Nat) (L':DevL),q+m≤A.count∧i=.int .i64 ((q+m:Nat):Int)∧Turns (areaF ab d A++devF d L) ((T,Is (.cells (row8 (qbj t m)) 43 (0,0)))::(areaF ab d A1++devF d L')) w wr ∧
  DevOk L'∧L'.n=L.n∧L'.now=cutTo L.now A.first q t m∧L'.chs.length≤L.chs.length+m
theorem qmc {ab d:Nat} {A A1:AreaL} {L:DevL} {q:Nat} {t:Bs} {w w3:World} (hq:q≤A.count) (hT:Turns (areaF ab d A++devF d L) (areaF ab d A1++devF d L) w w3) (hL:DevOk L) (ht:t.length=128) :
  qmu ab d w3.heap.size A A1 L q t w (.int .i64 q) ((w3.alloc (.cells zsec 43)).setCells w3.heap.size 0 (t.map enc8)):=by
 obtain ⟨h1,h2⟩:=qcs (qa7 w3 (.cells (row8 (zeros 128)) 43)) (s:=t) (by rw [ht,qan])
 exact ⟨0,L,hq,rfl,(hT.allocIs (.cells (row8 (zeros 128)) 43)).putIs h2 h1,hL,rfl,rfl,Nat.le_refl _⟩
theorem qzl {l s:Bs} {o:Nat} (h:(l.drop o).take s.length=s) (ho:o+s.length≤l.length):putAt l o s=l:=by
 unfold putAt
 have e:l.drop o=s++l.drop (o+s.length):=by
  rw [← List.take_append_drop s.length (l.drop o),h,List.drop_drop]
 rw [List.append_assoc,← e,List.take_append_drop]
theorem qwf {l t:Bs} {n first q:Nat} (hl:l.length=128*n) (ht:t.length=128) (k:Nat):∀ m,first+q+m≤n→first+q+m≤k→secOf (cutTo l first q t m) k=secOf l k:=by
 intro m
 induction m with
 | zero=>intro _ _;rfl
 | succ m ih =>
  intro h1 h2
  rw [cutTo,← ih (by omega) (by omega)]
  have hw:(if m=0 then t else zeros 128).length=128:=qd2 ht m
  have hlen:=qgx hl ht (q:=q) (first:=first) m (by omega)
  unfold secOf putAt
  congr 1
  rw [List.drop_append,List.drop_of_length_le (by simp [hw];omega),List.nil_append,List.drop_drop]
  congr 1
  simp only [List.length_append,List.length_take,hw,hlen]
  omega
theorem qvn {ab d T:Nat} {A A1:AreaL} {L L':DevL} {q m:Nat} {t:Bs} {w wr w4:World} (hT:Turns (areaF ab d A++devF d L) ((T,Is (.cells (row8 (qbj t m)) 43 (0,0)))::(areaF ab d A1++devF d L')) w wr)
  (hL':DevOk L') (hn:L'.n=L.n) (hnow:L'.now=cutTo L.now A.first q t m) (hch:L'.chs.length≤L.chs.length+m) (hm:q+m<A.count) (hA:A.first+A.count≤L.n) (hLn:L.now.length=128*L.n) (ht:t.length=128)
  (heq:secOf L.now (A.first+(q+m))=qbj t m) (hs:w4=(wr.drew.setCells T 0 ((zeros 128).map enc8))) (i:Value) (hi:i=.int .i64 (((q+m:Nat):Int)+1)):qmu ab d T A A1 L q t w i w4:=by
 have hTd:=hT.drew
 have hb:=hTd.sat.headIs
 obtain ⟨h1,h2⟩:=qcs hb (s:=zeros 128) (by rw [qan,qd2 ht])
 subst hs
 refine ⟨m+1,L',by omega,by rw [hi];congr 1,?_,hL',hn,?_,by omega⟩
 ·rw [show qbj t (m+1)=zeros 128 from rfl];exact hTd.putIs h2 h1
 ·rw [cutTo,hnow]
  have hw:=qd2 ht m
  refine (qzl (s:=qbj t m) ?_ ?_).symm
  ·have:=qwf hLn ht (A.first+(q+m)) (first:=A.first) (q:=q) m (by omega) (by omega)
   rw [hw,show A.first+q+m=A.first+(q+m) by omega]
   rw [heq] at this
   exact this
  ·rw [hw,qgx hLn ht m (by omega)];omega
theorem qr8 {ab d T:Nat} {A A1:AreaL} {L L' L2:DevL} {q m:Nat} {t:Bs} {w wr w4 w5:World} (hT:Turns (areaF ab d A++devF d L) ((T,Is (.cells (row8 (qbj t m)) 43 (0,0)))::(areaF ab d A1++devF d L')) w wr)
  (hW:Turns (devF d L') (devF d L2) wr.drew.drew w4) (hL2:DevOk L2) (hn:L'.n=L.n) (hn2:L2.n=L'.n) (hnow:L'.now=cutTo L.now A.first q t m) (hnow2:L2.now=putAt L'.now (128*(A.first+(q+m))) (qbj t m)) (hch:L'.chs.length≤L.chs.length+m) (hch2:L2.chs.length=L'.chs.length+1) (hm:q+m<A.count) (ht:t.length=128)
  (hs:w5=w4.setCells T 0 ((zeros 128).map enc8)) (i:Value) (hi:i=.int .i64 (((q+m:Nat):Int)+1)):qmu ab d T A A1 L q t w i w5:=by
 have p:∀ X:HF,((T,Is (.cells (row8 (qbj t m)) 43 (0,0)))::(areaF ab d A1++X)).Perm (X++((T,Is (.cells (row8 (qbj t m)) 43 (0,0)))::areaF ab d A1)):=fun X =>
  (List.perm_append_comm (l₁:=(T,Is (.cells (row8 (qbj t m)) 43 (0,0)))::areaF ab d A1) (l₂:=X))
 have hTd:=hT.drew.drew
 have h4:=hTd.trans ((hW.frame (hTd.sat.perm (p _))).perm (p _).symm (p _).symm)
 obtain ⟨h1,h2⟩:=qcs h4.sat.headIs (s:=zeros 128) (by rw [qan,qd2 ht])
 subst hs
 refine ⟨m+1,L2,by omega,by rw [hi];congr 1,?_,hL2,by omega,?_,by omega⟩
 ·rw [show qbj t (m+1)=zeros 128 from rfl];exact h4.putIs h2 h1
 ·rw [hnow2,hnow,cutTo,show A.first+(q+m)=A.first+q+m by omega];rfl
theorem qxu {F:HF} {ab d T:Nat} {A1:AreaL} {φ:Obj→Prop} {L' L2:DevL} {w wr w4:World} (hT:Turns F ((T,φ)::(areaF ab d A1++devF d L')) w wr) (hF:Turns (devF d L') (devF d L2) wr w4):Turns F (areaF ab d A1++devF d L2) w w4:=by
 have p:∀ X:HF,((T,φ)::(areaF ab d A1++X)).Perm (X++((T,φ)::areaF ab d A1)):=fun X=>(List.perm_append_comm (l₁:=(T,φ)::areaF ab d A1) (l₂:=X))
 have h4:=hT.trans ((hF.frame (hT.sat.perm (p _))).perm (p _).symm (p _).symm)
 exact Turns.right (G:=[(T,φ)]) h4
theorem qsd (ab d:Nat) (A:AreaL) (L:DevL) (end_:Nat) (a:Option Addr) (cap:Nat) (ws:Bs) (w:World) (h:Sat w (areaF ab d A++devF d L)) (hL:DevOk L) (hA:A.first+A.count≤L.n) (hn:L.n≤1073741824) (hao:AreaOk A)
  (hw:qaj w a (ws.map enc8)) (hne:∀ x,a=some x→x.block∉dom (areaF ab d A++devF d L)) (hwl:ws.length=128*A.count) (hcap:ws.length≤cap) (hcap2:cap≤9223372036854775807) (hpos:0<A.count) (he:end_≤128*A.count) (hch:L.chs.length≤137438953472)
  (hok:∀ m,end_ / 128+m<A.count→secOf ws (end_ / 128+m)=(if m=0 then ((ws.take end_).drop (128*(end_ / 128))++zeros (128-end_%128)) else zeros 128)→secOf L.now (A.first+(end_ / 128+m))=(if m=0 then ((ws.take end_).drop (128*(end_ / 128))++zeros (128-end_%128)) else zeros 128)) :
  Calls Tryz.prog 56 #[.pointer (some ⟨ab,0,none⟩),.int .i64 end_,.slice a ws.length cap] w (qxk ab d A L end_ ws w):=by
 unfold qxk
 obtain ⟨g,off,rfl,_⟩:=hw (by rw [List.length_map];omega)
 have hab:=qe1 h
 have c3:=qac hab 3 (qiq d A)
 have f3:=qa9 hab 3
 have hset3:(w.setCell ⟨ab,3,none⟩ (.int .i64 end_)).heap[ab]?=some (.cells (qaw d { A with end_:=end_ }) 157 (0,0)):=by rw [qbf hab 3,qpp]
 have hT1:=qhb h ((Mods.refl (fun k=>k=ab) w).set1 (i:=3) (.int .i64 end_)) hset3 rfl rfl
 obtain ⟨hs4,hm4⟩:=qgy (C:=(qaw d { A with end_:=end_ }).toList) (by simpa using hset3) 4 ((zeros 128).map enc8) (by rw [List.length_map,qan,Array.length_toList,qg5,hao.tail];omega)
 rw [qmp _ _ _ (by show _≤A.tail.length;rw [qan,hao.tail];omega)] at hs4
 have hth4:(w.setCell ⟨ab,3,none⟩ (.int .i64 end_)).there ab 4 128:=qcx hset3 4 128 (by rw [qg5];show _≤A.tail.length+5;rw [hao.tail];omega)
 have hpf:putAt A.tail 0 (zeros 128)=zeros 128:=by simp [putAt,qan,hao.tail]
 simp only [hpf] at hs4
 have hT2:=hT1.trans (qhb (A':={ A with end_:=end_,tail:=zeros 128 }) hT1.sat hm4 hs4 rfl rfl)
 obtain ⟨q,hq⟩:∃ q,end_ / 128=q:=⟨_,rfl⟩
 obtain ⟨r,hr⟩:∃ r,end_%128=r:=⟨_,rfl⟩
 obtain ⟨lo,hlo⟩:∃ lo,128*q=lo:=⟨_,rfl⟩
 have hrl:r<128:=by omega
 have hle:lo+r=end_:=by omega
 have hwe:end_≤ws.length:=by omega
 have i1:((end_:Int)%128)=(r:Int):=by omega
 have i2:((end_:Int) / 128)=(q:Int):=by omega
 have i3:((end_:Int)-(r:Int))=(lo:Int):=by omega
 have hcs:((ws.drop lo).take r).length=r:=by simp;omega
 rw [hq,hr] at hok ⊢
 have HWL:=Lib.hid (And.intro hwl (And.intro hq (And.intro hr (And.intro hlo (And.intro hle hcs)))))
 have hlow:lo≤end_:=by omega
 have hqc:q≤A.count:=by omega
 clear hwl hq hr hlo hle hcs
 have H:=Lib.hid (And.intro h (And.intro hL (And.intro hw (And.intro hne (And.intro hok (And.intro hT2 (And.intro hs4 hth4)))))))
 have HZ:=Lib.hid qjj
 have hz:=qir
 clear h hL hw hne hok hT1 hT2 hs4 hm4 hset3 hth4 hab
 go_enter Tryz.func56,Tryz.ntmps56
 go_wp2_with (first | (refine qby rfl 43 #[] rfl (row8 (zeros 128)) HZ.out ?_) | (refine wpList_store_mid rfl 43 (.tmp 17) (.tmp 15) rfl ab 4 (row8 (zeros 128)) rfl rfl (by rw [qbn,qan];exact H.out.2.2.2.2.2.2.2) (secHr (qan 128)) (qcf _) ?_))
 have HM:=Lib.hid (show Tryz.prog.follows .mixedOrders=true by kernel_rfl)
 obtain ⟨w2,hw2⟩:∃ w2,w2=(w.setCell ⟨ab,3,none⟩ (.int .i64 end_)).setCells ab 4 ((zeros 128).map enc8):=⟨_,rfl⟩
 have hT2:=H.out.2.2.2.2.2.1
 have hc2:=H.out.2.2.2.2.2.2.1
 rw [← hw2] at hT2 hc2
 change Code.wp _ _ _ _ ((w.setCell ⟨ab,3,none⟩ (.int .i64 end_)).setCells ab 4 ((zeros 128).map enc8))
 rw [← hw2]
 have H2:=Lib.hid (And.intro hT2 hc2)
 clear hT2 hc2 hw2
 have j1:((end_:Int)).tmod 128=(r:Int):=by rw [Int.tmod_eq_emod_of_nonneg (by omega)];exact i1
 have j2:IntKind.i64.wrap (lo:Int)=(lo:Int):=IntWalk.i64_in _ (by omega)
 have j3:(lo:Int)≤(end_:Int):=by omega
 have j4:(end_:Int)≤(cap:Int):=by omega
 obtain ⟨t,ht⟩:∃ t:Bs,t=(ws.drop lo).take r++zeros (128-r):=⟨_,rfl⟩
 have htl:t.length=128:=by rw [ht,List.length_append,HWL.out.2.2.2.2.2,qan];omega
 have htw:t=(ws.take end_).drop (128*q)++zeros (128-r):=by rw [ht,List.drop_take,HWL.out.2.2.2.1];congr 2;have:=HWL.out.2.2.2.2.1;omega
 have hcp:∀ w3,w3.heap[ab]?=some (.cells (splice (qaw d { A with end_:=end_,tail:=zeros 128 }).toList 4 (((ws.drop lo).take r).map enc8)).toArray 157 (0,0))→Mods (fun k=>k=ab) w2 w3 →
   w3.heap[ab]?=some (.cells (qaw d { A with end_:=end_,tail:=t }) 157 (0,0))∧Turns (areaF ab d A++devF d L) (areaF ab d { A with end_:=end_,tail:=t }++devF d L) w w3:=fun w3 hh hm=>by
  have hc:w3.heap[ab]?=some (.cells (qaw d { A with end_:=end_,tail:=t }) 157 (0,0)):=by
   rw [hh,q0g d A end_ _ t (by rw [HWL.out.2.2.2.2.2];omega) (by rw [HWL.out.2.2.2.2.2];exact ht)]
  exact ⟨hc,(H2.out.1).trans (qhb H2.out.1.sat hm hc rfl rfl)⟩
 have HT:=Lib.hid (And.intro htw (And.intro hcp ht))
 have hsz8:(Tryz.prog.info? 5).map (·.size)=some 1:=by kernel_rfl
 have HS8:=Lib.hid hsz8
 clear htw hcp ht hsz8
 by_cases hcl:cap=lo
 ·have HR0:Hid (r=0):=Lib.hid (by have:=HWL.out.2.2.2.2.1;omega)
  have hcl':=hcl.symm
  clear hcl
  subst hcl'
  refine wp_region_still_tail 11 HM.out (by kernel_rfl) ?_
  simp only [List.take_succ_cons,List.take_zero,List.drop_succ_cons,List.drop_zero]
  repeat still_step
  refine wpStill_nil ?_
  change wpList _ _ _ _ _ w2.drew
  refine qfx rfl (.tmp 21) (.tmp 28) 38 38 rfl 5 Tryz.underlying38 HS8.out _ _ _ _ _ _ rfl rfl ab 4 (qaw d { A with end_:=end_,tail:=zeros 128 }).toList 157 (by rw [Array.toArray_toList];exact H2.out.2) (((ws.drop lo).take r).map enc8) ?d1 ?d2 ?d3 (qc3 _) ?d4
  case d1=>rw [List.length_map,HWL.out.2.2.2.2.2];have:=HWL.out.2.2.2.2.1;show r=min (end_-lo) 128;omega
  case d2 =>
   intro hp
   rw [List.length_map,HWL.out.2.2.2.2.2] at hp
   have:=HR0.out
   omega
  case d3=>rw [List.length_map,HWL.out.2.2.2.2.2];simp [qcm,qan];omega
  case d4 =>
   intro w3 hh hm hsz3
   clear hsz3
   obtain ⟨hc3,hT3⟩:=HT.out.2.1 w3 hh ((Mods.refl _ w2).drew.trans hm)
   have H3:=Lib.hid (And.intro hc3 hT3)
   have HTL:=Lib.hid htl
   clear hc3 hT3 hh hm c3 f3 i1 i3 j1 j2 j3 j4 htl
   go_wp2_with (first | (refine wpList_load_mid rfl 43 (.tmp 32) rfl ab 4 rfl (t.map enc8) _ (qk7 H3.out.1) Tryz.underlying43 rfl (secHi HTL.out) ?_) | (refine wpList_store_mid rfl 43 (.tmp 7) (.tmp 33) rfl w3.heap.size 0 (t.map enc8).toArray rfl rfl ?d5 (secHr HTL.out) (qcf _) ?_))
   case d5=>exact qcx (qa7 w3 _) 0 _ (by rw [show zsec=row8 (zeros 128) from rfl,qbn,qan];simp [HTL.out])
   have hst:=qmc (q:=q) hqc H3.out.2 H.out.2.1 HTL.out
   have hne':H3.out=H3.out:=rfl
   generalize hTT:w3.heap.size=T at hst ⊢
   generalize (w3.alloc (.cells zsec 43)).setCells T 0 (t.map enc8)=W0 at hst ⊢
   have HST:=Lib.hid hst
   clear hst hTT hne' i2
   go_loopw [8] (fun i wr=>qmu ab d T A { A with end_:=end_,tail:=t } L q t w i wr) (fun i _=>A.count-(intOf i).toNat)
   case atStart=>exact HST.out
   case round =>
    obtain ⟨m,L',hqm,rfl,hT',hL',hn',hnow',hch'⟩:=hrel
    obtain ⟨k,hk⟩:∃ k,q+m=k:=⟨_,rfl⟩
    have hab':=qe1 hT'.sat.tail
    have a0:=qac hab' 0 (qhe d _)
    have a1:=qac hab' 1 (qhd d _)
    have a2:=qac hab' 2 (qnn d _)
    simp only at a1 a2
    have hTb:=hT'.sat.headIs
    by_cases hlt:k<A.count
    ·have hcw:=H.out.2.2.1.keep (w':=wr) hT'.mods (fun g' off' e hin=>H.out.2.2.2.1 _ e hin)
     obtain ⟨g',off',e',hcl'⟩:=hcw (by rw [List.length_map,HWL.out.1];omega)
     simp only [Option.some.injEq,Addr.mk.injEq,and_true] at e'
     obtain ⟨rfl,rfl⟩:=e'
     have hws:128*k+128≤ws.length:=by rw [HWL.out.1];omega
     have hrg:wr.rangeAt g (off+k*128) ((secOf ws k).map enc8):=fun j v hv=>by
      obtain ⟨hj,rfl⟩:=List.getElem?_eq_some_iff.1 hv
      have hj':j<128:=by simp [secOf] at hj;omega
      rw [show off+k*128+j=off+(k*128+j) by omega]
      refine (hcl' (k*128+j) (by rw [List.length_map];omega)).trans ?_
      simp [secOf,Nat.mul_comm]
     have hsl:(secOf ws k).length=128:=by simp [secOf];omega
     obtain ⟨kk,hkk⟩:∃ kk,k*128=kk:=⟨_,rfl⟩
     have p1:((k:Int)*128)=(kk:Int):=by omega
     have p2:IntKind.i64.wrap (kk:Int)=(kk:Int):=IntWalk.i64_in _ (by omega)
     have p3:(kk:Int)≤(ws.length:Int):=by omega
     have p4:(ws.length:Int)≤(lo:Int):=by omega
     have p5:¬ lo=kk:=by omega
     have p6:128≤ws.length-kk:=by omega
     rw [hkk] at hrg
     have hkq:(k:Int)<(A.count:Int):=by omega
     have hwt:=qd2 HTL.out m
     have hrT:wr.rangeAt T 0 ((qbj t m).map enc8):=by have:=qdc hTb 0 128;rwa [List.drop_zero,List.take_of_length_le (by omega)] at this
     have hcmp:=qrz (secOf ws k) (qbj t m) hsl hwt
     have HR:=Lib.hid (And.intro hT' (And.intro hL' (And.intro hn' (And.intro hnow' (And.intro hch' (And.intro hrg (And.intro hrT (And.intro hcmp (And.intro hsl (And.intro hwt hk))))))))))
     have HK:=Lib.hid hkk
     clear hT' hL' hn' hnow' hch' hrg hrT hcmp hsl hwt hcl' hcw hTb hab' hkk hqm
     simp only [hk]
     clear hk HST
     have hal:ab<wr.heap.size:=World.block_lt_of_cell? wr _ a0
     go_wp2_with fail
     refine wp_region_still_lit HM.out (by kernel_rfl) ?_
     repeat still_step
     refine qnr rfl (.tmp 47) rfl _ _ _ p6 rfl ?_
     refine qb7 rfl 42 (.tmp 48) rfl g (off+kk) rfl ((secOf ws k).map enc8) _ HR.out.2.2.2.2.2.1 Tryz.underlying42 rfl (by rw [List.length_map,HR.out.2.2.2.2.2.2.2.2.1];kernel_rfl) ?_
     refine qb7 rfl 43 (.tmp 7) rfl T 0 rfl ((qbj t m).map enc8) _ HR.out.2.2.2.2.2.2.1 Tryz.underlying43 rfl (secHi HR.out.2.2.2.2.2.2.2.2.2.1) ?_
     refine qob rfl .neq 42 (.tmp 49) (.tmp 50) _ rfl qxh _ _ _ (HR.out.2.2.2.2.2.2.2.1 _) rfl rfl ?_
     refine wpStill_nil ?_
     change Exit.then _ _ _ _ wr.drew
     simp only [Act.put,List.setIfInBounds_toArray,List.set_cons_zero,List.set_cons_succ]
     by_cases heq:secOf ws k=qbj t m
     ·have hd0:(!decide (secOf ws k=qbj t m))=false:=by simp [heq]
      have hok:=H.out.2.2.2.2.1 m
      rw [HR.out.2.2.2.2.2.2.2.2.2.2] at hok
      have hth:wr.drew.there T 0 128:=(World.there_drew _ _ _ _).2 (qdg HR.out.1.sat.headIs 0 128 (by rw [HR.out.2.2.2.2.2.2.2.2.2.1];omega))
      have hsk:=fun w4 hs i hi=>qvn (w4:=w4) HR.out.1 HR.out.2.1 HR.out.2.2.1 HR.out.2.2.2.1 HR.out.2.2.2.2.1 (by rw [HR.out.2.2.2.2.2.2.2.2.2.2];omega) hA H.out.2.1.nowL HTL.out (by rw [HR.out.2.2.2.2.2.2.2.2.2.2];exact (hok (by omega) (heq.trans (by rw [← HT.out.1];rfl))).trans (by rw [← HT.out.1];rfl)) hs i hi
      have HSK:=Lib.hid hsk
      have HTH:=Lib.hid hth
      rw [hd0]
      clear hok hth hsk heq p5 p6 hd0
      go_wp2_with (first | (refine qby rfl 43 #[] rfl (row8 (zeros 128)) HZ.out ?_) | (refine wpList_store_mid rfl 43 (.tmp 7) (.tmp 67) rfl T 0 (row8 (zeros 128)) rfl rfl ?d6 (secHr (qan 128)) (qcf _) ?_))
      case d6=>rw [qbn,qan];exact HTH.out
      go_roundw
      case rel=>exact HSK.out _ rfl _ (by rw [HR.out.2.2.2.2.2.2.2.2.2.2])
      case measure=>simp [intOf];omega
     ·have hd0:(!decide (secOf ws k=qbj t m))=true:=by simp [heq]
      have a0':wr.drew.cell? ⟨ab,0,none⟩=some (.pointer (some ⟨d,0,none⟩)):=a0
      have a1':wr.drew.cell? ⟨ab,1,none⟩=some (.int .i64 A.first):=a1
      have q1:IntKind.i64.wrap ((A.first:Int)+(k:Int))=(A.first:Int)+(k:Int):=IntWalk.i64_in _ (by omega)
      have hrT2:wr.drew.rangeAt T 0 ((qbj t m).map enc8):=(World.rangeAt_drew _ _ _ _).2 HR.out.2.2.2.2.2.2.1
      have HT2:=Lib.hid hrT2
      have HWr:Hid (∀ W,Sat W (devF d L')→Calls Tryz.prog 18 #[.pointer (some ⟨d,0,none⟩),.int .i64 ((A.first:Int)+k),.agg ((qbj t m).map enc8).toArray] W (qgt d L' (A.first+k) (qbj t m) W)):=Lib.hid (fun W hW=>by
       have:=qhq d L' (A.first+k) (qbj t m) W hW HR.out.2.1 (by rw [HR.out.2.2.1];omega) HR.out.2.2.2.2.2.2.2.2.2.1 (by have:=HR.out.2.2.2.2.1;have:=HR.out.2.2.2.2.2.2.2.2.2.2;omega)
       exact this)
      rw [hd0]
      clear heq p5 p6 hd0 hrT2
      obtain ⟨wd,hwd⟩:∃ wd,wd=wr.drew:=⟨_,rfl⟩
      rw [← hwd] at a0' a1' HT2 ⊢
      have HWD:=Lib.hid hwd
      clear hwd
      go_wp2_with fail
      refine wp_region_still_tail 11 HM.out (by kernel_rfl) ?_
      simp only [List.take_succ_cons,List.take_zero,List.drop_succ_cons,List.drop_zero]
      iterate 10 still_step
      refine qb7 rfl 43 (.tmp 7) rfl T 0 rfl ((qbj t m).map enc8) _ HT2.out Tryz.underlying43 rfl (secHi HR.out.2.2.2.2.2.2.2.2.2.1) ?_
      refine wpStill_nil ?_
      simp only [Act.put,List.setIfInBounds_toArray,List.set_cons_zero,List.set_cons_succ]
      change wpList _ _ _ _ _ wd.drew
      go_wp2_with fail
      have hsd:Sat wd.drew ((T,Is (.cells (row8 (qbj t m)) 43 (0,0)))::(areaF ab d { A with end_:=end_,tail:=t }++devF d L')):=by rw [HWD.out];exact (HR.out.1.drew.drew).sat
      refine (HWr.out _ hsd.tail.right).mono ?_
      rintro e w4 ⟨rfl,L2,hW,hL2,hn2,hnow2,hch2⟩
      rw [HWD.out] at hW
      have hTw:w4.heap[T]?=some (.cells (row8 (qbj t m)) 43 (0,0)):=hW.mods.at (by have:=(HR.out.1.drew.drew).sat.headIs;exact this) (fun hin=>(HR.out.1.drew.drew).sat.notMem (by rw [qcw];exact List.mem_append_right _ hin))
      have hwr:=fun w5 hs i hi=>qr8 (w5:=w5) HR.out.1 hW hL2 HR.out.2.2.1 hn2 HR.out.2.2.2.1 (by rw [HR.out.2.2.2.2.2.2.2.2.2.2];exact hnow2) HR.out.2.2.2.2.1 hch2 (by rw [HR.out.2.2.2.2.2.2.2.2.2.2];omega) HTL.out hs i hi
      have HWF:=Lib.hid hwr
      have HTH:=Lib.hid (qdg hTw 0 128 (by rw [HR.out.2.2.2.2.2.2.2.2.2.1];omega))
      clear hW hL2 hn2 hnow2 hch2 hTw hwr hsd a0' a1' HWr HT2
      go_wp2_with (first | (refine qby rfl 43 #[] rfl (row8 (zeros 128)) HZ.out ?_) | (refine wpList_store_mid rfl 43 (.tmp 7) (.tmp 67) rfl T 0 (row8 (zeros 128)) rfl rfl ?d7 (secHr (qan 128)) (qcf _) ?_))
      case d7=>rw [qbn,qan];exact HTH.out
      go_roundw
      case rel=>exact HWF.out _ rfl _ (by rw [HR.out.2.2.2.2.2.2.2.2.2.2])
      case measure=>simp [intOf];omega
    ·obtain rfl:k=A.count:=by omega
     have hch3:L'.chs.length≤1099511627776:=by omega
     have HFl:Hid (∀ W,Sat W (devF d L')→Calls Tryz.prog 20 #[.pointer (some ⟨d,0,none⟩)] W (qh5 d L' W)):=Lib.hid (fun W hW=>qhw d L' W hW hL' hch3)
     have HR:=Lib.hid (And.intro hT' (And.intro hL' (And.intro hn' (And.intro hnow' hk))))
     have hal:ab<wr.heap.size:=World.block_lt_of_cell? wr _ a0
     clear hT' hL' hn' hnow' hch' hab' hTb hqm HST
     simp only [hk]
     clear hk
     go_wp2_with fail
     refine (HFl.out _ HR.out.1.sat.tail.right).mono ?_
     rintro e w4 ⟨rfl,L2,hF,hL2,hn2,hnow2,hsafe2,hch2⟩
     have hfin:=qxu HR.out.1 hF
     have HFin:=Lib.hid (And.intro hfin (And.intro hL2 (And.intro hn2 (And.intro hnow2 (And.intro hsafe2 hch2)))))
     clear hfin hF hL2 hn2 hnow2 hsafe2 hch2
     go_wp2_with fail
     go_ret
     obtain ⟨hfin,hL2,hn2,hnow2,hsafe2,hch2⟩:=HFin.out
     have hm:m=A.count-q:=by have:=HR.out.2.2.2.2;omega
     rw [← HWL.out.2.2.2.1] at *
     refine ⟨rfl,L2,?_,hL2,hn2.trans HR.out.2.2.1,?_,hsafe2.trans hnow2.symm,hch2⟩
     ·rw [← HT.out.1];exact hfin
     ·rw [hnow2,HR.out.2.2.2.1,hm,HT.out.1]
 ·refine wp_region_still_tail 11 HM.out (by kernel_rfl) ?_
  simp only [List.take_succ_cons,List.take_zero,List.drop_succ_cons,List.drop_zero]
  repeat still_step
  refine wpStill_nil ?_
  change wpList _ _ _ _ _ w2.drew
  refine qfx rfl (.tmp 21) (.tmp 28) 38 38 rfl 5 Tryz.underlying38 HS8.out _ _ _ _ _ _ rfl rfl ab 4 (qaw d { A with end_:=end_,tail:=zeros 128 }).toList 157 (by rw [Array.toArray_toList];exact H2.out.2) (((ws.drop lo).take r).map enc8) ?c1 ?c2 ?c3 (qc3 _) ?c4
  case c1=>rw [List.length_map,HWL.out.2.2.2.2.2];have:=HWL.out.2.2.2.2.1;show r=min (end_-lo) 128;omega
  case c2 =>
   intro hp
   rw [List.length_map,HWL.out.2.2.2.2.2] at hp
   refine ⟨rfl,⟨g,off+lo,none⟩,by simp [Addr.add_lit],fun j v hv=>?_⟩
   obtain ⟨hj,rfl⟩:=List.getElem?_eq_some_iff.1 hv
   have hj':j<r:=by rw [List.length_map,HWL.out.2.2.2.2.2] at hj;exact hj
   rw [Addr.add_lit]
   have hne:=H.out.2.2.2.1 _ rfl
   have hcw:=qaj.keep (w':=w2) H.out.2.2.1 H2.out.1.mods (fun g' off' e hin=>by
    simp only [Option.some.injEq,Addr.mk.injEq,and_true] at e;exact hne (e.1 ▸ hin))
   obtain ⟨g',off',e,hc'⟩:=hcw (by simp;have:=HWL.out.2.2.2.2.1;omega)
   simp only [Option.some.injEq,Addr.mk.injEq,and_true] at e
   obtain ⟨rfl,rfl⟩:=e
   rw [show off+lo+j=off+(lo+j) by omega]
   refine (hc' (lo+j) (by simp;have:=HWL.out.2.2.2.2.1;omega)).trans ?_
   simp
  case c3=>rw [List.length_map,HWL.out.2.2.2.2.2];simp [qcm,qan];omega
  case c4 =>
   intro w3 hh hm hsz3
   clear hsz3
   obtain ⟨hc3,hT3⟩:=HT.out.2.1 w3 hh ((Mods.refl _ w2).drew.trans hm)
   have H3:=Lib.hid (And.intro hc3 hT3)
   have HTL:=Lib.hid htl
   clear hc3 hT3 hh hm c3 f3 i1 i3 j1 j2 j3 j4 htl
   go_wp2_with (first | (refine wpList_load_mid rfl 43 (.tmp 32) rfl ab 4 rfl (t.map enc8) _ (qk7 H3.out.1) Tryz.underlying43 rfl (secHi HTL.out) ?_) | (refine wpList_store_mid rfl 43 (.tmp 7) (.tmp 33) rfl w3.heap.size 0 (t.map enc8).toArray rfl rfl ?c5 (secHr HTL.out) (qcf _) ?_))
   case c5=>exact qcx (qa7 w3 _) 0 _ (by rw [show zsec=row8 (zeros 128) from rfl,qbn,qan];simp [HTL.out])
   have hst:=qmc (q:=q) hqc H3.out.2 H.out.2.1 HTL.out
   have hne':H3.out=H3.out:=rfl
   generalize hTT:w3.heap.size=T at hst ⊢
   generalize (w3.alloc (.cells zsec 43)).setCells T 0 (t.map enc8)=W0 at hst ⊢
   have HST:=Lib.hid hst
   clear hst hTT hne' i2
   go_loopw [8] (fun i wr=>qmu ab d T A { A with end_:=end_,tail:=t } L q t w i wr) (fun i _=>A.count-(intOf i).toNat)
   case atStart=>exact HST.out
   case round =>
    obtain ⟨m,L',hqm,rfl,hT',hL',hn',hnow',hch'⟩:=hrel
    obtain ⟨k,hk⟩:∃ k,q+m=k:=⟨_,rfl⟩
    have hab':=qe1 hT'.sat.tail
    have a0:=qac hab' 0 (qhe d _)
    have a1:=qac hab' 1 (qhd d _)
    have a2:=qac hab' 2 (qnn d _)
    simp only at a1 a2
    have hTb:=hT'.sat.headIs
    by_cases hlt:k<A.count
    ·have hcw:=H.out.2.2.1.keep (w':=wr) hT'.mods (fun g' off' e hin=>H.out.2.2.2.1 _ e hin)
     obtain ⟨g',off',e',hcl'⟩:=hcw (by rw [List.length_map,HWL.out.1];omega)
     simp only [Option.some.injEq,Addr.mk.injEq,and_true] at e'
     obtain ⟨rfl,rfl⟩:=e'
     have hws:128*k+128≤ws.length:=by rw [HWL.out.1];omega
     have hrg:wr.rangeAt g (off+k*128) ((secOf ws k).map enc8):=fun j v hv=>by
      obtain ⟨hj,rfl⟩:=List.getElem?_eq_some_iff.1 hv
      have hj':j<128:=by simp [secOf] at hj;omega
      rw [show off+k*128+j=off+(k*128+j) by omega]
      refine (hcl' (k*128+j) (by rw [List.length_map];omega)).trans ?_
      simp [secOf,Nat.mul_comm]
     have hsl:(secOf ws k).length=128:=by simp [secOf];omega
     obtain ⟨kk,hkk⟩:∃ kk,k*128=kk:=⟨_,rfl⟩
     have p1:((k:Int)*128)=(kk:Int):=by omega
     have p2:IntKind.i64.wrap (kk:Int)=(kk:Int):=IntWalk.i64_in _ (by omega)
     have p3:(kk:Int)≤(ws.length:Int):=by omega
     have p4:(ws.length:Int)≤(cap:Int):=by omega
     have p5:¬ cap=kk:=by omega
     have p6:128≤ws.length-kk:=by omega
     rw [hkk] at hrg
     have hkq:(k:Int)<(A.count:Int):=by omega
     have hwt:=qd2 HTL.out m
     have hrT:wr.rangeAt T 0 ((qbj t m).map enc8):=by have:=qdc hTb 0 128;rwa [List.drop_zero,List.take_of_length_le (by omega)] at this
     have hcmp:=qrz (secOf ws k) (qbj t m) hsl hwt
     have HR:=Lib.hid (And.intro hT' (And.intro hL' (And.intro hn' (And.intro hnow' (And.intro hch' (And.intro hrg (And.intro hrT (And.intro hcmp (And.intro hsl (And.intro hwt hk))))))))))
     have HK:=Lib.hid hkk
     clear hT' hL' hn' hnow' hch' hrg hrT hcmp hsl hwt hcl' hcw hTb hab' hkk hqm
     simp only [hk]
     clear hk HST
     have hal:ab<wr.heap.size:=World.block_lt_of_cell? wr _ a0
     go_wp2_with fail
     refine wp_region_still_lit HM.out (by kernel_rfl) ?_
     repeat still_step
     refine qnr rfl (.tmp 47) rfl _ _ _ p6 rfl ?_
     refine qb7 rfl 42 (.tmp 48) rfl g (off+kk) rfl ((secOf ws k).map enc8) _ HR.out.2.2.2.2.2.1 Tryz.underlying42 rfl (by rw [List.length_map,HR.out.2.2.2.2.2.2.2.2.1];kernel_rfl) ?_
     refine qb7 rfl 43 (.tmp 7) rfl T 0 rfl ((qbj t m).map enc8) _ HR.out.2.2.2.2.2.2.1 Tryz.underlying43 rfl (secHi HR.out.2.2.2.2.2.2.2.2.2.1) ?_
     refine qob rfl .neq 42 (.tmp 49) (.tmp 50) _ rfl qxh _ _ _ (HR.out.2.2.2.2.2.2.2.1 _) rfl rfl ?_
     refine wpStill_nil ?_
     change Exit.then _ _ _ _ wr.drew
     simp only [Act.put,List.setIfInBounds_toArray,List.set_cons_zero,List.set_cons_succ]
     by_cases heq:secOf ws k=qbj t m
     ·have hd0:(!decide (secOf ws k=qbj t m))=false:=by simp [heq]
      have hok:=H.out.2.2.2.2.1 m
      rw [HR.out.2.2.2.2.2.2.2.2.2.2] at hok
      have hth:wr.drew.there T 0 128:=(World.there_drew _ _ _ _).2 (qdg HR.out.1.sat.headIs 0 128 (by rw [HR.out.2.2.2.2.2.2.2.2.2.1];omega))
      have hsk:=fun w4 hs i hi=>qvn (w4:=w4) HR.out.1 HR.out.2.1 HR.out.2.2.1 HR.out.2.2.2.1 HR.out.2.2.2.2.1 (by rw [HR.out.2.2.2.2.2.2.2.2.2.2];omega) hA H.out.2.1.nowL HTL.out (by rw [HR.out.2.2.2.2.2.2.2.2.2.2];exact (hok (by omega) (heq.trans (by rw [← HT.out.1];rfl))).trans (by rw [← HT.out.1];rfl)) hs i hi
      have HSK:=Lib.hid hsk
      have HTH:=Lib.hid hth
      rw [hd0]
      clear hok hth hsk heq p5 p6 hd0
      go_wp2_with (first | (refine qby rfl 43 #[] rfl (row8 (zeros 128)) HZ.out ?_) | (refine wpList_store_mid rfl 43 (.tmp 7) (.tmp 67) rfl T 0 (row8 (zeros 128)) rfl rfl ?c6 (secHr (qan 128)) (qcf _) ?_))
      case c6=>rw [qbn,qan];exact HTH.out
      go_roundw
      case rel=>exact HSK.out _ rfl _ (by rw [HR.out.2.2.2.2.2.2.2.2.2.2])
      case measure=>simp [intOf];omega
     ·have hd0:(!decide (secOf ws k=qbj t m))=true:=by simp [heq]
      have a0':wr.drew.cell? ⟨ab,0,none⟩=some (.pointer (some ⟨d,0,none⟩)):=a0
      have a1':wr.drew.cell? ⟨ab,1,none⟩=some (.int .i64 A.first):=a1
      have q1:IntKind.i64.wrap ((A.first:Int)+(k:Int))=(A.first:Int)+(k:Int):=IntWalk.i64_in _ (by omega)
      have hrT2:wr.drew.rangeAt T 0 ((qbj t m).map enc8):=(World.rangeAt_drew _ _ _ _).2 HR.out.2.2.2.2.2.2.1
      have HT2:=Lib.hid hrT2
      have HWr:Hid (∀ W,Sat W (devF d L')→Calls Tryz.prog 18 #[.pointer (some ⟨d,0,none⟩),.int .i64 ((A.first:Int)+k),.agg ((qbj t m).map enc8).toArray] W (qgt d L' (A.first+k) (qbj t m) W)):=Lib.hid (fun W hW=>by
       have:=qhq d L' (A.first+k) (qbj t m) W hW HR.out.2.1 (by rw [HR.out.2.2.1];omega) HR.out.2.2.2.2.2.2.2.2.2.1 (by have:=HR.out.2.2.2.2.1;have:=HR.out.2.2.2.2.2.2.2.2.2.2;omega)
       exact this)
      rw [hd0]
      clear heq p5 p6 hd0 hrT2
      obtain ⟨wd,hwd⟩:∃ wd,wd=wr.drew:=⟨_,rfl⟩
      rw [← hwd] at a0' a1' HT2 ⊢
      have HWD:=Lib.hid hwd
      clear hwd
      go_wp2_with fail
      refine wp_region_still_tail 11 HM.out (by kernel_rfl) ?_
      simp only [List.take_succ_cons,List.take_zero,List.drop_succ_cons,List.drop_zero]
      iterate 10 still_step
      refine qb7 rfl 43 (.tmp 7) rfl T 0 rfl ((qbj t m).map enc8) _ HT2.out Tryz.underlying43 rfl (secHi HR.out.2.2.2.2.2.2.2.2.2.1) ?_
      refine wpStill_nil ?_
      simp only [Act.put,List.setIfInBounds_toArray,List.set_cons_zero,List.set_cons_succ]
      change wpList _ _ _ _ _ wd.drew
      go_wp2_with fail
      have hsd:Sat wd.drew ((T,Is (.cells (row8 (qbj t m)) 43 (0,0)))::(areaF ab d { A with end_:=end_,tail:=t }++devF d L')):=by rw [HWD.out];exact (HR.out.1.drew.drew).sat
      refine (HWr.out _ hsd.tail.right).mono ?_
      rintro e w4 ⟨rfl,L2,hW,hL2,hn2,hnow2,hch2⟩
      rw [HWD.out] at hW
      have hTw:w4.heap[T]?=some (.cells (row8 (qbj t m)) 43 (0,0)):=hW.mods.at (by have:=(HR.out.1.drew.drew).sat.headIs;exact this) (fun hin=>(HR.out.1.drew.drew).sat.notMem (by rw [qcw];exact List.mem_append_right _ hin))
      have hwr:=fun w5 hs i hi=>qr8 (w5:=w5) HR.out.1 hW hL2 HR.out.2.2.1 hn2 HR.out.2.2.2.1 (by rw [HR.out.2.2.2.2.2.2.2.2.2.2];exact hnow2) HR.out.2.2.2.2.1 hch2 (by rw [HR.out.2.2.2.2.2.2.2.2.2.2];omega) HTL.out hs i hi
      have HWF:=Lib.hid hwr
      have HTH:=Lib.hid (qdg hTw 0 128 (by rw [HR.out.2.2.2.2.2.2.2.2.2.1];omega))
      clear hW hL2 hn2 hnow2 hch2 hTw hwr hsd a0' a1' HWr HT2
      go_wp2_with (first | (refine qby rfl 43 #[] rfl (row8 (zeros 128)) HZ.out ?_) | (refine wpList_store_mid rfl 43 (.tmp 7) (.tmp 67) rfl T 0 (row8 (zeros 128)) rfl rfl ?c7 (secHr (qan 128)) (qcf _) ?_))
      case c7=>rw [qbn,qan];exact HTH.out
      go_roundw
      case rel=>exact HWF.out _ rfl _ (by rw [HR.out.2.2.2.2.2.2.2.2.2.2])
      case measure=>simp [intOf];omega
    ·obtain rfl:k=A.count:=by omega
     have hch3:L'.chs.length≤1099511627776:=by omega
     have HFl:Hid (∀ W,Sat W (devF d L')→Calls Tryz.prog 20 #[.pointer (some ⟨d,0,none⟩)] W (qh5 d L' W)):=Lib.hid (fun W hW=>qhw d L' W hW hL' hch3)
     have HR:=Lib.hid (And.intro hT' (And.intro hL' (And.intro hn' (And.intro hnow' hk))))
     have hal:ab<wr.heap.size:=World.block_lt_of_cell? wr _ a0
     clear hT' hL' hn' hnow' hch' hab' hTb hqm HST
     simp only [hk]
     clear hk
     go_wp2_with fail
     refine (HFl.out _ HR.out.1.sat.tail.right).mono ?_
     rintro e w4 ⟨rfl,L2,hF,hL2,hn2,hnow2,hsafe2,hch2⟩
     have hfin:=qxu HR.out.1 hF
     have HFin:=Lib.hid (And.intro hfin (And.intro hL2 (And.intro hn2 (And.intro hnow2 (And.intro hsafe2 hch2)))))
     clear hfin hF hL2 hn2 hnow2 hsafe2 hch2
     go_wp2_with fail
     go_ret
     obtain ⟨hfin,hL2,hn2,hnow2,hsafe2,hch2⟩:=HFin.out
     have hm:m=A.count-q:=by have:=HR.out.2.2.2.2;omega
     rw [← HWL.out.2.2.2.1] at *
     refine ⟨rfl,L2,?_,hL2,hn2.trans HR.out.2.2.1,?_,hsafe2.trans hnow2.symm,hch2⟩
     ·rw [← HT.out.1];exact hfin
     ·rw [hnow2,HR.out.2.2.2.1,hm,HT.out.1]
theorem qs4 {l:Bs} {first count k:Nat} (h:k<count):secOf (qax l first count) k=secOf l (first+k):=by
 unfold secOf qax
 rw [List.drop_take,List.drop_drop,List.take_take]
 congr 1
 ·omega
 ·congr 1;omega
def gotTo (H:Bs) (at_ n i:Nat):Bs:=(H.take (min (128*i) (at_+n))).drop at_
theorem qn3 (H:Bs) (at_ n:Nat):gotTo H at_ n (at_ / 128)=[]:=by
 unfold gotTo
 exact List.drop_of_length_le (by rw [List.length_take];omega)
theorem qzf {H:Bs} {at_ n i:Nat} (hi:128*i<at_+n) (hat:at_ / 128≤i) (hH:at_+n≤H.length) :
  gotTo H at_ n (i+1)=gotTo H at_ n i++((secOf H i).take (min 128 (at_+n-128*i))).drop (at_-128*i):=by
 unfold gotTo secOf
 rw [Nat.min_eq_left (show 128*i≤at_+n by omega),List.take_take,show min (min 128 (at_+n-128*i)) 128=min 128 (at_+n-128*i) by omega]
 have e:min (128*(i+1)) (at_+n)=128*i+min 128 (at_+n-128*i):=by omega
 rw [e,List.take_add,List.drop_append]
 congr 2
 rw [List.length_take]
 omega
theorem q22 {H:Bs} {at_ n i:Nat} (hi:¬ 128*i<at_+n):gotTo H at_ n i=(H.drop at_).take n:=by
 unfold gotTo
 rw [Nat.min_eq_right (by omega),List.drop_take,Nat.add_sub_cancel_left]
theorem qu9 {H:Bs} {at_ n i:Nat}:(gotTo H at_ n i).length≤n:=by
 unfold gotTo;rw [List.length_drop,List.length_take];omega
def q3e (ab d:Nat) (A:AreaL) (g cap:Nat) (l:Bs) (B0 B1:Nat) (w:World) (e:Ending) (w':World):Prop :=
 e=.returned (.tuple #[])∧∃ sp,Turns (bRow (.slice (some ⟨g,0,none⟩) l.length cap) l++areaF ab d A) (areaF ab d { A with spare:=sp }) w w'∧AreaOk { A with spare:=sp }
theorem backD (ab d:Nat) (A:AreaL) (g cap:Nat) (l:Bs) (B0 B1:Nat) (u:FrameMode) (w:World) (h:Sat w (bRow (.slice (some ⟨g,0,none⟩) l.length cap) l++areaF ab d A)) (hA:AreaOk A)
  (h0:w.cell? ⟨B0,0,none⟩=some (.pointer (some ⟨ab,0,none⟩))) (h1:w.cell? ⟨B1,0,none⟩=some (.slice (some ⟨g,0,none⟩) l.length cap)) :
  CallsD Tryz.prog 152 #[.pointer (some ⟨B0,0,none⟩),.pointer (some ⟨B1,0,none⟩)] u w (fun e u' w'=>u'=u∧q3e ab d A g cap l B0 B1 w e w'):=by
 have HB:=Lib.hid (qzs ab d A g cap l w h hA)
 clear h hA
 go_enter_d Tryz.func152,Tryz.ntmps152
 go_wp2_with fail
 refine HB.out.mono ?_
 rintro e w' ⟨rfl,hb⟩
 have H:=Lib.hid hb
 clear hb
 go_wp2_with fail
 go_end0
 exact ⟨rfl,H.out⟩
def oCell (v:Value):Obj:=.cells #[v] 38 (0,0)
def qxi (ab d:Nat) (A:AreaL) (H:Bs) (at_ n B0 B1:Nat) (R:HF) (w:World) (i:Value) (wr:World):Prop :=
 ∃ k g cv sp,at_ / 128≤k∧128*k≤at_+n+127∧i=.int .i64 ((k:Nat):Int)∧bOk (.slice (some ⟨g,0,none⟩) (gotTo H at_ n k).length cv) (gotTo H at_ n k)∧AreaOk { A with spare:=sp } ∧
  Turns (areaF ab d A++R) (bRow (.slice (some ⟨g,0,none⟩) (gotTo H at_ n k).length cv) (gotTo H at_ n k)++((B1,Is (oCell (.slice (some ⟨g,0,none⟩) (gotTo H at_ n k).length cv)))::(B0,Is (.cells #[.pointer (some ⟨ab,0,none⟩)] 125 (0,0)))::(areaF ab d { A with spare:=sp }++R))) w wr
def q35 (ab d:Nat) (A:AreaL) (R0:HF) (Pf:HF→Prop) (w:World) (e:Ending) (w':World):Prop :=
 e=.returned .nilIface∧∃ R1 sp,Pf R1∧AreaOk { A with spare:=sp }∧Turns (areaF ab d A++R0) (areaF ab d { A with spare:=sp }++R1) w w'
def q1k (ab d:Nat) (A:AreaL) (R0:HF) (Pf:HF→Prop) (B0 B1 g cv:Nat) (sp:List (Nat×Nat×Nat)) (data:Bs) (w:World) (e:Ending) (w':World):Prop :=
 e=.returned .nilIface∧∃ R1,Pf R1∧Turns (areaF ab d A++R0) (bRow (.slice (some ⟨g,0,none⟩) data.length cv) data++((B1,Is (oCell (.slice (some ⟨g,0,none⟩) data.length cv)))::(B0,Is (.cells #[.pointer (some ⟨ab,0,none⟩)] 125 (0,0)))::(areaF ab d { A with spare:=sp }++R1))) w w'
theorem qzd (ab d:Nat) (A:AreaL) (L:DevL) (at_ n:Nat) (p0 p1 p2:Value) (H:Bs) (hH:H=qax L.now A.first A.count) (R0:HF) (Pf:HF→Prop) (w:World) (h:Sat w (areaF ab d A++R0)) (hsub:∀ a,cnt a (devF d L)≤cnt a R0) (hL:DevOk L) (hA:AreaOk A) (hAn:A.first+A.count≤L.n) (hn:L.n≤1073741824)
  (hfit:at_+n≤128*A.count)
  (hf:∀ (W:World) (B0 B1 g cv:Nat) sp,bOk (.slice (some ⟨g,0,none⟩) ((H.drop at_).take n).length cv) ((H.drop at_).take n)→Turns (areaF ab d A++R0) (bRow (.slice (some ⟨g,0,none⟩) ((H.drop at_).take n).length cv) ((H.drop at_).take n)++((B1,Is (oCell (.slice (some ⟨g,0,none⟩) ((H.drop at_).take n).length cv)))::(B0,Is (.cells #[.pointer (some ⟨ab,0,none⟩)] 125 (0,0)))::(areaF ab d { A with spare:=sp }++R0))) w W →
   Calls Tryz.prog 131 #[.slice (some ⟨g,0,none⟩) ((H.drop at_).take n).length cv,p0,p1,p2] W (q1k ab d A R0 Pf B0 B1 g cv sp ((H.drop at_).take n) w)) :
  Calls Tryz.prog 130 #[.pointer (some ⟨ab,0,none⟩),.int .i64 at_,.int .i64 n,.func (.func 131) #[] #[p0,p1,p2]] w (q35 ab d A R0 Pf w):=by
 have hmf:∀ (fn:Fn) (first cap:Array Value) (w:World),(Instr.makeFunc fn first cap).run Tryz.prog w=.ok (.func fn first cap) w:=fun _ _ _ _=>rfl
 have HB:Hid (∀ W,Sat W (areaF ab d A)→Calls Tryz.prog 151 #[.pointer (some ⟨ab,0,none⟩)] W (qpg ab d A W)):=Lib.hid (fun W hW=>qtp ab d A W hW hA)
 have hb1:(at_:Int)+n≤1099511627776:=by omega
 have hb2:(at_:Int)≤1099511627776:=by omega
 have hc1:A.count≤1073741824:=by omega
 have hHl:H.length=128*A.count:=by rw [hH];exact qe3 hL.nowL (by omega)
 have HH:=Lib.hid (And.intro h (And.intro hL (And.intro hA (And.intro hAn (And.intro hn (And.intro hfit (And.intro hsub (And.intro hHl (And.intro hH hc1)))))))))
 have HIn:=Lib.hid hf
 clear h hL hA hAn hn hfit hf hsub hHl hH hc1
 go_enter_defers Tryz.func130,Tryz.ntmps130
 go_wp2_with fail
 refine (HB.out _ ((HH.out.1.left).same ((Mods.refl _ w).alloc _))).mono ?_
 rintro e w1 ⟨bg,cv,sp,rfl,hok,hT,hAok,-⟩
 have hT0:Turns (areaF ab d A++R0) ((w.heap.size,Is (.cells #[.pointer (some ⟨ab,0,none⟩)] 125 (0,0)))::(areaF ab d A++R0)) w _:=(Turns.refl HH.out.1).allocIs (.cells #[.pointer (some ⟨ab,0,none⟩)] 125)
 have hT1:=hT0.step (F:=areaF ab d A) (R:=(w.heap.size,Is (.cells #[.pointer (some ⟨ab,0,none⟩)] 125 (0,0)))::R0) (qaf fun _=>by simp only [qad,qaa,qah]<;>omega) hT
 have b0:=qac (hT1.sat.memIs (b:=w.heap.size) (o:=.cells #[.pointer (some ⟨ab,0,none⟩)] 125 (0,0)) (by simp)) 0 rfl
 have hB0':w.heap.size<w1.heap.size:=World.block_lt_of_cell? w1 _ b0
 have hst:=hT1.allocIs (oCell (.slice (some ⟨bg,0,none⟩) 0 cv))
 have hst2:qxi ab d A H at_ n w.heap.size w1.heap.size R0 w (.int .i64 ((at_ / 128:Nat):Int)) (w1.alloc (oCell (.slice (some ⟨bg,0,none⟩) 0 cv))):=by
  refine ⟨at_ / 128,bg,cv,sp,Nat.le_refl _,by omega,rfl,?_,hAok,?_⟩
  ·rw [qn3];exact hok
  ·rw [qn3,List.length_nil];exact hst.to (qaf fun _=>by simp only [qad,qaa,qah]<;>omega)
 have H1:=Lib.hid hst2
 clear hT0 hT1 hst hok hAok hT hst2
 obtain ⟨B0,hB0⟩:∃ B0,w.heap.size=B0:=⟨_,rfl⟩
 obtain ⟨B1,hB1⟩:∃ B1,w1.heap.size=B1:=⟨_,rfl⟩
 rw [hB0,hB1] at H1
 have e128:((at_ / 128:Nat):Int)=(at_:Int) / 128:=by omega
 rw [e128] at H1
 clear e128
 go_wp2_with fail
 go_loopw [10] (fun i wr=>qxi ab d A H at_ n B0 B1 R0 w i wr) (fun i _=>at_+n+128-128*(intOf i).toNat)
 case atStart=>exact H1.out
 case round =>
  obtain ⟨k,g,cv2,sp2,hk1,hk2,rfl,hok,hAo,hT⟩:=hrel
  by_cases hlt:128*k<at_+n
  ·have hkc:k<A.count:=by have:=HH.out.2.2.2.2.2.1;omega
   have hnn:=HH.out.2.2.2.2.2.2.2.2.2
   obtain ⟨s,hs⟩:∃ s,s=secOf H k:=⟨_,rfl⟩
   have hsL:secOf L.now (A.first+k)=s:=by rw [hs,HH.out.2.2.2.2.2.2.2.2.1,qs4 hkc]
   have hsl:s.length=128:=by rw [hs];exact qfl HH.out.2.2.2.2.2.2.2.1 hkc
   have HSL:=Lib.hid hsl
   have HRd:Hid (∀ W,Sat W (devF d L)→Calls Tryz.prog 17 #[.pointer (some ⟨d,0,none⟩),.int .i64 ((A.first:Int)+(k:Nat))] W (fun e w'=>e=.returned (.tuple #[.agg (row8 s),.nilIface])∧Same W w')):=Lib.hid (fun W hW=>by
    have:=qij d L (A.first+k) W hW HH.out.2.1 (by have:=HH.out.2.2.2.1;omega)
    unfold qgk at this
    rw [hsL] at this
    exact this)
   have HSUM:=Lib.hid (show IntKind.i64.wrap ((A.first:Int)+(k:Nat))=(A.first:Int)+(k:Nat) from IntWalk.i64_in _ (by have:=HH.out.2.2.2.1;have:=HH.out.2.2.2.2.1;omega))
   have HM:=Lib.hid (show Tryz.prog.follows .mixedOrders=true by kernel_rfl)
   have HR:=Lib.hid (And.intro hok (And.intro hAo (And.intro hT (And.intro hs hkc))))
   have hlt':(128:Int)*k<at_+n:=by omega
   clear hok hAo hT hs hkc hsl hsL
   go_upto_region 6 with (fail)
   refine qbt (A:=?A) (hA:=?hA) HM.out (phiL [fun v=>v=.pointer (some ⟨ab,0,none⟩),fun v=>v=.pointer (some ⟨ab,0,none⟩),fun v=>v=.pointer (some ⟨ab,0,none⟩),fun v=>v=.pointer (some ⟨d,0,none⟩),fun v=>v=.pointer (some ⟨ab,0,none⟩),fun v=>v=.pointer (some ⟨ab,0,none⟩),fun v=>v=.pointer (some ⟨ab,1,none⟩),fun v=>v=.int .i64 A.first,fun v=>v=.int .i64 (k:Nat),fun v=>v=.int .i64 ((A.first:Int)+(k:Nat)),fun v=>v=.tuple #[.agg (row8 s),.nilIface],fun v=>v=.tuple #[.agg (row8 s),.nilIface],fun v=>v=.agg (row8 s),fun v=>v=.nilIface,fun _=>True,fun _=>True,fun v=>v=.nilIface])
    (fun vs W=>match vs with
   | []=>Turns (areaF ab d A++R0) (bRow (.slice (some ⟨g,0,none⟩) (gotTo H at_ n k).length cv2) (gotTo H at_ n k)++((B1,Is (oCell (.slice (some ⟨g,0,none⟩) (gotTo H at_ n k).length cv2)))::(B0,Is (.cells #[.pointer (some ⟨ab,0,none⟩)] 125 (0,0)))::(areaF ab d { A with spare:=sp2 }++R0))) w W
   | [v]=>∃ g14,v=.pointer (some ⟨g14,0,none⟩)∧Turns (areaF ab d A++R0) ((g14,Is (.cells (row8 (zeros 128)) 43 (0,0)))::(bRow (.slice (some ⟨g,0,none⟩) (gotTo H at_ n k).length cv2) (gotTo H at_ n k)++((B1,Is (oCell (.slice (some ⟨g,0,none⟩) (gotTo H at_ n k).length cv2)))::(B0,Is (.cells #[.pointer (some ⟨ab,0,none⟩)] 125 (0,0)))::(areaF ab d { A with spare:=sp2 }++R0)))) w W
   | [v,_]=>∃ g14,v=.pointer (some ⟨g14,0,none⟩)∧Turns (areaF ab d A++R0) ((g14,Is (.cells (row8 s) 43 (0,0)))::(bRow (.slice (some ⟨g,0,none⟩) (gotTo H at_ n k).length cv2) (gotTo H at_ n k)++((B1,Is (oCell (.slice (some ⟨g,0,none⟩) (gotTo H at_ n k).length cv2)))::(B0,Is (.cells #[.pointer (some ⟨ab,0,none⟩)] 125 (0,0)))::(areaF ab d { A with spare:=sp2 }++R0)))) w W
   | _=>False)
    (fun W=>W.cell? ⟨B0,0,none⟩=some (.pointer (some ⟨ab,0,none⟩))∧W.cell? ⟨ab,0,none⟩=some (.pointer (some ⟨d,0,none⟩))∧W.cell? ⟨ab,1,none⟩=some (.int .i64 A.first)∧Sat W (devF d L)) [14,15] ?hC (by kernel_rfl) (by kernel_rfl) (by decide) (by decide) ?h0 ?hs ?he
   case hA=>intro x;simp only [qam,Act.put,List.setIfInBounds_toArray,List.set_cons_zero,List.set_cons_succ,Nat.reduceAdd];rfl
   case hs =>
    refine ⟨qab rfl rfl (fun x wq hd hC K hK hKw=>?_),qab rfl rfl (fun x wq hd hC K hK hKw=>?_),qab rfl rfl (fun x wq hd hC K hK hKw=>?_),qab rfl rfl (fun x wq hd hC K hK hKw=>?_),qab rfl rfl (fun x wq hd hC K hK hKw=>?_),qab rfl rfl (fun x wq hd hC K hK hKw=>?_),qab rfl rfl (fun x wq hd hC K hK hKw=>?_),qab rfl rfl (fun x wq hd hC K hK hKw=>?_),qab rfl rfl (fun x wq hd hC K hK hKw=>?_),qab rfl rfl (fun x wq hd hC K hK hKw=>?_),qab rfl rfl (fun x wq hd hC K hK hKw=>?_),qab rfl rfl (fun x wq hd hC K hK hKw=>?_),qab rfl rfl (fun x wq hd hC K hK hKw=>?_),qab rfl rfl (fun x wq hd hC K hK hKw=>?_),qap 0 rfl rfl (fun x wq hd hS K hK=>?_),qap 1 rfl rfl (fun x wq hd hS K hK=>?_),qab rfl rfl (fun x wq hd hC K hK hKw=>?_),trivial⟩
    ·exact qat Tryz.underlying125 rfl rfl (by rfl) (hC.1) (hK _ rfl)
    ·have h0:x 0=.pointer (some ⟨ab,0,none⟩):=qae hd 0 (by kernel_rfl)
     exact qag (by rw [h0];kernel_rfl) (hK _ rfl)
    ·have h1:x 1=.pointer (some ⟨ab,0,none⟩):=qae hd 1 (by kernel_rfl)
     exact qag (by rw [h1];kernel_rfl) (hK _ rfl)
    ·have h2:x 2=.pointer (some ⟨ab,0,none⟩):=qae hd 2 (by kernel_rfl)
     exact qat Tryz.underlying31 rfl rfl (by rw [h2];rfl) (hC.2.1) (hK _ rfl)
    ·exact qat Tryz.underlying125 rfl rfl (by rfl) (hC.1) (hK _ rfl)
    ·have h4:x 4=.pointer (some ⟨ab,0,none⟩):=qae hd 4 (by kernel_rfl)
     exact qag (by rw [h4];kernel_rfl) (hK _ rfl)
    ·have h5:x 5=.pointer (some ⟨ab,0,none⟩):=qae hd 5 (by kernel_rfl)
     exact qag (by rw [h5];kernel_rfl) (hK _ rfl)
    ·have h6:x 6=.pointer (some ⟨ab,1,none⟩):=qae hd 6 (by kernel_rfl)
     exact qat Tryz.underlying3 rfl rfl (by rw [h6];rfl) (hC.2.2.1) (hK _ rfl)
    ·exact qag (by kernel_rfl) (hK _ rfl)
    ·have h7:x 7=.int .i64 A.first:=qae hd 7 (by kernel_rfl)
     have h8:x 8=.int .i64 (k:Nat):=qae hd 8 (by kernel_rfl)
     exact qag (v:=.int .i64 (IntKind.i64.wrap ((A.first:Int)+(k:Nat)))) (by rw [h7,h8];kernel_rfl) (hK _ (show _=_ by rw [HSUM.out]))
    ·have h3:x 3=.pointer (some ⟨d,0,none⟩):=qae hd 3 (by kernel_rfl)
     have h9:x 9=.int .i64 ((A.first:Int)+(k:Nat)):=qae hd 9 (by kernel_rfl)
     refine qbe (by rw [h3,h9];kernel_rfl) (HRd.out wq hC.2.2.2) ?_
     rintro e w3 ⟨rfl,hs3⟩
     refine ⟨_,rfl,hKw _ _ rfl ?_⟩
     exact fun vs hvs=>by
      match vs,hvs with
      | [],h=>exact h.thenSame hs3
      | [_],⟨g,e,h⟩=>exact ⟨g,e,h.thenSame hs3⟩
      | [_,_],⟨g,e,h⟩=>exact ⟨g,e,h.thenSame hs3⟩
    ·have h10:x 10=.tuple #[.agg (row8 s),.nilIface]:=qae hd 10 (by kernel_rfl)
     exact qag (by rw [h10];kernel_rfl) (hK _ rfl)
    ·have h11:x 11=.tuple #[.agg (row8 s),.nilIface]:=qae hd 11 (by kernel_rfl)
     exact qag (by rw [h11];kernel_rfl) (hK _ rfl)
    ·have h11:x 11=.tuple #[.agg (row8 s),.nilIface]:=qae hd 11 (by kernel_rfl)
     exact qag (by rw [h11];kernel_rfl) (hK _ rfl)
    ·exact qag (by kernel_rfl) (hK _ _ trivial ⟨_,rfl,hS.allocIs _⟩)
    ·have h12:x 12=.agg (row8 s):=qae hd 12 (by kernel_rfl)
     obtain ⟨g14,e14,hT14⟩:=hS
     have e14:x 14=.pointer (some ⟨g14,0,none⟩):=e14
     refine wp_store_mid 43 (.tmp 11) (.tmp 40) rfl g14 0 (row8 s) (by rw [e14];rfl) (by rw [h12];rfl) (by rw [qbn,HSL.out];exact qdg hT14.sat.headIs 0 128 (by rw [qan];omega)) (secHr HSL.out) (qcf _) ?_
     obtain ⟨q1,q2⟩:=qcs hT14.sat.headIs (s:=s) (by rw [HSL.out,qan])
     exact hK _ _ trivial ⟨g14,e14,hT14.putIs q2 q1⟩
    ·have h13:x 13=.nilIface:=qae hd 13 (by kernel_rfl)
     exact qag (by rw [h13];kernel_rfl) (hK _ rfl)
   case hC =>
    intro vs W hS
    have key:∀ {F:HF},Sat W F→(∀ a,cnt a ((B0,Is (.cells #[.pointer (some ⟨ab,0,none⟩)] 125 (0,0)))::(areaF ab d { A with spare:=sp2 }++R0))≤cnt a F)→W.cell? ⟨B0,0,none⟩=some (.pointer (some ⟨ab,0,none⟩))∧W.cell? ⟨ab,0,none⟩=some (.pointer (some ⟨d,0,none⟩))∧W.cell? ⟨ab,1,none⟩=some (.int .i64 A.first)∧Sat W (devF d L):=fun hs hm=>by
     have h1:=hs.sub hm
     exact ⟨qac h1.headIs 0 rfl,qac (qe1 h1.tail) 0 (qhe d _),qac (qe1 h1.tail) 1 (qhd d _),h1.sub (fun a=>by have:=HH.out.2.2.2.2.2.2.1 a;simp only [qad,qaa];omega)⟩
    match vs,hS with
    | [],hT=>exact key hT.sat (fun _=>by simp only [qad,qaa,qah]<;>omega)
    | [_],⟨_,_,hT⟩=>exact key hT.sat (fun _=>by simp only [qad,qaa,qah]<;>omega)
    | [_,_],⟨_,_,hT⟩=>exact key hT.sat (fun _=>by simp only [qad,qaa,qah]<;>omega)
   case h0=>exact HR.out.2.2.1.drew
   case he =>
    intro x w3 hφ hS
    obtain ⟨g14,e14,hT3⟩:=hS
    have e14:x 14=.pointer (some ⟨g14,0,none⟩):=e14
    have e16:x 16=.nilIface:=qdo hφ 16 (by decide) (by decide)
    simp only [e14,e16]
    have b1:=qac (hT3.sat.memIs (b:=B1) (o:=oCell (.slice (some ⟨g,0,none⟩) (gotTo H at_ n k).length cv2)) (by simp)) 0 rfl
    have f1:=qa9 (hT3.sat.memIs (b:=B1) (o:=oCell (.slice (some ⟨g,0,none⟩) (gotTo H at_ n k).length cv2)) (by simp)) 0
    have H3:=Lib.hid hT3
    clear hφ hT3 e14 e16
    obtain ⟨lo,hlo⟩:∃ lo,lo=at_-128*k:=⟨_,rfl⟩
    obtain ⟨hi,hhi⟩:∃ hi,hi=min 128 (at_+n-128*k):=⟨_,rfl⟩
    have m1:max (0:Int) ((at_:Int)-(k:Nat)*128)=(lo:Int):=by omega
    have m2:min (128:Int) ((at_:Int)+n-(k:Nat)*128)=(hi:Int):=by omega
    have m3:(lo:Int)≤hi:=by omega
    have m4:(hi:Int)≤128:=by omega
    have HLH:=Lib.hid (And.intro hlo hhi)
    clear hlo hhi
    go_upto_region 11 with (fail)
    have m5:¬ lo=128:=by have:=HLH.out.1;omega
    have m7:¬ 128=lo:=by omega
    have m6:(lo:Int)≤128:=by omega
    obtain ⟨r,hr⟩:∃ r,r=(s.take hi).drop lo:=⟨_,rfl⟩
    have hrl:r.length=hi-lo:=by rw [hr,List.length_drop,List.length_take,HSL.out];omega
    have hgn:gotTo H at_ n (k+1)=gotTo H at_ n k++r:=by
     rw [hr,HR.out.2.2.2.1,HLH.out.1,HLH.out.2]
     exact qzf (by omega) hk1 (by rw [HH.out.2.2.2.2.2.2.2.1];exact HH.out.2.2.2.2.2.1)
    have hcr:qaj w3 (some ⟨g14,lo,none⟩) (r.map enc8):=fun _=>⟨g14,lo,rfl,fun j hj=>by
     have hj':j<hi-lo:=by simpa [hrl] using hj
     have hx:=H3.out.sat.headIs
     refine qac hx (lo+j) ?_
     rw [qdw s (lo+j) (by rw [HSL.out];omega)]
     simp [hr]⟩
    have hgl:=qu9 (H:=H) (at_:=at_) (n:=n) (i:=k+1)
    have H4:=Lib.hid (And.intro hrl (And.intro hgn (And.intro hcr hgl)))
    clear hr hrl hgn hcr hgl
    refine wp_region_still_tail 4 HM.out (by kernel_rfl) ?_
    simp only [List.take_succ_cons,List.take_zero,List.drop_succ_cons,List.drop_zero]
    iterate 4 still_step
    refine wpStill_nil ?_
    change wpList _ _ _ _ _ w3.drew
    have hTd:=H3.out.drew.to (H:=bRow (.slice (some ⟨g,0,none⟩) (gotTo H at_ n k).length cv2) (gotTo H at_ n k)++((g14,Is (.cells (row8 s) 43 (0,0)))::((B1,Is (oCell (.slice (some ⟨g,0,none⟩) (gotTo H at_ n k).length cv2)))::(B0,Is (.cells #[.pointer (some ⟨ab,0,none⟩)] 125 (0,0)))::(areaF ab d { A with spare:=sp2 }++R0)))) (qaf fun _=>by simp only [qad,qaa,qah]<;>omega)
    refine qak rfl (qf0 (.tmp 57) (.tmp 60) rfl (.slice (some ⟨g,0,none⟩) (gotTo H at_ n k).length cv2) (gotTo H at_ n k) rfl hTd HR.out.1 (some ⟨g14,lo,none⟩) (hi-lo) _ rfl r H4.out.1.symm (qaj.of_heap rfl H4.out.2.2.1) (by have h1:=H4.out.2.2.2;rw [H4.out.2.1,List.length_append] at h1;have:=HH.out.2.2.2.2.2.1;have:=HH.out.2.2.2.2.2.2.2.2.2;omega) ?_)
    intro av cv3 w4 hok4 hT4 hav
    obtain ⟨gx,cx,rfl⟩:∃ gx:Nat,∃ _:Unit,av=some ⟨gx,0,none⟩:=by
     cases av with
     | none=>exact absurd (hav rfl).1 (by simp)
     | some ad =>
      have hO:=bOwns hT4.sat.left hok4
      rcases hO.2 with ⟨hv,_⟩ | ⟨gg,cap,cur,hv,_⟩
      ·cases hv
      ·simp only [Value.slice.injEq,Option.some.injEq] at hv
       exact ⟨gg,(),by rw [hv.1]⟩
    rw [← H4.out.2.1] at hok4 hT4 ⊢
    have hb1:=hT4.sat.memIs (b:=B1) (o:=oCell (.slice (some ⟨g,0,none⟩) (gotTo H at_ n k).length cv2)) (by simp)
    have c1:=qac hb1 0 rfl
    have d1:=qa9 hb1 0
    have hT5:=(hT4.to (H:=(B1,Is (oCell (.slice (some ⟨g,0,none⟩) (gotTo H at_ n k).length cv2)))::(bRow (.slice (some ⟨gx,0,none⟩) (gotTo H at_ n (k+1)).length cv3) (gotTo H at_ n (k+1))++((g14,Is (.cells (row8 s) 43 (0,0)))::((B0,Is (.cells #[.pointer (some ⟨ab,0,none⟩)] 125 (0,0)))::(areaF ab d { A with spare:=sp2 }++R0))))) (qaf fun _=>by simp only [qad,qaa,qah]<;>omega)).putIs ((Mods.refl (fun k=>k=B1) w4).set1 (i:=0) (.slice (some ⟨gx,0,none⟩) (gotTo H at_ n (k+1)).length cv3)) (qbf hb1 0 _)
    have hT6:=hT5.drop (H:=bRow (.slice (some ⟨gx,0,none⟩) (gotTo H at_ n (k+1)).length cv3) (gotTo H at_ n (k+1))++((B1,Is (oCell (.slice (some ⟨gx,0,none⟩) (gotTo H at_ n (k+1)).length cv3)))::(B0,Is (.cells #[.pointer (some ⟨ab,0,none⟩)] 125 (0,0)))::(areaF ab d { A with spare:=sp2 }++R0))) (fun _=>by simp only [qad,qaa];show _≤cnt1 _ (B1,Is (oCell (.slice (some ⟨gx,0,none⟩) (gotTo H at_ n (k+1)).length cv3)))+_;omega)
    have H6:=Lib.hid (And.intro hok4 hT6)
    clear hok4 hT4 hT5 hT6 hb1 hav hTd b1 f1
    go_wp2_with fail
    go_roundw
    case rel=>exact ⟨k+1,gx,cv3,sp2,by omega,by omega,by go_num,H6.out.1,HR.out.2.1,H6.out.2⟩
    case measure=>simp [intOf];omega
  ·have hge:=q22 (H:=H) (at_:=at_) (n:=n) (i:=k) hlt
   rw [hge] at hok hT
   obtain ⟨data,hd⟩:∃ data,data=(H.drop at_).take n:=⟨_,rfl⟩
   have HIn2:=Lib.hid (HIn.out wr B0 B1 g cv2 sp2)
   rw [← hd] at hok hT HIn2
   have b1:=qac (hT.sat.memIs (b:=B1) (o:=oCell (.slice (some ⟨g,0,none⟩) data.length cv2)) (by simp)) 0 rfl
   have HR:=Lib.hid (And.intro hok (And.intro hAo hT))
   have hlt':¬ (128:Int)*k<at_+n:=by omega
   clear hok hAo hT hge hd HIn
   go_wp2_with fail
   refine (HIn2.out HR.out.1 HR.out.2.2).mono ?_
   rintro e w3 ⟨rfl,R1,hP,hT3⟩
   have H3:=Lib.hid (And.intro hP hT3)
   clear hP hT3
   go_wp2_with fail
   have hsat:=H3.out.2.sat
   have hb0:=hsat.memIs (b:=B0) (o:=.cells #[.pointer (some ⟨ab,0,none⟩)] 125 (0,0)) (by simp)
   have hb1:=hsat.memIs (b:=B1) (o:=oCell (.slice (some ⟨g,0,none⟩) data.length cv2)) (by simp)
   refine leaves_cons (f:=152) (args:=#[.pointer (some ⟨B0,0,none⟩),.pointer (some ⟨B1,0,none⟩)]) (by simp) (by simp [go_sem]) ?_
   refine (backD ab d { A with spare:=sp2 } g cv2 data B0 B1 .returning _ (hsat.sub (fun _=>by simp only [qad,qaa,qah]<;>omega)) HR.out.2.1 (qac hb0 0 rfl) (qac hb1 0 rfl)).mono ?_
   rintro e u' w4 ⟨rfl,rfl,sp3,hT4,hA4⟩
   have hT5:=H3.out.2.step (F:=bRow (.slice (some ⟨g,0,none⟩) data.length cv2) data++areaF ab d { A with spare:=sp2 }) (R:=(B1,Is (oCell (.slice (some ⟨g,0,none⟩) data.length cv2)))::(B0,Is (.cells #[.pointer (some ⟨ab,0,none⟩)] 125 (0,0)))::R1) (qaf fun _=>by simp only [qad,qaa,qah]<;>omega) hT4
   exact ⟨_,results_tmp rfl _ _ _,rfl,R1,sp3,H3.out.1,hA4,hT5.drop (fun _=>by simp only [qad,qaa,qah]<;>omega)⟩
def qbh (e wh:Nat):Bs:=be e 4++be wh 4
def qcc (e wh:Nat):Bs:=frame 77 (qbh e wh)++zeros 111
theorem qb3 (e wh:Nat):(qbh e wh).length=8:=by simp [qbh,qbv]
theorem qcv (e wh:Nat):(qcc e wh).length=128:=by rw [qcc,List.length_append,qca,qb3,qan]
theorem qop (n:Nat) (hn:n<4294967296):(be n 4).map enc8=[.int .u8 ((n:Int) / 16777216),.int .u8 ((n:Int) / 65536%256),.int .u8 ((n:Int) / 256%256),.int .u8 ((n:Int)%256)]:=by
 simp only [be,List.map_cons,List.map_nil,enc8,UInt8.toNat_ofNat']
 have e1:((n / 256 ^ 3%2 ^ 8:Nat):Int)=(n:Int) / 16777216:=by omega
 have e2:((n / 256 ^ 2%2 ^ 8:Nat):Int)=(n:Int) / 65536%256:=by omega
 have e3:((n / 256 ^ 1%2 ^ 8:Nat):Int)=(n:Int) / 256%256:=by omega
 have e4:((n / 256 ^ 0%2 ^ 8:Nat):Int)=(n:Int)%256:=by omega
 rw [e1,e2,e3,e4]
theorem qff (w:World) (xs:List Value) (t:TypeId):∀ j u,xs[j]?=some u→(w.alloc (.cells xs.toArray t)).cell? ((⟨w.heap.size,0,none⟩:Addr).add j)=some u:=fun j u hu=>by
 rw [Addr.add_mid,Nat.zero_add];exact qac (qa7 w _) j (by simpa using hu)
theorem qmt {w:World} {b e n:Nat} {v:Value} {xs:List Value} (h:w.ownsRow b e 1 v n xs):∃ a cap,v=.slice a n cap∧xs.length=n∧n≤cap∧qaj w a xs∧∀ x,a=some x→v.ownBlock=some x.block:=by
 have hl:xs.length=n:=by simpa using h.1
 rcases h.2 with ⟨rfl,rfl⟩ | ⟨g,cap,cur,rfl,hb,hg,hnc,hcm,hcs,htk⟩
 ·exact ⟨none,0,rfl,hl,Nat.le_refl _,fun hp=>by omega,fun x hx=>by cases hx⟩
 ·refine ⟨_,cap,rfl,hl,hnc,fun _=>⟨g,0,rfl,fun j hj=>?_⟩,fun x hx=>by simp at hx;subst hx;rfl⟩
  rw [Nat.zero_add]
  refine qac hg j ?_
  have:(cur.toList.take (n*1))[j]?=some xs[j]:=by rw [htk];simp [hj]
  rw [List.getElem?_take] at this
  split at this
  ·simpa using this
  ·cases this
theorem qza {P:Program} {w:World} {o:Oper} {a:Act} {K:Act→World→Prop} {Q:Exit→Act→World→Prop} (d s:Operand) (dT sT:TypeId)
  (ho:o.op=.call { callee:=.builtin .copy,args:=#[d,s],argTypes:=#[dT,sT] }) (elem:TypeId) (hu:P.underlying dT=some (.slice elem)) (hsz:(P.info? elem).map (·.size)=some 1)
  (dp sp:Option Addr) (dLen dCap sLen sCap:Nat) (hd:a.eval d=.slice dp dLen dCap) (hs:a.eval s=.slice sp sLen sCap)
  (g off:Nat) (cur:List Value) (t:TypeId) (hg:w.heap[g]?=some (.cells cur.toArray t (0,0))) (cs:List Value) (hn:cs.length=Nat.min sLen dLen)
  (hpos:0<cs.length→dp=some ⟨g,off,none⟩∧∃ ad,sp=some ad∧∀ j v,cs[j]?=some v→w.cell? (ad.add j)=some v)
  (hfit:off+cs.length≤cur.length) (h1:∀ v∈cs,v.oneCell'=true)
  (h:∀ w',w'.heap[g]?=some (.cells (splice cur off cs).toArray t (0,0))→Mods (fun k=>k=g) w w'→K (a.put o.dst (goInt cs.length)) w'):Oper.wp P o a w K Q:=by
 by_cases h0:cs.length=0
 ·obtain rfl:cs=[]:=List.eq_nil_of_length_eq_zero h0
  have hrun:=run_copy_none (P:=P) w dT sT o.type elem dp sp dLen dCap sLen sCap hu hsz (by simpa using hn.symm)
  unfold Oper.wp
  simp [execOp,ho,resolve,invoke,builtin,hd,hs,hrun,Result.andThen]
  exact h w (by simpa [splice] using hg) (Mods.refl _ _)
 ·obtain ⟨rfl,ad,rfl,hsrc⟩:=hpos (by omega)
  have hrun:=run_copy_row (P:=P) w dT sT o.type elem g off dLen dCap ad sLen sCap cur.toArray t cs hu hsz hg hn hsrc (by simpa using hfit) h1
  unfold Oper.wp
  simp [execOp,ho,resolve,invoke,builtin,hd,hs,hrun,Result.andThen]
  refine h _ ?_ ?_
  ·simpa [splice] using setRow_heap w g _ _ t _ hg
  ·exact Mods.setRow (S:=fun k=>k=g) (Mods.refl _ _) (.inl rfl) _
def q2j (e wh:Nat) (w:World) (v i:Value) (wr:World):Prop :=
 ∃ k:Nat,k≤2∧i=.int .i64 k∧bOk v ((qbh e wh).take (4*k)) ∧
  Turns [] (bRow v ((qbh e wh).take (4*k))++[(w.heap.size+2,Is (.cells zsec 43 (0,0))),(w.heap.size+1,Is (.cells zsec 43 (0,0)))]) w wr
theorem qog {e wh:Nat} {w wr w3:World} {v v':Value} {k x:Nat} {o:Obj} {ys:List Value} (hx:x<4294967296) (hk:k<2) (hs:(qbh e wh).take (4*(k+1))=(qbh e wh).take (4*k)++be x 4)
  (hT:Turns [] (bRow v ((qbh e wh).take (4*k))++[(w.heap.size+2,Is (.cells zsec 43 (0,0))),(w.heap.size+1,Is (.cells zsec 43 (0,0)))]) w wr)
  (hy:ys=(be x 4).map enc8) (hown:w3.ownsRow 0 5 1 v' (((qbh e wh).take (4*k)).length+4) (((qbh e wh).take (4*k)).map enc8++ys)) (hgrow:(wr.alloc o).grownBy w3 v.ownBlock)
  (hg:∀ g,v'.ownBlock=some g→v.ownBlock=some g∨(wr.alloc o).heap.size≤g) (i:Value) (hi:i=.int .i64 ((k+1:Nat):Int)):q2j e wh w v' i w3:=by
 subst hy
 obtain ⟨h1,h2⟩:=qg0 (hT.alloc o) (n:=4) (by simp [qbv]) hown hgrow hg
 exact ⟨k+1,by omega,hi,by rw [hs];exact h1,by rw [hs];exact h2⟩
theorem qsl {e wh:Nat} (h:(frame 77 (qbh e wh)).length=17):(splice ((zeros 128).map enc8) 0 ((frame 77 (qbh e wh)).map enc8)).toArray=row8 (qcc e wh):=by
 unfold splice qcc row8
 rw [List.take_zero,List.nil_append,List.length_map,h,← List.map_drop,← List.map_append,Nat.zero_add]
 congr 2
def qz5 (e wh:Nat) (w:World) (ev:Ending) (w':World):Prop:=ev=.returned (.agg (row8 (qcc e wh)))∧Same w w'
theorem qm2 (e wh:Nat) (he:e<4294967296) (hw:wh<4294967296) (w:World):Calls Tryz.prog 98 #[.agg #[.int .u32 e,.int .u32 wh]] w (qz5 e wh w):=by
 have hz:=qir
 have x0:∀ W,(Instr.index 283 (.agg #[.int .u32 e,.int .u32 wh]) (.int .i64 0)).run Tryz.prog W=.ok (.int .u32 e) W:=fun W=>by kernel_rfl
 have x1:∀ W,(Instr.index 283 (.agg #[.int .u32 e,.int .u32 wh]) (.int .i64 1)).run Tryz.prog W=.ok (.int .u32 wh) W:=fun W=>by kernel_rfl
 have hst:Turns [] (bRow (.slice none 0 0) ((qbh e wh).take 0)++[(w.heap.size+2,Is (.cells zsec 43 (0,0))),(w.heap.size+1,Is (.cells zsec 43 (0,0)))]) w (((w.alloc (.cells #[.int .u32 e,.int .u32 wh] 118)).alloc (.cells zsec 43)).alloc (.cells zsec 43)):=by
  have h:=((((Turns.refl (Sat.nil w)).alloc (.cells #[.int .u32 e,.int .u32 wh] 118)).allocIs (.cells zsec 43)).allocIs (.cells zsec 43))
  simp only [World.size_alloc] at h
  exact h
 have HST:=Lib.hid hst
 clear hst
 go_enter Tryz.func98,Tryz.ntmps98
 go_wp2_with fail
 go_loopw [4,12] (fun v i wr=>q2j e wh w v i wr) (fun _ i _=>2-(intOf i).toNat)
 case atStart=>exact ⟨0,by omega,rfl,by simpa using qdh,HST.out⟩
 case round =>
  obtain ⟨k,hk,rfl,hok,hT⟩:=hrel
  by_cases hlt:k<2
  ·obtain ⟨i0,hi0,hz1,hz2,hz3⟩:=info_parts qfc
   have hown:=bOwns hT.sat.left hok
   have hcase:k=0∨k=1:=by omega
   have H:=Lib.hid (And.intro hok (And.intro hT (And.intro hown (And.intro hi0 (And.intro hz1 (And.intro hz2 hz3))))))
   have hll:((qbh e wh).take (4*k)).length≤8:=by simp;omega
   clear hok hT hown hi0 hz1 hz2 hz3 HST hz
   rcases hcase with rfl | rfl
   all_goals
    go_wp2_with (refine qe0 _ rfl (.tmp 15) (.tmp 27) 38 rfl 5 i0 (.int .u8 0) 1 1 Tryz.underlying38 H.out.2.2.2.1 H.out.2.2.2.2.1 H.out.2.2.2.2.2.1 H.out.2.2.2.2.2.2 rfl (by decide) _ _ _ rfl (H.out.2.2.1.alloc _) ⟨wr.heap.size,0,none⟩ 4 4 [_,_,_,_] rfl rfl (qff _ _ _) (by simp [Value.oneCell']) (by unfold maxLen;omega) (by omega) ?_;intro v' w3 hown' hgrow _ hgb)
   ·refine ⟨qog (k:=0) he hlt (by simp [qbh,qbv]) H.out.2.1 (qop e he).symm hown' hgrow hgb _ rfl,by simp [intOf]⟩
   ·refine ⟨qog (k:=1) hw hlt (by rw [List.take_of_length_le (by rw [qb3];omega)];unfold qbh;rw [List.take_left' (by rw [qbv])]) H.out.2.1 (qop wh hw).symm hown' hgrow hgb _ rfl,by simp [intOf]⟩
  ·obtain rfl:k=2:=by omega
   rw [show (qbh e wh).take (4*2)=qbh e wh from List.take_of_length_le (by rw [qb3];omega)] at hok hT
   have hown:=bOwns hT.sat.left hok
   obtain ⟨av,cv,rfl,_,hcv,hca,_⟩:=qmt hown
   rw [qb3] at *
   have H:=Lib.hid (And.intro hok (And.intro hT hca))
   clear hok hT hown hca HST x0 x1 hz
   go_wp2_with fail
   have HFr:Hid (∀ W,qaj W av ((qbh e wh).map enc8)→Calls Tryz.prog 78 #[.int .u8 77,.slice av 8 cv] W (qgo (frame 77 (qbh e wh)) W)):=Lib.hid (fun W hW=>by
    have:=qjz 77 av cv (qbh e wh) W hW (by rw [qb3];omega)
    rw [qb3] at this
    exact this)
   have HS8:=Lib.hid (show (Tryz.prog.info? 5).map (·.size)=some 1 by kernel_rfl)
   have HM:=Lib.hid (show Tryz.prog.follows .mixedOrders=true by kernel_rfl)
   refine wp_region_any HM.out ?_
   change wpAny _ _ _ _ _ _ _ (World.drew _)
   refine wpAny_take (i:=0) (v:=?_) rfl (by kernel_rfl) (by kernel_rfl) (by kernel_rfl) (fun _ _ _ h=>h) (Or.inl ⟨by rfl,?_⟩) ?_
   rotate_left
   ·intro w;go_simp;try (with_reducible rfl)
   refine wpAny_take (i:=1) (v:=?_) rfl (by kernel_rfl) (by kernel_rfl) (by kernel_rfl) (fun _ _ _ h=>h) (Or.inl ⟨by rfl,?_⟩) ?_
   rotate_left
   ·intro w;go_simp;try (with_reducible rfl)
   refine wpAny_ready (rs:=[2]) (by kernel_rfl) (by simp) ?_
   refine AllReady.cons rfl (fun K hK=>?_) ?_
   ·go_simp
    refine (HFr.out _ (by exact H.out.2.2)).mono ?_
    rintro ev w2 ⟨v2,rfl,hok2,hT2⟩
    obtain ⟨a2,c2,rfl,hl2,hc2,hca2,_⟩:=qmt (bOwns hT2.sat hok2)
    have hfl:(frame 77 (qbh e wh)).length=17:=by rw [qca,qb3]
    have hb3:w2.heap[w.heap.size+1+1]?=some (.cells ((zeros 128).map enc8).toArray 43 (0,0)):=hT2.news.at (H.out.2.1.drew.sat.right.headIs) id
    have hb2:w2.heap[w.heap.size+1]?=some (.cells (row8 (zeros 128)) 43 (0,0)):=hT2.news.at (H.out.2.1.drew.sat.right.tail.headIs) id
    have hsw:Same w w2:=(H.out.2.1.news.drew).trans hT2.news
    rw [hfl]
    have HX:=Lib.hid (And.intro hb3 (And.intro hb2 (And.intro hsw (And.intro hca2 hfl))))
    clear hb3 hb2 hsw hca2 hfl hok2 hT2 hl2
    refine hK _ _ ?_
    clear hK K
    refine wpAny_ready (rs:=[3]) (by kernel_rfl) (by simp) ?_
    refine AllReady.cons rfl (fun K hK=>?_) ?_
    ·simp only [List.getElem_toArray,List.getElem_cons_succ,List.getElem_cons_zero]
     rw [if_pos (by rfl)]
     refine qza (.tmp 30) (.tmp 32) 38 38 rfl 5 Tryz.underlying38 HS8.out _ _ _ _ _ _ rfl rfl (w.heap.size+1+1) 0 ((zeros 128).map enc8) 43 HX.out.1 ((frame 77 (qbh e wh)).map enc8) (by rw [List.length_map,HX.out.2.2.2.2];rfl) (fun hp=>⟨rfl,by obtain ⟨g,off,hg,hcc⟩:=HX.out.2.2.2.1 (by simpa using hp);exact ⟨⟨g,off,none⟩,hg,fun j v hv=>by obtain ⟨hj,rfl⟩:=List.getElem?_eq_some_iff.1 hv;rw [Addr.add_mid];exact hcc j hj⟩⟩) (by rw [List.length_map,List.length_map,HX.out.2.2.2.2,qan];omega) (qc3 _) ?_
     intro w3 hh hm
     have hc3:w3.heap[w.heap.size+1+1]?=some (.cells (row8 (qcc e wh)) 43 (0,0)):=by rw [hh,qsl HX.out.2.2.2.2]
     have hb2:w3.heap[w.heap.size+1]?=some (.cells (row8 (zeros 128)) 43 (0,0)):=hm.at HX.out.2.1 (by omega)
     have hsw:Same w w3:=HX.out.2.2.1.trans' hm (fun i hi=>.inr (by omega))
     have HY:=Lib.hid (And.intro hc3 (And.intro hb2 hsw))
     clear hc3 hb2 hsw hh hm
     simp only [Act.put,List.setIfInBounds_toArray,List.set_cons_zero,List.set_cons_succ]
     refine hK _ _ ?_
     clear hK K
     refine wpAny_done (by kernel_rfl) ?_ _
     go_wp2_with (first | (refine wpList_load_mid rfl 43 (.tmp 3) rfl (w.heap.size+1+1) 0 rfl ((qcc e wh).map enc8) _ (by have:=qdc HY.out.1 0 128;rwa [List.drop_zero,List.take_of_length_le (by rw [qcv];omega)] at this) Tryz.underlying43 rfl (secHi (qcv e wh)) ?_) | (refine wpList_store_mid rfl 43 (.tmp 2) (.tmp 34) rfl (w.heap.size+1) 0 ((qcc e wh).map enc8).toArray rfl rfl ?c5 (secHr (qcv e wh)) (qcf _) ?_))
     case c5=>rw [show ((qcc e wh).map enc8).toArray.size=128 by simp [qcv]];exact qdg HY.out.2.1 0 128 (by rw [qan];omega)
     obtain ⟨q1,q2⟩:=qcs HY.out.2.1 (s:=qcc e wh) (by rw [qcv,qan])
     refine bodyPost_ret (results_cell_row rfl _ _ (w.heap.size+1) 43 (row8 (qcc e wh)) (0,0) _ rfl q1 Tryz.underlying43 rfl (secHr (qcv e wh))) rfl ⟨rfl,?_⟩
     exact HY.out.2.2.trans' q2 (fun i hi=>.inr (by omega))
    exact AllReady.nil
   exact AllReady.nil
def halfN (n:Nat):Nat:=(n-2) / 2
theorem qpu (d:Nat) (L:DevL) (ep:Nat) (w:World) (h:Sat w (devF d L)) (hn:2≤L.n) (hn2:L.n≤1073741824) (hep:ep<4294967296) :
  Calls Tryz.prog 53 #[.pointer (some ⟨d,0,none⟩),.int .u32 ep] w (qjv d (2+ep%2*halfN L.n) (halfN L.n) w):=by
 have HS:=Lib.hid (qh9 d L w h)
 obtain ⟨m,hm⟩:∃ m,m=halfN L.n:=⟨_,rfl⟩
 have e1:((L.n:Int)-2) / 2=(m:Int):=by rw [hm];unfold halfN;omega
 have hml:m≤1073741824:=by rw [hm];unfold halfN;omega
 obtain ⟨b,hb⟩:∃ b,b=ep%2:=⟨_,rfl⟩
 have e2:((ep:Int))%2=(b:Int):=by omega
 have hb2:b=0∨b=1:=by omega
 have e3:wrap64 (2+wrap64 ((b:Int)*(m:Int)))=((2+b*m:Nat):Int):=by
  have hbm:(b:Int)*(m:Int)=((b*m:Nat):Int):=by simp
  have hle:b*m≤1*m:=Nat.mul_le_mul_right _ (by omega)
  have i1:wrap64 ((b*m:Nat):Int)=((b*m:Nat):Int):=IntWalk.wrap64_in _ ⟨by omega,by omega⟩
  rw [hbm,i1,IntWalk.wrap64_in _ ⟨by omega,by omega⟩]
  omega
 rw [← hm,← hb]
 have HM:=Lib.hid (And.intro hm hb)
 clear h hm hb
 go_enter Tryz.func53,Tryz.ntmps53
 go_wp2_with fail
 refine HS.out.mono ?_
 rintro e w1 ⟨rfl,rfl⟩
 have E3:=Lib.hid e3
 clear e3
 go_wp2_with fail
 rw [E3.out]
 refine (qsu d (2+b*m) m w).mono ?_
 rintro e w1 ⟨ab,ch,rfl,hT⟩
 have HT:=Lib.hid hT
 clear hT
 go_wp2_with fail
 go_ret
 exact ⟨ab,ch,rfl,HT.out⟩
def qer (pm tm cm:Nat) (sc sb used:Int):Array Value:=#[.map (some pm),.map (some tm),.map (some cm),.int .i64 sc,.int .i64 sb,.int .i64 used]
def qqo (w:World) (e:Ending) (w':World):Prop :=
 ∃ pm tm cm:Nat,e=.returned (.agg (qer pm tm cm 0 0 0))∧Turns [] [(cm,Is (.map #[] 0)),(tm,Is (.map #[] 0)),(pm,Is (.map #[] 0))] w w'
theorem qiw (w:World):Calls Tryz.prog 52 #[] w (qqo w):=by
 have hmm:=@run_makeMap Tryz.prog
 go_enter Tryz.func52,Tryz.ntmps52
 go_wp2_with fail
 have h:=((((Turns.refl (Sat.nil w)).alloc (.cells (qer (w.heap.size+1) (w.heap.size+1+1) (w.heap.size+1+1+1) 0 0 0) 123)).allocIs (.map #[] 0)).allocIs (.map #[] 0)).allocIs (.map #[] 0)
 simp only [World.size_alloc] at h
 have hc:((((w.alloc (.cells (qer (w.heap.size+1) (w.heap.size+1+1) (w.heap.size+1+1+1) 0 0 0) 123)).alloc (.map #[] 0)).alloc (.map #[] 0)).alloc (.map #[] 0)).heap[w.heap.size]?=some (.cells (qer (w.heap.size+1) (w.heap.size+1+1) (w.heap.size+1+1+1) 0 0 0) 123 (0,0)):=by
  rw [qcz (by simp;omega),qcz (by simp;omega),qcz (by simp)];exact qa7 w _
 exact bodyPost_ret (results_cell_row rfl _ _ w.heap.size 123 _ (0,0) _ rfl hc Tryz.underlying123 rfl (by kernel_rfl)) rfl ⟨_,_,_,rfl,h⟩
theorem qn5:openR (zeros 128)=none:=by
 unfold openR;rw [if_neg (by rw [qan];omega),if_pos (by simp [zeros])]
def q4a (z:Bool) (w:World) (e:Ending) (w':World):Prop:=e=.returned (.tuple #[.slice none 0 0,.bool z,.nilIface])∧Same w w'
def qcj (l:Bs) (k:Nat):Bool:=decide (∀ j,j<k→secOf l j=zeros 128)
theorem qmx (l:Bs):qcj l 0=true:=by simp [qcj]
theorem qoh {l:Bs} {k:Nat} (h:secOf l k=zeros 128):qcj l (k+1)=qcj l k:=by
 unfold qcj
 refine decide_eq_decide.2 ⟨fun H j hj=>H j (by omega),fun H j hj=>?_⟩
 rcases Nat.lt_or_ge j k with h' | h'
 ·exact H j h'
 ·obtain rfl:j=k:=by omega
  exact h
theorem qpl {l:Bs} {k:Nat} (h:secOf l k≠zeros 128):qcj l (k+1)=false:=by
 unfold qcj
 exact decide_eq_false (fun H=>h (H k (by omega)))
theorem q2h (d:Nat) (L:DevL) (w:World) (h:Sat w (devF d L)) (hL:DevOk L) (hn:16≤L.n) (h01:∀ k,k<2→openR (secOf L.now k)=none) :
  Calls Tryz.prog 50 #[.pointer (some ⟨d,0,none⟩)] w (q4a (qcj L.now 2) w):=by
 have HZ:=Lib.hid qjj
 have HC:Hid (∀ (k:Nat) (W:World),k<2→Same w W→Calls Tryz.prog 17 #[.pointer (some ⟨d,0,none⟩),.int .i64 k] W (qgk L k W)):=Lib.hid (fun k W hk hW=>qij d L k W (h.same hW) hL (by omega))
 have HL:Hid (∀ k,k<2→(secOf L.now k).length=128):=Lib.hid (fun k hk=>qfl hL.nowL (by omega))
 have HO:=Lib.hid h01
 clear h hL h01
 go_enter Tryz.func50,Tryz.ntmps50
 go_wp2_with fail
 go_loopw [2,3,16] (fun l em i wr=>∃ k:Nat,k≤2∧i=.int .i64 k∧l=.slice none 0 0∧em=.bool (qcj L.now k)∧Same w wr) (fun _ _ i _=>2-(intOf i).toNat)
 case atStart=>exact ⟨0,by omega,rfl,rfl,by rw [qmx],Mods.refl _ _⟩
 case round =>
  obtain ⟨k,hk,rfl,rfl,rfl,hs⟩:=hrel
  by_cases hlt:k<2
  ·have HR:=Lib.hid (HC.out k wr hlt hs)
   have HS:=Lib.hid hs
   have HO':=Lib.hid (HO.out k hlt)
   have HL':=Lib.hid (HL.out k hlt)
   have HZ0:=Lib.hid (qoh (l:=L.now) (k:=k))
   have HZ1:=Lib.hid (qpl (l:=L.now) (k:=k))
   unfold qgk at HR
   obtain ⟨s,hse⟩:∃ s,s=secOf L.now k:=⟨_,rfl⟩
   obtain ⟨z,hz⟩:∃ z,z=qcj L.now k:=⟨_,rfl⟩
   obtain ⟨z1,hz1⟩:∃ z,z=qcj L.now (k+1):=⟨_,rfl⟩
   rw [← hse] at HR HO' HL' HZ0 HZ1
   rw [← hz,← hz1] at HZ0
   rw [← hz1] at HZ1
   rw [← hz]
   have H1:=Lib.hid hz1
   clear hs HC HO HL hse hz hz1
   go_wp2_with fail
   refine HR.out.mono ?_
   rintro e w2 ⟨rfl,hs2⟩
   have hb:=qa7 w2 (.cells (row8 (zeros 128)) 43)
   obtain ⟨q1,q2⟩:=qcs hb (s:=s) (by rw [HL'.out,qan])
   have hs3:Same w ((w2.alloc (.cells (row8 (zeros 128)) 43)).setCells w2.heap.size 0 (s.map enc8)):=(((HS.out.trans' hs2 (fun _ h=>h.elim)).alloc _).trans' q2 (fun i hi=>.inr (by have:=(HS.out.trans' hs2 (fun _ h=>h.elim)).size;omega)))
   have hth:(w2.alloc (.cells (row8 (zeros 128)) 43)).there w2.heap.size 0 (row8 s).size:=by rw [qbn,HL'.out];exact qdg hb 0 128 (by rw [qan];omega)
   have hrg:((w2.alloc (.cells (row8 (zeros 128)) 43)).setCells w2.heap.size 0 (s.map enc8)).rangeAt w2.heap.size 0 (s.map enc8):=by
    have:=qdc q1 0 128
    rwa [List.drop_zero,List.take_of_length_le (by rw [HL'.out];omega)] at this
   have HN:=Lib.hid (fun W=>qxg s (zeros 128) HL'.out (qan _) W)
   obtain ⟨W4,hW4⟩:∃ W,(w2.alloc (.cells (row8 (zeros 128)) 43)).setCells w2.heap.size 0 (s.map enc8)=W:=⟨_,rfl⟩
   rw [hW4] at q1 hs3 hrg
   have H3:=Lib.hid (And.intro q1 (And.intro hs3 hrg))
   have HT:=Lib.hid hth
   have HW:=Lib.hid hW4
   clear q1 q2 hb hs3 hs2 hth hrg hW4
   have hz:=qir
   go_wp2_with (first | (refine wpList_store_mid rfl 43 (.tmp 6) (.tmp 23) rfl w2.heap.size 0 (row8 s) rfl rfl HT.out (secHr HL'.out) (qcf _) ?_;change wpList _ _ _ _ _ (World.setCells (w2.alloc (.cells (row8 (zeros 128)) 43)) w2.heap.size 0 (s.map enc8));rw [HW.out]) | (refine wpList_load_mid rfl 43 (.tmp 6) rfl w2.heap.size 0 rfl (s.map enc8) _ H3.out.2.2 Tryz.underlying43 rfl (secHi HL'.out) ?_) | (refine qby rfl 43 #[] rfl (row8 (zeros 128)) HZ.out ?_) | (refine qlk rfl .neq 43 (.tmp 28) (.tmp 29) _ rfl qla _ _ (.bool (!decide (s=zeros 128))) (HN.out _) rfl rfl ?_))
   all_goals
    have hb:=H3.out.1
    have hop:Calls Tryz.prog 97 #[.slice (some ⟨w2.heap.size,0,none⟩) 128 128] W4 (qc4 (some ⟨w2.heap.size,0,none⟩) s W4):=by
     have:=qge (some ⟨w2.heap.size,0,none⟩) 128 s W4 (fun hp=>⟨w2.heap.size,0,rfl,fun j hj=>by rw [Nat.zero_add];exact qac hb j (by rw [qdw s j (by simpa using hj)];simp)⟩) (by rw [HL'.out];omega) (by rw [HL'.out];omega)
     rwa [HL'.out] at this
    unfold qc4 at hop
    rw [HO'.out] at hop
    have HP:=Lib.hid hop
    clear hb hop
    first
    | (
     have hne:s≠zeros 128:=by
      have:(!decide (s=zeros 128))=true:=by assumption
      simpa using this
     have HE:=Lib.hid (HZ1.out hne))
    | (
     have hne:s=zeros 128:=by
      have:(!decide (s=zeros 128))=false:=by assumption
      simpa using this
     have HE:=Lib.hid (HZ0.out hne))
    clear hne
    refine HP.out.mono ?_
    rintro e w5 ⟨rfl,hs5⟩
    have H5:=Lib.hid (H3.out.2.1.trans hs5)
    clear hs5
    go_wp2_with fail
    go_roundw
    case rel=>exact ⟨k+1,by omega,by go_num,rfl,by rw [← H1.out,HE.out],H5.out⟩
    case measure=>simp [intOf];omega
  ·obtain rfl:k=2:=by omega
   have HS:=Lib.hid hs
   clear hs HC HO HL
   go_wp2_with fail
   go_quiet (fail)
   go_wp2_with fail
   go_ret3
   exact ⟨rfl,HS.out.drewN _⟩
end Go.Proofs.YtdhobpbngkainaaGreatDoor
