/-
  'versionslaw.Contents' answers true at every input, and leaves its arguments as they were. Conditions: none of ours (the given statement's own: errors.errorType as the program's text lays it).
-/
import Derived.Test.YtdhobpbngkainaaGreatDoorCo11
import Derived.Test.YtdhobpbngkainaaGreatDoorCo14
import Derived.SliceStrings
import Derived.SizedLaws
import Derived.OpenShut
import Derived.Test.YtdhobpbngkainaaGreatDoorCo01
set_option maxRecDepth 100000
set_option maxHeartbeats 4000000
namespace Go.Proofs.YtdhobpbngkainaaGreatDoor
open Go.ChangeShapes Go.WideShapes Go.ChangeAt Go.RowKit
theorem qt0 (s:ByteArray):str s.data.toList=.string s:=by
 unfold str
 congr 1
theorem qkc {H:Type} {P:Program} {e:TypeId} {k:Nat}:∀ {ds:List (DataW H)} {d:DataW H},d∈ds→k∈d.weights P e→k∈DataW.weightsAll P e ds
 | [],_,h,_=>by simp at h
 | x::r,d,h,hk=>by
  simp only [DataW.weightsAll,List.mem_append]
  rcases List.mem_cons.1 h with rfl | h
  ·exact .inl hk
  ·exact .inr (qkc h hk)
theorem qxs {α:Type} (Q:Nat→α→Prop):∀ n:Nat,(∀ i,i<n→∃ o,Q i o)→∃ l:List α,l.length=n∧∀ (i:Nat) (o:α),l[i]?=some o→Q i o
 | 0,_=>⟨[],rfl,fun i o h=>by simp at h⟩
 | n+1,h=>by
  obtain ⟨l,h1,h2⟩:=qxs Q n (fun i hi=>h i (by omega))
  obtain ⟨o,ho⟩:=h n (by omega)
  refine ⟨l++[o],by simp [h1],fun i o' hi=>?_⟩
  by_cases hlt:i<n
  ·rw [List.getElem?_append_left (by omega)] at hi
   exact h2 i o' hi
  ·have hb:=(List.getElem?_eq_some_iff.1 hi).1
   simp only [List.length_append,List.length_cons,List.length_nil] at hb
   obtain rfl:i=n:=by omega
   rw [← h1,List.getElem?_append_right (Nat.le_refl _),Nat.sub_self] at hi
   simp only [List.getElem?_cons_zero,Option.some.injEq] at hi
   subst hi
   exact ho
theorem qfi {α:Type} {n:Nat}:∀ {l:List α},l.length=n+1→∃ a r,l=a::r∧r.length=n
 | [],h=>by simp at h
 | a::r,h=>⟨a,r,rfl,by simpa using h⟩
theorem qp8 {α:Type} (l:List α) (h:l.length=7):∃ a b c d e f g,l=[a,b,c,d,e,f,g]:=by
 obtain ⟨a,r1,rfl,h1⟩:=qfi h
 obtain ⟨b,r2,rfl,h2⟩:=qfi h1
 obtain ⟨c,r3,rfl,h3⟩:=qfi h2
 obtain ⟨d,r4,rfl,h4⟩:=qfi h3
 obtain ⟨e,r5,rfl,h5⟩:=qfi h4
 obtain ⟨f,r6,rfl,h6⟩:=qfi h5
 obtain ⟨g,r7,rfl,h7⟩:=qfi h6
 exact ⟨a,b,c,d,e,f,g,by rw [List.length_eq_zero_iff.1 h7]⟩
theorem q0k {H:Type} {enc:TypeId×Value→H} {W:World} {n:Nat} {cs:List Value} {x:DataW H×List MemPlace} (h:DataW.trod enc Tryz.prog W 0 (fun _=>true) true n 38 cs=some x) (hz:∀ k∈x.1.weights Tryz.prog 38,k≤reachBytes) :
  ∃ (l:Bs) (sl:Option Addr) (cap:Nat),cs=[.slice sl l.length cap]∧qaj W sl (l.map enc8)∧l.length≤cap∧cap≤9223372036854775807∧l.length≤1125899906842624:=by
 rcases open_ints Tryz.underlying38 Tryz.underlying5 (by kernel_rfl) h with ⟨rfl,rfl⟩ | ⟨a,len,cap,zs,rfl,_,hl,hm,hzl,rfl,hcell,hwz⟩
 ·exact ⟨[],none,0,rfl,fun hp=>by simp at hp,by simp,by omega,by simp⟩
 ·have hzl':zs.length=cap:=by simpa using hzl
  obtain ⟨l,h1,h2,h3,_⟩:=IsRow.bytes (.inr ⟨_,rfl,hl,hm,hzl',hcell,hwz⟩:IsRow .u8 W (some a) len cap zs)
  subst h1
  refine ⟨l,some a,cap,rfl,h2,h3,by unfold maxLen at hm;omega,?_⟩
  have h4:=hz (((lits (H:=H) .u8 (zs.take l.length)).length+(lits (H:=H) .u8 (zs.drop l.length)).length)*Tryz.prog.bytesOf 5) (by simp only [DataW.weights,Tryz.underlying38];exact List.mem_cons_self)
  rw [show Tryz.prog.bytesOf 5=1 from by kernel_rfl,Nat.mul_one] at h4
  simp only [lits,List.length_map,List.length_take,List.length_drop] at h4
  have:=reachBytes_lt
  omega
theorem qe2 {H:Type} {enc:TypeId×Value→H} {W:World} {m:Nat} {cs:List Value} {fs:Array Field} {xs:List (DataW H×List MemPlace)} {P:Program}
  (hf:∀ (i:Nat) (f:Field),fs[i]?=some f→DataW.trod enc P W 0 (fun _=>true) true m f.type ((cs.drop f.offset).take (P.cellsOf f.type))=xs[i]?) {i:Nat} {f:Field} (hi:fs[i]?=some f) {t:TypeId} {off n:Nat}
  (ht:f.type=t) (ho:f.offset=off) (hc:P.cellsOf t=n):DataW.trod enc P W 0 (fun _=>true) true m t ((cs.drop off).take n)=xs[i]?:=by
 subst ht ho hc
 exact hf i f hi
theorem q5c {H:Type} {enc:TypeId×Value→H} {W:World} {n:Nat} {cs:List Value} {x:DataW H×List MemPlace} (h:DataW.trod enc Tryz.prog W 0 (fun _=>true) true n 65 cs=some x) (hz:∀ k∈x.1.weights Tryz.prog 65,k≤reachBytes) :
  ∃ o:OpL,cs=opV o∧OpOk W o:=by
 obtain ⟨xs,m,rfl,rfl,hl,hlen,hf⟩:=DataW.trod_struct Tryz.underlying65 h
 rw [show Tryz.prog.cellsOf 65=7 from by kernel_rfl] at hl
 have ci:Tryz.prog.cellsOf 3=1:=by kernel_rfl
 have ct:Tryz.prog.cellsOf 9=1:=by kernel_rfl
 have cb:Tryz.prog.cellsOf 38=1:=by kernel_rfl
 obtain ⟨y0,y1,y2,y3,y4,y5,y6,rfl⟩:=qp8 xs hlen
 obtain ⟨c0,c1,c2,c3,c4,c5,c6,rfl⟩:=qp8 cs hl
 have hzz:∀ (j:Nat) (t:TypeId) (d:DataW H),[3,3,3,3,9,9,38][j]?=some t→[y0.1,y1.1,y2.1,y3.1,y4.1,y5.1,y6.1][j]?=some d→∀ k∈d.weights Tryz.prog t,k≤reachBytes:=fun j t d ht hd k hk=>hz k (by
  simp only [DataW.weights,Tryz.underlying65]
  exact DataW.weights_mem_each (j:=j) (t:=t) (d:=d) ht hd k hk)
 clear hz h
 have f0:DataW.trod enc Tryz.prog W 0 (fun _=>true) true m 3 [c0]=some y0:=qe2 hf (i:=0) (f:={ name := "Kind",type:=3,offset:=0,embedded:=false,tag := "",pkgPath := "",byteOffset:=0 }) rfl rfl rfl ci
 have f1:DataW.trod enc Tryz.prog W 0 (fun _=>true) true m 3 [c1]=some y1:=qe2 hf (i:=1) (f:={ name := "A",type:=3,offset:=1,embedded:=false,tag := "",pkgPath := "",byteOffset:=8 }) rfl rfl rfl ci
 have f2:DataW.trod enc Tryz.prog W 0 (fun _=>true) true m 3 [c2]=some y2:=qe2 hf (i:=2) (f:={ name := "B",type:=3,offset:=2,embedded:=false,tag := "",pkgPath := "",byteOffset:=16 }) rfl rfl rfl ci
 have f3:DataW.trod enc Tryz.prog W 0 (fun _=>true) true m 3 [c3]=some y3:=qe2 hf (i:=3) (f:={ name := "C",type:=3,offset:=3,embedded:=false,tag := "",pkgPath := "",byteOffset:=24 }) rfl rfl rfl ci
 have f4:DataW.trod enc Tryz.prog W 0 (fun _=>true) true m 9 [c4]=some y4:=qe2 hf (i:=4) (f:={ name := "S",type:=9,offset:=4,embedded:=false,tag := "",pkgPath := "",byteOffset:=32 }) rfl rfl rfl ct
 have f5:DataW.trod enc Tryz.prog W 0 (fun _=>true) true m 9 [c5]=some y5:=qe2 hf (i:=5) (f:={ name := "T",type:=9,offset:=5,embedded:=false,tag := "",pkgPath := "",byteOffset:=48 }) rfl rfl rfl ct
 have f6:DataW.trod enc Tryz.prog W 0 (fun _=>true) true m 38 [c6]=some y6:=qe2 hf (i:=6) (f:={ name := "D",type:=38,offset:=6,embedded:=false,tag := "",pkgPath := "",byteOffset:=64 }) rfl rfl rfl cb
 obtain ⟨n0,e0,-,w0⟩:=DataW.trod_int Tryz.underlying3 f0
 obtain ⟨n1,e1,-,w1⟩:=DataW.trod_int Tryz.underlying3 f1
 obtain ⟨n2,e2,-,w2⟩:=DataW.trod_int Tryz.underlying3 f2
 obtain ⟨n3,e3,-,w3⟩:=DataW.trod_int Tryz.underlying3 f3
 obtain ⟨s4,e4,rfl,w4⟩:=DataW.trod_string Tryz.underlying9 f4
 obtain ⟨s5,e5,rfl,w5⟩:=DataW.trod_string Tryz.underlying9 f5
 obtain ⟨l,sl,cap,e6,h1,h2,h3,h4⟩:=q0k f6 (hzz 6 _ _ rfl rfl)
 simp only [List.cons.injEq,and_true] at e0 e1 e2 e3 e4 e5 e6
 subst e0 e1 e2 e3 e4 e5 e6
 have hr:=reachBytes_lt
 have z4:=hzz 4 _ _ rfl rfl s4.data.toList.length (by simp only [DataW.weights];exact List.mem_singleton.2 rfl)
 have z5:=hzz 5 _ _ rfl rfl s5.data.toList.length (by simp only [DataW.weights];exact List.mem_singleton.2 rfl)
 refine ⟨⟨n0,n1,n2,n3,s4.data.toList,s5.data.toList,.slice sl l.length cap,l⟩,by unfold opV;rw [qt0,qt0],⟨Go.bounds_i64 w1,Go.bounds_i64 w2,Go.bounds_i64 w3,Nat.le_trans z4 (by omega),Nat.le_trans z5 (by omega),h4,⟨sl,cap,rfl,h2,h3,h1⟩⟩⟩
theorem q66 {H:Type} {enc:TypeId×Value→H} {W:World} {a:Option Addr} {len cap:Nat} {d:DataW H} {p:List MemPlace} (h:DataW.Trod enc Tryz.prog W 0 (fun _=>true) true 22 (.slice a len cap) d p) (hz:∀ k∈d.weights Tryz.prog 22,k≤reachBytes) :
  ∃ l:List OpL,l.length=len∧qaj W a (opsV l)∧(∀ o∈l,OpOk W o)∧l.length≤1125899906842624:=by
 obtain ⟨fuel,hf⟩:=h
 rcases DataW.trod_slice Tryz.underlying22 hf with ⟨hcs,_⟩ | ⟨x,len',cap',elems,rest,n,_,hcs,hx,hb,hl,hm,hlen,hel,_,_⟩
 ·simp [Value.cells] at hcs
  obtain ⟨rfl,rfl,rfl⟩:=hcs
  exact ⟨[],rfl,fun hp=>by simp [opsV] at hp,fun o ho=>by simp at ho,by simp⟩
 ·simp [Value.cells] at hcs
  obtain ⟨rfl,rfl,rfl⟩:=hcs
  simp only [Prod.mk.injEq] at hx
  obtain ⟨rfl,-⟩:=hx
  have c7:Tryz.prog.cellsOf 65=7:=by kernel_rfl
  rw [c7] at hel
  have each:∀ i,i<elems.length→∃ o:OpL,W.cells? 0 (x.add (i*7)) 7=some (opV o)∧OpOk W o:=by
   intro i hi
   have h1:=hel i (by omega)
   rw [List.getElem?_eq_getElem hi,Option.bind_eq_some_iff] at h1
   obtain ⟨cs,hcs,hy⟩:=h1
   obtain ⟨o,rfl,ho⟩:=q5c hy (fun k hk=>hz k (by
    simp only [DataW.weights,Tryz.underlying22]
    exact List.mem_cons_of_mem _ (List.mem_append_left _ (qkc (List.mem_map_of_mem (List.getElem_mem hi)) hk))))
   exact ⟨o,hcs,ho⟩
  obtain ⟨l,hll,hl2⟩:=qxs _ _ each
  have h80:=hz (((elems.map (·.1)).length+(rest.map (·.1)).length)*Tryz.prog.bytesOf 65) (by simp only [DataW.weights,Tryz.underlying22];exact List.mem_cons_self)
  rw [show Tryz.prog.bytesOf 65=88 from by kernel_rfl] at h80
  simp only [List.length_map] at h80
  have hr:=reachBytes_lt
  refine ⟨l,by omega,fun hp=>?_,fun o ho=>?_,by omega⟩
  ·rw [qf9] at hp
   obtain ⟨b,off,spot⟩:=x
   have h0:=(hl2 0 _ (List.getElem?_eq_getElem (by omega:0<l.length))).1
   have hc0:=(World.cells?_some h0).2.2 0 (by omega)
   have hspot:spot=none:=by simpa [Addr.add] using World.cell?_spot (hc0.trans rfl)
   subst hspot
   refine ⟨b,off,rfl,fun j hj=>?_⟩
   have hj2:=hj
   rw [qf9] at hj2
   have hi:j / 7<l.length:=by omega
   have h1:=(hl2 (j / 7) _ (List.getElem?_eq_getElem hi)).1
   have h2:=(World.cells?_some h1).2.2 (j%7) (by omega)
   rw [Addr.add_lit,Addr.add_lit,show off+j / 7*7+j%7=off+j by omega,← qq6 l (j / 7) hi (j%7) (by omega),show j / 7*7+j%7=j by omega,List.getElem?_eq_getElem hj] at h2
   exact h2
  ·obtain ⟨i,hi⟩:=List.getElem?_of_mem ho
   exact (hl2 i o hi).2
end Go.Proofs.YtdhobpbngkainaaGreatDoor
namespace Go.Proofs.YtdhobpbngkainaaGreatDoor.contentsDone
open Go.ChangeShapes Go.WideShapes Go.ChangeAt Go.RowKit
theorem laidOut:laidOutB Tryz.prog=true:=by kernel_rfl
theorem contract (H:Type) (enc:TypeId×Value→H) (W:World) (base:Nat) (args:Array Value) (ds gs:List (DataW H)) (before:List MemPlace)
  (hval:∀ (j:Nat) t v,Tryz.f9.params[j]?=some t→args[j]?=some v→Value.okWide Tryz.prog W .any base t v)
  (hW:DataW.Whole enc Tryz.prog Tryz.f9.params.toList Rows.contentsSpec.vars false W args.toList ds gs before) (hsz:(DataW.weightsEach Tryz.prog (Tryz.f9.params.toList++(OpenSpec.ofChange Rows.contentsSpec).bare.plain.varTypes Tryz.prog) (ds++gs)).all (·≤reachBytes)=true) (hL:laidMetH Tryz.prog Rows.contentsRow.laid W) :
  Calls Tryz.prog 9 args W fun e W'=>∃ v,e=.returned v∧Rows.contentsSpec.post enc Tryz.prog Tryz.f9 false true false false W args v W':=by
 have hW':=hW
 obtain ⟨p,q,hA0,hV,rfl,hfz,hnd⟩:=hW
 have hA:DataW.TrodAll enc Tryz.prog W 0 (fun _=>true) true Tryz.f9.params.toList args.toList ds p:=hA0
 rw [Tryz.params9] at hA hval
 obtain ⟨v0,vs0,d0,ds0,p0,q0,hargs,rfl,rfl,h0,r0⟩:=trodAll_cons hA
 obtain ⟨v1,vs1,d1,ds1,p1,q1,rfl,rfl,rfl,h1,r1⟩:=trodAll_cons r0
 obtain ⟨rfl,rfl,rfl⟩:=trodAll_nil r1
 obtain rfl:args=#[v0,v1]:=by cases args;simp_all
 obtain ⟨rfl,rfl⟩:=trodVars_none hV
 obtain ⟨a0,len0,cap0,rfl⟩:=okWide_slice Tryz.underlying22 (hval 0 22 v0 rfl rfl)
 have k0:=h0
 have k1:=h1
 have lt0:∀ x∈p0,x.block<W.heap.size:=by obtain ⟨m,hm⟩:=k0;exact DataW.trod_lt m _ _ _ hm
 have lt1:∀ x∈p1,x.block<W.heap.size:=by obtain ⟨m,hm⟩:=k1;exact DataW.trod_lt m _ _ _ hm
 obtain ⟨n1,rfl,rfl,rfl,hw1⟩:=open_int Tryz.underlying3 (hval 1 3 v1 rfl rfl) h1
 obtain ⟨l,rfl,hl,hok,hcap⟩:=q66 h0 (fun k hk=>of_decide_eq_true (List.all_eq_true.1 hsz k (DataW.weights_mem_each (j:=0) (t:=22) rfl rfl k hk)))
 clear hA0
 refine (qqt l a0 cap0 n1 W hl hok hcap (qz0 hL) (q69 hw1).2).mono fun e W' ⟨he,hs⟩=>?_
 subst he
 have bel:=hs.below
 exact ⟨_,rfl,_,_,_,[],_,[],hW',trodAll_mk1 (shut_bool Tryz.underlying4 _),(trodAll_cons_mk (Below.trod laidOut (by kernel_rfl) (of_decide_eq_true (by kernel_rfl)) k0 bel lt0) (trodAll_cons_mk (Below.trod laidOut (by kernel_rfl) (of_decide_eq_true (by kernel_rfl)) k1 bel lt1) trodAll_mk0)),rfl,bel.frame _,fun h=>by cases h⟩
theorem reads (os:Os) {H:Type} (enc:TypeId×Value→H):∃ places,DataW.whole enc Tryz.prog ((qml os).forCall (fun _ _=>0) ⟨#[],#[.slice none 0 0,.int .i64 0],[]⟩).memory Tryz.f9.params.toList Rows.contentsSpec.vars false #[Value.slice none 0 0,Value.int .i64 0].toList 8=some ([.nil,.lit (.int .i64 0)],[],places) :=
 ⟨[],by kernel_rfl⟩
theorem lifted (os:Os) (started:os.Started) (H:Type) (enc:TypeId×Value→H) (F:Stop.Interp) :
  ReturnsInHanded {} Tryz.checked os 9 .any ((OpenSpec.ofChange Rows.contentsSpec).preRow enc Tryz.prog Tryz.f9 Rows.contentsRow.domain false Rows.contentsRow.laid) (((OpenSpec.ofChange Rows.contentsSpec).at F).post enc Tryz.prog Tryz.f9 false true false false):=by
 obtain ⟨places,hx⟩:=reads os enc
 refine returnsInHanded_of_row (C:=Tryz.checked) (s:=OpenSpec.ofChange Rows.contentsSpec) q7d started (by kernel_rfl) Tryz.func9
  (witness_row_at (enc:=enc) (C:=Tryz.checked) false (qml os) #[.slice none 0 0,.int .i64 0] rfl (by kernel_rfl) (by kernel_rfl) (by kernel_rfl)
   (OpenSpec.preRow_of_cond 8 hx (by kernel_rfl) (fun k hk=>by cases hk) (by kernel_rfl) (qsm os _))) ?_
 intro W base args ds gs before hval hW _ _ hsz hL _ _
 exact contract H enc W base args ds gs before hval hW hsz hL
theorem said:Rows.ContentsSaid :=
 OpenClaim.holds_of_cond 9 Tryz.f9 rfl rfl rfl rfl rfl rfl rfl ⟨rfl,rfl,rfl,rfl,rfl⟩ rfl rfl rfl rfl rfl (by kernel_rfl) Tryz.func9 (by kernel_rfl)
  (of_decide_eq_true (by kernel_rfl)) (by unfold Func.isWrapper;first | (rw [if_pos (by decide +kernel)];kernel_rfl) | (rw [if_neg (by decide +kernel)];exact ⟨rfl,rfl⟩))
  (fun os started H enc _ F=>by rw [OpenClaim.pre_eq_preRow];exact lifted os started H enc F)
theorem plain (f:FuncId) (fn:Func) (hf:Tryz.pinned.checked.prog.funcNamed "versions/versionslaw.Contents" = some f) (hfn:Tryz.pinned.checked.prog.funcs[f]?=some fn) :
  true=Tryz.pinned.checked.prog.looks []∧∀ (j:Nat) t,fn.params[j]?=some t→Tryz.pinned.checked.prog.wantsStandIn t=false:=by
 obtain rfl:f=9:=Option.some.inj ((show Tryz.prog.funcNamed "versions/versionslaw.Contents" = some 9 by kernel_rfl).symm.trans hf) |>.symm
 obtain rfl:fn=Tryz.f9:=(Option.some.inj (Tryz.func9.symm.trans hfn)).symm
 refine ⟨by kernel_rfl,fun j t ht=>?_⟩
 rw [Tryz.params9] at ht
 have hm:=Array.mem_of_getElem? ht
 rcases (by simpa using hm:t=22∨t=3) with rfl | rfl
 ·exact (show Tryz.prog.wantsStandIn 22=false by kernel_rfl)
 ·exact (show Tryz.prog.wantsStandIn 3=false by kernel_rfl)
theorem proved:Rows.ContentsCardSaid :=
 Claim7.holds_tied_plain_at .later [] _ _ _ _ said (fun _ h=>by cases h) (by kernel_rfl) (fun _ h=>by cases h) contents_row_tie rfl ⟨rfl,rfl⟩ (by kernel_rfl) rfl plain (by kernel_rfl)
end Go.Proofs.YtdhobpbngkainaaGreatDoor.contentsDone
