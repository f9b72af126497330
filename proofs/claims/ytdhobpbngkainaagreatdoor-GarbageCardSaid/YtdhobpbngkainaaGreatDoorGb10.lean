/-
  'versionslaw.Garbage' answers true at every input, and leaves its arguments as they were. Conditions: none of ours (the given statement's own: errors.errorType as the program's text lays it).
-/
import Derived.Test.YtdhobpbngkainaaGreatDoorGb09
set_option maxRecDepth 100000
set_option maxHeartbeats 16000000
namespace Go.Proofs.YtdhobpbngkainaaGreatDoor
open List Go.Proofs.Tryz
section
open Go.ChangeShapes Go.WideShapes Go.ChangeAt Go.RowKit
theorem uE{α:Type}(l:List α)(h:l.length=3):∃a b c,l=[a,b,c]:=by
 obtain⟨a,r1,rfl,h1⟩:=fG h;obtain⟨b,r2,rfl,h2⟩:=fG h1;obtain⟨c,r3,rfl,h3⟩:=fG h2;exact⟨a,b,c,by rw[length_eq_zero_iff.1 h3]⟩
theorem Ji{H:Type}{enc:TypeId×Value->H}{W:World}{n:Nat}{cs:List Value}{x:DataW H×List MemPlace}(h:DataW.trod enc prog W 0 (fun _=>true) true n 40 cs=some x)(hz:∀k∈x.1.weights prog 40,k<=reachBytes):
  ∃o:Si,cs=vX o/\SK W o:=by
 obtain⟨xs,m,rfl,rfl,hl,hlen,hf⟩:=DataW.trod_struct underlying40 h;rw[show prog.cellsOf 40=3 from by kernel_rfl]at hl;have ci:prog.cellsOf 3=1:=Nc
 have cu:prog.cellsOf 37=1:=Nc
 have cb:prog.cellsOf 38=1:=Nc
 obtain⟨y0,y1,y2,rfl⟩:=uE xs hlen;obtain⟨c0,c1,c2,rfl⟩:=uE cs hl
 have hzz:∀(j:Nat) (t:TypeId) (d:DataW H),[3,38,37][j]?=some t->[y0.1,y1.1,y2.1][j]?=some d->∀k∈d.weights prog t,k<=reachBytes:=fun j t d ht hd k hk=>hz k (by
  simp only[DataW.weights,underlying40];exact DataW.weights_mem_each (j:=j) (t:=t) (d:=d) ht hd k hk)
 clear hz h;have f0:DataW.trod enc prog W 0 (fun _=>true) true m 3 [c0]=some y0:=eF hf (i:=0) (f:={ name := "Sector",type:=3,offset:=0,embedded:=false,tag := "",pkgPath := "",byteOffset:=0 }) rfl rfl rfl ci;have f1:DataW.trod enc prog W 0 (fun _=>true) true m 38 [c1]=some y1:=eF hf (i:=1) (f:={ name := "Bytes",type:=38,offset:=1,embedded:=false,tag := "",pkgPath := "",byteOffset:=8 }) rfl rfl rfl cb;have f2:DataW.trod enc prog W 0 (fun _=>true) true m 37 [c2]=some y2:=eF hf (i:=2) (f:={ name := "Turn",type:=37,offset:=2,embedded:=false,tag := "",pkgPath := "",byteOffset:=32 }) rfl rfl rfl cu;obtain⟨n0,e0,-,w0⟩:=DataW.trod_int underlying3 f0;obtain⟨n2,e2,-,w2⟩:=DataW.trod_int underlying37 f2;obtain⟨l,sl,cap,e1,h1,h2,h3,h4⟩:=tY f1 (hzz 1 _ _ rfl rfl);simp only[List.cons.injEq,and_true]at e0 e1 e2;subst e0 e1 e2;have hb:=bounds_u64 w2;obtain⟨B,rfl⟩:∃B:Nat,n2=B:=⟨n2.toNat,Nb⟩;exact⟨⟨n0,.slice sl l.length cap,l,B⟩,rfl,⟨Go.bounds_i64 w0,by show B<_;omega,h4,⟨sl,cap,rfl,h2,h3,h1⟩⟩⟩
theorem KQ{H:Type}{enc:TypeId×Value->H}{W:World}{a:Option Addr}{len cap:Nat}{d:DataW H}{p:List MemPlace}(h:DataW.Trod enc prog W 0 (fun _=>true) true 25 (.slice a len cap) d p)(hz:∀k∈d.weights prog 25,k<=reachBytes):
  ∃l:List Si,l.length=len/\ak W a (oB l)/\(∀o∈l,SK W o)/\l.length<=1125899906842624:=by
 obtain⟨fuel,hf⟩:=h;rcases DataW.trod_slice underlying25 hf with⟨hcs,_⟩|⟨x,len',cap',elems,rest,n,_,hcs,hx,hb,hl,hm,hlen,hel,_,_⟩
 ·simp[Value.cells]at hcs;obtain⟨rfl,rfl,rfl⟩:=hcs;exact⟨[],rfl,fun hp=>by simp[oB]at hp,fun o ho=>by simp at ho,Nh⟩
 ·simp[Value.cells]at hcs;obtain⟨rfl,rfl,rfl⟩:=hcs;simp only[Prod.mk.injEq]at hx;obtain⟨rfl,-⟩:=hx;have c3:prog.cellsOf 40=3:=Nc
  rw[c3]at hel
  have each:∀i,i<elems.length->∃o:Si,W.cells? 0 (x.add (i*3)) 3=some (vX o)/\SK W o:=by
   intro i hi;have h1:=hel i Nb;rw[getElem?_eq_getElem hi,Option.bind_eq_some_iff]at h1;obtain⟨cs,hcs,hy⟩:=h1
   obtain⟨o,rfl,ho⟩:=Ji hy (fun k hk=>hz k (by
    simp only[DataW.weights,underlying25];exact mem_cons_of_mem _ (mem_append_left _ (km (mem_map_of_mem (getElem_mem hi)) hk))))
   exact⟨o,hcs,ho⟩
  obtain⟨l,hll,hl2⟩:=yM _ _ each;have h80:=hz (((elems.map (·.1)).length+(rest.map (·.1)).length)*prog.bytesOf 40) (by simp only[DataW.weights,underlying25];exact mem_cons_self);rw[show prog.bytesOf 40=40 from by kernel_rfl]at h80;simp only[NP]at h80;have hr:=reachBytes_lt;refine⟨l,Nb,fun hp=>?_,fun o ho=>?_,Nb⟩
  ·rw[jK]at hp;obtain⟨b,off,spot⟩:=x;have h0:=(hl2 0 _ (getElem?_eq_getElem (by omega:0<l.length))).1;have hc0:=(World.cells?_some h0).2.2 0 Nb;have hspot:spot=none:=by simpa[Addr.add]using World.cell?_spot (hc0.trans rfl)
   subst hspot;refine⟨b,off,rfl,fun j hj=>?_⟩;have hj2:=hj;rw[jK]at hj2;have hi:j / 3<l.length:=Nb
   have h1:=(hl2 (j / 3) _ (getElem?_eq_getElem hi)).1;have h2:=(World.cells?_some h1).2.2 (j%3) Nb;rw[Addr.add_lit,Addr.add_lit,show off+j / 3*3+j%3=off+j by omega,<- uB l (j / 3) hi (j%3) Nb,show j / 3*3+j%3=j by omega,getElem?_eq_getElem hj]at h2;exact h2
  ·obtain⟨i,hi⟩:=getElem?_of_mem ho;exact(hl2 i o hi).2
end
end Go.Proofs.YtdhobpbngkainaaGreatDoor
namespace Go.Proofs.YtdhobpbngkainaaGreatDoor.garbageDone
open List Go.Proofs.Tryz
open Go.ChangeShapes Go Go.WideShapes Go.ChangeAt Go.RowKit
theorem laidOut:laidOutB prog=true:=Nc
theorem contract(H:Type)(enc:TypeId×Value->H)(W:World)(base:Nat)(args:Array Value)(ds gs:List (DataW H))(before:List MemPlace)(hval:∀(j:Nat) t v,Tryz.f4.params[j]?=some t->args[j]?=some v->Value.okWide prog W .any base t v)(hW:DataW.Whole enc prog Tryz.f4.params.toList Rows.garbageSpec.vars false W args.toList ds gs before)(hsz:(DataW.weightsEach prog (Tryz.f4.params.toList++(OpenSpec.ofChange Rows.garbageSpec).bare.plain.varTypes prog) (ds++gs)).all (·<=reachBytes)=true)(hL:laidMetH prog Rows.garbageRow.laid W):
  Calls prog 4 args W fun e W'=>∃v,e=.returned v/\Rows.garbageSpec.post enc prog Tryz.f4 false true false false W args v W':=by
 have hW':=hW;obtain⟨p,q,hA0,hV,rfl,hfz,hnd⟩:=hW;have hA:DataW.TrodAll enc prog W 0 (fun _=>true) true Tryz.f4.params.toList args.toList ds p:=hA0;rw[params4]at hA hval;obtain⟨v0,vs0,d0,ds0,p0,q0,hargs,rfl,rfl,h0,r0⟩:=trodAll_cons hA;obtain⟨v1,vs1,d1,ds1,p1,q1,rfl,rfl,rfl,h1,r1⟩:=trodAll_cons r0;obtain⟨v2,vs2,d2,ds2,p2,q2,rfl,rfl,rfl,h2,r2⟩:=trodAll_cons r1;obtain⟨v3,vs3,d3,ds3,p3,q3,rfl,rfl,rfl,h3,r3⟩:=trodAll_cons r2;obtain⟨rfl,rfl,rfl⟩:=trodAll_nil r3;obtain rfl:args=#[v0,v1,v2,v3]:=by cases args;simp_all
 obtain⟨rfl,rfl⟩:=trodVars_none hV;obtain⟨a0,len0,cap0,rfl⟩:=okWide_slice underlying22 (hval 0 22 v0 rfl rfl);have k0:=h0;have k1:=h1;have k2:=h2;have k3:=h3;have lt0:∀x∈p0,x.block<W.heap.size:=by obtain⟨m,hm⟩:=k0;exact DataW.trod_lt m _ _ _ hm
 have lt1:∀x∈p1,x.block<W.heap.size:=by obtain⟨m,hm⟩:=k1;exact DataW.trod_lt m _ _ _ hm
 have lt2:∀x∈p2,x.block<W.heap.size:=by obtain⟨m,hm⟩:=k2;exact DataW.trod_lt m _ _ _ hm
 have lt3:∀x∈p3,x.block<W.heap.size:=by obtain⟨m,hm⟩:=k3;exact DataW.trod_lt m _ _ _ hm
 obtain⟨a2,len2,cap2,rfl⟩:=okWide_slice underlying25 (hval 2 25 v2 rfl rfl);obtain⟨a3,len3,cap3,rfl⟩:=okWide_slice underlying22 (hval 3 22 v3 rfl rfl);obtain⟨n1,rfl,rfl,rfl,hw1⟩:=open_int underlying3 (hval 1 3 v1 rfl rfl) h1;obtain⟨l,rfl,hl,hok,hcap⟩:=Jq h0 (fun k hk=>of_decide_eq_true (all_eq_true.1 hsz k (DataW.weights_mem_each (j:=0) (t:=22) rfl rfl k hk)));obtain⟨ys,rfl,hl2,hok2,hcap2⟩:=KQ h2 (fun k hk=>of_decide_eq_true (all_eq_true.1 hsz k (DataW.weights_mem_each (j:=2) (t:=25) rfl rfl k hk)));obtain⟨l3,rfl,hl3,OZ,Uj⟩:=Jq h3 (fun k hk=>of_decide_eq_true (all_eq_true.1 hsz k (DataW.weights_mem_each (j:=3) (t:=22) rfl rfl k hk)));clear hA0;refine(vF l a0 cap0 n1 ys a2 cap2 l3 a3 cap3 W hl hok hcap hl2 hok2 hcap2 hl3 OZ Uj (De hL) (Go.bounds_i64 hw1).2).mono fun e W' ⟨he,hs⟩=>?_
 subst he;have bel:=hs.below;exact⟨_,rfl,_,_,_,[],_,[],hW',trodAll_mk1 (shut_bool underlying4 _),(trodAll_cons_mk (Below.trod laidOut Nc (of_decide_eq_true Nc) k0 bel lt0) (trodAll_cons_mk (Below.trod laidOut Nc (of_decide_eq_true Nc) k1 bel lt1) (trodAll_cons_mk (Below.trod laidOut Nc (of_decide_eq_true Nc) k2 bel lt2) (trodAll_cons_mk (Below.trod laidOut Nc (of_decide_eq_true Nc) k3 bel lt3) trodAll_mk0)))),rfl,bel.frame _,fun h=>by cases h⟩
theorem reads(os:Os){H:Type}(enc:TypeId×Value->H):∃places,DataW.whole enc prog ((rk os).forCall (fun _ _=>0) ⟨#[],#[.slice none 0 0,.int .i64 0,.slice none 0 0,.slice none 0 0],[]⟩).memory Tryz.f4.params.toList Rows.garbageSpec.vars false #[Value.slice none 0 0,Value.int .i64 0,Value.slice none 0 0,Value.slice none 0 0].toList 8=some ([.nil,.lit (.int .i64 0),.nil,.nil],[],places) :=
 ⟨[],Nc⟩
theorem lifted(os:Os)(started:os.Started)(H:Type)(enc:TypeId×Value->H)(F:Stop.Interp):
  ReturnsInHanded {} checked os 4 .any ((OpenSpec.ofChange Rows.garbageSpec).preRow enc prog Tryz.f4 Rows.garbageRow.domain false Rows.garbageRow.laid) (((OpenSpec.ofChange Rows.garbageSpec).at F).post enc prog Tryz.f4 false true false false):=by
 obtain⟨places,hx⟩:=reads os enc
 refine returnsInHanded_of_row (C:=checked) (s:=OpenSpec.ofChange Rows.garbageSpec) Me started Nc func4
  (witness_row_at (enc:=enc) (C:=checked) false (rk os) #[.slice none 0 0,.int .i64 0,.slice none 0 0,.slice none 0 0] rfl Nc Nc Nc
   (OpenSpec.preRow_of_cond 8 hx Nc (fun k hk=>by cases hk) Nc (vW os _))) ?_
 intro W base args ds gs before hval hW _ _ hsz hL _ _;exact contract H enc W base args ds gs before hval hW hsz hL
theorem said:Rows.GarbageSaid :=
 OpenClaim.holds_of_cond 4 Tryz.f4 rfl rfl rfl rfl rfl rfl rfl ⟨rfl,rfl,rfl,rfl,rfl⟩ rfl rfl rfl rfl rfl Nc func4 Nc
  (of_decide_eq_true Nc) (by unfold Func.isWrapper;first|(rw[NR (by decide +kernel)];kernel_rfl)|(rw[NQ (by decide +kernel)];exact⟨rfl,rfl⟩))
  (fun os started H enc _ F=>by rw[OpenClaim.pre_eq_preRow];exact lifted os started H enc F)
theorem plain(f:FuncId)(fn:Func)(hf:Tryz.pinned.checked.prog.funcNamed "versions/versionslaw.Garbage" = some f)(hfn:Tryz.pinned.checked.prog.funcs[f]?=some fn):
  true=Tryz.pinned.checked.prog.looks []/\∀(j:Nat) t,fn.params[j]?=some t->Tryz.pinned.checked.prog.wantsStandIn t=false:=by
 obtain rfl:f=4:=Option.some.inj ((show prog.funcNamed "versions/versionslaw.Garbage" = some 4 by kernel_rfl).symm.trans hf) |>.symm
 obtain rfl:fn=Tryz.f4:=(Option.some.inj (func4.symm.trans hfn)).symm;refine⟨Nc,fun j t ht=>?_⟩;rw[params4]at ht;have hm:=Array.mem_of_getElem? ht;rcases(by simpa using hm:t=22\/t=3\/t=25\/t=22)with rfl|rfl|rfl|rfl
 ·exact(show prog.wantsStandIn 22=false by kernel_rfl)
 ·exact(show prog.wantsStandIn 3=false by kernel_rfl)
 ·exact(show prog.wantsStandIn 25=false by kernel_rfl)
 ·exact(show prog.wantsStandIn 22=false by kernel_rfl)
theorem proved:Rows.GarbageCardSaid :=
 Claim7.holds_tied_plain_at .later [] _ _ _ _ said (fun _ h=>by cases h) Nc (fun _ h=>by cases h) garbage_row_tie rfl ⟨rfl,rfl⟩ Nc rfl plain Nc
end Go.Proofs.YtdhobpbngkainaaGreatDoor.garbageDone
